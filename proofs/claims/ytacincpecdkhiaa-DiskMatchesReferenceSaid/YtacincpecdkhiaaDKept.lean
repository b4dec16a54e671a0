/-
  Plain facts on which writes survive, and in which order they are laid.
-/
import Derived.Test.YtacincpecdkhiaaDL
namespace Go.Proofs.Ytacincpecdkhiaa
open Go.RowKit
set_option linter.unusedVariables false

/-- The numbers below k that are kept. -/
def keptTo (kb : Nat → Bool) (k : Nat) : List Nat := (List.range k).filter kb
theorem keptTo_succ (kb : Nat → Bool) (k : Nat) : keptTo kb (k + 1) = keptTo kb k ++ (if kb k then [k] else []) := by
  unfold keptTo
  rw [List.range_succ, List.filter_append]
  by_cases h : kb k <;> simp [h]
theorem keptTo_lt (kb : Nat → Bool) (k : Nat) : ∀ i ∈ keptTo kb k, i < k := by
  intro i hi
  simp only [keptTo, List.mem_filter, List.mem_range] at hi
  exact hi.1
theorem keptTo_length (kb : Nat → Bool) (k : Nat) : (keptTo kb k).length ≤ k := by
  have := List.length_filter_le kb (List.range k)
  simpa [keptTo] using this
/-- The last number below k that is kept, or -1. -/
def lastTo (kb : Nat → Bool) : Nat → Int
  | 0 => -1
  | k + 1 => if kb k then (k : Int) else lastTo kb k
theorem lastTo_lt (kb : Nat → Bool) : ∀ k, -1 ≤ lastTo kb k ∧ lastTo kb k < k
  | 0 => by simp [lastTo]
  | k + 1 => by
    have := lastTo_lt kb k
    unfold lastTo
    split <;> omega
theorem lastTo_ge (kb : Nat → Bool) : ∀ (k i : Nat), i < k → kb i = true → (i : Int) ≤ lastTo kb k
  | 0, i, h, _ => absurd h (Nat.not_lt_zero _)
  | k + 1, i, h, hk => by
    unfold lastTo
    by_cases e : i = k
    · subst e; simp [hk]
    · have := lastTo_ge kb k i (by omega) hk
      split <;> omega
theorem lastTo_mem (kb : Nat → Bool) : ∀ (k i : Nat), lastTo kb k = (i : Int) → i < k ∧ kb i = true
  | 0, i, h => by unfold lastTo at h; omega
  | k + 1, i, h => by
    unfold lastTo at h
    by_cases hk : kb k = true
    · rw [if_pos hk] at h
      have : k = i := by omega
      subst this
      exact ⟨by omega, hk⟩
    · rw [if_neg hk] at h
      have := lastTo_mem kb k i h
      exact ⟨by omega, this.2⟩

/-- A write as it is laid, where L is the number of the last survivor. -/
def pick1 (p : List (Nat × ByteArray)) (torn L : Int) (i : Nat) : Nat × ByteArray := if (i : Int) = L then DSt.tear torn (p[i]?.getD (0, ByteArray.empty)) else p[i]?.getD (0, ByteArray.empty)
theorem layAll_fold (p : List (Nat × ByteArray)) (torn L : Int) : ∀ (l : List Nat) (b : List UInt8), l.Pairwise (· < ·) → (∀ i ∈ l, (i : Int) ≤ L) → (∀ h : l ≠ [], ((l.getLast h : Nat) : Int) = L) →
    DSt.layAll p torn l b = l.foldl (fun b i => lay b (pick1 p torn L i)) b
  | [], b, _, _, _ => rfl
  | [i], b, _, _, hl => by
    have : (i : Int) = L := by simpa using hl (by simp)
    simp [DSt.layAll, pick1, this]
  | i :: j :: r, b, hp, hle, hl => by
    rw [List.pairwise_cons] at hp
    have hij := hp.1 j (by simp)
    have hjl := hle j (by simp)
    have ih := layAll_fold p torn L (j :: r) (lay b (p[i]?.getD (0, ByteArray.empty))) hp.2 (fun x hx => hle x (List.mem_cons_of_mem _ hx)) (fun h => by
      have := hl (by simp)
      rw [← this]
      simp)
    have e : pick1 p torn L i = p[i]?.getD (0, ByteArray.empty) := by unfold pick1; rw [if_neg (by omega)]
    rw [List.foldl_cons, e, ← ih]
    rfl
theorem keptTo_pairwise (kb : Nat → Bool) (k : Nat) : (keptTo kb k).Pairwise (· < ·) := (List.pairwise_lt_range (n := k)).filter _
theorem keptTo_last (kb : Nat → Bool) : ∀ (k : Nat) (h : keptTo kb k ≠ []), (((keptTo kb k).getLast h : Nat) : Int) = lastTo kb k
  | 0, h => absurd rfl h
  | k + 1, h => by
    by_cases hk : kb k = true
    · have e : keptTo kb (k + 1) = keptTo kb k ++ [k] := by rw [keptTo_succ, if_pos hk]
      have e2 : lastTo kb (k + 1) = (k : Int) := by
        show (if kb k = true then (k : Int) else lastTo kb k) = _
        rw [if_pos hk]
      rw [e2]
      simp [e]
    · have e : keptTo kb (k + 1) = keptTo kb k := by rw [keptTo_succ, if_neg hk, List.append_nil]
      have e2 : lastTo kb (k + 1) = lastTo kb k := by
        show (if kb k = true then (k : Int) else lastTo kb k) = _
        rw [if_neg hk]
      rw [e2, ← keptTo_last kb k (by rw [← e]; exact h)]
      simp [e]

/-- What lies in the end, told write by write. -/
def wantTo (p : List (Nat × ByteArray)) (torn L : Int) (kb : Nat → Bool) (X : List UInt8) (k : Nat) : List UInt8 := (keptTo kb k).foldl (fun b i => lay b (pick1 p torn L i)) X
theorem wantTo_yes {p : List (Nat × ByteArray)} {torn L : Int} {kb : Nat → Bool} {X : List UInt8} {k : Nat} (h : kb k = true) : wantTo p torn L kb X (k + 1) = lay (wantTo p torn L kb X k) (pick1 p torn L k) := by
  unfold wantTo
  rw [keptTo_succ, if_pos h, List.foldl_append]
  rfl
theorem wantTo_no {p : List (Nat × ByteArray)} {torn L : Int} {kb : Nat → Bool} {X : List UInt8} {k : Nat} (h : kb k = false) : wantTo p torn L kb X (k + 1) = wantTo p torn L kb X k := by
  unfold wantTo
  rw [keptTo_succ, if_neg (by simp [h]), List.append_nil]

/-- The numbers, kept in whatever order, lead Crash to the same survivors. -/
theorem kept_eq (s : DSt) (kb : Nat → Bool) (m : Nat) (hm : s.pend.length = m) (keep : List Int) (hk : keep = (keptTo kb m).reverse.map fun i : Nat => (i : Int)) : s.kept keep = keptTo kb m := by
  unfold DSt.kept keptTo
  rw [hm]
  apply List.filter_congr
  intro i hi
  rw [hk]
  have him := List.mem_range.1 hi
  by_cases h : kb i = true
  · rw [h, decide_eq_true_eq]
    simp only [List.mem_map, List.mem_reverse, keptTo, List.mem_filter, List.mem_range]
    exact ⟨i, ⟨him, h⟩, rfl⟩
  · have hf : kb i = false := by simpa using h
    rw [hf, decide_eq_false_iff_not]
    simp only [List.mem_map, List.mem_reverse, keptTo, List.mem_filter, List.mem_range]
    rintro ⟨j, ⟨_, hj⟩, e⟩
    have : j = i := by omega
    subst this
    rw [hf] at hj
    cases hj

theorem crash_want (s : DSt) (kb : Nat → Bool) (m : Nat) (hm : s.pend.length = m) (torn : Int) (keep : List Int) (hk : keep = (keptTo kb m).reverse.map fun i : Nat => (i : Int)) :
    s.crash keep torn = { off := false, left := 0, dur := wantTo s.pend torn (lastTo kb m) kb s.dur m, vis := wantTo s.pend torn (lastTo kb m) kb s.dur m, pend := [] } := by
  have e : DSt.layAll s.pend torn (keptTo kb m) s.dur = wantTo s.pend torn (lastTo kb m) kb s.dur m :=
    layAll_fold s.pend torn (lastTo kb m) (keptTo kb m) s.dur (keptTo_pairwise kb m) (fun i hi => by
      simp only [keptTo, List.mem_filter, List.mem_range] at hi
      exact lastTo_ge kb m i hi.1 hi.2) (keptTo_last kb m)
  unfold DSt.crash
  rw [kept_eq s kb m hm keep hk, e]
end Go.Proofs.Ytacincpecdkhiaa
