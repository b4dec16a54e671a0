/-
  Plain facts: a sorted list without repetitions is known by its members; so the order in which Crash lays the survivors is the ascending one.
-/
import Derived.Lib.SlicesCompact
import Derived.Test.YtjlgkjhociaeiaaGreatDoorGa
namespace Go.Proofs.YtjlgkjhociaeiaaGreatDoor
set_option linter.unusedVariables false

theorem eq_of_lt_mem : ∀ (a b : List Int), a.Pairwise (· < ·) → b.Pairwise (· < ·) → (∀ x, x ∈ a ↔ x ∈ b) → a = b
  | [], [], _, _, _ => rfl
  | [], y :: b, _, _, h => by have := (h y).2 (by simp); simp at this
  | x :: a, [], _, _, h => by have := (h x).1 (by simp); simp at this
  | x :: a, y :: b, ha, hb, h => by
    rw [List.pairwise_cons] at ha hb
    have hxy : x = y := by
      have h1 : x ∈ y :: b := (h x).1 (by simp)
      have h2 : y ∈ x :: a := (h y).2 (by simp)
      rcases List.mem_cons.1 h1 with e | h1
      · exact e
      · rcases List.mem_cons.1 h2 with e | h2
        · exact e.symm
        · have := ha.1 y h2; have := hb.1 x h1; omega
    subst hxy
    congr 1
    refine eq_of_lt_mem a b ha.2 hb.2 fun z => ⟨fun hz => ?_, fun hz => ?_⟩
    · rcases List.mem_cons.1 ((h z).1 (List.mem_cons_of_mem _ hz)) with e | e
      · have := ha.1 z hz; omega
      · exact e
    · rcases List.mem_cons.1 ((h z).2 (List.mem_cons_of_mem _ hz)) with e | e
      · have := hb.1 z hz; omega
      · exact e

theorem mem_compact (zs : List Int) (x : Int) : x ∈ Lib.compact zs ↔ x ∈ zs := by
  unfold Lib.compact Lib.compactUpTo
  simp only [List.mem_map, List.mem_filter, List.mem_range]
  constructor
  · rintro ⟨i, ⟨hi, _⟩, rfl⟩
    have : i < zs.toArray.size := by simpa using hi
    rw [getElem!_pos zs.toArray i this]
    simp
  · intro hx
    have hex : ∃ i, i < zs.length ∧ zs.toArray[i]! = x := by
      obtain ⟨i, hi, e⟩ := List.getElem_of_mem hx
      exact ⟨i, hi, by rw [getElem!_pos zs.toArray i (by simpa using hi)]; simpa using e⟩
    -- the first place
    have hmin : ∀ n, ∀ i, i ≤ n → i < zs.length → zs.toArray[i]! = x → ∃ j, j < zs.length ∧ zs.toArray[j]! = x ∧ Lib.keeps zs.toArray j = true := by
      intro n
      induction n with
      | zero => intro i hi hl e; exact ⟨i, hl, e, Lib.keeps_lt_one _ i (by omega)⟩
      | succ n ih =>
        intro i hi hl e
        by_cases h0 : i = 0
        · exact ⟨i, hl, e, Lib.keeps_lt_one _ i (by omega)⟩
        · by_cases h1 : zs.toArray[i - 1]! = x
          · exact ih (i - 1) (by omega) (by omega) h1
          · exact ⟨i, hl, e, Lib.keeps_pos (by rw [e]; exact fun h => h1 h.symm)⟩
    obtain ⟨i, hi, e⟩ := hex
    obtain ⟨j, hj, ej, hk⟩ := hmin i i (Nat.le_refl _) hi e
    exact ⟨j, ⟨hj, hk⟩, ej⟩

theorem compact_lt (zs : List Int) (hs : zs.Pairwise (· ≤ ·)) : (Lib.compact zs).Pairwise (· < ·) := by
  unfold Lib.compact Lib.compactUpTo
  rw [List.pairwise_map]
  have hle : ∀ i j, i ≤ j → j < zs.length → zs.toArray[i]! ≤ zs.toArray[j]! := by
    intro i j hij hj
    rw [getElem!_pos zs.toArray i (by simpa using (by omega : i < zs.length)), getElem!_pos zs.toArray j (by simpa using hj)]
    rcases Nat.lt_or_eq_of_le hij with h | rfl
    · simpa using (List.pairwise_iff_getElem.1 hs) i j (by omega) hj h
    · exact Int.le_refl _
  have hp : ((List.range zs.length).filter (Lib.keeps zs.toArray)).Pairwise (· < ·) := (List.pairwise_lt_range (n := zs.length)).filter _
  refine List.Pairwise.imp_of_mem ?_ hp
  intro i j hi hj hij
  simp only [List.mem_filter, List.mem_range] at hi hj
  have hk := hj.2
  have hne : zs.toArray[j]! ≠ zs.toArray[j - 1]! := by
    unfold Lib.keeps at hk
    have := of_decide_eq_true hk
    omega
  have h1 := hle i (j - 1) (by omega) (by omega)
  have h2 := hle (j - 1) j (by omega) hj.1
  omega

/-- Which numbers Crash strikes. -/
def strikes (n : Nat) (x : Int) : Bool := decide (x < 0) || decide ((n : Int) ≤ x)

theorem order_eq (keep : List Int) (n : Nat) :
    ((Lib.compact (keep.mergeSort fun x y => decide (x ≤ y))).filter fun x => !strikes n x) = ((List.range n).filter fun i : Nat => decide ((i : Int) ∈ keep)).map fun i : Nat => (i : Int) := by
  apply eq_of_lt_mem
  · refine (compact_lt _ ?_).filter _
    have := List.pairwise_mergeSort (le := fun x y : Int => decide (x ≤ y)) (fun a b c h1 h2 => by simp at h1 h2 ⊢; omega) (fun a b => by simp; omega) keep
    exact this.imp fun h => by simpa using h
  · rw [List.pairwise_map]
    exact ((List.pairwise_lt_range (n := n)).filter _).imp fun h => by omega
  · intro x
    simp only [List.mem_filter, List.mem_map, List.mem_range, mem_compact, List.mem_mergeSort, strikes]
    constructor
    · rintro ⟨h1, h2⟩
      simp at h2
      exact ⟨x.toNat, ⟨by omega, by rw [Int.toNat_of_nonneg h2.1]; simpa using h1⟩, by omega⟩
    · rintro ⟨i, ⟨h1, h2⟩, rfl⟩
      exact ⟨by simpa using h2, by simp; omega⟩
end Go.Proofs.YtjlgkjhociaeiaaGreatDoor
