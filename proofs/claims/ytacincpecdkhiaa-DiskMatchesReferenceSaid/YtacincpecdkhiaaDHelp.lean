/-
  The laws' own helpers: fits, put; what a write that fits does to the disk's state.
-/
import Derived.Test.YtacincpecdkhiaaDNil
namespace Go.Proofs.Ytacincpecdkhiaa
open Go.RowKit
set_option linter.unusedVariables false

/-- Where and what a write is, once it is fitted to a disk of n bytes. -/
def fitO (x : WP) (n : Nat) : Nat := (pickI x.off ((n : Int) + 1)).toNat
def fitS (x : WP) (n : Nat) : ByteArray := cutB x.s (n - fitO x n)
def fit (x : WP) (n : Nat) : Nat × ByteArray := (fitO x n, fitS x n)
theorem fitO_le (x : WP) (n : Nat) : fitO x n ≤ n := by
  have h1 := pickI_nonneg x.off ((n : Int) + 1) (by omega)
  have h2 := pickI_lt x.off ((n : Int) + 1) (by omega)
  unfold fitO
  omega
theorem fitO_cast (x : WP) (n : Nat) : ((fitO x n : Nat) : Int) = pickI x.off ((n : Int) + 1) := by
  have h1 := pickI_nonneg x.off ((n : Int) + 1) (by omega)
  unfold fitO
  omega
theorem fit_fits (x : WP) (n : Nat) : fitO x n + (fitS x n).size ≤ n := by
  have := fitO_le x n
  unfold fitS
  rw [cutB_size]
  omega

set_option maxHeartbeats 1000000 in
theorem fits_any (x : WP) (n : Nat) (w : World) (h0 : -9223372036854775808 ≤ x.off ∧ x.off ≤ 9223372036854775807) (hs : x.s.size ≤ 9223372036854775807) (hn : n ≤ 4194304) :
    Calls Try.prog 26 #[.agg #[.int .i64 x.off, .string x.s, .bool x.sync], .int .i64 (n : Int)] w fun e w' => e = .returned (.agg #[.int .i64 (fitO x n : Int), .string (fitS x n), .bool x.sync]) ∧ Below w.heap.size w w' := by
  obtain ⟨o, s, y⟩ := x
  have hb := fitO_le ⟨o, s, y⟩ n
  have HC := Lib.hid (fitO_cast ⟨o, s, y⟩ n)
  have HS : Hid (fitS ⟨o, s, y⟩ n = cutB s (n - fitO ⟨o, s, y⟩ n)) := rfl
  simp only at h0 hs
  generalize fitO ⟨o, s, y⟩ n = oo at *
  generalize fitS ⟨o, s, y⟩ n = ss at *
  simp only at HC
  go_enter Try.func26, Try.ntmps26
  go_wp2_with fail
  refine (pick_any o ((n : Int) + 1) _ h0.1 h0.2 (by omega) (by omega)).mono ?_
  rintro e w1 ⟨rfl, rfl⟩
  rw [← HC.out]
  go_wp2_with fail
  have e1 : ((n : Int) - (oo : Int)) = ((n - oo : Nat) : Int) := by omega
  rw [e1]
  refine (cut_any s (n - oo) _ hs (by omega)).mono ?_
  rintro e w1 ⟨rfl, rfl⟩
  rw [← HS.out]
  go_wp2_with fail
  exact bodyPost_ret (v := .agg #[.int .i64 (oo : Int), .string ss, .bool y]) (by simp [results, Try.results26, go_sem]) rfl ⟨rfl, ((Below.refl _ w).alloc (Nat.le_refl _) _).alloc (by simp) _⟩

theorem splice_get {α : Type} (cur : List α) (off : Nat) (s : List α) (hfit : off ≤ cur.length) (i : Nat) :
    (splice cur off s)[i]? = if i < off then cur[i]? else if i < off + s.length then s[i - off]? else cur[i]? := by
  have hl1 : (cur.take off).length = off := by simp; omega
  unfold splice
  by_cases hi : i < off
  · rw [if_pos hi, List.getElem?_append_left (by omega), List.getElem?_take_of_lt hi]
  · rw [if_neg hi, List.getElem?_append_right (by omega), hl1]
    by_cases h2 : i < off + s.length
    · rw [if_pos h2, List.getElem?_append_left (by omega)]
    · rw [if_neg h2, List.getElem?_append_right (by omega), List.getElem?_drop]
      congr 1
      omega

theorem splice_step (cur : List UInt8) (off : Nat) (s : List UInt8) (k : Nat) (hk : k < s.length) (hfit : off + s.length ≤ cur.length) :
    splice cur off (s.take (k + 1)) = (splice cur off (s.take k)).set (off + k) s[k] := by
  have h1 : (s.take (k + 1)).length = k + 1 := by simp; omega
  have h2 : (s.take k).length = k := by simp; omega
  have hlen : (splice cur off (s.take k)).length = cur.length := length_splice _ _ _ (by omega)
  apply List.ext_getElem?
  intro i
  rw [List.getElem?_set, splice_get _ _ _ (by omega), splice_get _ _ _ (by omega), h1, h2]
  by_cases hi : i < off
  · rw [if_pos hi, if_pos hi, if_neg (by omega)]
  · rw [if_neg hi, if_neg hi]
    by_cases hik : off + k = i
    · subst hik
      have e : off + k - off = k := by omega
      rw [if_pos rfl, if_pos (by omega), if_pos (by omega), e, List.getElem?_take_of_lt (by omega)]
      exact List.getElem?_eq_getElem hk
    · rw [if_neg hik]
      by_cases hlt : i < off + k
      · rw [if_pos (by omega), if_pos hlt, List.getElem?_take_of_lt (by omega), List.getElem?_take_of_lt (by omega)]
      · rw [if_neg (by omega), if_neg hlt]

theorem cells8_set (l : List UInt8) (i : Nat) (c : UInt8) : (cells8 l).toArray.setIfInBounds i (b8 c) = (cells8 (l.set i c)).toArray := by
  apply Array.toList_inj.1
  simp [cells8, List.map_set]

set_option maxHeartbeats 1000000 in
/-- put(b, off, s): the bytes of s are laid over b. -/
theorem put_any (w : World) (g n off : Nat) (cur : List UInt8) (s : ByteArray) (hb : Blk w g 5 (cells8 cur).toArray) (hn : cur.length = n) (hfit : off + s.size ≤ n) (hm : n ≤ 4194304) :
    Calls Try.prog 27 #[.slice (some ⟨g, 0, none⟩) n n, .int .i64 (off : Int), .string s] w fun e w' => e = .returned (.tuple #[]) ∧ Blk w' g 5 (cells8 (lay cur (off, s))).toArray ∧ Only (fun k => k = g) w w' := by
  have HL : Hid (lay cur (off, s) = splice cur off (s.data.toList.take s.size)) := by
    show _ = _
    rw [List.take_of_length_le (by rw [size_list]; exact Nat.le_refl _)]; rfl
  have HB := Lib.hid hb
  have HN := Lib.hid hn
  have hs : s.size ≤ 4194304 := by omega
  clear hb hn
  go_enter Try.func27, Try.ntmps27
  go_wp2
  go_loopw [6] (fun i wr => ∃ k : Nat, k ≤ s.size ∧ i = .int .i64 k ∧ Blk wr g 5 (cells8 (splice cur off (s.data.toList.take k))).toArray ∧ Only (fun k => k = g) w wr) (fun i _ => s.size - (intOf i).toNat)
  case atStart => exact ⟨0, Nat.zero_le _, rfl, by rw [List.take_zero, splice_nil]; exact HB.out, Only.refl _ _⟩
  case round =>
    obtain ⟨k, hk, rfl, hbk, ho⟩ := hrel
    by_cases hlt : k < s.size
    · have hlk : (splice cur off (s.data.toList.take k)).length = n := by rw [length_splice _ _ _ (by have := HN.out; simp [size_list]; omega), HN.out]
      obtain ⟨v, hc⟩ : ∃ v, wr.cell? ⟨g, off + k, none⟩ = some v := ⟨_, (hbk.cell (off + k)).trans (by rw [List.getElem?_toArray]; exact cells8_get _ _ (by omega))⟩
      have hf := hbk.frozen (off + k)
      have hkl : k < s.data.toList.length := by rw [size_list]; exact hlt
      have hnew : Hid (Blk (wr.setCell ⟨g, off + k, none⟩ (.int .u8 ((s[k]'hlt).toNat : Int))) g 5 (cells8 (splice cur off (s.data.toList.take (k + 1)))).toArray) := by
        show Blk _ _ _ _
        rw [splice_step cur off s.data.toList k hkl (by rw [size_list, HN.out]; exact hfit), ← cells8_set]
        exact hbk.set_ _ _
      have HO := Lib.hid (ho.setCell (p := ⟨g, off + k, none⟩) (.inl rfl) (.int .u8 ((s[k]'hlt).toNat : Int)))
      clear hbk ho hlk hkl
      go_wp2
      go_roundw
      case rel => exact ⟨k + 1, hlt, by go_num, hnew.out, HO.out⟩
      case measure => simp [intOf]; omega
    · obtain rfl : k = s.size := by omega
      have hbk' := Lib.hid hbk
      have HO := Lib.hid ho
      clear hbk ho
      go_wp2
      go_end0
      rw [HL.out]
      exact ⟨rfl, hbk'.out, HO.out⟩
end Go.Proofs.Ytacincpecdkhiaa
