/-
  The reference disk: how it lies in memory; New, Cut, has, apply.
-/
import Derived.Test.YtacincpecdkhiaaDSurvive
namespace Go.Proofs.Ytacincpecdkhiaa
open Go.RowKit
set_option linter.unusedVariables false

/-- Where the parts of a reference disk lie. -/
structure RRep where
  q : Nat
  g : Nat
  rest : List Value
  lv : Value
def RRep.ptr (r : RRep) : Value := .pointer (some ⟨r.q, 0, none⟩)
def RRep.foot (r : RRep) (k : Nat) : Prop := k = r.q ∨ k = r.g ∨ r.lv.ownBlock = some k
structure RefAt (w : World) (r : RRep) (s : DSt) : Prop where
  blk : Blk w r.q 43 #[.slice (some ⟨r.g, 0, none⟩) s.dur.length (s.dur.length + r.rest.length), r.lv, .bool s.off, .int .i64 (s.left : Int)]
  sure : Blk w r.g 5 (cells8 s.dur ++ r.rest).toArray
  cap : s.dur.length + r.rest.length ≤ maxLen
  l : w.ownsRow 0 80 2 r.lv s.pend.length (wcells s.pend)
  small : s.dur.length ≤ 4194304
  left : s.left ≤ 9223372036854775807
  fits : ∀ x ∈ s.pend, x.1 + x.2.size ≤ s.dur.length
  fresh : Fresh s

section
variable {w w' : World} {r : RRep} {s : DSt}
theorem RefAt.c0 (h : RefAt w r s) : w.cell? ⟨r.q, 0, none⟩ = some (.slice (some ⟨r.g, 0, none⟩) s.dur.length (s.dur.length + r.rest.length)) := h.blk.cell 0
theorem RefAt.c1 (h : RefAt w r s) : w.cell? ⟨r.q, 1, none⟩ = some r.lv := h.blk.cell 1
theorem RefAt.c2 (h : RefAt w r s) : w.cell? ⟨r.q, 2, none⟩ = some (.bool s.off) := h.blk.cell 2
theorem RefAt.c3 (h : RefAt w r s) : w.cell? ⟨r.q, 3, none⟩ = some (.int .i64 (s.left : Int)) := h.blk.cell 3
theorem RefAt.footlt (h : RefAt w r s) : ∀ k, r.foot k → k < w.heap.size := by
  rintro k (rfl | rfl | hk)
  · exact h.blk.lt
  · exact h.sure.lt
  · exact (h.l.lt k hk).2
theorem RefAt.only {S : Nat → Prop} (h : RefAt w r s) (ho : Only S w w') (hn : ∀ k, r.foot k → ¬ S k) : RefAt w' r s :=
  { h with
    blk := h.blk.only ho (hn _ (.inl rfl))
    sure := h.sure.only ho (hn _ (.inr (.inl rfl)))
    l := ownsRow_only h.l ho fun k hk => hn k (.inr (.inr hk)) }
theorem RefAt.lvform (h : RefAt w r s) : ∃ A c, r.lv = .slice A s.pend.length c := by
  rcases h.l.2 with ⟨h1, h2⟩ | ⟨g, cap, cur, h1, _⟩
  · exact ⟨none, 0, by rw [h1, h2]⟩
  · exact ⟨_, _, h1⟩
theorem RefAt.pmax (h : RefAt w r s) : s.pend.length ≤ 9223372036854775807 := by
  rcases h.l.2 with ⟨h1, h2⟩ | ⟨g, cap, cur, h1, _, _, h3, h4, _⟩
  · omega
  · unfold maxLen at h4; omega
/-- The two last cells are rewritten. -/
theorem RefAt.store (h : RefAt w r s) (o : Only (fun k => k = r.q) w w') (off : Bool) (left : Nat) (hl : left ≤ 9223372036854775807)
    (hb : Blk w' r.q 43 #[.slice (some ⟨r.g, 0, none⟩) s.dur.length (s.dur.length + r.rest.length), r.lv, .bool off, .int .i64 (left : Int)]) : RefAt w' r { s with off := off, left := left } :=
  { h with
    blk := hb
    sure := h.sure.only o (h.sure.ne_ h.blk (by decide))
    l := ownsRow_only h.l o fun k hk e => own_blk_ne h.l h.blk (by decide) (by rw [hk, e])
    left := hl
    fresh := h.fresh }
end

/-- From w to w' one call has turned the reference disk r into r'. -/
structure RTurned (r r' : RRep) (w w' : World) : Prop where
  q : r'.q = r.q
  only : Only r.foot w w'
  foot : ∀ k, r'.foot k → r.foot k ∨ w.heap.size ≤ k
theorem RTurned.refl (r : RRep) (w : World) : RTurned r r w w := ⟨rfl, Only.refl _ _, fun _ h => .inl h⟩
theorem RTurned.own {r : RRep} {w w' : World} (o : Only (fun k => k = r.q) w w') : RTurned r r w w' := ⟨rfl, o.mono fun _ _ e => .inl e, fun _ h => .inl h⟩

theorem rnew_at (w : World) (n : Nat) (hn : n ≤ 4194304) :
    RefAt ((w.alloc (.cells (madeCells #[Value.int .u8 0] n) 5)).alloc (.cells #[.slice (some ⟨w.heap.size, 0, none⟩) n n, .slice none 0 0, .bool false, .int .i64 0] 43)) ⟨w.heap.size + 1, w.heap.size, [], .slice none 0 0⟩ (DSt.new n) ∧
    (∀ k, RRep.foot ⟨w.heap.size + 1, w.heap.size, [], .slice none 0 0⟩ k → w.heap.size ≤ k) ∧
    Below w.heap.size w ((w.alloc (.cells (madeCells #[Value.int .u8 0] n) 5)).alloc (.cells #[.slice (some ⟨w.heap.size, 0, none⟩) n n, .slice none 0 0, .bool false, .int .i64 0] 43)) := by
  have hl : (DSt.new n).dur.length = n := by simp [DSt.new]
  have hb1 := (Blk.new w 5 (madeCells #[Value.int .u8 0] n)).alloc (.cells #[.slice (some ⟨w.heap.size, 0, none⟩) n n, .slice none 0 0, .bool false, .int .i64 0] 43)
  have hb2 := Blk.new (w.alloc (.cells (madeCells #[Value.int .u8 0] n) 5)) 43 #[.slice (some ⟨w.heap.size, 0, none⟩) n n, .slice none 0 0, .bool false, .int .i64 0]
  simp only [World.size_alloc] at hb2
  refine ⟨{ blk := ?_, sure := ?_, cap := ?_, l := ?_, small := ?_, left := ?_, fits := ?_, fresh := rfl }, ?_, ((Below.refl _ w).alloc (Nat.le_refl _) _).alloc (by simp) _⟩
  · rw [hl]; exact hb2
  · rw [List.append_nil]
    have e : (cells8 (DSt.new n).dur).toArray = madeCells #[Value.int .u8 0] n := (made8 n).symm
    rw [e]; exact hb1
  · rw [hl]; simp [maxLen]; omega
  · exact World.ownsRow_nil _ _ _ _
  · rw [hl]; exact hn
  · show 0 ≤ _; omega
  · intro x hx; simp [DSt.new] at hx
  · rintro k (e | e | e)
    · rw [e]; show w.heap.size ≤ w.heap.size + 1; omega
    · rw [e]; exact Nat.le_refl _
    · cases e

set_option maxHeartbeats 400000 in
theorem RNew_good (n : Nat) (w : World) (h1 : 1 ≤ n) (h2 : n ≤ 4194304) :
    Calls Try.prog 18 #[.int .i64 (n : Int)] w fun e w' => ∃ r, e = .returned (.tuple #[r.ptr, .int .i64 0]) ∧ RefAt w' r (DSt.new n) ∧ (∀ k, r.foot k → w.heap.size ≤ k) ∧ Below w.heap.size w w' := by
  have hmk := run_make_row' (P := Try.prog) 40 5 (.int .u8 0) 1 Try.underlying40 info8 rfl .i64 .i64 n (by omega) (by omega)
  have H1 : ¬ ((n : Int) < 1) := by omega
  have H2 : ¬ (4194304 < (n : Int)) := by omega
  go_enter Try.func18, Try.ntmps18
  go_wp2
  go_ret2
  exact ⟨⟨w.heap.size + 1, w.heap.size, [], .slice none 0 0⟩, rfl, rnew_at w n h2⟩

set_option maxHeartbeats 400000 in
theorem RCut_any {w : World} {r : RRep} {s : DSt} (h : RefAt w r s) (n : Int) (hn : n ≤ 9223372036854775807) :
    Calls Try.prog 32 #[r.ptr, .int .i64 n] w fun e w' => e = .returned (.int .i64 (s.cut n).1) ∧ RefAt w' r (s.cut n).2 ∧ Only (fun k => k = r.q) w w' := by
  have c2 := h.c2
  have c3 := h.c3
  have f2 := h.blk.frozen 2
  have f3 := h.blk.frozen 3
  have HH := Lib.hid h
  unfold RRep.ptr
  cases ho : s.off
  · by_cases hn0 : n < 0
    · have HF : Hid (s.cut n = (2, s)) := by show s.cut n = _; simp [DSt.cut, ho, hn0]
      rw [ho] at c2
      clear h ho
      go_enter Try.func32, Try.ntmps32
      go_wp2
      go_ret
      rw [HF.out]
      exact ⟨rfl, HH.out, Only.refl _ _⟩
    · obtain ⟨k, rfl⟩ := Int.eq_ofNat_of_zero_le (show 0 ≤ n by omega)
      have HF : Hid (s.cut k = (0, { s with off := decide (k = 0), left := k })) := by
        show s.cut k = _
        unfold DSt.cut
        rw [if_neg (by simp [ho]), if_neg (by omega)]
        simp
      rw [ho] at c2
      have hb0 := h.blk
      rw [ho] at hb0
      have HB := Lib.hid hb0
      clear h ho hb0
      have hz : k = 0 ∨ ¬ k = 0 := by omega
      rcases hz with rfl | hz
      all_goals
        go_enter Try.func32, Try.ntmps32
        go_wp2
        try go_region
        all_goals try go_wp2
        go_ret
      · have e0 : s.cut 0 = (0, { s with off := true, left := 0 }) := HF.out
        rw [e0]
        have o : Only (fun k => k = r.q) w ((w.setCell ⟨r.q, 3, none⟩ (.int .i64 0)).setCell ⟨r.q, 2, none⟩ (.bool true)) := ((Only.refl (fun k => k = r.q) w).setCell (p := ⟨r.q, 3, none⟩) (.inl rfl) _).setCell (p := ⟨r.q, 2, none⟩) (.inl rfl) _
        exact ⟨rfl, HH.out.store o true 0 (by omega) ((HB.out.set_ 3 _).set_ 2 _), o⟩
      · rw [HF.out]
        have e : ((k : Int) == 0) = decide (k = 0) := by rw [Bool.eq_iff_iff]; simp
        rw [e]
        have o : Only (fun k => k = r.q) w ((w.setCell ⟨r.q, 3, none⟩ (.int .i64 (k : Int))).setCell ⟨r.q, 2, none⟩ (.bool (decide (k = 0)))) := ((Only.refl (fun k => k = r.q) w).setCell (p := ⟨r.q, 3, none⟩) (.inl rfl) _).setCell (p := ⟨r.q, 2, none⟩) (.inl rfl) _
        exact ⟨rfl, HH.out.store o (decide (k = 0)) k (by omega) ((HB.out.set_ 3 _).set_ 2 _), o⟩
  · have HF : Hid (s.cut n = (251, s)) := by show s.cut n = _; simp [DSt.cut, ho]
    rw [ho] at c2
    clear h ho
    go_enter Try.func32, Try.ntmps32
    go_wp2
    go_ret
    rw [HF.out]
    exact ⟨rfl, HH.out, Only.refl _ _⟩

theorem cells8_set_rest (l : List UInt8) (rest : List Value) (i : Nat) (c : UInt8) (h : i < l.length) : (cells8 l ++ rest).toArray.setIfInBounds i (b8 c) = (cells8 (l.set i c) ++ rest).toArray := by
  apply Array.toList_inj.1
  simp only [Array.toList_setIfInBounds]
  rw [List.set_append_left _ _ (by rw [cells8_length]; exact h)]
  simp [cells8, List.map_set]
theorem cells8_rest_get (l : List UInt8) (rest : List Value) (i : Nat) (h : i < l.length) : (cells8 l ++ rest)[i]? = some (b8 l[i]) := by
  rw [List.getElem?_append_left (by rw [cells8_length]; exact h), cells8_get _ _ h]

set_option maxHeartbeats 1000000 in
/-- apply(b, off, s): the bytes of s are laid over b. -/
theorem apply_any (w : World) (g n c off : Nat) (cur : List UInt8) (rest : List Value) (s : ByteArray) (hb : Blk w g 5 (cells8 cur ++ rest).toArray) (hn : cur.length = n) (hfit : off + s.size ≤ n) (hm : n ≤ 4194304) :
    Calls Try.prog 44 #[.slice (some ⟨g, 0, none⟩) n c, .int .i64 (off : Int), .string s] w fun e w' => e = .returned (.tuple #[]) ∧ Blk w' g 5 (cells8 (lay cur (off, s)) ++ rest).toArray ∧ Only (fun k => k = g) w w' := by
  have HL : Hid (lay cur (off, s) = splice cur off (s.data.toList.take s.size)) := by
    show _ = _
    rw [List.take_of_length_le (by rw [size_list]; exact Nat.le_refl _)]; rfl
  have HB := Lib.hid hb
  have HN := Lib.hid hn
  have hs : s.size ≤ 4194304 := by omega
  clear hb hn
  go_enter Try.func44, Try.ntmps44
  go_wp2
  go_loopw [6] (fun i wr => ∃ k : Nat, k ≤ s.size ∧ i = .int .i64 k ∧ Blk wr g 5 (cells8 (splice cur off (s.data.toList.take k)) ++ rest).toArray ∧ Only (fun k => k = g) w wr) (fun i _ => s.size - (intOf i).toNat)
  case atStart => exact ⟨0, Nat.zero_le _, rfl, by rw [List.take_zero, splice_nil]; exact HB.out, Only.refl _ _⟩
  case round =>
    obtain ⟨k, hk, rfl, hbk, ho⟩ := hrel
    by_cases hlt : k < s.size
    · have hlk : (splice cur off (s.data.toList.take k)).length = cur.length := by rw [length_splice _ _ _ (by have := HN.out; simp [size_list]; omega)]
      have hnk := HN.out
      obtain ⟨v, hc⟩ : ∃ v, wr.cell? ⟨g, off + k, none⟩ = some v := ⟨_, (hbk.cell (off + k)).trans (by rw [List.getElem?_toArray]; exact cells8_rest_get (splice cur off (s.data.toList.take k)) rest (off + k) (by omega))⟩
      have hf := hbk.frozen (off + k)
      have hkl : k < s.data.toList.length := by rw [size_list]; exact hlt
      have hnew : Hid (Blk (wr.setCell ⟨g, off + k, none⟩ (.int .u8 ((s[k]'hlt).toNat : Int))) g 5 (cells8 (splice cur off (s.data.toList.take (k + 1))) ++ rest).toArray) := by
        show Blk _ _ _ _
        rw [splice_step cur off s.data.toList k hkl (by rw [size_list]; omega), ← cells8_set_rest (splice cur off (s.data.toList.take k)) rest (off + k) _ (by omega)]
        exact hbk.set_ _ _
      have HO := Lib.hid (ho.setCell (p := ⟨g, off + k, none⟩) (.inl rfl) (.int .u8 ((s[k]'hlt).toNat : Int)))
      clear hbk ho hlk hkl hnk
      go_wp2
      go_roundw
      case rel => exact ⟨k + 1, hlt, by go_num, hnew.out, HO.out⟩
      case measure => simp [intOf]; omega
    · obtain rfl : k = s.size := by omega
      have hbk' := Lib.hid hbk
      have HO := Lib.hid ho
      clear hbk ho
      go_wp2
      go_end0
      rw [HL.out]
      exact ⟨rfl, hbk'.out, HO.out⟩
end Go.Proofs.Ytacincpecdkhiaa
