/-
  slices.Sorted(slices.Values(xs)), slices.Compact, slices.DeleteFunc at ints, told by 'ownsRow'.
-/
import Derived.Test.YtjlgkjhociaeiaaGreatDoorIter
import Derived.Lib.Hide
namespace Go.Proofs.YtjlgkjhociaeiaaGreatDoor
open Go.RowKit Go.Shelf Go.Sort
set_option linter.unusedVariables false

/-- The slice value v is the call's own (from block B on) and holds the ints zs. -/
def OwnInts (B : Nat) (w : World) (v : Value) (zs : List Int) : Prop := w.ownsRow B 3 1 v zs.length (zs.map (Value.int .i64))

theorem ownInts_cases {B : Nat} {w : World} {v : Value} {zs : List Int} (h : OwnInts B w v zs) :
    (zs = [] ∧ ∃ p c, v = .slice p 0 c) ∨ ∃ g cap cur, v = .slice (some ⟨g, 0, none⟩) zs.length cap ∧ B ≤ g ∧ w.heap[g]? = some (.cells cur 3 (0, 0)) ∧ zs.length ≤ cap ∧ cap ≤ maxLen ∧ cur.size = cap * 1 ∧ cur.toList.take zs.length = zs.map (Value.int .i64) := by
  rcases h.2 with ⟨rfl, h0⟩ | ⟨g, cap, cur, rfl, hb, hg, hn, hm, hs, ht⟩
  · exact .inl ⟨List.eq_nil_of_length_eq_zero h0, none, 0, rfl⟩
  · exact .inr ⟨g, cap, cur, rfl, hb, hg, hn, hm, hs, by simpa using ht⟩

/-- A row cut to its first m elements. -/
theorem ownsRow_cut1 {w : World} {base : Nat} {e : TypeId} {g n cap m : Nat} {xs : List Value} (h : w.ownsRow base e 1 (.slice (some ⟨g, 0, none⟩) n cap) n xs) (hm : m ≤ n) : w.ownsRow base e 1 (.slice (some ⟨g, 0, none⟩) m cap) m (xs.take m) := by
  refine ⟨by have := h.1; simp; omega, ?_⟩
  rcases h.2 with ⟨h0, _⟩ | ⟨g', cap', cur, hv, hb, hg, hn, hc, hs, ht⟩
  · cases h0
  · cases hv
    refine .inr ⟨g, cap, cur, rfl, hb, hg, by omega, hc, hs, ?_⟩
    rw [← ht, List.take_take]
    congr 1
    omega

set_option maxHeartbeats 400000 in
theorem collect_any (Bs : Nat) (sv : Value) (zs : List Int) (hreach : zs.length * 8 ≤ 140737488351232) (w : World) (hBs : Bs < w.heap.size) (hcs : w.cell? ⟨Bs, 0, none⟩ = some sv) (hI : Ints w.heap.size w sv zs) :
    Calls Tryz.prog 89 #[.func (.func 91) #[] #[.pointer (some ⟨Bs, 0, none⟩)]] w fun e w' => ∃ v, e = .returned v ∧ OwnInts w.heap.size w' v zs ∧ Below w.heap.size w w' := by
  have K := Lib.hid (callsIn_wide.1 (appendSeq_in Fence.wide 3 trivial trivial rfl (Nat.le_refl _) Bs sv zs hreach w hBs hcs hI))
  clear hcs hI
  go_enter Tryz.func89, Tryz.ntmps89
  go_wp2_with (go_at_call 106; refine K.out.mono ?_; rintro e w1 ⟨v, rfl, hown, hb⟩)
  go_ret
  exact ⟨v, rfl, hown, hb⟩

theorem sort_own {B : Nat} {w : World} {v : Value} {zs : List Int} (h : OwnInts B w v zs) (hz : zs.length < 4611686018427387904) :
    Calls Tryz.prog 90 #[v] w fun e w' => e = .returned (.tuple #[]) ∧ OwnInts B w' v (zs.mergeSort fun x y => decide (x ≤ y)) ∧ w.grownBy w' v.ownBlock := by
  rcases ownInts_cases h with ⟨rfl, p, c, rfl⟩ | ⟨g, cap, cur, rfl, hb, hg, hn, hm, hs, ht⟩
  · refine (Tryz.slices_Sort_int_none p c w).mono ?_
    rintro e w' ⟨rfl, rfl⟩
    exact ⟨rfl, by simpa using h, World.grownBy.refl _ _⟩
  · refine (Tryz.slices_Sort_int g 0 cap zs w (holds_of_blockI hg ht) (Array.getElem?_eq_some_iff.1 hg).1 hz).mono ?_
    rintro e w' ⟨rfl, n, os, rfl⟩
    refine ⟨rfl, ?_, grownBy_sortedI _⟩
    have := ownsRow_sortedI (n := n) (os := os) (ts := zs.mergeSort fun x y => decide (x ≤ y)) (ss := zs) (by simp) hb hg hn hm hs
    show World.ownsRow _ _ _ _ _ _ _
    simpa using this

theorem compact_own {B : Nat} {w : World} {v : Value} {zs : List Int} (h : OwnInts B w v zs) :
    Calls Tryz.prog 60 #[v] w fun e w' => ∃ v', e = .returned v' ∧ OwnInts B w' v' (Lib.compact zs) ∧ w.grownBy w' v.ownBlock ∧ v'.ownBlock = v.ownBlock := by
  rcases ownInts_cases h with ⟨rfl, p, c, rfl⟩ | ⟨g, cap, cur, rfl, hb, hg, hn, hm, hs, ht⟩
  · refine (Tryz.slices_Compact_int_empty p c w).mono ?_
    rintro e w' ⟨rfl, rfl⟩
    exact ⟨_, rfl, h, World.grownBy.refl _ _, rfl⟩
  · have hle : (Lib.compact zs).length ≤ zs.length := by
      unfold Lib.compact Lib.compactUpTo
      rw [List.length_map]
      exact Nat.le_trans (List.length_filter_le _ _) (by simp)
    unfold maxLen at hm
    refine (Tryz.slices_Compact_int g 0 cap zs w (holds_of_blockI hg ht) (by omega) hn).mono ?_
    rintro e w' ⟨rfl, q, rfl⟩
    refine ⟨_, rfl, ?_, ?_, rfl⟩
    · have := ownsRow_sortedI (n := q) (os := #[]) (ts := Lib.compact zs ++ List.replicate (zs.length - (Lib.compact zs).length) 0) (ss := zs) (by simp; omega) hb hg hn (by unfold maxLen; omega) hs
      rw [Go.Sort.grow_empty] at this
      have h2 := ownsRow_cut1 this hle
      simpa [OwnInts] using h2
    · have := grownBy_sortedI (w := w) (g := g) (n := q) (os := #[]) (Lib.compact zs ++ List.replicate (zs.length - (Lib.compact zs).length) 0).toArray
      rw [Go.Sort.grow_empty] at this
      exact this

set_option maxHeartbeats 400000 in
/-- slices.Sorted at what slices.Values handed back. -/
theorem sorted_any (Bs : Nat) (sv : Value) (zs : List Int) (hreach : zs.length * 8 ≤ 140737488351232) (w : World) (hBs : Bs < w.heap.size) (hcs : w.cell? ⟨Bs, 0, none⟩ = some sv) (hI : Ints w.heap.size w sv zs) :
    Calls Tryz.prog 61 #[.func (.func 91) #[] #[.pointer (some ⟨Bs, 0, none⟩)]] w fun e w' => ∃ v, e = .returned v ∧ OwnInts w.heap.size w' v (zs.mergeSort fun x y => decide (x ≤ y)) ∧ Below w.heap.size w w' := by
  have K := Lib.hid (collect_any Bs sv zs hreach w hBs hcs hI)
  clear hcs hI
  go_enter Tryz.func61, Tryz.ntmps61
  go_wp2_with (go_at_call 89; refine K.out.mono ?_; rintro e w1 ⟨v, rfl, hown, hb⟩)
  have KS := Lib.hid (sort_own hown (by omega))
  have HO := Lib.hid hown
  clear hown
  go_wp2_with (go_at_call 90; refine KS.out.mono ?_; rintro e w2 ⟨rfl, hown2, hg2⟩)
  go_ret
  exact ⟨v, rfl, hown2, hb.grown hg2 hb.size fun k hk => (HO.out.lt k hk).1⟩
end Go.Proofs.YtjlgkjhociaeiaaGreatDoor
