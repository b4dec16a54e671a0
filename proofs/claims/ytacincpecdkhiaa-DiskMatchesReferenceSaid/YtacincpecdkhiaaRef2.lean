/-
  The reference disk: Visible, Sync, Read.
-/
import Derived.Test.YtacincpecdkhiaaRef1
import Derived.Maps.AppendAt
namespace Go.Proofs.Ytacincpecdkhiaa
open Go.RowKit
set_option linter.unusedVariables false

theorem infoC : (Try.prog.info? 80).map (fun i => (i.zero, i.size, i.bytes)) = some (some (.agg #[.int .i64 0, .string ByteArray.empty]), 2, 24) := by kernel_rfl

/-- The first k writes laid. -/
def laidTo (s : DSt) (k : Nat) : List UInt8 := (s.pend.take k).foldl lay s.dur
theorem laidTo_succ (s : DSt) (k : Nat) (h : k < s.pend.length) : laidTo s (k + 1) = lay (laidTo s k) s.pend[k] := by
  unfold laidTo
  rw [List.take_succ_eq_append_getElem h, List.foldl_append]
  rfl
theorem laidTo_length (s : DSt) (hf : ∀ x ∈ s.pend, x.1 + x.2.size ≤ s.dur.length) : ∀ k, k ≤ s.pend.length → (laidTo s k).length = s.dur.length
  | 0, _ => rfl
  | k + 1, h => by
    rw [laidTo_succ s k h, lay_length (by rw [laidTo_length s hf k (by omega)]; exact hf _ (List.getElem_mem _)), laidTo_length s hf k (by omega)]
theorem laidTo_all (s : DSt) (h : Fresh s) : laidTo s s.pend.length = s.vis := by
  unfold laidTo
  rw [List.take_length, ← h]

/-- What an append of bytes to nothing leaves. -/
theorem grown_row {w : World} {B : Nat} {v : Value} {bs : List UInt8} (h : w.ownsRow B 5 1 v (0 + bs.length) ([] ++ cells8 bs)) (hn : v ≠ .slice none 0 0) :
    ∃ (g : Nat) (rest : List Value), v = .slice (some ⟨g, 0, none⟩) bs.length (bs.length + rest.length) ∧ B ≤ g ∧ Blk w g 5 (cells8 bs ++ rest).toArray ∧ bs.length + rest.length ≤ maxLen := by
  rcases h.2 with ⟨h0, _⟩ | ⟨g, cap, cur, hv, hb, hg, hc, hm, hs, ht⟩
  · exact absurd h0 hn
  · have hl : cur.toList.length = cap := by rw [Array.length_toList, hs]; omega
    rw [Nat.zero_add, Nat.mul_one, List.nil_append] at ht
    have hr : (cur.toList.drop bs.length).length = cap - bs.length := by rw [List.length_drop, hl]
    refine ⟨g, cur.toList.drop bs.length, ?_, hb, ?_, by omega⟩
    · rw [hv, hr]; congr 1 <;> omega
    · have : (cells8 bs ++ cur.toList.drop bs.length).toArray = cur := by
        apply Array.toList_inj.1
        simp only [List.toList_toArray]
        rw [← ht, List.take_append_drop]
      rw [this]; exact hg

set_option maxRecDepth 100000 in
set_option maxHeartbeats 4000000 in
theorem RVisible_any {w : World} {r : RRep} {s : DSt} (h : RefAt w r s) :
    Calls Try.prog 34 #[r.ptr] w fun e w' => ∃ (g : Nat) (rest : List Value), e = .returned (.slice (some ⟨g, 0, none⟩) s.dur.length (s.dur.length + rest.length)) ∧ w.heap.size ≤ g ∧ Blk w' g 5 (cells8 s.vis ++ rest).toArray ∧ s.dur.length + rest.length ≤ maxLen ∧ Below w.heap.size w w' := by
  have c0 := h.c0
  have c1 := h.c1
  have hs := h.small
  have hpm := h.pmax
  have HH := Lib.hid h
  unfold RRep.ptr
  obtain ⟨i8, hi8, z0, z1, z2⟩ := info_parts info8
  have Z := Lib.hid (And.intro hi8 (And.intro z0 (And.intro z1 z2)))
  have hq := h.blk.lt
  have hg := h.sure.lt
  have hcell : Hid (∀ j u, (cells8 s.dur)[j]? = some u → (w.alloc (.cells #[] 5)).cell? ((⟨r.g, 0, none⟩ : Addr).add j) = some u) := by
    intro j u hj
    obtain ⟨hj', _⟩ := List.getElem?_eq_some_iff.1 hj
    rw [add_none, Nat.zero_add, (h.sure.alloc _).cell j, List.getElem?_toArray, List.getElem?_append_left hj', hj]
  clear hi8 z0 z1 z2 h
  go_enter Try.func34, Try.ntmps34
  go_wp2_with (at_builtin; go_must (refine wpList_append_own_at _ rfl _ _ 40 rfl w.heap.size 5 i8 (.int .u8 0) 1 1 Try.underlying40 Z.out.1 Z.out.2.1 Z.out.2.2.1 Z.out.2.2.2 rfl (by decide) _ _ _ rfl (World.ownsRow_lit w #[] 0 (Nat.le_refl _) (by unfold maxLen; omega) (by simp)) ⟨r.g, 0, none⟩ s.dur.length _ (cells8 s.dur) rfl (by rw [cells8_length]; omega) hcell.out (cells8_one _) (by unfold maxLen; omega) (by omega) (by simp) ?_); intro v' w1 hown' hgrow hnil _)
  obtain ⟨g, rest, hv', hgb, hbk, hcap⟩ := grown_row hown' (fun e => by have := (hnil.1 e).1; cases this)
  subst hv'
  have b1 : Below w.heap.size w w1 := ((Below.refl w.heap.size w).alloc (Nat.le_refl _) _).grown hgrow (by simp) (fun k hk => by cases hk; exact Nat.le_refl _)
  have HB1 := Lib.hid b1
  have HK1 := Lib.hid hbk
  have HL0 := Lib.hid (laidTo_length s HH.out.fits)
  obtain ⟨A, cc, hlv⟩ := HH.out.lvform
  have HLV := Lib.hid hlv
  clear hown' hgrow hnil b1 hbk hcell c0 c1 hq hg hlv
  go_loopw [4] (fun i wr => ∃ k : Nat, k ≤ s.pend.length ∧ i = .int .i64 k ∧ Blk wr g 5 (cells8 (laidTo s k) ++ rest).toArray ∧ Below w.heap.size w wr) (fun i _ => s.pend.length - (intOf i).toNat)
  case atStart => exact ⟨0, Nat.zero_le _, rfl, HK1.out, HB1.out⟩
  case round =>
    obtain ⟨k, hk, rfl, hbk, hb⟩ := hrel
    have hR := HH.out.only (Only.of_below hb (fun _ => False)) (fun _ _ e => e)
    have c1 := hR.c1
    rw [HLV.out] at c1
    have hqlt := hR.blk.lt
    by_cases hlt : k < s.pend.length
    · have HB := Lib.hid hb
      have HK := Lib.hid hbk
      have hl := hR.l
      rw [HLV.out] at hl
      have hwc := wcells_get s.pend k hlt
      obtain ⟨gl, hgl⟩ : ∃ gl, A = some ⟨gl, 0, none⟩ := by
        rcases hl.2 with ⟨_, h0⟩ | ⟨g', cap, cur, h1, _⟩
        · omega
        · injection h1 with h1; exact ⟨g', h1⟩
      subst hgl
      have d0 := (hl.cellAt (k * 2) (by omega)).trans hwc.1
      have d1 := (hl.cellAt (k * 2 + 1) (by omega)).trans hwc.2
      have hx := HH.out.fits _ (List.getElem_mem hlt)
      have hLS := Lib.hid (laidTo_succ s k hlt)
      clear hR hb hbk hl hwc
      have hgw : w.heap.size ≤ g := hgb
      go_wp2_with fail
      go_still_tail 17, (by kernel_rfl)
      change wpList _ _ _ _ _ wr.drew
      go_wp2_with fail
      refine (apply_any wr.drew g s.dur.length _ s.pend[k].1 (laidTo s k) rest s.pend[k].2 HK.out.drew (HL0.out k hk) hx hs).mono ?_
      rintro e w2 ⟨rfl, hb2, o2⟩
      have HK2 := Lib.hid (hLS.out.symm ▸ hb2)
      have HO2 := Lib.hid o2
      clear hb2 o2
      go_wp2_with fail
      go_roundw
      case rel => exact ⟨k + 1, hlt, by go_num, HK2.out, HB.out.trans ((Below.refl _ wr).drew.trans (HO2.out.below HB.out.size (fun j e => by omega)))⟩
      case measure => simp [intOf]; omega
    · obtain rfl : k = s.pend.length := by omega
      have HB := Lib.hid hb
      have HK := Lib.hid (show Blk wr g 5 (cells8 s.vis ++ rest).toArray from by rw [← laidTo_all s HH.out.fresh]; exact hbk)
      clear hb hbk hR
      go_wp2_with fail
      go_ret
      exact ⟨g, rest, rfl, hgb, HK.out, hcap, HB.out⟩

theorem RVisible_ref {w : World} {r : RRep} {s : DSt} (h : RefAt w r s) (g : Nat) (rest : List Value) (hg : ¬ r.foot g) (hb : Blk w g 5 (cells8 s.vis ++ rest).toArray) (hc : s.dur.length + rest.length ≤ maxLen) (hv : s.vis.length = s.dur.length)
    {w' : World} (hb' : Blk w' r.q 43 #[.slice (some ⟨g, 0, none⟩) s.dur.length (s.dur.length + rest.length), .slice none 0 0, .bool s.off, .int .i64 (s.left : Int)]) (o : Only (fun k => k = r.q) w w') :
    RefAt w' { r with g := g, rest := rest, lv := .slice none 0 0 } s.synced :=
  { blk := by
      show Blk w' r.q _ #[.slice (some ⟨g, 0, none⟩) s.vis.length (s.vis.length + rest.length), _, _, _]
      rw [hv]; exact hb'
    sure := hb.only o (fun e => hg (.inl e))
    cap := by show s.vis.length + _ ≤ _; rw [hv]; exact hc
    l := World.ownsRow_nil _ _ _ _
    small := by show s.vis.length ≤ _; rw [hv]; exact h.small
    left := h.left
    fits := by intro x hx; simp [DSt.synced] at hx
    fresh := Fresh.synced s }
theorem RefAt.vlen {w : World} {r : RRep} {s : DSt} (h : RefAt w r s) : s.vis.length = s.dur.length := by
  rw [← laidTo_all s h.fresh]
  exact laidTo_length s h.fits _ (Nat.le_refl _)

set_option maxRecDepth 100000 in
set_option maxHeartbeats 1000000 in
theorem RSync_any {w : World} {r : RRep} {s : DSt} (h : RefAt w r s) :
    Calls Try.prog 31 #[r.ptr] w fun e w' => e = .returned (.int .i64 s.sync.1) ∧ ∃ r', RefAt w' r' s.sync.2 ∧ RTurned r r' w w' := by
  have c2 := h.c2
  have HH := Lib.hid h
  have K := Lib.hid (RVisible_any h)
  have hfl := Lib.hid h.footlt
  unfold RRep.ptr at *
  cases ho : s.off
  · have HF : Hid (s.sync = (0, s.synced)) := by show s.sync = _; simp [DSt.sync, ho]
    have f0 := h.blk.frozen 0
    have f1 := h.blk.frozen 1
    rw [ho] at c2
    clear h ho
    go_enter Try.func31, Try.ntmps31
    go_wp2_with fail
    refine K.out.mono ?_
    rintro e w1 ⟨g, rest, rfl, hgb, hb, hcap, b1⟩
    have hR := HH.out.only (Only.of_below b1 (fun _ => False)) (fun _ _ e => e)
    have c0 := hR.c0
    have c1 := hR.c1
    have f0 := hR.blk.frozen 0
    have f1 := hR.blk.frozen 1
    have HR := Lib.hid hR
    have HB := Lib.hid hb
    have B1 := Lib.hid b1
    clear hR hb b1
    go_wp2_with fail
    go_ret
    rw [HF.out]
    have hng : ¬ r.foot g := fun e => by have := hfl.out g e; omega
    have hoff : s.off = false := by
      have := congrArg Prod.fst HF.out
      by_cases e : s.off = true
      · rw [DSt.sync, if_pos e] at this; cases this
      · simpa using e
    have hblk := HR.out.blk
    have o : Only (fun k => k = r.q) w1 ((w1.setCell ⟨r.q, 0, none⟩ (.slice (some ⟨g, 0, none⟩) s.dur.length (s.dur.length + rest.length))).setCell ⟨r.q, 1, none⟩ (.slice none 0 0)) := ((Only.refl (fun k => k = r.q) w1).setCell (p := ⟨r.q, 0, none⟩) (.inl rfl) _).setCell (p := ⟨r.q, 1, none⟩) (.inl rfl) _
    refine ⟨rfl, _, RVisible_ref HR.out g rest hng HB.out hcap HR.out.vlen ((hblk.set_ 0 _).set_ 1 _) o, rfl, ?_, ?_⟩
    · exact (Only.of_below B1.out r.foot).trans (o.mono fun k _ e => .inl e) fun k hk e => e
    · rintro k (e | e | e)
      · exact .inl (.inl e)
      · exact .inr (by rw [e]; exact hgb)
      · cases e
  · have HF : Hid (s.sync = (251, s)) := by show s.sync = _; simp [DSt.sync, ho]
    rw [ho] at c2
    clear h ho
    go_enter Try.func31, Try.ntmps31
    go_wp2
    go_ret
    rw [HF.out]
    exact ⟨rfl, r, HH.out, RTurned.refl _ _⟩

/-- 'string(b[k:k+m])' of a content. -/
theorem part_row {w : World} {g : Nat} {X : List UInt8} {rest : List Value} (h : Blk w g 5 (cells8 X ++ rest).toArray) (k m : Nat) (hk : k + m ≤ X.length) (c : Nat) :
    (convert 40 9 (.slice (some ⟨g, k, none⟩) m c)).run Try.prog w = .ok (.string ⟨((X.drop k).take m).toArray⟩) w := by
  have hlen : ((X.drop k).take m).length = m := by simp; omega
  have := run_convert_bytes_back (P := Try.prog) w 40 9 5 ⟨g, k, none⟩ c ((X.drop k).take m) Try.underlying40 Try.underlying5 Try.underlying9 (fun j hj => by
    have hj' : j < m := by rw [hlen] at hj; exact hj
    rw [add_none, h.cell (k + j)]
    simp only [List.getElem?_toArray]
    rw [cells8_rest_get X rest (k + j) (by omega)]
    simp [b8])
  rw [hlen] at this
  exact this

set_option maxRecDepth 100000 in
set_option maxHeartbeats 1000000 in
theorem RRead_any {w : World} {r : RRep} {s : DSt} (h : RefAt w r s) (o n : Int) :
    Calls Try.prog 20 #[r.ptr, .int .i64 o, .int .i64 n] w fun e w' => e = .returned (.tuple #[.string ⟨(s.read o n).1.toArray⟩, .int .i64 (s.read o n).2]) ∧ Below w.heap.size w w' := by
  have c0 := h.c0
  have c2 := h.c2
  have HH := Lib.hid h
  have K := Lib.hid (RVisible_any h)
  have hs := h.small
  unfold RRep.ptr at *
  cases ho : s.off
  · cases hi : s.inside o n
    · have HF : Hid (s.read o n = ([], 250)) := by show _ = _; simp [DSt.read, ho, hi]
      have hin : ¬ (0 ≤ o ∧ 0 ≤ n ∧ o ≤ (s.dur.length : Int) ∧ n ≤ (s.dur.length : Int) - o) := by rw [← DSt.inside_iff, hi]; simp
      have hcs : o < 0 ∨ (¬ o < 0 ∧ n < 0) ∨ (¬ o < 0 ∧ ¬ n < 0 ∧ (s.dur.length : Int) < o) ∨ (¬ o < 0 ∧ ¬ n < 0 ∧ ¬ (s.dur.length : Int) < o ∧ (s.dur.length : Int) - o < n) := by omega
      rw [ho] at c2
      clear h ho hi hin
      rcases hcs with h1 | ⟨h1, h2⟩ | ⟨h1, h2, h3⟩ | ⟨h1, h2, h3, h4⟩
      all_goals
        go_enter Try.func20, Try.ntmps20
        go_wp2
        try go_region
        all_goals try go_wp2
        all_goals
          go_ret2
          rw [HF.out]
          exact ⟨rfl, Below.refl _ _⟩
    · have HF : Hid (s.read o n = (s.part o n, 0)) := by show _ = _; simp [DSt.read, ho, hi]
      obtain ⟨i1, i2, i3, i4⟩ := (s.inside_iff o n).1 hi
      obtain ⟨k, rfl⟩ := Int.eq_ofNat_of_zero_le i1
      obtain ⟨m, rfl⟩ := Int.eq_ofNat_of_zero_le i2
      rw [ho] at c2
      clear h ho hi i1 i2
      go_enter Try.func20, Try.ntmps20
      go_wp2_with fail
      refine K.out.mono ?_
      rintro e w1 ⟨g, rest, rfl, hgb, hb, hcap, b1⟩
      have hkm : k + m ≤ s.vis.length := by rw [HH.out.vlen]; omega
      have hP : Hid (s.part k m = (s.vis.drop k).take m) := by show _ = _; simp [DSt.part]
      have HB := Lib.hid hb
      have B1 := Lib.hid b1
      have hcap2 := hcap
      unfold maxLen at hcap2
      by_cases hk : s.dur.length + rest.length = k
      · have hm : m = 0 := by omega
        subst hm
        have hcv := fun c => part_row hb 0 0 (by omega) c
        have e0 : (s.vis.drop k).take 0 = [] := List.take_zero
        have e1 : (s.vis.drop 0).take 0 = [] := List.take_zero
        have hP2 : Hid (s.part k ((0 : Nat) : Int) = []) := by
          show _ = _
          have := hP.out
          rw [e0] at this
          exact this
        rw [e1] at hcv
        clear hb b1 hkm e0 e1
        go_wp2_with fail
        go_ret2
        rw [HF.out, hP2.out]
        exact ⟨rfl, B1.out⟩
      · have hcv := fun c => part_row hb k m hkm c
        have hk' : k < s.dur.length + rest.length := by omega
        clear hb b1 hkm hk
        go_wp2_with fail
        go_ret2
        rw [HF.out, hP.out]
        exact ⟨rfl, B1.out⟩
  · have HF : Hid (s.read o n = ([], 251)) := by show _ = _; simp [DSt.read, ho]
    rw [ho] at c2
    clear h ho
    go_enter Try.func20, Try.ntmps20
    go_wp2
    go_ret2
    rw [HF.out]
    exact ⟨rfl, Below.refl _ _⟩
end Go.Proofs.Ytacincpecdkhiaa
