/-
  DiskCut, walked.
-/
import Derived.Test.YtacincpecdkhiaaDSurvive
import Derived.Maps.AppendAt
namespace Go.Proofs.Ytacincpecdkhiaa
open Go.RowKit
set_option linter.unusedVariables false

/-- A disk of n bytes that loses power after N writes, of which j were made. -/
structure Cutting (n N j : Nat) (s : DSt) : Prop where
  off : s.off = decide (j = N)
  left : s.left = N - j
  dl : s.dur.length = n
  vl : s.vis.length = n
  fresh : Fresh s
  pl : s.pend.length = j
theorem Cutting.write_eq {n N j : Nat} {s : DSt} (h : Cutting n N j s) (hj : j < N) (o : Nat) (t : ByteArray) (ho : o + t.size ≤ n) : s.write o t = (0, s.wrote o t) := by
  have hi : s.inside o t.size = true := by rw [DSt.inside_iff, h.dl]; omega
  have h1 : s.off = false := by rw [h.off, decide_eq_false_iff_not]; omega
  simp [DSt.write, h1, hi]
theorem Cutting.wrote {n N j : Nat} {s : DSt} (h : Cutting n N j s) (hj : j < N) (o : Nat) (t : ByteArray) (ho : o + t.size ≤ n) : Cutting n N (j + 1) (s.wrote o t) := by
  refine ⟨?_, ?_, h.dl, ?_, h.fresh.wrote o t, ?_⟩
  · show decide (s.left = 1) = decide (j + 1 = N)
    rw [h.left, decide_eq_decide]; omega
  · show s.left - 1 = _
    rw [h.left]; omega
  · show (lay s.vis (((o : Int)).toNat, t)).length = n
    rw [lay_length (by rw [h.vl]; exact ho), h.vl]
  · rw [wrote_pend]; simp [h.pl]
theorem Cutting.offed {n N : Nat} {s : DSt} (h : Cutting n N N s) : s.off = true := by rw [h.off]; simp
theorem Cutting.write_off {n N : Nat} {s : DSt} (h : Cutting n N N s) (o : Int) (t : ByteArray) : s.write o t = (251, s) := by simp [DSt.write, h.offed]
theorem Cutting.sync_off {n N : Nat} {s : DSt} (h : Cutting n N N s) : s.sync = (251, s) := by simp [DSt.sync, h.offed]
theorem Cutting.read_off {n N : Nat} {s : DSt} (h : Cutting n N N s) (o k : Int) : s.read o k = ([], 251) := by simp [DSt.read, h.offed]
theorem Cutting.cut_off {n N : Nat} {s : DSt} (h : Cutting n N N s) (k : Int) : s.cut k = (251, s) := by simp [DSt.cut, h.offed]
theorem Cutting.sync_on {n N j : Nat} {s : DSt} (h : Cutting n N j s) (hj : j < N) : s.sync = (0, s.synced) := by
  have h1 : s.off = false := by rw [h.off, decide_eq_false_iff_not]; omega
  simp [DSt.sync, h1]
theorem cut_on (s : DSt) (N : Nat) (h : s.off = false) : s.cut (N : Int) = (0, { s with off := decide (N = 0), left := N }) := by
  unfold DSt.cut
  rw [if_neg (by simp [h]), if_neg (by omega)]
  simp
/-- A new block of the law's own, where some of its old ones turned. -/
theorem DkL.onlyAdd {S : Nat → Prop} {B : Nat} {l : List Nat} {w w' : World} {p : Nat} {s : DSt} (h : DkL B l w p s) (o : Only S w w') (hS : ∀ k, S k → k ∈ l ∨ w.heap.size ≤ k) (g : Nat) (hg : w.heap.size ≤ g) (hg2 : g < w'.heap.size) : DkL B (g :: l) w' p s := by
  obtain ⟨⟨F, hd, hF⟩, hB, hl⟩ := h
  refine ⟨⟨F, hd.only o fun k e1 e2 => (hS k e2).elim (hF k e1).2 fun x => by have := hd.lt k e1; omega, fun k e => ⟨(hF k e).1, fun hm => ?_⟩⟩, Nat.le_trans hB o.size, fun j hj => ?_⟩
  · rcases List.mem_cons.1 hm with rfl | hm
    · have := hd.lt _ e; omega
    · exact (hF k e).2 hm
  · rcases List.mem_cons.1 hj with rfl | hj
    · exact hg2
    · exact Nat.lt_of_lt_of_le (hl j hj) o.size

set_option maxRecDepth 100000 in
set_option maxHeartbeats 40000000 in
theorem diskCut_any (a0 a1 : Int) (a2 : Option Addr) (len2 cap2 : Nat) (x2 : List WP) (w : World) (w0 : -9223372036854775808 ≤ a0 ∧ a0 ≤ 9223372036854775807) (w1 : -9223372036854775808 ≤ a1 ∧ a1 ≤ 9223372036854775807) (w2 : WPs w a2 len2 cap2 x2) :
    Calls Try.prog 10 #[.int .i64 a0, .int .i64 a1, .slice a2 len2 cap2] w fun e w' => e = .returned (.bool true) ∧ Below w.heap.size w w' := by
  have hcap := w2.hcap
  have hmax := w2.hmax
  unfold maxLen at hmax
  have HW := Lib.hid w2
  clear w2
  have p0 := pickI_nonneg a0 100 (by omega)
  have p1 := pickI_lt a0 100 (by omega)
  obtain ⟨n, hn⟩ : ∃ n : Nat, 1 + pickI a0 100 = (n : Int) := ⟨(1 + pickI a0 100).toNat, by omega⟩
  have hn1 : 1 ≤ n := by omega
  have hn2 : n ≤ 100 := by omega
  have HN := Lib.hid hn
  clear hn
  have hmk := run_make_row' (P := Try.prog) 40 5 (.int .u8 0) 1 Try.underlying40 info8 rfl .i64 .i64 n (by omega) (by omega)
  go_enter Try.func10, Try.ntmps10
  go_wp2_with fail
  refine (sane_any w).mono ?_
  rintro e v1 ⟨rfl, b1⟩
  have B1 := Lib.hid b1; clear b1
  go_wp2_with fail
  refine (pick_any a0 100 v1 w0.1 w0.2 (by omega) (by omega)).mono ?_
  rintro e v1' ⟨rfl, rfl⟩
  go_wp2_with fail
  refine (pick_any a1 20 v1 w1.1 w1.2 (by omega) (by omega)).mono ?_
  rintro e v1' ⟨rfl, rfl⟩
  have q0 := pickI_nonneg a1 20 (by omega)
  have q1 := pickI_lt a1 20 (by omega)
  obtain ⟨N, hN⟩ : ∃ N : Nat, pickI a1 20 = (N : Int) := ⟨(pickI a1 20).toNat, by omega⟩
  have hN20 : N < 20 := by omega
  rw [hN]
  clear q0 q1 hN
  go_wp2_with fail
  rw [HN.out]
  clear p0 p1
  refine (DkB.new n w.heap.size v1 B1.out.size hn1 (by omega)).mono ?_
  rintro e v2 ⟨p, rfl, d2, b2⟩
  have D2 := Lib.hid (DkL.start d2 (B1.out.trans b2).size); have B2 := Lib.hid (B1.out.trans b2); clear d2 b2
  go_wp2_with fail
  refine (D2.out.cut ((N : Int) + 5) (by omega)).mono ?_
  rintro e v3 ⟨rfl, t3⟩
  have e3 := cut_on (DSt.new n) (N + 5) rfl
  rw [show ((N + 5 : Nat) : Int) = (N : Int) + 5 by omega] at e3
  rw [e3] at t3 ⊢
  have D3 := Lib.hid t3.1
  have B3 := Lib.hid (t3.below B2.out D2.out.2.1)
  clear t3 e3
  go_wp2_with fail
  refine (D3.out.cut (N : Int) (by omega)).mono ?_
  rintro e v4 ⟨rfl, t4⟩
  rw [cut_on _ N rfl] at t4 ⊢
  have D4 := Lib.hid t4.1
  have B4 := Lib.hid (t4.below B3.out D3.out.2.1)
  clear t4
  have CU : Hid (Cutting n N 0 { off := decide (N = 0), left := N, dur := (DSt.new n).dur, vis := (DSt.new n).vis, pend := [] }) := ⟨by simp [eq_comm], rfl, (Calm.new n).dl, (Calm.new n).vl, rfl, rfl⟩
  have M4 := Lib.hid (D4.out.add ((Below.refl v4.heap.size v4).alloc (Nat.le_refl _) (.cells (madeCells #[Value.int .u8 0] n) 5)) v4.heap.size (Nat.le_refl _) (by simp))
  have N4 := Lib.hid (B4.out.alloc B4.out.size (.cells (madeCells #[Value.int .u8 0] n) 5))
  have K4 := Lib.hid (by rw [← made8]; exact Blk.new _ _ _ : Blk (v4.alloc (.cells (madeCells #[Value.int .u8 0] n) 5)) v4.heap.size 5 (cells8 (List.replicate n 0)).toArray)
  obtain ⟨iI, hiI, zi0, zi1, zi2⟩ := info_parts infoI
  have ZI := Lib.hid (And.intro hiI (And.intro zi0 (And.intro zi1 zi2)))
  clear hiI zi0 zi1 zi2
  go_wp2_with fail
  clear hmk
  go_loopw [11, 12] (fun u i wr => ∃ (U : Value) (k j : Nat) (s : DSt), U = u ∧ k ≤ len2 ∧ k ≤ 40 ∧ i = .int .i64 k ∧ j = min k N ∧ Cutting n N j s ∧ OwnInts v4.heap.size wr U ((List.range j).map fun i : Nat => (i : Int)) ∧ DkL w.heap.size (v4.heap.size :: U.ownBlock.toList) wr p s ∧ Blk wr v4.heap.size 5 (cells8 s.vis).toArray ∧ U.ownBlock ≠ some v4.heap.size ∧ Below w.heap.size w wr) (fun _ i _ => 40 - (intOf i).toNat)
  case atStart => exact ⟨_, 0, 0, _, rfl, Nat.zero_le _, Nat.zero_le _, rfl, by omega, CU.out, World.ownsRow_nil _ _ _ _, M4.out, K4.out, (fun e => by cases e), N4.out⟩
  case round =>
    obtain ⟨u, k, j, s, rfl, hk, hk2, rfl, hj, hC, hown, hD, hK, hne0, hB⟩ := hrel
    have HD := Lib.hid hD; have HK := Lib.hid hK; have HC := Lib.hid hC; have HB := Lib.hid hB; have HO := Lib.hid hown; have HN0 := Lib.hid hne0
    clear hD hK hC hB hown hne0
    by_cases hgo : k < len2 ∧ k < 40
    · obtain ⟨hlt, hlt2⟩ := hgo
      have hxl : k < x2.length := by rw [HW.out.hlen]; exact hlt
      obtain ⟨ab, ao, rfl, hal, g0, g1, g2⟩ := (HW.out.below (Nat.le_refl _) HB.out).get k hxl
      obtain ⟨x, hx⟩ : ∃ x, x = x2[k] := ⟨_, rfl⟩
      have hxm : x ∈ x2 := hx ▸ List.getElem_mem hxl
      rw [← hx] at g0 g1 g2
      have HX := Lib.hid hx
      clear hx
      have hxo := HW.out.hoff x hxm
      have hxs := HW.out.hsize x hxm
      have hfit := fit_fits x n
      go_wp2_with fail
      refine (fits_any x n wr hxo hxs (by omega)).mono ?_
      rintro e w3 ⟨rfl, b3⟩
      have B3a := Lib.hid (HB.out.trans (b3.mono HB.out.size))
      have D3a := Lib.hid (HD.out.below b3)
      have X3a := Lib.hid b3
      clear b3 g0 g1 g2
      obtain ⟨w4, hw4⟩ : ∃ w4, w4 = w3.alloc (.cells #[.int .i64 (fitO x n : Int), .string (fitS x n), .bool x.sync] 53) := ⟨_, rfl⟩
      have b4 : Below w3.heap.size w3 w4 := by rw [hw4]; exact (Below.refl w3.heap.size w3).alloc (Nat.le_refl _) _
      have NB : Hid (Blk w4 w3.heap.size 53 #[.int .i64 (fitO x n : Int), .string (fitS x n), .bool x.sync]) := by rw [hw4]; exact Blk.new w3 _ _
      have D4a := Lib.hid (D3a.out.add b4 w3.heap.size (Nat.le_refl _) (by rw [hw4]; simp))
      have B4a := Lib.hid (B3a.out.trans (b4.mono D3a.out.2.1))
      have X4 := Lib.hid (X3a.out.trans (b4.mono X3a.out.size))
      have HW4 := Lib.hid hw4
      have L3a := Lib.hid X3a.out.size
      clear hw4 b4
      go_wp2_with fail
      rw [← HW4.out]
      have n012 := three_cells NB.out
      obtain ⟨n0, n1, n2⟩ := n012
      have O4 := Lib.hid (ownsRow_only HO.out (Only.of_below X4.out (fun _ => False)) (fun _ _ e => e))
      have K4' := Lib.hid (HK.out.below X4.out HK.out.lt)
      have hne : Hid (w3.heap.size ≠ v4.heap.size) := by have := HK.out.lt; have := L3a.out; show _ ≠ _; omega
      have hpl : s.pend.length ≤ 1000000 := by rw [HC.out.pl]; omega
      refine (D4a.out.write (fitO x n) (fitS x n) hpl).mono ?_
      rintro e w6 ⟨rfl, t6⟩
      clear hpl
      by_cases hkN : k < N
      · obtain rfl : j = k := by omega
        clear hj
        rw [HC.out.write_eq hkN _ _ hfit] at t6 ⊢
        have NB6 := Lib.hid (t6.blk NB.out (by simp))
        have K6 := Lib.hid (t6.blk K4'.out (by simp))
        have O6 := Lib.hid (ownsRow_only O4.out t6.2 (fun g hg e => e.2 (by simp [hg])))
        have D6 := Lib.hid t6.1
        have B6 := Lib.hid (t6.below B4a.out D4a.out.2.1)
        have C6 := Lib.hid (HC.out.wrote hkN _ _ hfit)
        have V6 : Hid (lay s.vis (fitO x n, fitS x n) = (s.wrote (fitO x n) (fitS x n)).vis) := rfl
        generalize s.wrote (fitO x n) (fitS x n) = s6 at *
        clear t6 n0 n1 n2 NB
        obtain ⟨n0, n1, n2⟩ := three_cells NB6.out
        go_wp2_with fail
        refine (put_any _ v4.heap.size n (fitO x n) s.vis (fitS x n) K6.out HC.out.vl hfit (by omega)).mono ?_
        rintro e w7 ⟨rfl, hb7, o7⟩
        rw [V6.out] at hb7
        have K7 := Lib.hid hb7
        have D7 := Lib.hid (D6.out.only o7 (fun g e => .inl (by subst e; simp)))
        have O7 := Lib.hid (ownsRow_only O6.out o7 (fun g hg e => HN0.out (e ▸ hg)))
        have B7 := Lib.hid (B6.out.trans (o7.below D6.out.2.1 (fun g e => by have := B4.out.size; omega)))
        clear hb7 o7 n0 n1 n2
        have hown := O7.out
        go_wp2_with (at_builtin; refine wpList_append_own_at _ rfl _ _ 37 rfl v4.heap.size 3 iI (.int .i64 0) 1 8 Try.underlying37 ZI.out.1 ZI.out.2.1 ZI.out.2.2.1 ZI.out.2.2.2 rfl (by decide) _ _ _ rfl (hown.alloc _) ⟨w7.heap.size, 0, none⟩ 1 1 [.int .i64 (j : Int)] rfl rfl (cell_one_new _ _ _) (by simp [Value.oneCell']) (by unfold maxLen; simp; omega) (by simp; omega) (by have := K7.out.lt; simp; omega) ?_; intro v' w9 hown' hgrow _ hat)
        go_roundw
        case rel =>
          have hsz : v4.heap.size < w7.heap.size := K7.out.lt
          have hul : ∀ g, u.ownBlock = some g → g < w7.heap.size := fun g e => (O7.out.lt g e).2
          have o9 : Only (fun g => some g = u.ownBlock) w7 w9 := ((Only.refl _ w7).alloc _).trans (Only.of_grown hgrow) fun _ _ e => e
          have hv9 : ∀ g, v'.ownBlock = some g → v4.heap.size ≤ g ∧ g < w9.heap.size := fun g e => hown'.lt g e
          refine ⟨v', j + 1, j + 1, s6, rfl, hlt, hlt2, by go_num, by omega, C6.out, ?_, ?_, K7.out.only o9 (fun e => HN0.out e.symm), ?_, ?_⟩
          · unfold OwnInts; rw [List.range_succ]; simpa using hown'
          · rcases hat with ha | ha
            · rw [ha]
              exact (D7.out.only o9 (fun g e => .inl (by simp [← e]))).drop
            · rw [ha]
              refine (D7.out.onlyAdd o9 (fun g e => .inl (by simp [← e])) (w7.alloc (.cells #[.int .i64 (j : Int)] 3)).heap.size (by simp) (hv9 _ ha).2).sub (fun g hg => ?_)
              simp at hg ⊢
              omega
          · intro e
            rcases hat with ha | ha
            · exact HN0.out (ha ▸ e)
            · rw [ha] at e
              injection e with e
              simp at e
              omega
          · exact B7.out.trans (o9.below D7.out.2.1 (fun g e => by
              have := (O7.out.lt g e.symm).1
              have := B4.out.size; omega))
        case measure => simp [intOf]; omega
      · obtain rfl : j = N := by omega
        clear hj
        rw [HC.out.write_off] at t6 ⊢
        have NB6 := Lib.hid (t6.blk NB.out (by simp))
        have K6 := Lib.hid (t6.blk K4'.out (by simp))
        have O6 := Lib.hid (ownsRow_only O4.out t6.2 (fun g hg e => e.2 (by simp [hg])))
        have D6 := Lib.hid t6.1
        have B6 := Lib.hid (t6.below B4a.out D4a.out.2.1)
        clear t6 n0 n1 n2 NB
        obtain ⟨n0, n1, n2⟩ := three_cells NB6.out
        go_wp2_with fail
        go_roundw
        case rel => exact ⟨u, k + 1, j, s, rfl, hlt, hlt2, by go_num, by omega, HC.out, O6.out, D6.out.drop, K6.out, HN0.out, B6.out⟩
        case measure => simp [intOf]; omega
    · have hcs : (¬ k < len2) ∨ (k < len2 ∧ ¬ k < 40) := by omega
      obtain ⟨A, c, hu, _, _⟩ := ownNats_form HO.out
      rw [List.length_range] at hu
      subst hu
      have HI := Lib.hid (show Ints wr.heap.size wr (.slice A j c) ((List.range j).map fun i : Nat => (i : Int)) from by
        have := ownNats_ints (ks := List.range j) (A := A) (c := c) (by rw [List.length_range]; exact HO.out)
        rwa [List.length_range] at this)
      have CA : Hid (s.crash ((List.range j).map fun i : Nat => (i : Int)) (-1) = { off := false, left := 0, dur := s.vis, vis := s.vis, pend := [] }) := crash_all HC.out.fresh _ HC.out.pl.symm _ rfl
      have CC : Hid (Calm n { off := false, left := 0, dur := s.vis, vis := s.vis, pend := [] }) := ⟨rfl, rfl, HC.out.vl, HC.out.vl⟩
      have W9 : Hid (({ off := false, left := 0, dur := s.vis, vis := s.vis, pend := [] } : DSt).write 0 ⟨#[120]⟩ = (0, ({ off := false, left := 0, dur := s.vis, vis := s.vis, pend := [] } : DSt).wrote 0 ⟨#[120]⟩)) := CC.out.write_eq 0 ⟨#[120]⟩ (by show 0 + 1 ≤ n; omega)
      have S10 : Hid ((({ off := false, left := 0, dur := s.vis, vis := s.vis, pend := [] } : DSt).wrote 0 ⟨#[120]⟩).sync = (0, (({ off := false, left := 0, dur := s.vis, vis := s.vis, pend := [] } : DSt).wrote 0 ⟨#[120]⟩).synced)) := (CC.out.wrote 0 ⟨#[120]⟩ (by show 0 + 1 ≤ n; omega)).sync_eq
      clear hgo
      have hjN' : j ≤ N := by omega
      have hj20 : j < 20 := by omega
      have hjk : ¬ j < N → j = N := by omega
      clear hj
      by_cases hjN : j < N
      · have hs := HC.out.sync_on hjN
        have HS := Lib.hid hs
        clear hs
        rcases hcs with h1 | ⟨h1, h2⟩
        all_goals
          go_wp2_with fail
          refine HD.out.sync.mono ?_
          rintro e w6 ⟨rfl, t6⟩
          rw [HS.out] at t6 ⊢
          have B6 := Lib.hid (t6.below HB.out HD.out.2.1)
          clear t6
          go_wp2_with fail
          go_ret
          exact ⟨rfl, B6.out⟩
      · obtain rfl : j = N := hjk hjN
        clear hjk
        rcases hcs with h1 | ⟨h1, h2⟩
        all_goals
          go_wp2_with fail
          refine (HD.out.read 0 0).mono ?_
          rintro e w6 ⟨rfl, rfl⟩
          rw [HC.out.read_off]
          go_wp2_with fail
          refine HD.out.sync.mono ?_
          rintro e w6 ⟨rfl, t6⟩
          rw [HC.out.sync_off] at t6 ⊢
          have D6 := Lib.hid t6.1
          have B6 := Lib.hid (t6.below HB.out HD.out.2.1)
          have K6 := Lib.hid (t6.blk HK.out (by simp))
          have O6 := Lib.hid t6.2
          clear t6
          go_wp2_with fail
          refine (D6.out.cut 3 (by omega)).mono ?_
          rintro e w7 ⟨rfl, t7⟩
          rw [HC.out.cut_off] at t7 ⊢
          have D7 := Lib.hid t7.1
          have B7 := Lib.hid (t7.below B6.out D6.out.2.1)
          have K7 := Lib.hid (t7.blk K6.out (by simp))
          have O7 := Lib.hid (O6.out.trans' t7.2)
          clear t7
          go_wp2_with fail
          refine D7.out.pending.mono ?_
          rintro e w7' ⟨rfl, rfl⟩
          rw [HC.out.pl]
          go_wp2_with fail
          refine D7.out.size.mono ?_
          rintro e w7' ⟨rfl, rfl⟩
          rw [HC.out.dl]
          go_wp2_with fail
          have I7 : Ints w7.heap.size w7 (.slice A j c) ((List.range j).map fun i : Nat => (i : Int)) := by
            have hO7 := ownsRow_only HO.out O7.out (fun g hg e => e.2 (by simp [hg]))
            have := ownNats_ints (ks := List.range j) (A := A) (c := c) (by rw [List.length_range]; exact hO7)
            rwa [List.length_range] at this
          refine (D7.out.crash A j c _ I7 (by simp; omega) (-1) (by omega)).mono ?_
          rintro e w9 ⟨rfl, t9⟩
          clear I7
          rw [CA.out] at t9
          have D9 := Lib.hid t9.1
          have B9 := Lib.hid (t9.below B7.out D7.out.2.1)
          have K9 := t9.blk K7.out (by simp)
          clear t9
          have hcv := run_string K9 HC.out.vl
          clear K9
          go_wp2_with fail
          refine (D9.out.read 0 n).mono ?_
          rintro e w9' ⟨rfl, rfl⟩
          rw [CC.out.read_all]
          go_wp2_with fail
          refine (D9.out.write 0 _ (by simp)).mono ?_
          rintro e w10 ⟨rfl, t10⟩
          rw [W9.out] at t10 ⊢
          have D10 := Lib.hid t10.1
          have B10 := Lib.hid (t10.below B9.out D9.out.2.1)
          clear t10
          go_wp2_with fail
          refine D10.out.sync.mono ?_
          rintro e w11 ⟨rfl, t11⟩
          rw [S10.out] at t11 ⊢
          have B11 := Lib.hid (t11.below B10.out D10.out.2.1)
          clear t11
          go_wp2_with fail
          go_ret
          exact ⟨rfl, B11.out⟩
end Go.Proofs.Ytacincpecdkhiaa
