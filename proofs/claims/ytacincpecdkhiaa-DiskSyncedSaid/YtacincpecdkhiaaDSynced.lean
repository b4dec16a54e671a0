/-
  DiskSynced, walked.
-/
import Derived.Test.YtacincpecdkhiaaDL
namespace Go.Proofs.Ytacincpecdkhiaa
open Go.RowKit
set_option linter.unusedVariables false

set_option maxRecDepth 100000 in
set_option maxHeartbeats 4000000 in
theorem diskSynced_any (a0 : Int) (a1 : Option Addr) (len1 cap1 : Nat) (x1 : List WP) (a2 : Int) (w : World) (w0 : -9223372036854775808 ≤ a0 ∧ a0 ≤ 9223372036854775807) (w1 : WPs w a1 len1 cap1 x1) (w2 : -9223372036854775808 ≤ a2 ∧ a2 ≤ 9223372036854775807) :
    Calls Try.prog 7 #[.int .i64 a0, .slice a1 len1 cap1, .int .i64 a2] w fun e w' => e = .returned (.bool true) ∧ Below w.heap.size w w' := by
  have hcap := w1.hcap
  have hmax := w1.hmax
  unfold maxLen at hmax
  have HW := Lib.hid w1
  clear w1
  have p0 := pickI_nonneg a0 300 (by omega)
  have p1 := pickI_lt a0 300 (by omega)
  obtain ⟨n, hn⟩ : ∃ n : Nat, 1 + pickI a0 300 = (n : Int) := ⟨(1 + pickI a0 300).toNat, by omega⟩
  have hn1 : 1 ≤ n := by omega
  have hn2 : n ≤ 300 := by omega
  have HN := Lib.hid hn
  clear hn
  have hmk := run_make_row' (P := Try.prog) 40 5 (.int .u8 0) 1 Try.underlying40 info8 rfl .i64 .i64 n (by omega) (by omega)
  go_enter Try.func7, Try.ntmps7
  go_wp2_with fail
  refine (sane_any w).mono ?_
  rintro e v1 ⟨rfl, b1⟩
  have B1 := Lib.hid b1; clear b1
  go_wp2_with fail
  refine (pick_any a0 300 v1 w0.1 w0.2 (by omega) (by omega)).mono ?_
  rintro e v1' ⟨rfl, rfl⟩
  go_wp2_with fail
  rw [HN.out]
  clear p0 p1
  refine (DkB.new n w.heap.size v1 B1.out.size hn1 (by omega)).mono ?_
  rintro e v2 ⟨p, rfl, d2, b2⟩
  have D2 := Lib.hid (DkL.start d2 (B1.out.trans b2).size); have B2 := Lib.hid (B1.out.trans b2); clear d2 b2
  have M2 := Lib.hid (D2.out.add ((Below.refl v2.heap.size v2).alloc (Nat.le_refl _) (.cells (madeCells #[Value.int .u8 0] n) 5)) v2.heap.size (Nat.le_refl _) (by simp))
  have N2 := Lib.hid (B2.out.alloc B2.out.size (.cells (madeCells #[Value.int .u8 0] n) 5))
  have K2 := Lib.hid (by rw [← made8]; exact Blk.new _ _ _ : Blk (v2.alloc (.cells (madeCells #[Value.int .u8 0] n) 5)) v2.heap.size 5 (cells8 (List.replicate n 0)).toArray)
  have hcv0 := run_string (n := n) K2.out (by simp)
  go_wp2_with fail
  clear hcv0
  go_loopw [11, 12] (fun u i wr => ∃ (k : Nat) (s : DSt), k ≤ len1 ∧ k ≤ 60 ∧ i = .int .i64 k ∧ u = .string ⟨s.dur.toArray⟩ ∧ DkL w.heap.size [v2.heap.size] wr p s ∧ Blk wr v2.heap.size 5 (cells8 s.vis).toArray ∧ Calm n s ∧ s.pend.length ≤ k ∧ Below w.heap.size w wr) (fun _ i _ => 60 - (intOf i).toNat)
  case atStart => exact ⟨0, DSt.new n, Nat.zero_le _, Nat.zero_le _, rfl, rfl, M2.out, K2.out, Calm.new n, Nat.le_refl _, N2.out⟩
  case round =>
    obtain ⟨k, s, hk, hk2, rfl, rfl, hD, hK, hC, hP, hB⟩ := hrel
    have HD := Lib.hid hD; have HK := Lib.hid hK; have HC := Lib.hid hC; have HB := Lib.hid hB
    clear hD hK hC hB
    by_cases hgo : k < len1 ∧ k < 60
    · obtain ⟨hlt, hlt2⟩ := hgo
      have hxl : k < x1.length := by rw [HW.out.hlen]; exact hlt
      obtain ⟨ab, ao, rfl, hal, g0, g1, g2⟩ := (HW.out.below (Nat.le_refl _) HB.out).get k hxl
      obtain ⟨x, hx⟩ : ∃ x, x = x1[k] := ⟨_, rfl⟩
      have hxm : x ∈ x1 := hx ▸ List.getElem_mem hxl
      rw [← hx] at g0 g1 g2
      have HX := Lib.hid hx
      clear hx
      have hxo := HW.out.hoff x hxm
      have hxs := HW.out.hsize x hxm
      have hfit := fit_fits x n
      go_wp2_with fail
      refine (fits_any x n wr hxo hxs (by omega)).mono ?_
      rintro e w3 ⟨rfl, b3⟩
      have B3 := Lib.hid (HB.out.trans (b3.mono HB.out.size))
      have D3 := Lib.hid (HD.out.below b3)
      have X3 := Lib.hid b3
      clear b3 g0 g1 g2
      obtain ⟨w4, hw4⟩ : ∃ w4, w4 = w3.alloc (.cells #[.int .i64 (fitO x n : Int), .string (fitS x n), .bool x.sync] 53) := ⟨_, rfl⟩
      have b4 : Below w3.heap.size w3 w4 := by rw [hw4]; exact (Below.refl w3.heap.size w3).alloc (Nat.le_refl _) _
      have NB : Hid (Blk w4 w3.heap.size 53 #[.int .i64 (fitO x n : Int), .string (fitS x n), .bool x.sync]) := by rw [hw4]; exact Blk.new w3 _ _
      have D4 := Lib.hid (D3.out.add b4 w3.heap.size (Nat.le_refl _) (by rw [hw4]; simp))
      have B4 := Lib.hid (B3.out.trans (b4.mono D3.out.2.1))
      have X4 := Lib.hid (X3.out.trans (b4.mono X3.out.size))
      have HW4 := Lib.hid hw4
      have L3 := Lib.hid X3.out.size
      clear hw4 b4
      go_wp2_with fail
      rw [← HW4.out]
      have n012 := three_cells NB.out
      obtain ⟨n0, n1, n2⟩ := n012
      have K4 := Lib.hid (HK.out.below X4.out HK.out.lt)
      have hne : w3.heap.size ≠ v2.heap.size := by have := HK.out.lt; have := L3.out; omega
      refine (put_any _ v2.heap.size n (fitO x n) s.vis (fitS x n) K4.out HC.out.vl hfit (by omega)).mono ?_
      rintro e w5 ⟨rfl, hb5, o5⟩
      have NB5 := Lib.hid (NB.out.only o5 hne)
      have D5 := Lib.hid (D4.out.only o5 (fun k e => .inl (by subst e; simp)))
      have K5 := Lib.hid hb5
      have B5 := Lib.hid (B4.out.trans (o5.below D4.out.2.1 (fun k e => by have := (B2.out.size); omega)))
      clear hb5 o5 n0 n1 n2
      obtain ⟨n0, n1, n2⟩ := three_cells NB5.out
      go_wp2_with fail
      refine (D5.out.write (fitO x n) (fitS x n) (by omega)).mono ?_
      rintro e w6 ⟨rfl, t6⟩
      rw [HC.out.write_eq _ _ hfit] at t6 ⊢
      have NB6 := Lib.hid (t6.blk NB5.out (by simp))
      have K6 := Lib.hid (t6.blk K5.out (by simp))
      have D6 := Lib.hid t6.1
      have B6 := Lib.hid (t6.below B5.out D5.out.2.1)
      have C6 := Lib.hid (HC.out.wrote _ _ hfit)
      clear t6 n0 n1 n2 NB NB5
      obtain ⟨n0, n1, n2⟩ := three_cells NB6.out
      have e6 : (s.wrote (fitO x n) (fitS x n)).pend.length ≤ k + 1 := by rw [wrote_pend]; simp; exact hP
      have P6 := Lib.hid e6
      clear e6 hP
      generalize hs6 : s.wrote (fitO x n) (fitS x n) = s6 at *
      have v6 : lay s.vis (fitO x n, fitS x n) = s6.vis := by rw [← hs6]; rfl
      rw [v6] at K6
      clear v6
      have dd : s6.dur = s.dur := by rw [← hs6]; rfl
      have DD := Lib.hid dd
      clear dd hs6
      generalize x.sync = y at *
      cases y
      · go_wp2_with fail
        go_roundw
        case rel => exact ⟨k + 1, s6, hlt, hlt2, by go_num, by rw [DD.out], D6.out.drop, K6.out, C6.out, P6.out, B6.out⟩
        case measure => simp [intOf]; omega
      · go_wp2_with fail
        refine D6.out.sync.mono ?_
        rintro e w7 ⟨rfl, t7⟩
        rw [C6.out.sync_eq] at t7 ⊢
        have NB7 := Lib.hid (t7.blk NB6.out (by simp))
        have K7 := Lib.hid (t7.blk K6.out (by simp))
        have D7 := Lib.hid t7.1
        have B7 := Lib.hid (t7.below B6.out D6.out.2.1)
        have C7 := Lib.hid C6.out.synced
        clear t7 n0 n1 n2
        obtain ⟨n0, n1, n2⟩ := three_cells NB7.out
        have hcv := run_string K7.out C6.out.vl
        go_wp2_with fail
        go_roundw
        case rel => exact ⟨k + 1, s6.synced, hlt, hlt2, by go_num, rfl, D7.out.drop, K7.out, C7.out, by show 0 ≤ _; omega, B7.out⟩
        case measure => simp [intOf]; omega
    · have hcs : (¬ k < len1) ∨ (k < len1 ∧ ¬ k < 60) := by omega
      have CR : Hid (s.crash [] a2 = { off := false, left := 0, dur := s.dur, vis := s.dur, pend := [] }) := crash_none s a2
      have CC : Hid (Calm n { off := false, left := 0, dur := s.dur, vis := s.dur, pend := [] }) := ⟨rfl, rfl, HC.out.dl, HC.out.dl⟩
      clear hgo hP
      rcases hcs with h1 | ⟨h1, h2⟩
      all_goals
        go_wp2_with fail
        refine (HD.out.crash none 0 0 [] (nil_ints _ _) (by simp) a2 w2.2).mono ?_
        rintro e w6 ⟨rfl, t6⟩
        rw [CR.out] at t6
        have D6 := Lib.hid t6.1
        have B6 := Lib.hid (t6.below HB.out HD.out.2.1)
        clear t6
        go_wp2_with fail
        refine (D6.out.read 0 n).mono ?_
        rintro e w6' ⟨rfl, rfl⟩
        rw [CC.out.read_all]
        go_wp2_with fail
        refine D6.out.pending.mono ?_
        rintro e w6' ⟨rfl, rfl⟩
        rw [show ({ off := false, left := 0, dur := s.dur, vis := s.dur, pend := [] } : DSt).pend.length = 0 from rfl]
        go_wp2_with fail
        go_ret
        exact ⟨rfl, B6.out⟩
end Go.Proofs.Ytacincpecdkhiaa
