/-
  DiskReadsBack, walked.
-/
import Derived.Test.YtacincpecdkhiaaDCalm
namespace Go.Proofs.Ytacincpecdkhiaa
open Go.RowKit
set_option linter.unusedVariables false

set_option maxRecDepth 100000 in
set_option maxHeartbeats 2000000 in
theorem diskReadsBack_any (a0 : Int) (a1 : Option Addr) (len1 cap1 : Nat) (x1 : List WP) (w : World) (w0 : -9223372036854775808 ≤ a0 ∧ a0 ≤ 9223372036854775807) (w1 : WPs w a1 len1 cap1 x1) :
    Calls Try.prog 6 #[.int .i64 a0, .slice a1 len1 cap1] w fun e w' => e = .returned (.bool true) ∧ Below w.heap.size w w' := by
  have hcap := w1.hcap
  have hmax := w1.hmax
  unfold maxLen at hmax
  have HW := Lib.hid w1
  clear w1
  have p0 := pickI_nonneg a0 300 (by omega)
  have p1 := pickI_lt a0 300 (by omega)
  obtain ⟨n, hn⟩ : ∃ n : Nat, 1 + pickI a0 300 = (n : Int) := ⟨(1 + pickI a0 300).toNat, by omega⟩
  have hn1 : 1 ≤ n := by omega
  have hn2 : n ≤ 300 := by omega
  have HN := Lib.hid hn
  clear hn
  have hmk := run_make_row' (P := Try.prog) 40 5 (.int .u8 0) 1 Try.underlying40 info8 rfl .i64 .i64 n (by omega) (by omega)
  go_enter Try.func6, Try.ntmps6
  go_wp2_with fail
  refine (sane_any w).mono ?_
  rintro e v1 ⟨rfl, b1⟩
  have B1 := Lib.hid b1; clear b1
  go_wp2_with fail
  refine (pick_any a0 300 v1 w0.1 w0.2 (by omega) (by omega)).mono ?_
  rintro e v1' ⟨rfl, rfl⟩
  go_wp2_with fail
  rw [HN.out]
  clear p0 p1
  refine (DkB.new n w.heap.size v1 B1.out.size hn1 (by omega)).mono ?_
  rintro e v2 ⟨p, rfl, d2, b2⟩
  have D2 := Lib.hid d2; have B2 := Lib.hid (B1.out.trans b2); clear d2 b2
  go_wp2_with fail
  have M := DkBs.made D2.out B2.out.size n
  have hM := Lib.hid (show DkBs w.heap.size (v2.heap.size + 1) (v2.alloc (.cells (madeCells #[Value.int .u8 0] n) 5)) p (DSt.new n) v2.heap.size (List.replicate n 0) ∧ Below w.heap.size w (v2.alloc (.cells (madeCells #[Value.int .u8 0] n) 5)) from ⟨M.1.more (by omega), B2.out.trans M.2⟩)
  clear M
  go_loopw [9] (fun i wr => ∃ (k : Nat) (s : DSt), k ≤ len1 ∧ k ≤ 60 ∧ i = .int .i64 k ∧ DkBs w.heap.size wr.heap.size wr p s v2.heap.size s.vis ∧ Calm n s ∧ s.pend.length ≤ k ∧ Below w.heap.size w wr) (fun i _ => 60 - (intOf i).toNat)
  case atStart => exact ⟨0, DSt.new n, Nat.zero_le _, Nat.zero_le _, rfl, by rw [World.size_alloc]; exact hM.out.1, Calm.new n, Nat.le_refl _, hM.out.2⟩
  case round =>
    obtain ⟨k, s, hk, hk2, rfl, hD, hC, hP, hB⟩ := hrel
    have HD := Lib.hid hD; have HC := Lib.hid hC; have HB := Lib.hid hB
    clear hD hC hB
    by_cases hlt : k < len1
    · by_cases hlt2 : k < 60
      · have hxl : k < x1.length := by rw [HW.out.hlen]; exact hlt
        obtain ⟨ab, ao, rfl, hal, g0, g1, g2⟩ := (HW.out.below (Nat.le_refl _) HB.out).get k hxl
        obtain ⟨x, hx⟩ : ∃ x, x = x1[k] := ⟨_, rfl⟩
        have hxm : x ∈ x1 := hx ▸ List.getElem_mem hxl
        rw [← hx] at g0 g1 g2
        clear hx
        have hxo := HW.out.hoff x hxm
        have hxs := HW.out.hsize x hxm
        have hfit := fit_fits x n
        go_wp2_with fail
        refine (fits_any x n wr hxo hxs (by omega)).mono ?_
        rintro e w3 ⟨rfl, b3⟩
        have D3 := Lib.hid (HD.out.only b3)
        have L3 := Lib.hid b3.size
        have B3 := Lib.hid (HB.out.trans (b3.mono HB.out.size))
        clear b3 g0 g1 g2
        have nb := Blk.new w3 53 #[.int .i64 (fitO x n : Int), .string (fitS x n), .bool x.sync]
        have D4 := Lib.hid (D3.out.only ((Below.refl w3.heap.size w3).alloc (Nat.le_refl _) (.cells #[.int .i64 (fitO x n : Int), .string (fitS x n), .bool x.sync] 53)))
        have B4 := Lib.hid (B3.out.alloc D3.out.lt (.cells #[.int .i64 (fitO x n : Int), .string (fitS x n), .bool x.sync] 53))
        have NB := Lib.hid nb
        clear nb
        go_wp2_with fail
        refine (put_any _ v2.heap.size n (fitO x n) s.vis (fitS x n) D4.out.blk HC.out.vl hfit (by omega)).mono ?_
        rintro e w5 ⟨rfl, hb5, o5⟩
        obtain ⟨nb5, n0, n1, n2⟩ := three NB.out o5 (by have := D3.out.glt; omega)
        have NB5 := Lib.hid nb5
        have P5 := D4.out.put hb5 o5
        have D5 := Lib.hid P5.1
        have B5 := Lib.hid (B4.out.trans P5.2)
        clear nb5 hb5 o5 P5
        go_wp2_with fail
        refine (D5.out.write (fitO x n) (fitS x n) (by omega)).mono ?_
        rintro e w6 ⟨rfl, t6⟩
        rw [HC.out.write_eq _ _ hfit] at t6 ⊢
        clear n0 n1 n2
        obtain ⟨nb6, n0, n1, n2⟩ := three NB5.out t6.2 (by have := L3.out; omega)
        have D6 := Lib.hid t6.1
        have B6 := Lib.hid (t6.below B5.out D5.out.glt D5.out.gB)
        have C6 := Lib.hid (HC.out.wrote _ _ hfit)
        clear nb6 t6 NB NB5
        have e6 : (s.wrote (fitO x n) (fitS x n)).pend.length ≤ k + 1 := by rw [wrote_pend]; simp; exact hP
        have P6 := Lib.hid e6
        clear e6 hP
        generalize hs6 : s.wrote (fitO x n) (fitS x n) = s6 at *
        have v6 : lay s.vis (fitO x n, fitS x n) = s6.vis := by rw [← hs6]; rfl
        rw [v6] at D6
        clear v6 hs6
        generalize x.sync = y at *
        cases y
        · have hcv := run_string D6.out.blk C6.out.vl
          go_wp2_with fail
          refine (D6.out.dk.read 0 n).mono ?_
          rintro e w6' ⟨rfl, rfl⟩
          rw [C6.out.read_all]
          go_wp2_with fail
          go_roundw
          case rel => exact ⟨k + 1, s6, hlt, hlt2, by go_num, D6.out, C6.out, P6.out, B6.out⟩
          case measure => simp [intOf]; omega
        · go_wp2_with fail
          refine D6.out.sync.mono ?_
          rintro e w7 ⟨rfl, t7⟩
          rw [C6.out.sync_eq] at t7 ⊢
          have D7 := Lib.hid t7.1
          have B7 := Lib.hid (t7.below B6.out D6.out.glt D6.out.gB)
          have C7 := Lib.hid C6.out.synced
          have hcv := run_string t7.1.blk C6.out.vl
          clear t7
          go_wp2_with fail
          refine (D7.out.dk.read 0 n).mono ?_
          rintro e w7' ⟨rfl, rfl⟩
          rw [C7.out.read_all, show s6.synced.vis = s6.vis from rfl]
          go_wp2_with fail
          go_roundw
          case rel => exact ⟨k + 1, s6.synced, hlt, hlt2, by go_num, D7.out, C7.out, by show 0 ≤ _; omega, B7.out⟩
          case measure => simp [intOf]; omega
      · obtain rfl : k = 60 := by omega
        clear hP
        go_wp2
        go_ret
        exact ⟨rfl, HB.out⟩
    · go_wp2
      go_ret
      exact ⟨rfl, HB.out⟩
end Go.Proofs.Ytacincpecdkhiaa
