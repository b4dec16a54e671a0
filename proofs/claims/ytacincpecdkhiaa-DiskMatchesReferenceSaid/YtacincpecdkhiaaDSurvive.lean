/-
  DiskAllSurvive, walked.
-/
import Derived.Test.YtacincpecdkhiaaDL
namespace Go.Proofs.Ytacincpecdkhiaa
open Go.RowKit
set_option linter.unusedVariables false

theorem ownNats_ints {B : Nat} {w : World} {A : Option Addr} {c : Nat} {ks : List Nat} (h : OwnInts B w (.slice A ks.length c) (ks.map fun i : Nat => (i : Int))) : Ints w.heap.size w (.slice A ks.length c) (ks.map fun i : Nat => (i : Int)) := by
  by_cases h0 : ks.length = 0
  · have : ks = [] := List.eq_nil_of_length_eq_zero h0
    subst this
    exact .inl ⟨⟨A, c, rfl⟩, rfl⟩
  · rcases ownInts_cases h with ⟨h1, _⟩ | ⟨g, cap, cur, he, hb, hg, hn, hm, hs, ht⟩
    · simp at h1; subst h1; simp at h0
    · injection he with h1 h2 h3
      subst h1
      refine .inr ⟨g, 0, c, by rw [List.length_map], (Array.getElem?_eq_some_iff.1 hg).1, fun j hj => ?_⟩
      have hj' : j < ks.length := by simpa using hj
      rw [Nat.zero_add, ownNats_cell h j hj']
      simp [hj']

/-- All pending writes laid, none torn. -/
theorem layAll_whole (p : List (Nat × ByteArray)) (torn : Int) (ht : torn < 0) : ∀ (l : List Nat) (b : List UInt8), DSt.layAll p torn l b = l.foldl (fun b i => lay b (p[i]?.getD (0, ByteArray.empty))) b
  | [], b => rfl
  | [i], b => by simp [DSt.layAll, DSt.tear, show ¬ 0 ≤ torn from by omega]
  | i :: j :: r, b => by
    have := layAll_whole p torn ht (j :: r) (lay b (p[i]?.getD (0, ByteArray.empty)))
    simp only [DSt.layAll, this, List.foldl_cons]
theorem foldl_range (p : List (Nat × ByteArray)) (b : List UInt8) : (List.range p.length).foldl (fun b i => lay b (p[i]?.getD (0, ByteArray.empty))) b = p.foldl lay b := by
  have h : ∀ m, m ≤ p.length → (List.range m).foldl (fun b i => lay b (p[i]?.getD (0, ByteArray.empty))) b = (p.take m).foldl lay b := by
    intro m
    induction m with
    | zero => intro _; simp
    | succ m ih =>
      intro hm
      rw [List.range_succ, List.foldl_append, ih (by omega), List.take_succ_eq_append_getElem (by omega), List.foldl_append]
      have : m < p.length := by omega
      simp [this]
  rw [h _ (Nat.le_refl _), List.take_length]
/-- What is visible is the durable content after the pending writes. -/
def Fresh (s : DSt) : Prop := s.vis = s.pend.foldl lay s.dur
theorem Fresh.wrote {s : DSt} (h : Fresh s) (o : Nat) (t : ByteArray) : Fresh (s.wrote o t) := by
  unfold Fresh at *
  rw [wrote_vis, wrote_pend, wrote_dur, List.foldl_append, ← h]
  rfl
theorem Fresh.synced (s : DSt) : Fresh s.synced := rfl
theorem Fresh.new (n : Nat) : Fresh (DSt.new n) := rfl
theorem crash_all {s : DSt} (h : Fresh s) (m : Nat) (hm : m = s.pend.length) (keep : List Int) (hk : keep = (List.range m).map fun i : Nat => (i : Int)) : s.crash keep (-1) = { off := false, left := 0, dur := s.vis, vis := s.vis, pend := [] } := by
  have e : s.kept keep = List.range s.pend.length := by
    unfold DSt.kept
    rw [List.filter_eq_self]
    intro i hi
    rw [hk, hm]
    simp only [decide_eq_true_eq, List.mem_map, List.mem_range]
    exact ⟨i, List.mem_range.1 hi, rfl⟩
  unfold DSt.crash
  rw [e, layAll_whole _ _ (by omega), foldl_range, ← h]

set_option maxRecDepth 100000 in
set_option maxHeartbeats 4000000 in
theorem diskAllSurvive_any (a0 : Int) (a1 : Option Addr) (len1 cap1 : Nat) (x1 : List WP) (w : World) (w0 : -9223372036854775808 ≤ a0 ∧ a0 ≤ 9223372036854775807) (w1 : WPs w a1 len1 cap1 x1) :
    Calls Try.prog 9 #[.int .i64 a0, .slice a1 len1 cap1] w fun e w' => e = .returned (.bool true) ∧ Below w.heap.size w w' := by
  have hcap := w1.hcap
  have hmax := w1.hmax
  unfold maxLen at hmax
  have HW := Lib.hid w1
  clear w1
  have p0 := pickI_nonneg a0 300 (by omega)
  have p1 := pickI_lt a0 300 (by omega)
  obtain ⟨n, hn⟩ : ∃ n : Nat, 1 + pickI a0 300 = (n : Int) := ⟨(1 + pickI a0 300).toNat, by omega⟩
  have hn1 : 1 ≤ n := by omega
  have hn2 : n ≤ 300 := by omega
  have HN := Lib.hid hn
  clear hn
  have hmk := run_make_row' (P := Try.prog) 40 5 (.int .u8 0) 1 Try.underlying40 info8 rfl .i64 .i64 n (by omega) (by omega)
  go_enter Try.func9, Try.ntmps9
  go_wp2_with fail
  refine (sane_any w).mono ?_
  rintro e v1 ⟨rfl, b1⟩
  have B1 := Lib.hid b1; clear b1
  go_wp2_with fail
  refine (pick_any a0 300 v1 w0.1 w0.2 (by omega) (by omega)).mono ?_
  rintro e v1' ⟨rfl, rfl⟩
  go_wp2_with fail
  rw [HN.out]
  clear p0 p1
  refine (DkB.new n w.heap.size v1 B1.out.size hn1 (by omega)).mono ?_
  rintro e v2 ⟨p, rfl, d2, b2⟩
  have D2 := Lib.hid (DkL.start d2 (B1.out.trans b2).size); have B2 := Lib.hid (B1.out.trans b2); clear d2 b2
  go_wp2_with fail
  obtain ⟨iI, hiI, zi0, zi1, zi2⟩ := info_parts infoI
  have ZI := Lib.hid (And.intro hiI (And.intro zi0 (And.intro zi1 zi2)))
  clear hiI zi0 zi1 zi2 hmk
  go_loopw [8] (fun i wr => ∃ (k : Nat) (s : DSt), k ≤ len1 ∧ k ≤ 60 ∧ i = .int .i64 k ∧ DkL w.heap.size [] wr p s ∧ Calm n s ∧ Fresh s ∧ s.pend.length ≤ k ∧ Below w.heap.size w wr) (fun i _ => 60 - (intOf i).toNat)
  case atStart => exact ⟨0, DSt.new n, Nat.zero_le _, Nat.zero_le _, rfl, D2.out, Calm.new n, Fresh.new n, Nat.le_refl _, B2.out⟩
  case round =>
    obtain ⟨k, s, hk, hk2, rfl, hD, hC, hR, hP, hB⟩ := hrel
    have HD := Lib.hid hD; have HR := Lib.hid hR; have HC := Lib.hid hC; have HB := Lib.hid hB
    clear hD hR hC hB
    by_cases hgo : k < len1 ∧ k < 60
    · obtain ⟨hlt, hlt2⟩ := hgo
      have hxl : k < x1.length := by rw [HW.out.hlen]; exact hlt
      obtain ⟨ab, ao, rfl, hal, g0, g1, g2⟩ := (HW.out.below (Nat.le_refl _) HB.out).get k hxl
      obtain ⟨x, hx⟩ : ∃ x, x = x1[k] := ⟨_, rfl⟩
      have hxm : x ∈ x1 := hx ▸ List.getElem_mem hxl
      rw [← hx] at g0 g1 g2
      have HX := Lib.hid hx
      clear hx
      have hxo := HW.out.hoff x hxm
      have hxs := HW.out.hsize x hxm
      have hfit := fit_fits x n
      go_wp2_with fail
      refine (fits_any x n wr hxo hxs (by omega)).mono ?_
      rintro e w3 ⟨rfl, b3⟩
      have B3 := Lib.hid (HB.out.trans (b3.mono HB.out.size))
      have D3 := Lib.hid (HD.out.below b3)
      have X3 := Lib.hid b3
      clear b3 g0 g1 g2
      obtain ⟨w4, hw4⟩ : ∃ w4, w4 = w3.alloc (.cells #[.int .i64 (fitO x n : Int), .string (fitS x n), .bool x.sync] 53) := ⟨_, rfl⟩
      have b4 : Below w3.heap.size w3 w4 := by rw [hw4]; exact (Below.refl w3.heap.size w3).alloc (Nat.le_refl _) _
      have NB : Hid (Blk w4 w3.heap.size 53 #[.int .i64 (fitO x n : Int), .string (fitS x n), .bool x.sync]) := by rw [hw4]; exact Blk.new w3 _ _
      have D4 := Lib.hid (D3.out.add b4 w3.heap.size (Nat.le_refl _) (by rw [hw4]; simp))
      have B4 := Lib.hid (B3.out.trans (b4.mono D3.out.2.1))
      have X4 := Lib.hid (X3.out.trans (b4.mono X3.out.size))
      have HW4 := Lib.hid hw4
      have L3 := Lib.hid X3.out.size
      clear hw4 b4
      go_wp2_with fail
      rw [← HW4.out]
      have n012 := three_cells NB.out
      obtain ⟨n0, n1, n2⟩ := n012
      refine (D4.out.write (fitO x n) (fitS x n) (by omega)).mono ?_
      rintro e w6 ⟨rfl, t6⟩
      rw [HC.out.write_eq _ _ hfit] at t6 ⊢
      have NB6 := Lib.hid (t6.blk NB.out (by simp))
      have D6 := Lib.hid t6.1
      have B6 := Lib.hid (t6.below B4.out D4.out.2.1)
      have C6 := Lib.hid (HC.out.wrote _ _ hfit)
      have R6 := Lib.hid (HR.out.wrote (fitO x n) (fitS x n))
      clear t6 n0 n1 n2 NB
      obtain ⟨n0, n1, n2⟩ := three_cells NB6.out
      have e6 : (s.wrote (fitO x n) (fitS x n)).pend.length ≤ k + 1 := by rw [wrote_pend]; simp; exact hP
      have P6 := Lib.hid e6
      clear e6 hP
      generalize hs6 : s.wrote (fitO x n) (fitS x n) = s6 at *
      clear hs6
      generalize x.sync = y at *
      cases y
      · go_wp2_with fail
        go_roundw
        case rel => exact ⟨k + 1, s6, hlt, hlt2, by go_num, D6.out.drop, C6.out, R6.out, P6.out, B6.out⟩
        case measure => simp [intOf]; omega
      · go_wp2_with fail
        refine D6.out.sync.mono ?_
        rintro e w7 ⟨rfl, t7⟩
        rw [C6.out.sync_eq] at t7 ⊢
        have D7 := Lib.hid t7.1
        have B7 := Lib.hid (t7.below B6.out D6.out.2.1)
        have C7 := Lib.hid C6.out.synced
        clear t7 n0 n1 n2
        go_wp2_with fail
        go_roundw
        case rel => exact ⟨k + 1, s6.synced, hlt, hlt2, by go_num, D7.out.drop, C7.out, Fresh.synced _, by show 0 ≤ _; omega, B7.out⟩
        case measure => simp [intOf]; omega
    · have hcs : (¬ k < len1) ∨ (k < len1 ∧ ¬ k < 60) := by omega
      have hpm : s.pend.length ≤ 60 := by omega
      have CC : Hid (Calm n { off := false, left := 0, dur := s.vis, vis := s.vis, pend := [] }) := ⟨rfl, rfl, HC.out.vl, HC.out.vl⟩
      have CR : Hid (({ off := false, left := 0, dur := s.vis, vis := s.vis, pend := [] } : DSt).crash [] 0 = { off := false, left := 0, dur := s.vis, vis := s.vis, pend := [] }) := crash_none _ 0
      clear hgo hP
      obtain ⟨wo, rfl⟩ : ∃ wo : World, wo = wr := ⟨_, rfl⟩
      rcases hcs with h1 | ⟨h1, h2⟩
      all_goals
        go_wp2_with fail
        refine (HD.out.read 0 n).mono ?_
        rintro e w6' ⟨rfl, rfl⟩
        rw [HC.out.read_all]
        go_wp2_with fail
        go_loopw [12, 13] (fun u i wz => ∃ (m : Nat), m ≤ s.pend.length ∧ i = .int .i64 m ∧ OwnInts wo.heap.size wz u ((List.range m).map fun i : Nat => (i : Int)) ∧ Below wo.heap.size wo wz) (fun _ i _ => s.pend.length - (intOf i).toNat)
        case atStart => exact ⟨0, Nat.zero_le _, rfl, World.ownsRow_nil _ _ _ _, Below.refl _ _⟩
        case round =>
          obtain ⟨m, hm, rfl, hown, hbz⟩ := hrel
          have HO := Lib.hid hown
          have HZ := Lib.hid hbz
          have hDz := Lib.hid (HD.out.below hbz)
          clear hown hbz
          by_cases hlm : m < s.pend.length
          · go_wp2_with fail
            refine hDz.out.pending.mono ?_
            rintro e w8 ⟨rfl, rfl⟩
            have hown := HO.out
            unfold OwnInts at hown
            go_wp2_with (at_builtin; refine wpList_append_own _ rfl _ _ 37 rfl wo.heap.size 3 iI (.int .i64 0) 1 8 Try.underlying37 ZI.out.1 ZI.out.2.1 ZI.out.2.2.1 ZI.out.2.2.2 rfl (by decide) _ _ _ rfl (hown.alloc _) ⟨wr.heap.size, 0, none⟩ 1 1 [.int .i64 (m : Int)] rfl rfl (cell_one_new _ _ _) (by simp [Value.oneCell']) (by unfold maxLen; simp; omega) (by simp; omega) (by have := HZ.out.size; simp; omega) ?_; intro v' w9 hown' hgrow _)
            go_roundw
            case rel => exact ⟨m + 1, hlm, by go_num, by unfold OwnInts; rw [List.range_succ]; simpa using hown', (HZ.out.alloc HZ.out.size _).grown hgrow (by have := HZ.out.size; simp; omega) (fun k hk => (HO.out.lt k hk).1)⟩
            case measure => simp [intOf]; omega
          · obtain rfl : m = s.pend.length := by omega
            obtain ⟨A, c, hu, _, _⟩ := ownNats_form HO.out
            rw [List.length_range] at hu
            subst hu
            have HI := Lib.hid (show Ints wr.heap.size wr (.slice A s.pend.length c) ((List.range s.pend.length).map fun i : Nat => (i : Int)) from by
              have := ownNats_ints (ks := List.range s.pend.length) (A := A) (c := c) (by rw [List.length_range]; exact HO.out)
              rwa [List.length_range] at this)
            have HB2 := Lib.hid (HB.out.trans (HZ.out.mono HD.out.2.1))
            have CA : Hid (s.crash ((List.range s.pend.length).map fun i : Nat => (i : Int)) (-1) = { off := false, left := 0, dur := s.vis, vis := s.vis, pend := [] }) := crash_all HR.out _ rfl _ rfl
            go_wp2_with fail
            refine hDz.out.pending.mono ?_
            rintro e w8 ⟨rfl, rfl⟩
            go_wp2_with fail
            refine (hDz.out.crash A s.pend.length c _ HI.out (by simp; omega) (-1) (by omega)).mono ?_
            rintro e w9 ⟨rfl, t9⟩
            rw [CA.out] at t9
            have D9 := Lib.hid t9.1
            have B9 := Lib.hid (t9.below HB2.out hDz.out.2.1)
            clear t9
            go_wp2_with fail
            refine (D9.out.read 0 n).mono ?_
            rintro e w9' ⟨rfl, rfl⟩
            rw [CC.out.read_all]
            go_wp2_with fail
            refine (D9.out.crash none 0 0 [] (nil_ints _ _) (by simp) 0 (by omega)).mono ?_
            rintro e w10 ⟨rfl, t10⟩
            rw [CR.out] at t10
            have D10 := Lib.hid t10.1
            have B10 := Lib.hid (t10.below B9.out D9.out.2.1)
            clear t10
            go_wp2_with fail
            refine (D10.out.read 0 n).mono ?_
            rintro e w10' ⟨rfl, rfl⟩
            rw [CC.out.read_all]
            go_wp2_with fail
            go_ret
            exact ⟨rfl, B10.out⟩
end Go.Proofs.Ytacincpecdkhiaa
