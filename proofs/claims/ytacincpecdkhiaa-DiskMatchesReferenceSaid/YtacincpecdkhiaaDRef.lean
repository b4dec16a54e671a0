/-
  DiskMatchesReference, walked.
-/
import Derived.Test.YtacincpecdkhiaaStep
namespace Go.Proofs.Ytacincpecdkhiaa
open Go.RowKit
set_option linter.unusedVariables false

theorem layAll_length (p : List (Nat × ByteArray)) (torn : Int) (n : Nat) (hp : ∀ i (h : i < p.length), p[i].1 + p[i].2.size ≤ n) : ∀ (l : List Nat) (b : List UInt8), (∀ i ∈ l, i < p.length) → b.length = n → (DSt.layAll p torn l b).length = n
  | [], b, _, hb => hb
  | [i], b, hl, hb => by
    have hi := hl i (by simp)
    have h1 := hp i hi
    show (lay b (DSt.tear torn (p[i]?.getD (0, ByteArray.empty)))).length = n
    have e : p[i]?.getD (0, ByteArray.empty) = p[i] := by simp [hi]
    rw [e, lay_length, hb]
    rw [hb]
    unfold DSt.tear
    split
    · simp only [ByteArray.size_extract]; omega
    · exact h1
  | i :: j :: r, b, hl, hb => by
    have hi := hl i (by simp)
    have h1 := hp i hi
    have e : p[i]?.getD (0, ByteArray.empty) = p[i] := by simp [hi]
    show (DSt.layAll p torn (j :: r) (lay b (p[i]?.getD (0, ByteArray.empty)))).length = n
    rw [e]
    exact layAll_length p torn n hp (j :: r) _ (fun k hk => hl k (List.mem_cons_of_mem _ hk)) (by rw [lay_length (by rw [hb]; exact h1), hb])
theorem Pr.facts {B : Nat} {l : List Nat} {w : World} {p q : Nat} {s t : DSt} (h : Pr B l w p s q t) : (∀ x ∈ t.pend, x.1 + x.2.size ≤ t.dur.length) ∧ t.vis.length = t.dur.length := by
  obtain ⟨⟨F, G, d, ⟨r, _, _, hr⟩, _⟩, _⟩ := h
  exact ⟨hr.fits, hr.vlen⟩
theorem stepOf_small {s : DSt} (hf : ∀ x ∈ s.pend, x.1 + x.2.size ≤ s.dur.length) (hv : s.vis.length = s.dur.length) (y : SP) : (stepOf s y).dur.length = s.dur.length ∧ (stepOf s y).pend.length ≤ s.pend.length + 1 := by
  unfold stepOf
  split
  · unfold DSt.write
    split
    · exact ⟨rfl, by simp⟩
    · split
      · exact ⟨rfl, by simp [DSt.wrote]⟩
      · exact ⟨rfl, by simp⟩
  · split
    · unfold DSt.sync
      split
      · exact ⟨rfl, by simp⟩
      · exact ⟨hv, by simp [DSt.synced]⟩
    · split
      · exact ⟨rfl, by simp⟩
      · split
        · unfold DSt.cut
          split
          · exact ⟨rfl, by simp⟩
          · split
            · exact ⟨rfl, by simp⟩
            · exact ⟨rfl, by simp⟩
        · refine ⟨?_, by simp [DSt.crash]⟩
          show (DSt.layAll s.pend y.n (s.kept (y.keep.take 100)) s.dur).length = _
          exact layAll_length s.pend y.n _ (fun i h => hf _ (List.getElem_mem h)) _ _ (fun i hi => by simp only [DSt.kept, List.mem_filter, List.mem_range] at hi; exact hi.1) rfl
theorem SPs.below {w w' : World} {B : Nat} {a : Option Addr} {len cap : Nat} {xs : List SP} (h : SPs w a len cap xs) (hB : w.heap.size ≤ B) (hb : Below B w w') (i : Nat) (hi : i < xs.length) :
    ∃ b o, a = some ⟨b, o, none⟩ ∧ b < w'.heap.size ∧ w'.cell? ⟨b, o + i * 5, none⟩ = some (.int .i64 xs[i].call) ∧ w'.cell? ⟨b, o + i * 5 + 1, none⟩ = some (.int .i64 xs[i].off) ∧ w'.cell? ⟨b, o + i * 5 + 2, none⟩ = some (.int .i64 xs[i].n) ∧
    w'.cell? ⟨b, o + i * 5 + 3, none⟩ = some (.string xs[i].s) ∧ w'.cell? ⟨b, o + i * 5 + 4, none⟩ = some (.slice xs[i].ka xs[i].klen xs[i].kcap) := by
  obtain ⟨b, o, e, hl, h0, h1, h2, h3, h4⟩ := h.get i hi
  have hl2 : b < B := by omega
  exact ⟨b, o, e, Nat.lt_of_lt_of_le hl hb.size, (hb.cell (p := ⟨b, o + i * 5, none⟩) hl2).trans h0, (hb.cell (p := ⟨b, o + i * 5 + 1, none⟩) hl2).trans h1, (hb.cell (p := ⟨b, o + i * 5 + 2, none⟩) hl2).trans h2, (hb.cell (p := ⟨b, o + i * 5 + 3, none⟩) hl2).trans h3, (hb.cell (p := ⟨b, o + i * 5 + 4, none⟩) hl2).trans h4⟩

set_option maxRecDepth 100000 in
set_option maxHeartbeats 40000000 in
theorem diskMatchesReference_any (a0 : Int) (a1 : Option Addr) (len1 cap1 : Nat) (x1 : List SP) (w : World) (w0 : -9223372036854775808 ≤ a0 ∧ a0 ≤ 9223372036854775807) (w1 : SPs w a1 len1 cap1 x1) :
    Calls Try.prog 4 #[.int .i64 a0, .slice a1 len1 cap1] w fun e w' => e = .returned (.bool true) ∧ Below w.heap.size w w' := by
  have hcap := w1.hcap
  have hmax := w1.hmax
  unfold maxLen at hmax
  have HW := Lib.hid w1
  clear w1
  have p0 := pickI_nonneg a0 400 (by omega)
  have p1 := pickI_lt a0 400 (by omega)
  obtain ⟨n, hn⟩ : ∃ n : Nat, 1 + pickI a0 400 = (n : Int) := ⟨(1 + pickI a0 400).toNat, by omega⟩
  have hn1 : 1 ≤ n := by omega
  have hn2 : n ≤ 400 := by omega
  have HN := Lib.hid hn
  clear hn
  go_enter Try.func4, Try.ntmps4
  go_wp2_with fail
  refine (sane_any w).mono ?_
  rintro e v1 ⟨rfl, b1⟩
  have B1 := Lib.hid b1; clear b1
  go_wp2_with fail
  refine (pick_any a0 400 v1 w0.1 w0.2 (by omega) (by omega)).mono ?_
  rintro e v1' ⟨rfl, rfl⟩
  go_wp2_with fail
  rw [HN.out]
  clear p0 p1
  refine (Dk.new n v1 hn1 (by omega)).mono ?_
  rintro e v2 ⟨p, F, rfl, d2, f2, b2⟩
  go_wp2_with fail
  refine (RNew_good n v2 hn1 (by omega)).mono ?_
  rintro e v3 ⟨r, rfl, r3, g3, b3⟩
  have M3 : Hid (Pr w.heap.size [] v3 p (DSt.new n) r.q (DSt.new n)) := Pr.new B1.out.size d2 (fun k e => Nat.le_trans B1.out.size (f2 k e)) b2 b3 rfl r3 g3
  have B3 := Lib.hid ((B1.out.trans (b2.mono B1.out.size)).trans (b3.mono (by have := B1.out.size; have := b2.size; omega)))
  clear d2 f2 b2 r3 g3 b3
  unfold RRep.ptr
  obtain ⟨q, hq⟩ : ∃ q, q = r.q := ⟨_, rfl⟩
  rw [← hq] at M3 ⊢
  clear hq
  go_wp2_with fail
  go_loopw [10] (fun i wr => ∃ (k : Nat) (s : DSt), k ≤ len1 ∧ k ≤ 60 ∧ i = .int .i64 k ∧ Pr w.heap.size [] wr p s q s ∧ s.dur.length = n ∧ s.pend.length ≤ k ∧ Below w.heap.size w wr) (fun i _ => 60 - (intOf i).toNat)
  case atStart => exact ⟨0, DSt.new n, Nat.zero_le _, Nat.zero_le _, rfl, M3.out, by simp [DSt.new], Nat.le_refl _, B3.out⟩
  case round =>
    obtain ⟨k, s, hk, hk2, rfl, hP, hD, hL, hB⟩ := hrel
    have HP := Lib.hid hP; have HB := Lib.hid hB; have HD := Lib.hid hD
    clear hP hB hD
    by_cases hgo : k < len1 ∧ k < 60
    · obtain ⟨hlt, hlt2⟩ := hgo
      have hxl : k < x1.length := by rw [HW.out.hlen]; exact hlt
      obtain ⟨ab, ao, rfl, hal, g0, g1, g2, g4, g5⟩ := HW.out.below (Nat.le_refl _) HB.out k hxl
      obtain ⟨y, hy⟩ : ∃ y, y = x1[k] := ⟨_, rfl⟩
      have hym : y ∈ x1 := hy ▸ List.getElem_mem hxl
      rw [← hy] at g0 g1 g2 g4 g5
      have hok := HW.out.ok y hym
      have hki := Ints.below HB.out hok.hk.ints
      have HOK := Lib.hid hok; have HKI := Lib.hid hki
      have hsm := stepOf_small HP.out.facts.1 HP.out.facts.2 y
      have HSM := Lib.hid hsm
      clear hym hok hki hsm
      have HY := Lib.hid hy
      have hlt3 : ¬ len1 ≤ k := by omega
      clear hy g0 g1 g2 g4 g5
      go_wp2_with fail
      obtain ⟨w2, hw2⟩ : ∃ w2, w2 = wr.drew := ⟨_, rfl⟩
      have P2 := Lib.hid (show Pr _ _ w2 _ _ _ _ from hw2 ▸ HP.out.below ((Below.refl _ wr).drew))
      have B2' := Lib.hid (show Below w.heap.size w w2 from hw2 ▸ HB.out.drew)
      have HKI2 : Hid (Ints w.heap.size w2 (.slice y.ka y.klen y.kcap) y.keep) := hw2 ▸ Ints.below ((Below.refl w.heap.size wr).drew) HKI.out
      have HW2 := Lib.hid hw2
      clear hw2
      refine wp_region_perm (fun w' => Below w.heap.size w w') [(0, true), (1, true), (2, true), (3, true), (4, true), (5, true), (6, false), (7, false), (8, false), (9, true), (11, true), (12, true), (13, true), (14, true), (15, true), (10, false), (16, false), (17, false), (18, false), (19, true), (21, true), (20, false), (22, false), (23, false)] _ (by kernel_rfl) rfl (by kernel_rfl) (by have := B2'.out; rw [HW2.out] at this; exact this) ?_
      change nList _ _ _ _ _ _ wr.drew
      rw [← HW2.out]
      refine nList_float (.pointer (some ⟨p, 0, none⟩)) (fun w' hI => ?_) ?_
      · exact .inl ⟨by go_simp, .inl (by go_simp)⟩
      refine nList_float (.pointer (some ⟨q, 0, none⟩)) (fun w' hI => ?_) ?_
      · exact .inl ⟨by go_simp, .inl (by go_simp)⟩
      refine nList_float (.slice (some ⟨ab, ao, none⟩) len1 cap1) (fun w' hI => ?_) ?_
      · exact .inl ⟨by go_simp, .inl (by go_simp)⟩
      refine nList_float (.int .i64 k) (fun w' hI => ?_) ?_
      · exact .inl ⟨by go_simp, .inl (by go_simp)⟩
      refine nList_float (.pointer (some ⟨ab, ao + k * 5, none⟩)) (fun w' hI => ?_) ?_
      · exact .inl ⟨by go_simp, .inl (by go_simp)⟩
      refine nList_float (.agg #[.int .i64 y.call, .int .i64 y.off, .int .i64 y.n, .string y.s, .slice y.ka y.klen y.kcap]) (fun w' hI => ?_) ?_
      · obtain ⟨ab', ao', e, _, g0, g1, g2, g4, g5⟩ := HW.out.below (Nat.le_refl _) hI k hxl
        cases e
        rw [← HY.out] at g0 g1 g2 g4 g5
        exact .inl ⟨by go_simp, .inl (by go_simp)⟩
      refine nList_strong (fun K hK => ?_)
      unfold nOp nUpon
      go_simp
      refine (step_any P2.out y HOK.out HKI2.out (by omega)).mono ?_
      rintro e w3 ⟨rfl, t3⟩
      have P3 := Lib.hid t3.1
      have B3' := Lib.hid (t3.below B2'.out P2.out.2.1)
      have hd3 : Hid ((stepOf s y).dur.length = n) := HSM.out.1.trans HD.out
      have hl3 : (stepOf s y).pend.length ≤ k + 1 := Nat.le_trans HSM.out.2 (by omega)
      refine ⟨_, rfl, hK (fun w' => w' = w3) _ _ rfl (fun w' e => by rw [e]; exact B3'.out) ?_⟩
      clear hK K t3 HSM
      generalize stepOf s y = s3 at *
      obtain ⟨hq3, A, c, ca⟩ := P3.out.rcell
      refine nList_step (fun K hK => ?_)
      unfold nOp nUpon
      go_simp
      refine hK _ _ rfl ?_
      clear hK K
      refine nList_step (fun K hK => ?_)
      unfold nOp nUpon
      go_simp
      refine hK _ _ rfl ?_
      clear hK K
      refine nList_float (.pointer (some ⟨p, 0, none⟩)) (fun w' hI => ?_) ?_
      · exact .inl ⟨by go_simp, .inl (by go_simp)⟩
      refine nList_float (.pointer (some ⟨q, 0, none⟩)) (fun w' hI => ?_) ?_
      · exact .inl ⟨by go_simp, .inl (by go_simp)⟩
      refine nList_float (.pointer (some ⟨q, 0, none⟩)) (fun w' hI => ?_) ?_
      · exact .inl ⟨by go_simp, .inl (by go_simp)⟩
      refine nList_float (.pointer (some ⟨q, 1, none⟩)) (fun w' hI => ?_) ?_
      · exact .inl ⟨by go_simp, .inl (by go_simp)⟩
      refine nList_float (.slice A s3.pend.length c) (fun w' hI => ?_) ?_
      · subst hI
        exact .inl ⟨by go_simp, .inl (by go_simp)⟩
      refine nList_float (.int .i64 (s3.pend.length : Int)) (fun w' hI => ?_) ?_
      · exact .inl ⟨by go_simp, .inl (by go_simp)⟩
      refine nList_step (fun K hK => ?_)
      unfold nOp nUpon
      go_simp
      refine (P3.out.dk.pending).mono ?_
      rintro e w4 ⟨rfl, rfl⟩
      refine ⟨_, rfl, hK _ _ rfl ?_⟩
      clear hK K
      refine nList_step (fun K hK => ?_)
      unfold nOp nUpon
      go_simp
      refine hK _ _ rfl ?_
      clear hK K
      refine nList_step (fun K hK => ?_)
      unfold nOp nUpon
      go_simp
      refine hK _ _ rfl ?_
      clear hK K
      refine nList_step (fun K hK => ?_)
      unfold nOp nUpon
      go_simp
      refine hK _ _ rfl ?_
      clear hK K
      refine nList_float (.pointer (some ⟨p, 0, none⟩)) (fun w' hI => ?_) ?_
      · exact .inl ⟨by go_simp, .inl (by go_simp)⟩
      refine nList_float (.int .i64 n) (fun w' hI => ?_) ?_
      · exact .inl ⟨by go_simp, .inl (by go_simp)⟩
      refine nList_step (fun K hK => ?_)
      unfold nOp nUpon
      go_simp
      refine (P3.out.dk.size).mono ?_
      rintro e w4 ⟨rfl, rfl⟩
      rw [hd3.out]
      refine ⟨_, rfl, hK _ _ rfl ?_⟩
      clear hK K
      refine nList_step (fun K hK => ?_)
      unfold nOp nUpon
      go_simp
      refine hK _ _ rfl ?_
      clear hK K
      refine nList_step (fun K hK => ?_)
      unfold nOp nUpon
      go_simp
      refine hK _ _ rfl ?_
      clear hK K
      refine nList_nil ?_
      go_wp2_with fail
      refine (P3.out.dk.read 0 n).mono ?_
      rintro e w4 ⟨rfl, rfl⟩
      go_wp2_with fail
      refine (P3.out.rread 0 n).mono ?_
      rintro e w5 ⟨rfl, b5⟩
      have B5 := Lib.hid b5
      clear b5
      go_wp2_with fail
      go_roundw
      case rel => exact ⟨k + 1, s3, hlt, hlt2, by go_num, P3.out.below B5.out, hd3.out, hl3, B3'.out.trans (B5.out.mono P3.out.2.1)⟩
      case measure => simp [intOf]; omega
    · have hcs : (¬ k < len1) ∨ (k < len1 ∧ ¬ k < 60) := by omega
      clear hgo
      rcases hcs with h1 | ⟨h1, h2⟩
      all_goals
        go_wp2_with fail
        go_ret
        exact ⟨rfl, HB.out⟩
end Go.Proofs.Ytacincpecdkhiaa
