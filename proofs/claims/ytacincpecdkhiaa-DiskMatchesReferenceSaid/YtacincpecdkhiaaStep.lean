/-
  step: one call on a disk and on the reference.
-/
import Derived.Test.YtacincpecdkhiaaRef5
import Derived.Test.YtacincpecdkhiaaSteps
namespace Go.Proofs.Ytacincpecdkhiaa
open Go.RowKit
set_option linter.unusedVariables false

/-- What one call makes of a disk. -/
def stepOf (s : DSt) (y : SP) : DSt :=
  if pickI y.call 6 = 0 ∨ pickI y.call 6 = 1 then (s.write y.off (cutB y.s 300)).2
  else if pickI y.call 6 = 2 then s.sync.2
  else if pickI y.call 6 = 3 then s
  else if pickI y.call 6 = 4 then (s.cut y.n).2
  else s.crash (y.keep.take 100) y.n

def spCells (y : SP) : Array Value := #[.int .i64 y.call, .int .i64 y.off, .int .i64 y.n, .string y.s, .slice y.ka y.klen y.kcap]
theorem five_cells {w : World} {h : Nat} {t : TypeId} {y : SP} (hb : Blk w h t (spCells y)) : w.cell? ⟨h, 0, none⟩ = some (.int .i64 y.call) ∧ w.cell? ⟨h, 1, none⟩ = some (.int .i64 y.off) ∧ w.cell? ⟨h, 2, none⟩ = some (.int .i64 y.n) ∧ w.cell? ⟨h, 3, none⟩ = some (.string y.s) ∧ w.cell? ⟨h, 4, none⟩ = some (.slice y.ka y.klen y.kcap) := ⟨hb.cell 0, hb.cell 1, hb.cell 2, hb.cell 3, hb.cell 4⟩
theorem fin1 {B g : Nat} {l : List Nat} {w w1 w2 : World} {p q : Nat} {s t : DSt} (h : Pr B l w p s q s) (o1 : Only (fun k => B ≤ k ∧ k ∉ l) w w1) (o2 : Only (fun k => B ≤ k ∧ k ∉ g :: l) w1 w2) (hs : w.heap.size ≤ w1.heap.size) (hp : Pr B l w2 p t q t) : StepP B l w p t q t w2 :=
  ⟨hp, o1.trans o2 fun k hk e => ⟨e.1, fun hm => e.2 (List.mem_cons_of_mem _ hm)⟩⟩

set_option maxRecDepth 100000 in
set_option maxHeartbeats 4000000 in
theorem step_any {B : Nat} {l : List Nat} {w : World} {p q : Nat} {s : DSt} (h : Pr B l w p s q s) (y : SP) {w0 : World} (hy : SPok w0 y) (hki : Ints B w (.slice y.ka y.klen y.kcap) y.keep) (hl : s.pend.length ≤ 999999) :
    Calls Try.prog 19 #[.pointer (some ⟨p, 0, none⟩), .pointer (some ⟨q, 0, none⟩), .agg #[.int .i64 y.call, .int .i64 y.off, .int .i64 y.n, .string y.s, .slice y.ka y.klen y.kcap]] w fun e w' => e = .returned (.bool true) ∧ StepP B l w p (stepOf s y) q (stepOf s y) w' := by
  have HH := Lib.hid h
  have h0 := pickI_nonneg y.call 6 (by omega)
  have h5 := pickI_lt y.call 6 (by omega)
  have hcs : pickI y.call 6 = 0 ∨ pickI y.call 6 = 1 ∨ pickI y.call 6 = 2 ∨ pickI y.call 6 = 3 ∨ pickI y.call 6 = 4 ∨ pickI y.call 6 = 5 := by omega
  clear h h0 h5
  go_enter Try.func19, Try.ntmps19
  go_wp2_with fail
  refine (pick_any y.call 6 _ hy.hcall.1 hy.hcall.2 (by omega) (by omega)).mono ?_
  rintro e w1 ⟨rfl, rfl⟩
  obtain ⟨w1, hw1⟩ : ∃ w1, w1 = w.alloc (.cells #[.int .i64 y.call, .int .i64 y.off, .int .i64 y.n, .string y.s, .slice y.ka y.klen y.kcap] 39) := ⟨_, rfl⟩
  have HW1 := Lib.hid hw1
  have NB : Hid (Blk w1 w.heap.size 39 (spCells y)) := by rw [hw1]; exact Blk.new w _ _
  have P1 : Hid (Pr B (w.heap.size :: l) w1 p s q s) := HH.out.add (by rw [hw1]; exact (Below.refl _ w).alloc (Nat.le_refl _) _) w.heap.size (Nat.le_refl _) (by rw [hw1]; simp)
  have hys := hy.hs
  rw [← hw1]
  clear hw1
  obtain ⟨n0, n1, n2, n3, n4⟩ := five_cells NB.out
  rcases hcs with hc | hc | hc | hc | hc | hc
  · rw [hc]
    go_wp2_with fail
    refine (cut_any y.s 300 _ hys (by omega)).mono ?_
    rintro e w1' ⟨rfl, rfl⟩
    have HS : Hid (stepOf s y = (s.write y.off (cutB y.s 300)).2) := by show _ = _; unfold stepOf; rw [if_pos (.inl hc)]
    go_wp2_with fail
    obtain ⟨w2, hw2⟩ : ∃ w2, w2 = w1.drew := ⟨_, rfl⟩
    have P2 := Lib.hid (show Pr _ _ w2 _ _ _ _ from hw2 ▸ P1.out.below ((Below.refl _ w1).drew))
    have O2 := Lib.hid (show Only (fun k => B ≤ k ∧ k ∉ w.heap.size :: l) w1 w2 from hw2 ▸ (Only.refl _ w1).drew)
    have N2 := Lib.hid (show Blk w2 w.heap.size 39 (spCells y) from hw2 ▸ NB.out.drew)
    have HW2 := Lib.hid hw2
    clear hw2 n0 n1 n2 n3 n4
    refine wp_region_perm (fun w' => Blk w' w.heap.size 39 (spCells y)) [(0, true), (1, true), (2, true), (3, true), (5, true), (6, true), (7, true), (8, true), (4, false), (9, false), (10, false), (11, false)] _ (by kernel_rfl) rfl (by kernel_rfl) (by have := N2.out; rw [HW2.out] at this; exact this) ?_
    change nList _ _ _ _ _ _ w1.drew
    rw [← HW2.out]
    refine nList_float (.pointer (some ⟨p, 0, none⟩)) (fun w' hI => ?_) ?_
    · obtain ⟨n0, n1, n2, n3, n4⟩ := five_cells hI
      exact .inl ⟨by go_simp, .inl (by go_simp)⟩
    refine nList_float (.pointer (some ⟨w.heap.size, 1, none⟩)) (fun w' hI => ?_) ?_
    · obtain ⟨n0, n1, n2, n3, n4⟩ := five_cells hI
      exact .inl ⟨by go_simp, .inl (by go_simp)⟩
    refine nList_float (.int .i64 y.off) (fun w' hI => ?_) ?_
    · obtain ⟨n0, n1, n2, n3, n4⟩ := five_cells hI
      exact .inl ⟨by go_simp, .inl (by go_simp)⟩
    refine nList_float (.string (cutB y.s 300)) (fun w' hI => ?_) ?_
    · obtain ⟨n0, n1, n2, n3, n4⟩ := five_cells hI
      exact .inl ⟨by go_simp, .inl (by go_simp)⟩
    refine nList_float (.pointer (some ⟨q, 0, none⟩)) (fun w' hI => ?_) ?_
    · obtain ⟨n0, n1, n2, n3, n4⟩ := five_cells hI
      exact .inl ⟨by go_simp, .inl (by go_simp)⟩
    refine nList_float (.pointer (some ⟨w.heap.size, 1, none⟩)) (fun w' hI => ?_) ?_
    · obtain ⟨n0, n1, n2, n3, n4⟩ := five_cells hI
      exact .inl ⟨by go_simp, .inl (by go_simp)⟩
    refine nList_float (.int .i64 y.off) (fun w' hI => ?_) ?_
    · obtain ⟨n0, n1, n2, n3, n4⟩ := five_cells hI
      exact .inl ⟨by go_simp, .inl (by go_simp)⟩
    refine nList_float (.string (cutB y.s 300)) (fun w' hI => ?_) ?_
    · obtain ⟨n0, n1, n2, n3, n4⟩ := five_cells hI
      exact .inl ⟨by go_simp, .inl (by go_simp)⟩
    refine nList_step (fun K hK => ?_)
    unfold nOp nUpon
    go_simp
    refine (P2.out.write y.off (cutB y.s 300) (by omega)).mono ?_
    rintro e w3 ⟨rfl, t3⟩
    have N3 := Lib.hid (t3.blk N2.out (by simp))
    have P3 := Lib.hid t3.1
    have O3 := Lib.hid t3.2
    clear t3
    refine ⟨_, rfl, hK _ _ N3.out ?_⟩
    clear hK K
    refine nList_step (fun K hK => ?_)
    unfold nOp nUpon
    go_simp
    refine (P3.out.rwrite y.off (cutB y.s 300) (by omega)).mono ?_
    rintro e w4 ⟨rfl, t4⟩
    have N4 := Lib.hid (t4.blk N3.out (by simp))
    have P4 := Lib.hid t4.1
    have O4 := Lib.hid t4.2
    clear t4
    refine ⟨_, rfl, hK _ _ N4.out ?_⟩
    clear hK K
    refine nList_step (fun K hK => ?_)
    unfold nOp nUpon
    go_simp
    refine hK _ _ N4.out ?_
    clear hK K
    refine nList_step (fun K hK => ?_)
    unfold nOp nUpon
    go_simp
    refine hK _ _ N4.out ?_
    clear hK K
    refine nList_nil ?_
    obtain ⟨n0, n1, n2, n3, n4⟩ := five_cells N4.out
    go_wp2_with fail
    go_ret
    refine ⟨by simp, ?_⟩
    rw [HS.out]
    exact fin1 HH.out (by rw [HW1.out]; exact (Only.refl _ w).alloc _) ((O2.out.trans' O3.out).trans' O4.out) (by rw [HW1.out]; simp) P4.out.drop
  · rw [hc]
    go_wp2_with fail
    refine (cut_any y.s 300 _ hys (by omega)).mono ?_
    rintro e w1' ⟨rfl, rfl⟩
    have HS : Hid (stepOf s y = (s.write y.off (cutB y.s 300)).2) := by show _ = _; unfold stepOf; rw [if_pos (.inr hc)]
    go_wp2_with fail
    obtain ⟨w2, hw2⟩ : ∃ w2, w2 = w1.drew := ⟨_, rfl⟩
    have P2 := Lib.hid (show Pr _ _ w2 _ _ _ _ from hw2 ▸ P1.out.below ((Below.refl _ w1).drew))
    have O2 := Lib.hid (show Only (fun k => B ≤ k ∧ k ∉ w.heap.size :: l) w1 w2 from hw2 ▸ (Only.refl _ w1).drew)
    have N2 := Lib.hid (show Blk w2 w.heap.size 39 (spCells y) from hw2 ▸ NB.out.drew)
    have HW2 := Lib.hid hw2
    clear hw2 n0 n1 n2 n3 n4
    refine wp_region_perm (fun w' => Blk w' w.heap.size 39 (spCells y)) [(0, true), (1, true), (2, true), (3, true), (5, true), (6, true), (7, true), (8, true), (4, false), (9, false), (10, false), (11, false)] _ (by kernel_rfl) rfl (by kernel_rfl) (by have := N2.out; rw [HW2.out] at this; exact this) ?_
    change nList _ _ _ _ _ _ w1.drew
    rw [← HW2.out]
    refine nList_float (.pointer (some ⟨p, 0, none⟩)) (fun w' hI => ?_) ?_
    · obtain ⟨n0, n1, n2, n3, n4⟩ := five_cells hI
      exact .inl ⟨by go_simp, .inl (by go_simp)⟩
    refine nList_float (.pointer (some ⟨w.heap.size, 1, none⟩)) (fun w' hI => ?_) ?_
    · obtain ⟨n0, n1, n2, n3, n4⟩ := five_cells hI
      exact .inl ⟨by go_simp, .inl (by go_simp)⟩
    refine nList_float (.int .i64 y.off) (fun w' hI => ?_) ?_
    · obtain ⟨n0, n1, n2, n3, n4⟩ := five_cells hI
      exact .inl ⟨by go_simp, .inl (by go_simp)⟩
    refine nList_float (.string (cutB y.s 300)) (fun w' hI => ?_) ?_
    · obtain ⟨n0, n1, n2, n3, n4⟩ := five_cells hI
      exact .inl ⟨by go_simp, .inl (by go_simp)⟩
    refine nList_float (.pointer (some ⟨q, 0, none⟩)) (fun w' hI => ?_) ?_
    · obtain ⟨n0, n1, n2, n3, n4⟩ := five_cells hI
      exact .inl ⟨by go_simp, .inl (by go_simp)⟩
    refine nList_float (.pointer (some ⟨w.heap.size, 1, none⟩)) (fun w' hI => ?_) ?_
    · obtain ⟨n0, n1, n2, n3, n4⟩ := five_cells hI
      exact .inl ⟨by go_simp, .inl (by go_simp)⟩
    refine nList_float (.int .i64 y.off) (fun w' hI => ?_) ?_
    · obtain ⟨n0, n1, n2, n3, n4⟩ := five_cells hI
      exact .inl ⟨by go_simp, .inl (by go_simp)⟩
    refine nList_float (.string (cutB y.s 300)) (fun w' hI => ?_) ?_
    · obtain ⟨n0, n1, n2, n3, n4⟩ := five_cells hI
      exact .inl ⟨by go_simp, .inl (by go_simp)⟩
    refine nList_step (fun K hK => ?_)
    unfold nOp nUpon
    go_simp
    refine (P2.out.write y.off (cutB y.s 300) (by omega)).mono ?_
    rintro e w3 ⟨rfl, t3⟩
    have N3 := Lib.hid (t3.blk N2.out (by simp))
    have P3 := Lib.hid t3.1
    have O3 := Lib.hid t3.2
    clear t3
    refine ⟨_, rfl, hK _ _ N3.out ?_⟩
    clear hK K
    refine nList_step (fun K hK => ?_)
    unfold nOp nUpon
    go_simp
    refine (P3.out.rwrite y.off (cutB y.s 300) (by omega)).mono ?_
    rintro e w4 ⟨rfl, t4⟩
    have N4 := Lib.hid (t4.blk N3.out (by simp))
    have P4 := Lib.hid t4.1
    have O4 := Lib.hid t4.2
    clear t4
    refine ⟨_, rfl, hK _ _ N4.out ?_⟩
    clear hK K
    refine nList_step (fun K hK => ?_)
    unfold nOp nUpon
    go_simp
    refine hK _ _ N4.out ?_
    clear hK K
    refine nList_step (fun K hK => ?_)
    unfold nOp nUpon
    go_simp
    refine hK _ _ N4.out ?_
    clear hK K
    refine nList_nil ?_
    obtain ⟨n0, n1, n2, n3, n4⟩ := five_cells N4.out
    go_wp2_with fail
    go_ret
    refine ⟨by simp, ?_⟩
    rw [HS.out]
    exact fin1 HH.out (by rw [HW1.out]; exact (Only.refl _ w).alloc _) ((O2.out.trans' O3.out).trans' O4.out) (by rw [HW1.out]; simp) P4.out.drop
  · rw [hc]
    have HS : Hid (stepOf s y = s.sync.2) := by show _ = _; unfold stepOf; rw [if_neg (by omega), if_pos hc]
    go_wp2_with fail
    refine P1.out.sync.mono ?_
    rintro e w3 ⟨rfl, t3⟩
    have P3 := Lib.hid t3.1
    have O3 := Lib.hid t3.2
    clear t3 n0 n1 n2 n3 n4
    go_wp2_with fail
    refine P3.out.rsync.mono ?_
    rintro e w4 ⟨rfl, t4⟩
    have P4 := Lib.hid t4.1
    have O4 := Lib.hid t4.2
    clear t4
    go_wp2_with fail
    go_ret
    refine ⟨by simp, ?_⟩
    rw [HS.out]
    exact fin1 HH.out (by rw [HW1.out]; exact (Only.refl _ w).alloc _) (O3.out.trans' O4.out) (by rw [HW1.out]; simp) P4.out.drop
  · rw [hc]
    have HS : Hid (stepOf s y = s) := by show _ = _; unfold stepOf; rw [if_neg (by omega), if_neg (by omega), if_pos hc]
    go_wp2_with fail
    refine (P1.out.dk.read y.off y.n).mono ?_
    rintro e w3 ⟨rfl, rfl⟩
    go_wp2_with fail
    refine (P1.out.rread y.off y.n).mono ?_
    rintro e w4 ⟨rfl, b4⟩
    have B4 := Lib.hid b4
    clear b4 n0 n1 n2 n3 n4
    go_wp2_with fail
    go_ret
    refine ⟨by simp, ?_⟩
    rw [HS.out]
    exact fin1 HH.out (by rw [HW1.out]; exact (Only.refl _ w).alloc _) (Only.of_below B4.out (fun k => B ≤ k ∧ k ∉ w.heap.size :: l)) (by rw [HW1.out]; simp) (P1.out.below B4.out).drop
  · rw [hc]
    have HS : Hid (stepOf s y = (s.cut y.n).2) := by show _ = _; unfold stepOf; rw [if_neg (by omega), if_neg (by omega), if_neg (by omega), if_pos hc]
    have hyn := hy.hn
    go_wp2_with fail
    obtain ⟨w2, hw2⟩ : ∃ w2, w2 = w1.drew := ⟨_, rfl⟩
    have P2 := Lib.hid (show Pr _ _ w2 _ _ _ _ from hw2 ▸ P1.out.below ((Below.refl _ w1).drew))
    have O2 := Lib.hid (show Only (fun k => B ≤ k ∧ k ∉ w.heap.size :: l) w1 w2 from hw2 ▸ (Only.refl _ w1).drew)
    have N2 := Lib.hid (show Blk w2 w.heap.size 39 (spCells y) from hw2 ▸ NB.out.drew)
    have HW2 := Lib.hid hw2
    clear hw2 n0 n1 n2 n3 n4
    refine wp_region_perm (fun w' => Blk w' w.heap.size 39 (spCells y)) [(0, true), (1, true), (2, true), (4, true), (5, true), (6, true), (3, false), (7, false), (8, false), (9, false)] _ (by kernel_rfl) rfl (by kernel_rfl) (by have := N2.out; rw [HW2.out] at this; exact this) ?_
    change nList _ _ _ _ _ _ w1.drew
    rw [← HW2.out]
    refine nList_float (.pointer (some ⟨p, 0, none⟩)) (fun w' hI => ?_) ?_
    · obtain ⟨n0, n1, n2, n3, n4⟩ := five_cells hI
      exact .inl ⟨by go_simp, .inl (by go_simp)⟩
    refine nList_float (.pointer (some ⟨w.heap.size, 2, none⟩)) (fun w' hI => ?_) ?_
    · obtain ⟨n0, n1, n2, n3, n4⟩ := five_cells hI
      exact .inl ⟨by go_simp, .inl (by go_simp)⟩
    refine nList_float (.int .i64 y.n) (fun w' hI => ?_) ?_
    · obtain ⟨n0, n1, n2, n3, n4⟩ := five_cells hI
      exact .inl ⟨by go_simp, .inl (by go_simp)⟩
    refine nList_float (.pointer (some ⟨q, 0, none⟩)) (fun w' hI => ?_) ?_
    · obtain ⟨n0, n1, n2, n3, n4⟩ := five_cells hI
      exact .inl ⟨by go_simp, .inl (by go_simp)⟩
    refine nList_float (.pointer (some ⟨w.heap.size, 2, none⟩)) (fun w' hI => ?_) ?_
    · obtain ⟨n0, n1, n2, n3, n4⟩ := five_cells hI
      exact .inl ⟨by go_simp, .inl (by go_simp)⟩
    refine nList_float (.int .i64 y.n) (fun w' hI => ?_) ?_
    · obtain ⟨n0, n1, n2, n3, n4⟩ := five_cells hI
      exact .inl ⟨by go_simp, .inl (by go_simp)⟩
    refine nList_step (fun K hK => ?_)
    unfold nOp nUpon
    go_simp
    refine (P2.out.cut y.n hyn.2).mono ?_
    rintro e w3 ⟨rfl, t3⟩
    have N3 := Lib.hid (t3.blk N2.out (by simp))
    have P3 := Lib.hid t3.1
    have O3 := Lib.hid t3.2
    clear t3
    refine ⟨_, rfl, hK _ _ N3.out ?_⟩
    clear hK K
    refine nList_step (fun K hK => ?_)
    unfold nOp nUpon
    go_simp
    refine (P3.out.rcut y.n hyn.2).mono ?_
    rintro e w4 ⟨rfl, t4⟩
    have N4 := Lib.hid (t4.blk N3.out (by simp))
    have P4 := Lib.hid t4.1
    have O4 := Lib.hid t4.2
    clear t4
    refine ⟨_, rfl, hK _ _ N4.out ?_⟩
    clear hK K
    refine nList_step (fun K hK => ?_)
    unfold nOp nUpon
    go_simp
    refine hK _ _ N4.out ?_
    clear hK K
    refine nList_step (fun K hK => ?_)
    unfold nOp nUpon
    go_simp
    refine hK _ _ N4.out ?_
    clear hK K
    refine nList_nil ?_
    obtain ⟨n0, n1, n2, n3, n4⟩ := five_cells N4.out
    go_wp2_with fail
    go_ret
    refine ⟨by simp, ?_⟩
    rw [HS.out]
    exact fin1 HH.out (by rw [HW1.out]; exact (Only.refl _ w).alloc _) ((O2.out.trans' O3.out).trans' O4.out) (by rw [HW1.out]; simp) P4.out.drop
  · rw [hc]
    have HS : Hid (stepOf s y = s.crash (y.keep.take 100) y.n) := by show _ = _; unfold stepOf; rw [if_neg (by omega), if_neg (by omega), if_neg (by omega), if_neg (by omega)]
    have hyn := hy.hn
    have hkl := hy.hk.hlen
    have hkc := hy.hk.hcap
    have hkm := hy.hk.hmax
    unfold maxLen at hkm
    have hmn : Hid ((min (y.klen : Int) 100).toNat = min y.klen 100) := by show _ = _; omega
    have hI0 := Ints.cut hki hkl (min y.klen 100) (by omega)
    have hI1 : Ints B w (.slice y.ka (min y.klen 100) y.kcap) (y.keep.take 100) := by
      have e : y.keep.take (min y.klen 100) = y.keep.take 100 := by
        rw [← hkl, List.take_eq_take_iff]; omega
      rw [e] at hI0; exact hI0
    have hkt : (y.keep.take 100).length = min y.klen 100 := by rw [List.length_take, hkl]; omega
    have bw1 : Below B w w1 := by rw [HW1.out]; exact (Below.refl _ w).alloc HH.out.2.1 _
    have HI1 := Lib.hid (Ints.below bw1 hI1)
    clear hI0 hI1 bw1
    go_wp2_with fail
    rw [hmn.out]
    refine (P1.out.rcrash y.ka (min y.klen 100) y.kcap _ (ints_mono HI1.out P1.out.2.1) hkt (by omega) y.n hyn.2 (by omega)).mono ?_
    rintro e w3 ⟨rfl, t3⟩
    have N3 := Lib.hid (t3.blk NB.out (by simp))
    have P3 := Lib.hid t3.1
    have O3 := Lib.hid t3.2
    have HI3 := Lib.hid (Ints.below (t3.2.below P1.out.2.1 fun k e => e.1) HI1.out)
    clear t3 n0 n1 n2 n3 n4
    obtain ⟨n0, n1, n2, n3, n4⟩ := five_cells N3.out
    go_wp2_with fail
    refine (P3.out.crash y.ka (min y.klen 100) y.kcap _ (ints_mono HI3.out P3.out.2.1) (by omega) y.n hyn.2).mono ?_
    rintro e w4 ⟨rfl, t4⟩
    have P4 := Lib.hid t4.1
    have O4 := Lib.hid t4.2
    clear t4
    go_wp2_with fail
    go_ret
    refine ⟨by simp, ?_⟩
    rw [HS.out]
    exact fin1 HH.out (by rw [HW1.out]; exact (Only.refl _ w).alloc _) (O3.out.trans' O4.out) (by rw [HW1.out]; simp) P4.out.drop
end Go.Proofs.Ytacincpecdkhiaa
