/-
  Write.
-/
import Derived.Test.YtacincpecdkhiaaDWalk4
import Derived.Deep.CutRange
namespace Go.Proofs.Ytacincpecdkhiaa
open Go.RowKit
set_option linter.unusedVariables false

theorem laid_at {B : Nat} {w w' : World} {r : DRep} {s : DSt} (h : DiskAt B w r s) (x : Nat × ByteArray) (hx : x.1 + x.2.size ≤ s.dur.length) (hb : Blk w' r.bv 5 (cells8 (lay s.vis x)).toArray) (o : Only (fun k => k = r.bv) w w') :
    DiskAt B w' r { s with vis := lay s.vis x } ∧ Turned r r w w' := by
  refine ⟨{ h with blk := h.blk.only o (h.blk.ne_ h.vis (by decide)), dur := h.dur.only o h.ne, vis := hb, pend := ownsRow_only h.pend o (fun k hk e => own_blk_ne h.pend h.vis (by decide) (by rw [hk, e])), len := ?_ }, rfl, ?_, fun k e => .inl e⟩
  · show (lay s.vis x).length = _
    rw [lay_length (by rw [h.len]; exact hx), h.len]
  · exact o.mono fun k _ e => .inr (.inr (.inl e))

theorem box2_cells (w : World) (X : Obj) (a b : Value) (t : TypeId) : ∀ j u, [a, b][j]? = some u → (((w.alloc X).alloc (.cells #[a, b] t)).drew).cell? ((⟨w.heap.size + 1, 0, none⟩ : Addr).add j) = some u := by
  intro j u hu
  have hb := Blk.new (w.alloc X) t #[a, b]
  rw [World.size_alloc] at hb
  have e : (⟨w.heap.size + 1, 0, none⟩ : Addr).add j = ⟨w.heap.size + 1, j, none⟩ := by unfold Addr.add; split <;> simp_all
  rw [e]
  exact (hb.drew.cell j).trans (by simpa using hu)

set_option maxHeartbeats 1000000 in
theorem Write_good {B : Nat} {w : World} {r : DRep} {s : DSt} (h : DiskAt B w r s) (o : Int) (t : ByteArray) (ho : s.off = false) (hi : s.inside o t.size = true) (hB : B ≤ w.heap.size) (hl : s.pend.length ≤ 1000000) :
    Calls Try.prog 21 #[r.ptr, .int .i64 o, .string t] w fun e w' => e = .returned (.int .i64 0) ∧ ∃ r', DiskAt B w' r' (s.wrote o t) ∧ Turned r r' w w' := by
  have c0 := h.c0
  have c1 := h.c1
  have c3 := h.c3
  have c4 := h.c4
  have f4 := h.blk.frozen 4
  have hs := h.small
  have K := Lib.hid (check_any h)
  have KI := Lib.hid (inside_any h o t.size)
  have HH : Hid (DiskAt B w r s) := h
  obtain ⟨i1, i2, i3, i4⟩ := (s.inside_iff o t.size).1 hi
  have HP : Hid (s.power = 0) := by show s.power = 0; simp [DSt.power, ho]
  rw [HP.out] at K
  rw [hi] at KI
  obtain ⟨k, rfl⟩ := Int.eq_ofNat_of_zero_le i1
  unfold DRep.ptr at *
  have HO := Lib.hid ho
  have hx : k + t.size ≤ s.dur.length := by omega
  have HF : Hid (s.wrote k t = { ({ s with pend := s.pend ++ [(k, t)] } : DSt) with vis := lay s.vis (k, t), off := decide (s.left = 1), left := s.left - 1 }) := by show s.wrote k t = _; simp [DSt.wrote]
  clear ho i1 i2 hi
  obtain ⟨A, cc, hpv⟩ := h.pv
  have HPV := Lib.hid hpv
  have hp := Lib.hid h.pend
  have hplt := h.blk.lt
  clear h hpv
  obtain ⟨iW, hiW, z0, z1, z2⟩ := info_parts infoW
  have Z := Lib.hid (And.intro hiW (And.intro z0 (And.intro z1 z2)))
  clear hiW z0 z1 z2
  go_enter Try.func21, Try.ntmps21
  go_wp2_with (first | (go_at_call 28; refine K.out.mono ?_; rintro e w' ⟨rfl, rfl⟩) | (go_at_call 29; refine KI.out.mono ?_; rintro e w' ⟨rfl, rfl⟩))
  go_region_law (refine step_append_at rfl (.tmp 27) (.tmp 29) 63 rfl B 69 iW _ 2 24 Try.underlying63 Z.out.1 Z.out.2.1 Z.out.2.2.1 Z.out.2.2.2 rfl (by decide) r.pv s.pend.length (wcells s.pend) (by simp [Act.eval]) (((hp.out.alloc _).alloc _).drew) ⟨w.heap.size + 1, 0, none⟩ 1 1 (wcell (k, t)) (by simp [Act.eval]) rfl (box2_cells w _ _ _ _) (by simp [wcell, Value.oneCell']) (by unfold maxLen; omega) (by omega) (by simp; omega) ?_; intro v' w1 hown hgr hbk; obtain ⟨g', cap', rfl⟩ := ownsRow_val hown; have hq := pushed HH.out hB (k, t) hx ((((Only.refl (fun _ => False) w).alloc _).alloc _).drew) _ hown hgr hbk; have q4 := hq.1.cell 4; have qf := hq.1.frozen 4; simp only [List.getElem?_toArray, List.getElem?_cons_succ, List.getElem?_cons_zero] at q4)
  all_goals
    obtain ⟨q1, q2, q3, q5⟩ := hq
    have d3 : (w1.setCell ⟨r.p, 4, none⟩ (.slice (some ⟨g', 0, none⟩) (s.pend.length + 1) cap')).cell? ⟨r.p, 3, none⟩ = some (.slice (some ⟨r.bv, 0, none⟩) s.dur.length s.dur.length) := q2.c3
    have hn := Blk.new w 69 #[.int .i64 (k : Int), .string t]
    have d5 := (q5 w.heap.size (Nat.le_refl _) (by simp; omega) 0).trans (((hn.alloc _).drew).cell 0)
    have d6 := (q5 w.heap.size (Nat.le_refl _) (by simp; omega) 1).trans (((hn.alloc _).drew).cell 1)
    simp only [List.getElem?_toArray, List.getElem?_cons_succ, List.getElem?_cons_zero] at d5 d6
    have Q2 := Lib.hid q2
    have Q3 := Lib.hid q3
    clear hown hgr hbk q1 q2 q3 q5 hn
    generalize w1.setCell ⟨r.p, 4, none⟩ (.slice (some ⟨g', 0, none⟩) (s.pend.length + 1) cap') = W2 at *
    clear c0 c1 c3 c4 f4 q4 qf
    go_wp2
    go_region_with (go_at_call 35; refine (onto_any _ r.bv s.dur.length s.vis (k, t) Q2.out.vis.drew Q2.out.len hx hs).mono ?_; rintro e w3 ⟨rfl, hb3, o3⟩)
    all_goals
      have L := laid_at Q2.out (k, t) hx hb3 ⟨o3.os, o3.tape, o3.output, o3.size, o3.block⟩
      have KU := Lib.hid (used_any L.1 HO.out)
      have L2 := Lib.hid L.2
      unfold DRep.ptr at KU
      clear L hb3 o3
      go_wp2_with (go_at_call 36; refine KU.out.mono ?_; rintro e w4 ⟨rfl, hd4, o4⟩)
      go_ret
      rw [HF.out]
      exact ⟨rfl, _, hd4, (Q3.out.trans L2.out).trans (Turned.own o4)⟩

set_option maxHeartbeats 1000000 in
/-- Write, at whatever place, of whatever string. -/
theorem Write_any {B : Nat} {w : World} {r : DRep} {s : DSt} (h : DiskAt B w r s) (o : Int) (t : ByteArray) (hB : B ≤ w.heap.size) (hl : s.pend.length ≤ 1000000) :
    Calls Try.prog 21 #[r.ptr, .int .i64 o, .string t] w fun e w' => e = .returned (.int .i64 (s.write o t).1) ∧ ∃ r', DiskAt B w' r' (s.write o t).2 ∧ Turned r r' w w' := by
  cases ho : s.off
  · cases hi : s.inside o t.size
    · have HF : Hid (s.write o t = (250, s)) := by show s.write o t = _; simp [DSt.write, ho, hi]
      have HP : Hid (s.power = 0) := by show s.power = 0; simp [DSt.power, ho]
      have K := Lib.hid (check_any h)
      have KI := Lib.hid (inside_any h o t.size)
      rw [HP.out] at K
      rw [hi] at KI
      have HH : Hid (DiskAt B w r s) := h
      unfold DRep.ptr at *
      clear h ho hi
      go_enter Try.func21, Try.ntmps21
      go_wp2_with (first | (go_at_call 28; refine K.out.mono ?_; rintro e w' ⟨rfl, rfl⟩) | (go_at_call 29; refine KI.out.mono ?_; rintro e w' ⟨rfl, rfl⟩))
      go_ret
      rw [HF.out]
      exact ⟨rfl, r, HH.out, Turned.refl _ _⟩
    · have e : s.write o t = (0, s.wrote o t) := by simp [DSt.write, ho, hi]
      rw [e]
      exact Write_good h o t ho hi hB hl
  · have HF : Hid (s.write o t = (251, s)) := by show s.write o t = _; simp [DSt.write, ho]
    have HP : Hid (s.power = 251) := by show s.power = 251; simp [DSt.power, ho]
    have K := Lib.hid (check_any h)
    rw [HP.out] at K
    have HH : Hid (DiskAt B w r s) := h
    unfold DRep.ptr at *
    clear h ho
    go_enter Try.func21, Try.ntmps21
    go_wp2_with (go_at_call 28; refine K.out.mono ?_; rintro e w' ⟨rfl, rfl⟩)
    go_ret
    rw [HF.out]
    exact ⟨rfl, r, HH.out, Turned.refl _ _⟩
end Go.Proofs.Ytacincpecdkhiaa
