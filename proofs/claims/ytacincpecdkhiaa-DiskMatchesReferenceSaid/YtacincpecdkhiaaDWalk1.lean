/-
  The disk's small functions, each by its contract.
-/
import Derived.Test.YtacincpecdkhiaaDRep
import Derived.Deep.QuietTactic
import Derived.BigQuiet
import Derived.Lib.BufferWrite
import Derived.Deep.RegionLaw
namespace Go.Proofs.Ytacincpecdkhiaa
open Go.RowKit
set_option linter.unusedVariables false

theorem DiskAt.pv {B : Nat} {w : World} {r : DRep} {s : DSt} (h : DiskAt B w r s) : ∃ A c, r.pv = .slice A s.pend.length c := by
  rcases h.pend.2 with ⟨h1, h2⟩ | ⟨g, cap, cur, h1, _⟩
  · exact ⟨none, 0, by rw [h1, h2]⟩
  · exact ⟨_, _, h1⟩

set_option maxHeartbeats 400000 in
theorem Pending_any {B : Nat} {w : World} {r : DRep} {s : DSt} (h : DiskAt B w r s) :
    Calls Try.prog 17 #[r.ptr] w fun e w' => e = .returned (.int .i64 (s.pend.length : Int)) ∧ w = w' := by
  have c4 := h.c4
  obtain ⟨A, c, hpv⟩ := h.pv
  rw [hpv] at c4
  clear hpv
  unfold DRep.ptr
  go_enter Try.func17, Try.ntmps17
  go_wp2
  go_ret
  exact ⟨rfl, rfl⟩

set_option maxHeartbeats 400000 in
theorem inside_any {B : Nat} {w : World} {r : DRep} {s : DSt} (h : DiskAt B w r s) (o n : Int) :
    Calls Try.prog 29 #[r.ptr, .int .i64 o, .int .i64 n] w fun e w' => e = .returned (.bool (s.inside o n)) ∧ w = w' := by
  have c2 := h.c2
  have hs := h.small
  have HI : Hid (s.inside o n = (decide (0 ≤ o) && decide (0 ≤ n) && decide (o ≤ (s.dur.length : Int)) && decide (n ≤ (s.dur.length : Int) - o))) := rfl
  unfold DRep.ptr
  by_cases h1 : 0 ≤ o
  · by_cases h2 : 0 ≤ n
    · by_cases h3 : o ≤ (s.dur.length : Int)
      · by_cases h4 : n ≤ (s.dur.length : Int) - o
        all_goals
          go_enter Try.func29, Try.ntmps29
          go_wp2
          go_ret
          rw [HI.out]
          exact ⟨by simp [h1, h2, h3, h4], rfl⟩
      · go_enter Try.func29, Try.ntmps29
        go_wp2
        go_ret
        rw [HI.out]
        exact ⟨by simp [h1, h2]; omega, rfl⟩
    · go_enter Try.func29, Try.ntmps29
      go_wp2
      go_ret
      rw [HI.out]
      exact ⟨by simp [h1]; omega, rfl⟩
  · go_enter Try.func29, Try.ntmps29
    go_wp2
    go_ret
    rw [HI.out]
    exact ⟨by simp; omega, rfl⟩

theorem DiskAt.turned_cells {B : Nat} {w w' : World} {r : DRep} {s : DSt} (h : DiskAt B w r s) (o : Only (fun k => k = r.p) w w') (off : Bool) (left : Nat) (hl : left ≤ 9223372036854775807)
    (hb : Blk w' r.p 65 #[.bool off, .int .i64 (left : Int), .slice (some ⟨r.bd, 0, none⟩) s.dur.length s.dur.length, .slice (some ⟨r.bv, 0, none⟩) s.dur.length s.dur.length, r.pv]) :
    DiskAt B w' r { s with off := off, left := left } :=
  { h with
    blk := hb
    dur := h.dur.only o (h.dur.ne_ h.blk (by decide))
    vis := h.vis.only o (h.vis.ne_ h.blk (by decide))
    pend := ownsRow_only h.pend o fun k hk e => own_blk_ne h.pend h.blk (by decide) (by rw [hk, e])
    left := hl }

/-- The disk's own block turned: 'Turned' with the same parts. -/
theorem Turned.own {r : DRep} {w w' : World} (o : Only (fun k => k = r.p) w w') : Turned r r w w' :=
  ⟨rfl, o.mono fun _ _ e => .inl e, fun _ h => .inl h⟩
theorem Turned.refl (r : DRep) (w : World) : Turned r r w w := ⟨rfl, Only.refl _ _, fun _ h => .inl h⟩
theorem Turned.trans {r r1 r2 : DRep} {a b c : World} (h : Turned r r1 a b) (k : Turned r1 r2 b c) : Turned r r2 a c :=
  ⟨k.p.trans h.p, h.only.trans k.only fun i hi e => (h.foot i e).elim id fun x => absurd hi (by omega),
    fun i e => (k.foot i e).elim (fun x => h.foot i x) fun x => .inr (Nat.le_trans h.only.size x)⟩

/-- The power's two cells stored anew, in either order. -/
theorem DiskAt.store10 {B : Nat} {w : World} {r : DRep} {s : DSt} (h : DiskAt B w r s) (off : Bool) (left : Nat) (hl : left ≤ 9223372036854775807) (x : Int) (hx : x = (left : Int)) :
    DiskAt B ((w.setCell ⟨r.p, 1, none⟩ (.int .i64 x)).setCell ⟨r.p, 0, none⟩ (.bool off)) r { s with off := off, left := left } ∧ Only (fun k => k = r.p) w ((w.setCell ⟨r.p, 1, none⟩ (.int .i64 x)).setCell ⟨r.p, 0, none⟩ (.bool off)) := by
  subst hx
  have o : Only (fun k => k = r.p) w ((w.setCell ⟨r.p, 1, none⟩ (.int .i64 (left : Int))).setCell ⟨r.p, 0, none⟩ (.bool off)) := ((Only.refl (fun k => k = r.p) w).setCell (p := ⟨r.p, 1, none⟩) (.inl rfl) _).setCell (p := ⟨r.p, 0, none⟩) (.inl rfl) _
  exact ⟨h.turned_cells o off left hl (((h.blk.set_ 1 _).set_ 0 _)), o⟩
theorem DiskAt.store01 {B : Nat} {w : World} {r : DRep} {s : DSt} (h : DiskAt B w r s) (off : Bool) (left : Nat) (hl : left ≤ 9223372036854775807) (x : Int) (hx : x = (left : Int)) :
    DiskAt B ((w.setCell ⟨r.p, 0, none⟩ (.bool off)).setCell ⟨r.p, 1, none⟩ (.int .i64 x)) r { s with off := off, left := left } ∧ Only (fun k => k = r.p) w ((w.setCell ⟨r.p, 0, none⟩ (.bool off)).setCell ⟨r.p, 1, none⟩ (.int .i64 x)) := by
  subst hx
  have o : Only (fun k => k = r.p) w ((w.setCell ⟨r.p, 0, none⟩ (.bool off)).setCell ⟨r.p, 1, none⟩ (.int .i64 (left : Int))) := ((Only.refl (fun k => k = r.p) w).setCell (p := ⟨r.p, 0, none⟩) (.inl rfl) _).setCell (p := ⟨r.p, 1, none⟩) (.inl rfl) _
  exact ⟨h.turned_cells o off left hl (((h.blk.set_ 0 _).set_ 1 _)), o⟩

set_option maxHeartbeats 400000 in
theorem used_any {B : Nat} {w : World} {r : DRep} {s : DSt} (h : DiskAt B w r s) (ho : s.off = false) :
    Calls Try.prog 36 #[r.ptr] w fun e w' => e = .returned (.tuple #[]) ∧ DiskAt B w' r { s with off := decide (s.left = 1), left := s.left - 1 } ∧ Only (fun k => k = r.p) w w' := by
  have c0 := h.c0
  have c1 := h.c1
  have f0 := h.blk.frozen 0
  have f1 := h.blk.frozen 1
  have hl := h.left
  have HH : Hid (DiskAt B w r s) := h
  have HO : Hid (s.off = false) := ho
  rw [ho] at c0
  clear h ho
  unfold DRep.ptr
  by_cases h0 : s.left = 0
  · have e0 : ((s.left : Int) == 0) = true := by simp [h0]
    have H0 : Hid (s.left = 0) := h0
    clear h0
    go_enter Try.func36, Try.ntmps36
    go_wp2
    refine bodyPost_ret (results_none rfl _ _ _) rfl ?_
    refine ⟨rfl, ?_, Only.refl _ _⟩
    have e := HH.out
    have : ({ s with off := decide (s.left = 1), left := s.left - 1 } : DSt) = s := by
      cases s; simp only [DSt.mk.injEq]; have := H0.out; have := HO.out; simp_all
    rw [this]; exact e
  · have e0 : ((s.left : Int) == 0) = false := by simp; omega
    have H0 : Hid (s.left ≠ 0) := h0
    have h1 : 1 ≤ s.left := by omega
    clear h0
    have e1 : (((s.left : Int) - 1) == 0) = decide (s.left = 1) := by
      by_cases h2 : s.left = 1 <;> simp [h2]; omega
    go_enter Try.func36, Try.ntmps36
    go_wp2
    go_end0
    exact ⟨rfl, HH.out.store10 _ _ (by omega) _ (by omega)⟩

set_option maxHeartbeats 400000 in
theorem Cut_any {B : Nat} {w : World} {r : DRep} {s : DSt} (h : DiskAt B w r s) (n : Int) (hn : n ≤ 9223372036854775807) :
    Calls Try.prog 24 #[r.ptr, .int .i64 n] w fun e w' => e = .returned (.int .i64 (s.cut n).1) ∧ DiskAt B w' r (s.cut n).2 ∧ Only (fun k => k = r.p) w w' := by
  have c0 := h.c0
  have c1 := h.c1
  have f0 := h.blk.frozen 0
  have f1 := h.blk.frozen 1
  have HH : Hid (DiskAt B w r s) := h
  have K := check_any h
  unfold DRep.ptr at K ⊢
  cases ho : s.off
  · have HP : Hid (s.power = 0) := by show s.power = 0; simp [DSt.power, ho]
    have HO : Hid (s.off = false) := ho
    rw [ho] at c0
    clear h ho
    rw [HP.out] at K
    by_cases h0 : n < 0
    · have HF : Hid (s.cut n = (2, s)) := by show s.cut n = (2, s); simp [DSt.cut, HO.out, h0]
      go_enter Try.func24, Try.ntmps24
      go_wp2_with (go_at_call 28; refine K.mono ?_; rintro e w' ⟨rfl, rfl⟩)
      go_ret
      rw [HF.out]
      exact ⟨rfl, HH.out, Only.refl _ _⟩
    · have HF : Hid (s.cut n = (0, { s with off := decide (n = 0), left := n.toNat })) := by show s.cut n = _; simp [DSt.cut, HO.out, h0]
      have hz : (n == 0) = decide (n = 0) := by
        by_cases h2 : n = 0 <;> simp [h2]
      go_enter Try.func24, Try.ntmps24
      go_wp2_with (go_at_call 28; refine K.mono ?_; rintro e w' ⟨rfl, rfl⟩)
      go_ret
      rw [HF.out]
      exact ⟨rfl, HH.out.store01 _ _ (by omega) _ (by omega)⟩
  · have HP : Hid (s.power = 251) := by show s.power = 251; simp [DSt.power, ho]
    have HO : Hid (s.off = true) := ho
    rw [ho] at c0
    clear h ho
    rw [HP.out] at K
    have HF : Hid (s.cut n = (251, s)) := by show s.cut n = (251, s); simp [DSt.cut, HO.out]
    go_enter Try.func24, Try.ntmps24
    go_wp2_with (go_at_call 28; refine K.mono ?_; rintro e w' ⟨rfl, rfl⟩)
    go_ret
    rw [HF.out]
    exact ⟨rfl, HH.out, Only.refl _ _⟩
end Go.Proofs.Ytacincpecdkhiaa
