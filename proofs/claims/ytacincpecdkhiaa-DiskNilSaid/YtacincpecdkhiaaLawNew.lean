/-
  DiskNewMatches: New accepts exactly the sizes from 1 to 4194304; a new disk has that size, no pending writes, and zero bytes. For every two integers; no condition.
-/
import Derived.Test.YtacincpecdkhiaaSane
import Derived.Test.YtacincpecdkhiaaRows
import Derived.ProofKit
import Derived.OpenShut
import Derived.ShutString
import Derived.ChangeOld
namespace Go.Proofs.Ytacincpecdkhiaa
open Go.ChangeShapes Go.WideShapes Go.ChangeAt Go.RowKit
set_option linter.unusedVariables false

/-- The index that pick maps an integer to. -/
def pickI (c n : Int) : Int := (if c < 0 then -(c + 1) else c) % n
theorem pickI_nonneg (c n : Int) (h : 1 ≤ n) : 0 ≤ pickI c n := Int.emod_nonneg _ (by omega)
theorem pickI_lt (c n : Int) (h : 1 ≤ n) : pickI c n < n := Int.emod_lt_of_pos _ (by omega)

set_option maxHeartbeats 400000 in
theorem pick_any (c n : Int) (w : World) (h0 : -9223372036854775808 ≤ c) (h1 : c ≤ 9223372036854775807) (hn : 1 ≤ n) (hn2 : n ≤ 9223372036854775807) :
    Calls Try.prog 15 #[.int .i64 c, .int .i64 n] w fun e w' => e = .returned (.int .i64 (pickI c n)) ∧ w = w' := by
  have HP : Hid (pickI c n = (if c < 0 then -(c + 1) else c) % n) := rfl
  by_cases h : c < 0
  · go_enter Try.func15, Try.ntmps15
    go_wp2
    go_ret
    rw [HP.out, if_pos h, ← Int.tmod_eq_emod_of_nonneg (by omega), Int.neg_tmod]
    exact ⟨rfl, rfl⟩
  · go_enter Try.func15, Try.ntmps15
    go_wp2
    go_ret
    rw [HP.out, if_neg (by omega)]
    exact ⟨rfl, rfl⟩

theorem read_new (n : Nat) (o : Int) (h0 : 0 ≤ o) (h1 : o < n) : (DSt.new n).read o 1 = ([0], 0) := by
  have hi : (DSt.new n).inside o 1 = true := by
    rw [DSt.inside_iff]
    simp [DSt.new]
    omega
  have e : (DSt.new n).part o 1 = [0] := by
    simp only [DSt.part, DSt.new, List.drop_replicate]
    have : (1 : Int).toNat = 1 := rfl
    rw [this, List.take_replicate, Nat.min_eq_left (by omega)]
    rfl
  simp [DSt.read, hi, e, show (DSt.new n).off = false from rfl]

set_option maxRecDepth 100000 in
set_option maxHeartbeats 1000000 in
theorem newMatches_any (size at_ : Int) (w : World) (h0 : -9223372036854775808 ≤ size) (h1 : size ≤ 9223372036854775807) (g0 : -9223372036854775808 ≤ at_) (g1 : at_ ≤ 9223372036854775807) :
    Calls Try.prog 3 #[.int .i64 size, .int .i64 at_] w fun e w' => e = .returned (.bool true) ∧ Below w.heap.size w w' := by
  by_cases hs : 1 ≤ size ∧ size ≤ 4194304
  · obtain ⟨hs1, hs2⟩ := hs
    obtain ⟨n, rfl⟩ := Int.eq_ofNat_of_zero_le (show 0 ≤ size by omega)
    have hn1 : 1 ≤ n := by omega
    have hn2 : n ≤ 4194304 := by omega
    have HR := Lib.hid (read_new n (pickI at_ n) (pickI_nonneg _ _ hs1) (pickI_lt _ _ hs1))
    have HL : Hid ((DSt.new n).dur.length = n) := by show _ = _; simp [DSt.new]
    have HP : Hid ((DSt.new n).pend.length = 0) := rfl
    go_enter Try.func3, Try.ntmps3
    go_wp2_with fail
    refine (sane_any w).mono ?_
    rintro e w1 ⟨rfl, b1⟩
    have B1 := Lib.hid b1; clear b1
    go_wp2_with fail
    refine (DkB.new n w.heap.size w1 B1.out.size hn1 hn2).mono ?_
    rintro e w2 ⟨p, rfl, d2, b2⟩
    have D2 := Lib.hid d2; have B2 := Lib.hid (B1.out.trans b2); clear d2 b2
    go_wp2_with fail
    refine (pick_any at_ n w2 g0 g1 hs1 h1).mono ?_
    rintro e w2' ⟨rfl, rfl⟩
    go_wp2_with fail
    refine (D2.out.read (pickI at_ n) 1).mono ?_
    rintro e w2' ⟨rfl, rfl⟩
    rw [HR.out]
    go_wp2_with fail
    refine D2.out.size.mono ?_
    rintro e w2' ⟨rfl, rfl⟩
    rw [HL.out]
    go_wp2_with fail
    refine D2.out.pending.mono ?_
    rintro e w2' ⟨rfl, rfl⟩
    rw [HP.out]
    go_wp2_with fail
    go_ret
    exact ⟨rfl, B2.out⟩
  · have hb : size < 1 ∨ 4194304 < size := by omega
    have KN := Lib.hid (fun w => New_bad size w hb)
    have hnl : size < 1 ∨ (4194304 < size ∧ ¬ size < 1) := by omega
    rcases hnl with h3 | ⟨h3, h4⟩
    all_goals
      clear hs hb
      go_enter Try.func3, Try.ntmps3
      go_wp2_with fail
      refine (sane_any w).mono ?_
      rintro e w1 ⟨rfl, b1⟩
      have B1 := Lib.hid b1; clear b1
      go_wp2_with fail
      refine (KN.out w1).mono ?_
      rintro e w1' ⟨rfl, rfl⟩
      go_wp2_with fail
      go_ret
      exact ⟨rfl, B1.out⟩

theorem own : ownKnob Try.prog.godebug = none := by kernel_rfl
theorem laidOut : laidOutB Try.prog = true := by kernel_rfl

set_option maxRecDepth 100000 in
theorem newMatches_lifted (os : Os) (started : os.Started) (H : Type) (enc : TypeId × Value → H) :
    ReturnsInHanded {} Try.checked os 3 .any (Rows.diskNewMatchesSpec.pre6 enc Try.prog Try.f3 Rows.diskNewMatchesRow.domain false) (Rows.diskNewMatchesSpec.post enc Try.prog Try.f3 false true false false) := by
  refine returnsInHanded_of_change (C := Try.checked) own started (by kernel_rfl) Try.func3
    (ChangeSpec.witness6 (enc := enc) (C := Try.checked) false ⟨#[], #[.int .i64 0, .int .i64 0], []⟩ 8 (by kernel_rfl) (by kernel_rfl) (by kernel_rfl) (by kernel_rfl)) ?_
  intro W base args ds gs before hval0 hW hcnd _
  have hval : ∀ (j : Nat) t v, Try.f3.params[j]? = some t → args[j]? = some v → Value.okWide Try.prog W .any base t v := hval0
  have hW' := hW
  obtain ⟨p, q, hA0, hV, rfl, hfz, hnd⟩ := hW
  have hA : DataW.TrodAll enc Try.prog W 0 (fun _ => true) true Try.f3.params.toList args.toList ds p := hA0
  rw [Try.params3] at hA hval
  obtain ⟨v0, vs0, d0, ds0, p0, q0, hargs, rfl, rfl, h0, r0⟩ := trodAll_cons hA
  obtain ⟨v1, vs1, d1, ds1, p1, q1, rfl, rfl, rfl, h1, r1⟩ := trodAll_cons r0
  obtain ⟨rfl, rfl, rfl⟩ := trodAll_nil r1
  obtain rfl : args = #[v0, v1] := by cases args; simp_all
  obtain ⟨rfl, rfl⟩ := trodVars_none hV
  obtain ⟨a0, rfl, rfl, rfl, w0⟩ := open_int Try.underlying3 (hval 0 3 v0 rfl rfl) h0
  obtain ⟨a1, rfl, rfl, rfl, w1⟩ := open_int Try.underlying3 (hval 1 3 v1 rfl rfl) h1
  clear hA0 hval0
  have b0 := bounds_i64 w0
  have b1 := bounds_i64 w1
  refine (newMatches_any a0 a1 W b0.1 b0.2 b1.1 b1.2).mono fun e W' ⟨he, bel⟩ => ?_
  subst he
  exact ⟨_, rfl, _, _, _, [], _, [], hW', trodAll_mk1 (shut_bool Try.underlying4 _), (trodAll_cons_mk (shut_int Try.underlying3 w0) (trodAll_cons_mk (shut_int Try.underlying3 w1) trodAll_mk0)), rfl, bel.frame _, fun h => by cases h⟩

theorem newMatches_over : Rows.diskNewMatchesRow.holds Try.pinned (OpenSpec.ofChange Rows.diskNewMatchesSpec) :=
  OpenClaim.holds_of_wide 3 Try.f3 rfl rfl rfl rfl rfl rfl rfl ⟨rfl, rfl, rfl, rfl, rfl⟩ rfl rfl rfl rfl rfl (by kernel_rfl) Try.func3 (by kernel_rfl)
    (of_decide_eq_true (by kernel_rfl)) (by unfold Func.isWrapper; first | (rw [if_pos (by decide +kernel)]; kernel_rfl) | (rw [if_neg (by decide +kernel)]; exact ⟨rfl, rfl⟩))
    (fun os started H enc _ => newMatches_lifted os started H enc)

theorem newMatches_holds : Rows.DiskNewMatchesSaid := newMatches_over
#print axioms newMatches_holds
end Go.Proofs.Ytacincpecdkhiaa
