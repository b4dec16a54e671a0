/-
  pick; the law DiskNewMatches, walked; two closed facts on the program.
-/
import Derived.Test.YtacincpecdkhiaaSane
import Derived.ProofKit
namespace Go.Proofs.Ytacincpecdkhiaa
open Go.RowKit
set_option linter.unusedVariables false

/-- The index that pick maps an integer to. -/
def pickI (c n : Int) : Int := (if c < 0 then -(c + 1) else c) % n
theorem pickI_nonneg (c n : Int) (h : 1 ≤ n) : 0 ≤ pickI c n := Int.emod_nonneg _ (by omega)
theorem pickI_lt (c n : Int) (h : 1 ≤ n) : pickI c n < n := Int.emod_lt_of_pos _ (by omega)

set_option maxHeartbeats 400000 in
theorem pick_any (c n : Int) (w : World) (h0 : -9223372036854775808 ≤ c) (h1 : c ≤ 9223372036854775807) (hn : 1 ≤ n) (hn2 : n ≤ 9223372036854775807) :
    Calls Try.prog 15 #[.int .i64 c, .int .i64 n] w fun e w' => e = .returned (.int .i64 (pickI c n)) ∧ w = w' := by
  have HP : Hid (pickI c n = (if c < 0 then -(c + 1) else c) % n) := rfl
  by_cases h : c < 0
  · go_enter Try.func15, Try.ntmps15
    go_wp2
    go_ret
    rw [HP.out, if_pos h, ← Int.tmod_eq_emod_of_nonneg (by omega), Int.neg_tmod]
    exact ⟨rfl, rfl⟩
  · go_enter Try.func15, Try.ntmps15
    go_wp2
    go_ret
    rw [HP.out, if_neg (by omega)]
    exact ⟨rfl, rfl⟩

theorem own : ownKnob Try.prog.godebug = none := by kernel_rfl
theorem laidOut : laidOutB Try.prog = true := by kernel_rfl

theorem read_new (n : Nat) (o : Int) (h0 : 0 ≤ o) (h1 : o < n) : (DSt.new n).read o 1 = ([0], 0) := by
  have hi : (DSt.new n).inside o 1 = true := by
    rw [DSt.inside_iff]
    simp [DSt.new]
    omega
  have e : (DSt.new n).part o 1 = [0] := by
    simp only [DSt.part, DSt.new, List.drop_replicate]
    have : (1 : Int).toNat = 1 := rfl
    rw [this, List.take_replicate, Nat.min_eq_left (by omega)]
    rfl
  simp [DSt.read, hi, e, show (DSt.new n).off = false from rfl]

set_option maxRecDepth 100000 in
set_option maxHeartbeats 1000000 in
theorem newMatches_any (size at_ : Int) (w : World) (h0 : -9223372036854775808 ≤ size) (h1 : size ≤ 9223372036854775807) (g0 : -9223372036854775808 ≤ at_) (g1 : at_ ≤ 9223372036854775807) :
    Calls Try.prog 3 #[.int .i64 size, .int .i64 at_] w fun e w' => e = .returned (.bool true) ∧ Below w.heap.size w w' := by
  by_cases hs : 1 ≤ size ∧ size ≤ 4194304
  · obtain ⟨hs1, hs2⟩ := hs
    obtain ⟨n, rfl⟩ := Int.eq_ofNat_of_zero_le (show 0 ≤ size by omega)
    have hn1 : 1 ≤ n := by omega
    have hn2 : n ≤ 4194304 := by omega
    have HR := Lib.hid (read_new n (pickI at_ n) (pickI_nonneg _ _ hs1) (pickI_lt _ _ hs1))
    have HL : Hid ((DSt.new n).dur.length = n) := by show _ = _; simp [DSt.new]
    have HP : Hid ((DSt.new n).pend.length = 0) := rfl
    go_enter Try.func3, Try.ntmps3
    go_wp2_with fail
    refine (sane_any w).mono ?_
    rintro e w1 ⟨rfl, b1⟩
    have B1 := Lib.hid b1; clear b1
    go_wp2_with fail
    refine (DkB.new n w.heap.size w1 B1.out.size hn1 hn2).mono ?_
    rintro e w2 ⟨p, rfl, d2, b2⟩
    have D2 := Lib.hid d2; have B2 := Lib.hid (B1.out.trans b2); clear d2 b2
    go_wp2_with fail
    refine (pick_any at_ n w2 g0 g1 hs1 h1).mono ?_
    rintro e w2' ⟨rfl, rfl⟩
    go_wp2_with fail
    refine (D2.out.read (pickI at_ n) 1).mono ?_
    rintro e w2' ⟨rfl, rfl⟩
    rw [HR.out]
    go_wp2_with fail
    refine D2.out.size.mono ?_
    rintro e w2' ⟨rfl, rfl⟩
    rw [HL.out]
    go_wp2_with fail
    refine D2.out.pending.mono ?_
    rintro e w2' ⟨rfl, rfl⟩
    rw [HP.out]
    go_wp2_with fail
    go_ret
    exact ⟨rfl, B2.out⟩
  · have hb : size < 1 ∨ 4194304 < size := by omega
    have KN := Lib.hid (fun w => New_bad size w hb)
    have hnl : size < 1 ∨ (4194304 < size ∧ ¬ size < 1) := by omega
    rcases hnl with h3 | ⟨h3, h4⟩
    all_goals
      clear hs hb
      go_enter Try.func3, Try.ntmps3
      go_wp2_with fail
      refine (sane_any w).mono ?_
      rintro e w1 ⟨rfl, b1⟩
      have B1 := Lib.hid b1; clear b1
      go_wp2_with fail
      refine (KN.out w1).mono ?_
      rintro e w1' ⟨rfl, rfl⟩
      go_wp2_with fail
      go_ret
      exact ⟨rfl, B1.out⟩

end Go.Proofs.Ytacincpecdkhiaa
