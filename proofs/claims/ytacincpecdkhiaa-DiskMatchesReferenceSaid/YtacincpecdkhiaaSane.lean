/-
  The fixed examples that each statement checks first: sane() returns true.
-/
import Derived.Test.YtacincpecdkhiaaDk
namespace Go.Proofs.Ytacincpecdkhiaa
open Go.RowKit
set_option linter.unusedVariables false

namespace Sn
def q0 : DSt := DSt.new 4
def q1 : DSt := (q0.write 0 ⟨#[97, 98]⟩).2
def q2 : DSt := (q1.write 1 ⟨#[120, 121]⟩).2
def q3 : DSt := q2.crash [1, 0] 1
def q4 : DSt := (q3.cut 1).2
def q5 : DSt := (q4.write 3 ⟨#[113]⟩).2
theorem e1 : (q0.write 0 ⟨#[97, 98]⟩).1 = 0 := by kernel_rfl
theorem e2 : (q1.write 1 ⟨#[120, 121]⟩).1 = 0 := by kernel_rfl
theorem e3 : (q2.write 3 ⟨#[122, 122]⟩).1 = 250 := by kernel_rfl
theorem e3' : (q2.write 3 ⟨#[122, 122]⟩).2 = q2 := by kernel_rfl
theorem r1 : q2.read 0 4 = ([97, 120, 121, 0], 0) := by kernel_rfl
theorem p1 : q2.pend.length = 2 := by kernel_rfl
theorem r2 : q3.read 0 4 = ([97, 120, 0, 0], 0) := by kernel_rfl
theorem c1 : (q3.cut 1).1 = 0 := by kernel_rfl
theorem e4 : (q4.write 3 ⟨#[113]⟩).1 = 0 := by kernel_rfl
theorem y1 : q5.sync.1 = 251 := by kernel_rfl
theorem y2 : q5.sync.2 = q5 := by kernel_rfl
theorem z1 : q5.dur.length = 4 := by kernel_rfl
theorem l0 : q0.pend.length ≤ 1000000 := by show (0 : Nat) ≤ _; omega
theorem l1 : q1.pend.length ≤ 1000000 := by have : q1.pend.length = 1 := by kernel_rfl
                                            omega
theorem l2 : q2.pend.length ≤ 1000000 := by have := p1; omega
theorem l4 : q4.pend.length ≤ 1000000 := by have : q4.pend.length = 0 := by kernel_rfl
                                            omega
end Sn

set_option maxRecDepth 100000 in
set_option maxHeartbeats 4000000 in
theorem sane_any (w : World) : Calls Try.prog 12 #[] w fun e w' => e = .returned (.bool true) ∧ Below w.heap.size w w' := by
  go_enter Try.func12, Try.ntmps12
  go_wp2_with fail
  refine (DkB.new 4 w.heap.size w (Nat.le_refl _) (by omega) (by omega)).mono ?_
  rintro e w1 ⟨p, rfl, d0, b0⟩
  have D0 := Lib.hid d0; have B0 := Lib.hid b0; clear d0 b0
  go_wp2_with fail
  refine (New_bad 0 w1 (by omega)).mono ?_
  rintro e w1' ⟨rfl, rfl⟩
  go_wp2_with fail
  refine (D0.out.write 0 ⟨#[97, 98]⟩ B0.out.size Sn.l0).mono ?_
  rintro e w2 ⟨rfl, d1, b1⟩
  rw [show DSt.new 4 = Sn.q0 from rfl, Sn.e1]
  have D1 : Hid (DkB w.heap.size w2 p Sn.q1) := d1
  have B1 := Lib.hid (B0.out.trans b1); clear d1 b1
  go_wp2_with fail
  refine (D1.out.write 1 ⟨#[120, 121]⟩ B1.out.size Sn.l1).mono ?_
  rintro e w3 ⟨rfl, d2, b2⟩
  rw [Sn.e2]
  have D2 : Hid (DkB w.heap.size w3 p Sn.q2) := d2
  have B2 := Lib.hid (B1.out.trans b2); clear d2 b2
  go_wp2_with fail
  refine (D2.out.write 3 ⟨#[122, 122]⟩ B2.out.size Sn.l2).mono ?_
  rintro e w4 ⟨rfl, d3, b3⟩
  rw [Sn.e3]
  rw [Sn.e3'] at d3
  have D3 : Hid (DkB w.heap.size w4 p Sn.q2) := d3
  have B3 := Lib.hid (B2.out.trans b3); clear d3 b3
  go_wp2_with fail
  refine (D3.out.read 0 4).mono ?_
  rintro e w4' ⟨rfl, rfl⟩
  rw [Sn.r1]
  go_wp2_with fail
  refine D3.out.pending.mono ?_
  rintro e w4' ⟨rfl, rfl⟩
  rw [Sn.p1]
  go_wp2_with fail
  have D4 := Lib.hid (D3.out.below ((Below.refl w4.heap.size w4).alloc (Nat.le_refl _) (.cells #[.int .i64 1, .int .i64 0] 3)))
  have B4 := Lib.hid (B3.out.alloc B3.out.size (.cells #[.int .i64 1, .int .i64 0] 3))
  have I4 : Ints (w4.alloc (.cells #[.int .i64 1, .int .i64 0] 3)).heap.size (w4.alloc (.cells #[.int .i64 1, .int .i64 0] 3)) (.slice (some ⟨w4.heap.size, 0, none⟩) 2 2) [1, 0] := by
    refine .inr ⟨w4.heap.size, 0, 2, rfl, by simp, fun j hj => ?_⟩
    have hb := (Blk.new w4 3 #[.int .i64 1, .int .i64 0]).cell j
    rw [Nat.zero_add, hb]
    match j, hj with
    | 0, _ => rfl
    | 1, _ => rfl
  refine (D4.out.crash B4.out.size _ 2 2 [1, 0] I4 (by simp) 1 (by omega)).mono ?_
  clear I4
  rintro e w5 ⟨rfl, d5, b5⟩
  have D5 : Hid (DkB w.heap.size w5 p Sn.q3) := d5
  have B5 := Lib.hid (B4.out.trans b5); clear d5 b5
  go_wp2_with fail
  refine (D5.out.read 0 4).mono ?_
  rintro e w5' ⟨rfl, rfl⟩
  rw [Sn.r2]
  go_wp2_with fail
  refine (D5.out.cut 1 B5.out.size (by omega)).mono ?_
  rintro e w6 ⟨rfl, d6, b6⟩
  rw [Sn.c1]
  have D6 : Hid (DkB w.heap.size w6 p Sn.q4) := d6
  have B6 := Lib.hid (B5.out.trans b6); clear d6 b6
  go_wp2_with fail
  refine (D6.out.write 3 ⟨#[113]⟩ B6.out.size Sn.l4).mono ?_
  rintro e w7 ⟨rfl, d7, b7⟩
  rw [Sn.e4]
  have D7 : Hid (DkB w.heap.size w7 p Sn.q5) := d7
  have B7 := Lib.hid (B6.out.trans b7); clear d7 b7
  go_wp2_with fail
  refine (D7.out.sync B7.out.size).mono ?_
  rintro e w8 ⟨rfl, d8, b8⟩
  rw [Sn.y1]
  rw [Sn.y2] at d8
  have D8 : Hid (DkB w.heap.size w8 p Sn.q5) := d8
  have B8 := Lib.hid (B7.out.trans b8); clear d8 b8
  go_wp2_with fail
  refine D8.out.size.mono ?_
  rintro e w8' ⟨rfl, rfl⟩
  rw [Sn.z1]
  go_wp2_with fail
  go_ret
  exact ⟨rfl, B8.out⟩
end Go.Proofs.Ytacincpecdkhiaa
