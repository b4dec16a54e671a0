/-
  DiskNil: on a nil disk every call returns ErrNil or zero values. For all inputs; no condition.
-/
import Derived.Test.YtacincpecdkhiaaDPick
import Derived.Test.YtacincpecdkhiaaArgs
namespace Go.Proofs.Ytacincpecdkhiaa
open Go.ChangeShapes Go.WideShapes Go.ChangeAt Go.RowKit
open Go.ChangeMaps (open_string shut_string)
set_option linter.unusedVariables false

/-- A string cut to at most n bytes. -/
def cutB (s : ByteArray) (n : Nat) : ByteArray := s.extract 0 (min s.size n)
theorem cutB_size (s : ByteArray) (n : Nat) : (cutB s n).size = min s.size n := by unfold cutB; rw [ByteArray.size_extract]; omega

set_option maxHeartbeats 400000 in
theorem cut_any (s : ByteArray) (n : Nat) (w : World) (hs : s.size ≤ 9223372036854775807) (hn : n ≤ 9223372036854775807) :
    Calls Try.prog 22 #[.string s, .int .i64 (n : Int)] w fun e w' => e = .returned (.string (cutB s n)) ∧ w = w' := by
  have HP : Hid (cutB s n = s.extract 0 (min s.size n)) := rfl
  go_enter Try.func22, Try.ntmps22
  go_wp2
  go_ret
  rw [HP.out]
  rw [← show (min (s.size : Int) (n : Int)).toNat = min s.size n from by omega]
  exact ⟨rfl, rfl⟩

section
variable (w : World)
set_option maxHeartbeats 400000 in
theorem check_nil : Calls Try.prog 28 #[.pointer none] w fun e w' => e = .returned (.int .i64 1) ∧ w = w' := by
  go_enter Try.func28, Try.ntmps28
  go_wp2
  go_ret
  exact ⟨rfl, rfl⟩
set_option maxHeartbeats 400000 in
theorem Read_nil (o n : Int) : Calls Try.prog 14 #[.pointer none, .int .i64 o, .int .i64 n] w fun e w' => e = .returned (.tuple #[.string ⟨#[]⟩, .int .i64 1]) ∧ w = w' := by
  go_enter Try.func14, Try.ntmps14
  go_wp2_with (go_at_call 28; refine (check_nil _).mono ?_; rintro e w' ⟨rfl, rfl⟩)
  go_ret2
  exact ⟨rfl, rfl⟩
set_option maxHeartbeats 400000 in
theorem Write_nil (o : Int) (t : ByteArray) : Calls Try.prog 21 #[.pointer none, .int .i64 o, .string t] w fun e w' => e = .returned (.int .i64 1) ∧ w = w' := by
  go_enter Try.func21, Try.ntmps21
  go_wp2_with (go_at_call 28; refine (check_nil _).mono ?_; rintro e w' ⟨rfl, rfl⟩)
  go_ret
  exact ⟨rfl, rfl⟩
set_option maxHeartbeats 400000 in
theorem Sync_nil : Calls Try.prog 23 #[.pointer none] w fun e w' => e = .returned (.int .i64 1) ∧ w = w' := by
  go_enter Try.func23, Try.ntmps23
  go_wp2_with (go_at_call 28; refine (check_nil _).mono ?_; rintro e w' ⟨rfl, rfl⟩)
  go_ret
  exact ⟨rfl, rfl⟩
set_option maxHeartbeats 400000 in
theorem Cut_nil (n : Int) : Calls Try.prog 24 #[.pointer none, .int .i64 n] w fun e w' => e = .returned (.int .i64 1) ∧ w = w' := by
  go_enter Try.func24, Try.ntmps24
  go_wp2_with (go_at_call 28; refine (check_nil _).mono ?_; rintro e w' ⟨rfl, rfl⟩)
  go_ret
  exact ⟨rfl, rfl⟩
set_option maxHeartbeats 400000 in
theorem Crash_nil (a : Option Addr) (len cap : Nat) (t : Int) : Calls Try.prog 25 #[.pointer none, .slice a len cap, .int .i64 t] w fun e w' => e = .returned (.int .i64 1) ∧ Below w.heap.size w w' := by
  go_enter Try.func25, Try.ntmps25
  go_wp2
  go_ret
  exact ⟨rfl, (Below.refl _ w).alloc (Nat.le_refl _) _⟩
set_option maxHeartbeats 400000 in
theorem Pending_nil : Calls Try.prog 17 #[.pointer none] w fun e w' => e = .returned (.int .i64 0) ∧ w = w' := by
  go_enter Try.func17, Try.ntmps17
  go_wp2
  go_ret
  exact ⟨rfl, rfl⟩
set_option maxHeartbeats 400000 in
theorem Size_nil : Calls Try.prog 16 #[.pointer none] w fun e w' => e = .returned (.int .i64 0) ∧ w = w' := by
  go_enter Try.func16, Try.ntmps16
  go_wp2
  go_ret
  exact ⟨rfl, rfl⟩
end

set_option maxRecDepth 100000 in
set_option maxHeartbeats 1000000 in
theorem diskNil_any (a0 a1 : Int) (a2 : ByteArray) (a3 : Option Addr) (len3 cap3 : Nat) (x3 : List Int) (w : World) (w0 : -9223372036854775808 ≤ a0 ∧ a0 ≤ 9223372036854775807) (w1 : -9223372036854775808 ≤ a1 ∧ a1 ≤ 9223372036854775807) (w2 : a2.size ≤ maxLen) (w3 : Keeps w a3 len3 cap3 x3) :
    Calls Try.prog 5 #[.int .i64 a0, .int .i64 a1, .string a2, .slice a3 len3 cap3] w fun e w' => e = .returned (.bool true) ∧ Below w.heap.size w w' := by
  have hc := w3.hcap
  have hm := w3.hmax
  unfold maxLen at hm w2
  clear w3
  go_enter Try.func5, Try.ntmps5
  go_wp2_with fail
  refine (sane_any w).mono ?_
  rintro e v1 ⟨rfl, b1⟩
  have B1 := Lib.hid b1; clear b1
  go_wp2_with fail
  refine (Read_nil v1 a0 a1).mono ?_
  rintro e v1' ⟨rfl, rfl⟩
  go_wp2_with fail
  refine (cut_any a2 100 v1 (by omega) (by omega)).mono ?_
  rintro e v1' ⟨rfl, rfl⟩
  go_wp2_with fail
  refine (Write_nil v1 a0 _).mono ?_
  rintro e v1' ⟨rfl, rfl⟩
  go_wp2_with fail
  refine (Sync_nil v1).mono ?_
  rintro e v1' ⟨rfl, rfl⟩
  go_wp2_with fail
  refine (Cut_nil v1 a1).mono ?_
  rintro e v1' ⟨rfl, rfl⟩
  go_wp2_with fail
  refine (Crash_nil v1 _ _ _ a1).mono ?_
  rintro e v2 ⟨rfl, b2⟩
  have B2 := Lib.hid (B1.out.trans (b2.mono B1.out.size)); clear b2
  go_wp2_with fail
  refine (Pending_nil v2).mono ?_
  rintro e v2' ⟨rfl, rfl⟩
  go_wp2_with fail
  refine (Size_nil v2).mono ?_
  rintro e v2' ⟨rfl, rfl⟩
  go_wp2_with fail
  go_ret
  exact ⟨rfl, B2.out⟩

end Go.Proofs.Ytacincpecdkhiaa
