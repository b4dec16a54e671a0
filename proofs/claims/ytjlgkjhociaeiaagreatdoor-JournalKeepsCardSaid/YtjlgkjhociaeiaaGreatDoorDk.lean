/-
  The disk's calls, told of a handle: Crash.
-/
import Derived.Test.YtjlgkjhociaeiaaGreatDoorGa
import Derived.Test.YtjlgkjhociaeiaaGreatDoorCrash2
namespace Go.Proofs.YtjlgkjhociaeiaaGreatDoor
open Go.RowKit
set_option linter.unusedVariables false
section
variable {w : World} {p : Nat} {F : Nat → Prop} {s : DSt}
theorem Dk.crash (h : Dk w p F s) (a : Option Addr) (len cap : Nat) (keep : List Int) (hI : Ints w.heap.size w (.slice a len cap) keep) (hreach : keep.length * 8 ≤ 140737488351232) (torn : Int) (ht : torn ≤ 9223372036854775807) :
    Calls Tryz.prog 30 #[.pointer (some ⟨p, 0, none⟩), .slice a len cap, .int .i64 torn] w fun e w' => e = .returned (.int .i64 0) ∧ Step w p F (s.crash keep torn) w' := by
  obtain ⟨r, rfl, hF, hd⟩ := h
  exact (Crash_any hd (Nat.zero_le _) a len cap keep hI hreach torn ht).mono fun e w' ⟨he, r', hd', t'⟩ => ⟨he, Step.of hF hd' t'⟩
end
section
variable {B : Nat} {w : World} {p : Nat} {s : DSt}
theorem DkB.crash (h : DkB B w p s) (hB : B ≤ w.heap.size) (a : Option Addr) (len cap : Nat) (keep : List Int) (hI : Ints w.heap.size w (.slice a len cap) keep) (hreach : keep.length * 8 ≤ 140737488351232) (torn : Int) (ht : torn ≤ 9223372036854775807) :
    Calls Tryz.prog 30 #[.pointer (some ⟨p, 0, none⟩), .slice a len cap, .int .i64 torn] w fun e w' => e = .returned (.int .i64 0) ∧ StepB B w p (s.crash keep torn) w' := by
  obtain ⟨F, hd, hF⟩ := h
  exact (hd.crash a len cap keep hI hreach torn ht).mono fun e w' ⟨he, t'⟩ => ⟨he, DkB.step hB hF t'⟩
end
end Go.Proofs.YtjlgkjhociaeiaaGreatDoor
