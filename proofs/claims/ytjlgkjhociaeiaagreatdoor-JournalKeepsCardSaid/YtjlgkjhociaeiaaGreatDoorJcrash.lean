/-
  A power failure of a law's disk.
-/
import Derived.Test.YtjlgkjhociaeiaaGreatDoorGm
import Derived.Test.YtjlgkjhociaeiaaGreatDoorDk
namespace Go.Proofs.YtjlgkjhociaeiaaGreatDoor
open Go.RowKit
set_option linter.unusedVariables false
section
variable {B : Nat} {a : Addr} {w w' : World} {b p : Nat} {d : DSt} {t : Tape} {br : Bool}
theorem DJ.crash (h : DJ B a w p d) (q : Option Addr) (len cap : Nat) (keep : List Int) (hI : Ints w.heap.size w (.slice q len cap) keep) (hreach : keep.length * 8 ≤ 140737488351232) (torn : Int) (ht : torn ≤ 9223372036854775807) :
    Calls Tryz.prog 30 #[.pointer (some ⟨p, 0, none⟩), .slice q len cap, .int .i64 torn] w fun e w' => e = .returned (.int .i64 0) ∧ DJ B a w' p (d.crash keep torn) ∧ LeftO B w w' := by
  obtain ⟨hw, F, hd, hF⟩ := h
  exact (hd.crash q len cap keep hI hreach torn ht).mono fun e w' ⟨he, hs⟩ => ⟨he, DJ.step hw hd hF hs⟩
end
end Go.Proofs.YtjlgkjhociaeiaaGreatDoor
