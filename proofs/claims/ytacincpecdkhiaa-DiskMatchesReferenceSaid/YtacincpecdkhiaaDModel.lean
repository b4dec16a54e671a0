/-
  The disk as plain data: its state, and what each call makes of it.
-/
import Derived.Test.YtacincpecdkhiaaBase
import Derived.Laws.CopyOwn
import Derived.Lib.SlicesCompact
namespace Go.Proofs.Ytacincpecdkhiaa
open Go.RowKit
set_option linter.unusedVariables false

/-- What a disk holds. -/
structure DSt where
  off : Bool
  left : Nat
  dur : List UInt8
  vis : List UInt8
  pend : List (Nat × ByteArray)

/-- A write laid over a content. -/
def lay (b : List UInt8) (x : Nat × ByteArray) : List UInt8 := splice b x.1 x.2.data.toList
theorem lay_length {b : List UInt8} {x : Nat × ByteArray} (h : x.1 + x.2.size ≤ b.length) : (lay b x).length = b.length :=
  length_splice _ _ _ (by rw [size_list]; exact h)

namespace DSt
def inside (s : DSt) (o n : Int) : Bool := decide (0 ≤ o) && decide (0 ≤ n) && decide (o ≤ (s.dur.length : Int)) && decide (n ≤ (s.dur.length : Int) - o)
theorem inside_iff (s : DSt) (o n : Int) : s.inside o n = true ↔ 0 ≤ o ∧ 0 ≤ n ∧ o ≤ (s.dur.length : Int) ∧ n ≤ (s.dur.length : Int) - o := by
  simp [inside, and_assoc]
/-- The error of a call that wants power. -/
def power (s : DSt) : Int := if s.off = true then 251 else 0
def wrote (s : DSt) (o : Int) (t : ByteArray) : DSt :=
  { off := decide (s.left = 1), left := s.left - 1, dur := s.dur, vis := lay s.vis (o.toNat, t), pend := s.pend ++ [(o.toNat, t)] }
def write (s : DSt) (o : Int) (t : ByteArray) : Int × DSt :=
  if s.off = true then (251, s) else if s.inside o t.size = true then (0, s.wrote o t) else (250, s)
def synced (s : DSt) : DSt := { s with dur := s.vis, pend := [] }
def sync (s : DSt) : Int × DSt := if s.off = true then (251, s) else (0, s.synced)
def part (s : DSt) (o n : Int) : List UInt8 := (s.vis.drop o.toNat).take n.toNat
def read (s : DSt) (o n : Int) : List UInt8 × Int :=
  if s.off = true then ([], 251) else if s.inside o n = true then (s.part o n, 0) else ([], 250)
def cut (s : DSt) (n : Int) : Int × DSt :=
  if s.off = true then (251, s) else if n < 0 then (2, s) else (0, { s with off := decide (n = 0), left := n.toNat })
/-- The pending writes that survive, in their order. -/
def kept (s : DSt) (keep : List Int) : List Nat := (List.range s.pend.length).filter fun i => decide ((i : Int) ∈ keep)
/-- The writes of numbers l laid over a content, the last one torn. -/
def tear (torn : Int) (x : Nat × ByteArray) : Nat × ByteArray := if 0 ≤ torn then (x.1, x.2.extract 0 (min torn.toNat x.2.size)) else x
def layAll (p : List (Nat × ByteArray)) (torn : Int) : List Nat → List UInt8 → List UInt8
  | [], b => b
  | [i], b => lay b (tear torn (p[i]?.getD (0, ByteArray.empty)))
  | i :: j :: r, b => layAll p torn (j :: r) (lay b (p[i]?.getD (0, ByteArray.empty)))
def crash (s : DSt) (keep : List Int) (torn : Int) : DSt :=
  { off := false, left := 0, dur := layAll s.pend torn (s.kept keep) s.dur, vis := layAll s.pend torn (s.kept keep) s.dur, pend := [] }
def new (n : Nat) : DSt := { off := false, left := 0, dur := List.replicate n 0, vis := List.replicate n 0, pend := [] }
end DSt
end Go.Proofs.Ytacincpecdkhiaa
