/-
  How a disk lies in memory.
-/
import Derived.Test.YtacincpecdkhiaaDModel
import Derived.Test.YtacincpecdkhiaaProg
import Derived.WalkKit
import Derived.WalkSpells
import Derived.Outline
namespace Go.Proofs.Ytacincpecdkhiaa
open Go.RowKit
set_option linter.unusedVariables false

def wcell (x : Nat × ByteArray) : List Value := [.int .i64 (x.1 : Int), .string x.2]
def wcells (l : List (Nat × ByteArray)) : List Value := l.flatMap wcell

/-- Where the parts of a disk lie. -/
structure DRep where
  p : Nat
  bd : Nat
  bv : Nat
  pv : Value
def DRep.ptr (r : DRep) : Value := .pointer (some ⟨r.p, 0, none⟩)
def DRep.foot (r : DRep) (k : Nat) : Prop := k = r.p ∨ k = r.bd ∨ k = r.bv ∨ r.pv.ownBlock = some k

structure DiskAt (B : Nat) (w : World) (r : DRep) (s : DSt) : Prop where
  blk : Blk w r.p 65 #[.bool s.off, .int .i64 (s.left : Int), .slice (some ⟨r.bd, 0, none⟩) s.dur.length s.dur.length, .slice (some ⟨r.bv, 0, none⟩) s.dur.length s.dur.length, r.pv]
  dur : Blk w r.bd 5 (cells8 s.dur).toArray
  vis : Blk w r.bv 5 (cells8 s.vis).toArray
  pend : w.ownsRow B 69 2 r.pv s.pend.length (wcells s.pend)
  ne : r.bd ≠ r.bv
  bp : B ≤ r.p
  bbd : B ≤ r.bd
  bbv : B ≤ r.bv
  len : s.vis.length = s.dur.length
  small : s.dur.length ≤ 4194304
  left : s.left ≤ 9223372036854775807
  fits : ∀ x ∈ s.pend, x.1 + x.2.size ≤ s.dur.length

section
variable {B : Nat} {w w' : World} {r : DRep} {s : DSt}
theorem DiskAt.c0 (h : DiskAt B w r s) : w.cell? ⟨r.p, 0, none⟩ = some (.bool s.off) := h.blk.cell 0
theorem DiskAt.c1 (h : DiskAt B w r s) : w.cell? ⟨r.p, 1, none⟩ = some (.int .i64 (s.left : Int)) := h.blk.cell 1
theorem DiskAt.c2 (h : DiskAt B w r s) : w.cell? ⟨r.p, 2, none⟩ = some (.slice (some ⟨r.bd, 0, none⟩) s.dur.length s.dur.length) := h.blk.cell 2
theorem DiskAt.c3 (h : DiskAt B w r s) : w.cell? ⟨r.p, 3, none⟩ = some (.slice (some ⟨r.bv, 0, none⟩) s.dur.length s.dur.length) := h.blk.cell 3
theorem DiskAt.c4 (h : DiskAt B w r s) : w.cell? ⟨r.p, 4, none⟩ = some r.pv := h.blk.cell 4
theorem DiskAt.footlt (h : DiskAt B w r s) : ∀ k, r.foot k → B ≤ k ∧ k < w.heap.size := by
  rintro k (rfl | rfl | rfl | hk)
  · exact ⟨h.bp, h.blk.lt⟩
  · exact ⟨h.bbd, h.dur.lt⟩
  · exact ⟨h.bbv, h.vis.lt⟩
  · exact h.pend.lt k hk
/-- What turns elsewhere leaves the disk as it is. -/
theorem DiskAt.only {S : Nat → Prop} (h : DiskAt B w r s) (ho : Only S w w') (hn : ∀ k, r.foot k → ¬ S k) : DiskAt B w' r s :=
  { h with
    blk := h.blk.only ho (hn _ (.inl rfl))
    dur := h.dur.only ho (hn _ (.inr (.inl rfl)))
    vis := h.vis.only ho (hn _ (.inr (.inr (.inl rfl))))
    pend := ownsRow_only h.pend ho fun k hk => hn k (.inr (.inr (.inr hk))) }
end

/-- From w to w' one call has turned the disk r into r': only its own blocks, and new ones. -/
structure Turned (r r' : DRep) (w w' : World) : Prop where
  p : r'.p = r.p
  only : Only r.foot w w'
  foot : ∀ k, r'.foot k → r.foot k ∨ w.heap.size ≤ k

set_option maxHeartbeats 400000 in
theorem Size_any {B : Nat} {w : World} {r : DRep} {s : DSt} (h : DiskAt B w r s) :
    Calls Try.prog 16 #[r.ptr] w fun e w' => e = .returned (.int .i64 (s.dur.length : Int)) ∧ w = w' := by
  have c2 := h.c2
  have hs := h.small
  unfold DRep.ptr
  go_enter Try.func16, Try.ntmps16
  go_wp2
  go_ret
  exact ⟨rfl, rfl⟩

set_option maxHeartbeats 400000 in
theorem check_any {B : Nat} {w : World} {r : DRep} {s : DSt} (h : DiskAt B w r s) :
    Calls Try.prog 28 #[r.ptr] w fun e w' => e = .returned (.int .i64 s.power) ∧ w = w' := by
  have c0 := h.c0
  unfold DRep.ptr
  cases ho : s.off
  all_goals
    rw [ho] at c0
    have HP : Hid (s.power = if s.off = true then 251 else 0) := rfl
    have HO : Hid (s.off = _) := ho
    clear ho
    go_enter Try.func28, Try.ntmps28
    go_wp2
    go_ret
    rw [HP.out, HO.out]
    exact ⟨rfl, rfl⟩
end Go.Proofs.Ytacincpecdkhiaa
