/-
  Joined by program out of: DModel, DRep, DWalk1, DWalk2, DWalk3, DWalk4, DWalk5, Dk0.
-/
import Derived.Test.YtjlgkjhociaeiaaGreatDoorBase
import Derived.Test.YtjlgkjhociaeiaaGreatDoorProg
import Derived.Laws.CopyOwn
import Derived.Lib.SlicesCompact
import Derived.WalkKit
import Derived.WalkSpells
import Derived.Outline
import Derived.Deep.QuietTactic
import Derived.BigQuiet
import Derived.Lib.BufferWrite
import Derived.Deep.RegionLaw
import Derived.Deep.OwnRows
import Derived.BigRegion
import Derived.RegionTactic
import Derived.ChangeAlike
import Derived.Lib.Strings
import Derived.Lib.Hide
import Derived.Laws.IdiomStrings
import Derived.Lib.LazyBuf
import Derived.StillTailTactics
import Derived.Deep.RegionLawGrows
import Derived.Maps.AppendAt
import Derived.Deep.CutRange
namespace Go.Proofs.YtjlgkjhociaeiaaGreatDoor
open Go.RowKit
set_option linter.unusedVariables false

/-- What a disk holds. -/
structure DSt where
  off : Bool
  left : Nat
  dur : List UInt8
  vis : List UInt8
  pend : List (Nat × ByteArray)

/-- A write laid over a content. -/
def lay (b : List UInt8) (x : Nat × ByteArray) : List UInt8 := splice b x.1 x.2.data.toList
theorem lay_length {b : List UInt8} {x : Nat × ByteArray} (h : x.1 + x.2.size ≤ b.length) : (lay b x).length = b.length :=
  length_splice _ _ _ (by rw [size_list]; exact h)

namespace DSt
def inside (s : DSt) (o n : Int) : Bool := decide (0 ≤ o) && decide (0 ≤ n) && decide (o ≤ (s.dur.length : Int)) && decide (n ≤ (s.dur.length : Int) - o)
theorem inside_iff (s : DSt) (o n : Int) : s.inside o n = true ↔ 0 ≤ o ∧ 0 ≤ n ∧ o ≤ (s.dur.length : Int) ∧ n ≤ (s.dur.length : Int) - o := by
  simp [inside, and_assoc]
/-- The error of a call that wants power. -/
def power (s : DSt) : Int := if s.off = true then 251 else 0
def wrote (s : DSt) (o : Int) (t : ByteArray) : DSt :=
  { off := decide (s.left = 1), left := s.left - 1, dur := s.dur, vis := lay s.vis (o.toNat, t), pend := s.pend ++ [(o.toNat, t)] }
def write (s : DSt) (o : Int) (t : ByteArray) : Int × DSt :=
  if s.off = true then (251, s) else if s.inside o t.size = true then (0, s.wrote o t) else (250, s)
def synced (s : DSt) : DSt := { s with dur := s.vis, pend := [] }
def sync (s : DSt) : Int × DSt := if s.off = true then (251, s) else (0, s.synced)
def part (s : DSt) (o n : Int) : List UInt8 := (s.vis.drop o.toNat).take n.toNat
def read (s : DSt) (o n : Int) : List UInt8 × Int :=
  if s.off = true then ([], 251) else if s.inside o n = true then (s.part o n, 0) else ([], 250)
def cut (s : DSt) (n : Int) : Int × DSt :=
  if s.off = true then (251, s) else if n < 0 then (2, s) else (0, { s with off := decide (n = 0), left := n.toNat })
/-- The pending writes that survive, in their order. -/
def kept (s : DSt) (keep : List Int) : List Nat := (List.range s.pend.length).filter fun i => decide ((i : Int) ∈ keep)
/-- The writes of numbers l laid over a content, the last one torn. -/
def tear (torn : Int) (x : Nat × ByteArray) : Nat × ByteArray := if 0 ≤ torn then (x.1, x.2.extract 0 (min torn.toNat x.2.size)) else x
def layAll (p : List (Nat × ByteArray)) (torn : Int) : List Nat → List UInt8 → List UInt8
  | [], b => b
  | [i], b => lay b (tear torn (p[i]?.getD (0, ByteArray.empty)))
  | i :: j :: r, b => layAll p torn (j :: r) (lay b (p[i]?.getD (0, ByteArray.empty)))
def crash (s : DSt) (keep : List Int) (torn : Int) : DSt :=
  { off := false, left := 0, dur := layAll s.pend torn (s.kept keep) s.dur, vis := layAll s.pend torn (s.kept keep) s.dur, pend := [] }
def new (n : Nat) : DSt := { off := false, left := 0, dur := List.replicate n 0, vis := List.replicate n 0, pend := [] }
end DSt
end Go.Proofs.YtjlgkjhociaeiaaGreatDoor
namespace Go.Proofs.YtjlgkjhociaeiaaGreatDoor
open Go.RowKit
set_option linter.unusedVariables false

def wcell (x : Nat × ByteArray) : List Value := [.int .i64 (x.1 : Int), .string x.2]
def wcells (l : List (Nat × ByteArray)) : List Value := l.flatMap wcell

/-- Where the parts of a disk lie. -/
structure DRep where
  p : Nat
  bd : Nat
  bv : Nat
  pv : Value
def DRep.ptr (r : DRep) : Value := .pointer (some ⟨r.p, 0, none⟩)
def DRep.foot (r : DRep) (k : Nat) : Prop := k = r.p ∨ k = r.bd ∨ k = r.bv ∨ r.pv.ownBlock = some k

structure DiskAt (B : Nat) (w : World) (r : DRep) (s : DSt) : Prop where
  blk : Blk w r.p 97 #[.bool s.off, .int .i64 (s.left : Int), .slice (some ⟨r.bd, 0, none⟩) s.dur.length s.dur.length, .slice (some ⟨r.bv, 0, none⟩) s.dur.length s.dur.length, r.pv]
  dur : Blk w r.bd 5 (cells8 s.dur).toArray
  vis : Blk w r.bv 5 (cells8 s.vis).toArray
  pend : w.ownsRow B 92 2 r.pv s.pend.length (wcells s.pend)
  ne : r.bd ≠ r.bv
  bp : B ≤ r.p
  bbd : B ≤ r.bd
  bbv : B ≤ r.bv
  len : s.vis.length = s.dur.length
  small : s.dur.length ≤ 4194304
  left : s.left ≤ 9223372036854775807
  fits : ∀ x ∈ s.pend, x.1 + x.2.size ≤ s.dur.length

section
variable {B : Nat} {w w' : World} {r : DRep} {s : DSt}
theorem DiskAt.c0 (h : DiskAt B w r s) : w.cell? ⟨r.p, 0, none⟩ = some (.bool s.off) := h.blk.cell 0
theorem DiskAt.c1 (h : DiskAt B w r s) : w.cell? ⟨r.p, 1, none⟩ = some (.int .i64 (s.left : Int)) := h.blk.cell 1
theorem DiskAt.c2 (h : DiskAt B w r s) : w.cell? ⟨r.p, 2, none⟩ = some (.slice (some ⟨r.bd, 0, none⟩) s.dur.length s.dur.length) := h.blk.cell 2
theorem DiskAt.c3 (h : DiskAt B w r s) : w.cell? ⟨r.p, 3, none⟩ = some (.slice (some ⟨r.bv, 0, none⟩) s.dur.length s.dur.length) := h.blk.cell 3
theorem DiskAt.c4 (h : DiskAt B w r s) : w.cell? ⟨r.p, 4, none⟩ = some r.pv := h.blk.cell 4
theorem DiskAt.footlt (h : DiskAt B w r s) : ∀ k, r.foot k → B ≤ k ∧ k < w.heap.size := by
  rintro k (rfl | rfl | rfl | hk)
  · exact ⟨h.bp, h.blk.lt⟩
  · exact ⟨h.bbd, h.dur.lt⟩
  · exact ⟨h.bbv, h.vis.lt⟩
  · exact h.pend.lt k hk
/-- What turns elsewhere leaves the disk as it is. -/
theorem DiskAt.only {S : Nat → Prop} (h : DiskAt B w r s) (ho : Only S w w') (hn : ∀ k, r.foot k → ¬ S k) : DiskAt B w' r s :=
  { h with
    blk := h.blk.only ho (hn _ (.inl rfl))
    dur := h.dur.only ho (hn _ (.inr (.inl rfl)))
    vis := h.vis.only ho (hn _ (.inr (.inr (.inl rfl))))
    pend := ownsRow_only h.pend ho fun k hk => hn k (.inr (.inr (.inr hk))) }
end

/-- From w to w' one call has turned the disk r into r': only its own blocks, and new ones. -/
structure Turned (r r' : DRep) (w w' : World) : Prop where
  p : r'.p = r.p
  only : Only r.foot w w'
  foot : ∀ k, r'.foot k → r.foot k ∨ w.heap.size ≤ k

set_option maxHeartbeats 400000 in
theorem Size_any {B : Nat} {w : World} {r : DRep} {s : DSt} (h : DiskAt B w r s) :
    Calls Tryz.prog 51 #[r.ptr] w fun e w' => e = .returned (.int .i64 (s.dur.length : Int)) ∧ w = w' := by
  have c2 := h.c2
  have hs := h.small
  unfold DRep.ptr
  go_enter Tryz.func51, Tryz.ntmps51
  go_wp2
  go_ret
  exact ⟨rfl, rfl⟩

set_option maxHeartbeats 400000 in
theorem check_any {B : Nat} {w : World} {r : DRep} {s : DSt} (h : DiskAt B w r s) :
    Calls Tryz.prog 46 #[r.ptr] w fun e w' => e = .returned (.int .i64 s.power) ∧ w = w' := by
  have c0 := h.c0
  unfold DRep.ptr
  cases ho : s.off
  all_goals
    rw [ho] at c0
    have HP : Hid (s.power = if s.off = true then 251 else 0) := rfl
    have HO : Hid (s.off = _) := ho
    clear ho
    go_enter Tryz.func46, Tryz.ntmps46
    go_wp2
    go_ret
    rw [HP.out, HO.out]
    exact ⟨rfl, rfl⟩
end Go.Proofs.YtjlgkjhociaeiaaGreatDoor
namespace Go.Proofs.YtjlgkjhociaeiaaGreatDoor
open Go.RowKit
set_option linter.unusedVariables false

theorem DiskAt.pv {B : Nat} {w : World} {r : DRep} {s : DSt} (h : DiskAt B w r s) : ∃ A c, r.pv = .slice A s.pend.length c := by
  rcases h.pend.2 with ⟨h1, h2⟩ | ⟨g, cap, cur, h1, _⟩
  · exact ⟨none, 0, by rw [h1, h2]⟩
  · exact ⟨_, _, h1⟩

set_option maxHeartbeats 400000 in
theorem Pending_any {B : Nat} {w : World} {r : DRep} {s : DSt} (h : DiskAt B w r s) :
    Calls Tryz.prog 32 #[r.ptr] w fun e w' => e = .returned (.int .i64 (s.pend.length : Int)) ∧ w = w' := by
  have c4 := h.c4
  obtain ⟨A, c, hpv⟩ := h.pv
  rw [hpv] at c4
  clear hpv
  unfold DRep.ptr
  go_enter Tryz.func32, Tryz.ntmps32
  go_wp2
  go_ret
  exact ⟨rfl, rfl⟩

set_option maxHeartbeats 400000 in
theorem inside_any {B : Nat} {w : World} {r : DRep} {s : DSt} (h : DiskAt B w r s) (o n : Int) :
    Calls Tryz.prog 47 #[r.ptr, .int .i64 o, .int .i64 n] w fun e w' => e = .returned (.bool (s.inside o n)) ∧ w = w' := by
  have c2 := h.c2
  have hs := h.small
  have HI : Hid (s.inside o n = (decide (0 ≤ o) && decide (0 ≤ n) && decide (o ≤ (s.dur.length : Int)) && decide (n ≤ (s.dur.length : Int) - o))) := rfl
  unfold DRep.ptr
  by_cases h1 : 0 ≤ o
  · by_cases h2 : 0 ≤ n
    · by_cases h3 : o ≤ (s.dur.length : Int)
      · by_cases h4 : n ≤ (s.dur.length : Int) - o
        all_goals
          go_enter Tryz.func47, Tryz.ntmps47
          go_wp2
          go_ret
          rw [HI.out]
          exact ⟨by simp [h1, h2, h3, h4], rfl⟩
      · go_enter Tryz.func47, Tryz.ntmps47
        go_wp2
        go_ret
        rw [HI.out]
        exact ⟨by simp [h1, h2]; omega, rfl⟩
    · go_enter Tryz.func47, Tryz.ntmps47
      go_wp2
      go_ret
      rw [HI.out]
      exact ⟨by simp [h1]; omega, rfl⟩
  · go_enter Tryz.func47, Tryz.ntmps47
    go_wp2
    go_ret
    rw [HI.out]
    exact ⟨by simp; omega, rfl⟩

theorem DiskAt.turned_cells {B : Nat} {w w' : World} {r : DRep} {s : DSt} (h : DiskAt B w r s) (o : Only (fun k => k = r.p) w w') (off : Bool) (left : Nat) (hl : left ≤ 9223372036854775807)
    (hb : Blk w' r.p 97 #[.bool off, .int .i64 (left : Int), .slice (some ⟨r.bd, 0, none⟩) s.dur.length s.dur.length, .slice (some ⟨r.bv, 0, none⟩) s.dur.length s.dur.length, r.pv]) :
    DiskAt B w' r { s with off := off, left := left } :=
  { h with
    blk := hb
    dur := h.dur.only o (h.dur.ne_ h.blk (by decide))
    vis := h.vis.only o (h.vis.ne_ h.blk (by decide))
    pend := ownsRow_only h.pend o fun k hk e => own_blk_ne h.pend h.blk (by decide) (by rw [hk, e])
    left := hl }

/-- The disk's own block turned: 'Turned' with the same parts. -/
theorem Turned.own {r : DRep} {w w' : World} (o : Only (fun k => k = r.p) w w') : Turned r r w w' :=
  ⟨rfl, o.mono fun _ _ e => .inl e, fun _ h => .inl h⟩
theorem Turned.refl (r : DRep) (w : World) : Turned r r w w := ⟨rfl, Only.refl _ _, fun _ h => .inl h⟩
theorem Turned.trans {r r1 r2 : DRep} {a b c : World} (h : Turned r r1 a b) (k : Turned r1 r2 b c) : Turned r r2 a c :=
  ⟨k.p.trans h.p, h.only.trans k.only fun i hi e => (h.foot i e).elim id fun x => absurd hi (by omega),
    fun i e => (k.foot i e).elim (fun x => h.foot i x) fun x => .inr (Nat.le_trans h.only.size x)⟩

/-- The power's two cells stored anew, in either order. -/
theorem DiskAt.store10 {B : Nat} {w : World} {r : DRep} {s : DSt} (h : DiskAt B w r s) (off : Bool) (left : Nat) (hl : left ≤ 9223372036854775807) (x : Int) (hx : x = (left : Int)) :
    DiskAt B ((w.setCell ⟨r.p, 1, none⟩ (.int .i64 x)).setCell ⟨r.p, 0, none⟩ (.bool off)) r { s with off := off, left := left } ∧ Only (fun k => k = r.p) w ((w.setCell ⟨r.p, 1, none⟩ (.int .i64 x)).setCell ⟨r.p, 0, none⟩ (.bool off)) := by
  subst hx
  have o : Only (fun k => k = r.p) w ((w.setCell ⟨r.p, 1, none⟩ (.int .i64 (left : Int))).setCell ⟨r.p, 0, none⟩ (.bool off)) := ((Only.refl (fun k => k = r.p) w).setCell (p := ⟨r.p, 1, none⟩) (.inl rfl) _).setCell (p := ⟨r.p, 0, none⟩) (.inl rfl) _
  exact ⟨h.turned_cells o off left hl (((h.blk.set_ 1 _).set_ 0 _)), o⟩
theorem DiskAt.store01 {B : Nat} {w : World} {r : DRep} {s : DSt} (h : DiskAt B w r s) (off : Bool) (left : Nat) (hl : left ≤ 9223372036854775807) (x : Int) (hx : x = (left : Int)) :
    DiskAt B ((w.setCell ⟨r.p, 0, none⟩ (.bool off)).setCell ⟨r.p, 1, none⟩ (.int .i64 x)) r { s with off := off, left := left } ∧ Only (fun k => k = r.p) w ((w.setCell ⟨r.p, 0, none⟩ (.bool off)).setCell ⟨r.p, 1, none⟩ (.int .i64 x)) := by
  subst hx
  have o : Only (fun k => k = r.p) w ((w.setCell ⟨r.p, 0, none⟩ (.bool off)).setCell ⟨r.p, 1, none⟩ (.int .i64 (left : Int))) := ((Only.refl (fun k => k = r.p) w).setCell (p := ⟨r.p, 0, none⟩) (.inl rfl) _).setCell (p := ⟨r.p, 1, none⟩) (.inl rfl) _
  exact ⟨h.turned_cells o off left hl (((h.blk.set_ 0 _).set_ 1 _)), o⟩

set_option maxHeartbeats 400000 in
theorem used_any {B : Nat} {w : World} {r : DRep} {s : DSt} (h : DiskAt B w r s) (ho : s.off = false) :
    Calls Tryz.prog 49 #[r.ptr] w fun e w' => e = .returned (.tuple #[]) ∧ DiskAt B w' r { s with off := decide (s.left = 1), left := s.left - 1 } ∧ Only (fun k => k = r.p) w w' := by
  have c0 := h.c0
  have c1 := h.c1
  have f0 := h.blk.frozen 0
  have f1 := h.blk.frozen 1
  have hl := h.left
  have HH : Hid (DiskAt B w r s) := h
  have HO : Hid (s.off = false) := ho
  rw [ho] at c0
  clear h ho
  unfold DRep.ptr
  by_cases h0 : s.left = 0
  · have e0 : ((s.left : Int) == 0) = true := by simp [h0]
    have H0 : Hid (s.left = 0) := h0
    clear h0
    go_enter Tryz.func49, Tryz.ntmps49
    go_wp2
    refine bodyPost_ret (results_none rfl _ _ _) rfl ?_
    refine ⟨rfl, ?_, Only.refl _ _⟩
    have e := HH.out
    have : ({ s with off := decide (s.left = 1), left := s.left - 1 } : DSt) = s := by
      cases s; simp only [DSt.mk.injEq]; have := H0.out; have := HO.out; simp_all
    rw [this]; exact e
  · have e0 : ((s.left : Int) == 0) = false := by simp; omega
    have H0 : Hid (s.left ≠ 0) := h0
    have h1 : 1 ≤ s.left := by omega
    clear h0
    have e1 : (((s.left : Int) - 1) == 0) = decide (s.left = 1) := by
      by_cases h2 : s.left = 1 <;> simp [h2]; omega
    go_enter Tryz.func49, Tryz.ntmps49
    go_wp2
    go_end0
    exact ⟨rfl, HH.out.store10 _ _ (by omega) _ (by omega)⟩

set_option maxHeartbeats 400000 in
theorem Cut_any {B : Nat} {w : World} {r : DRep} {s : DSt} (h : DiskAt B w r s) (n : Int) (hn : n ≤ 9223372036854775807) :
    Calls Tryz.prog 29 #[r.ptr, .int .i64 n] w fun e w' => e = .returned (.int .i64 (s.cut n).1) ∧ DiskAt B w' r (s.cut n).2 ∧ Only (fun k => k = r.p) w w' := by
  have c0 := h.c0
  have c1 := h.c1
  have f0 := h.blk.frozen 0
  have f1 := h.blk.frozen 1
  have HH : Hid (DiskAt B w r s) := h
  have K := check_any h
  unfold DRep.ptr at K ⊢
  cases ho : s.off
  · have HP : Hid (s.power = 0) := by show s.power = 0; simp [DSt.power, ho]
    have HO : Hid (s.off = false) := ho
    rw [ho] at c0
    clear h ho
    rw [HP.out] at K
    by_cases h0 : n < 0
    · have HF : Hid (s.cut n = (2, s)) := by show s.cut n = (2, s); simp [DSt.cut, HO.out, h0]
      go_enter Tryz.func29, Tryz.ntmps29
      go_wp2_with (go_at_call 46; refine K.mono ?_; rintro e w' ⟨rfl, rfl⟩)
      go_ret
      rw [HF.out]
      exact ⟨rfl, HH.out, Only.refl _ _⟩
    · have HF : Hid (s.cut n = (0, { s with off := decide (n = 0), left := n.toNat })) := by show s.cut n = _; simp [DSt.cut, HO.out, h0]
      have hz : (n == 0) = decide (n = 0) := by
        by_cases h2 : n = 0 <;> simp [h2]
      go_enter Tryz.func29, Tryz.ntmps29
      go_wp2_with (go_at_call 46; refine K.mono ?_; rintro e w' ⟨rfl, rfl⟩)
      go_ret
      rw [HF.out]
      exact ⟨rfl, HH.out.store01 _ _ (by omega) _ (by omega)⟩
  · have HP : Hid (s.power = 251) := by show s.power = 251; simp [DSt.power, ho]
    have HO : Hid (s.off = true) := ho
    rw [ho] at c0
    clear h ho
    rw [HP.out] at K
    have HF : Hid (s.cut n = (251, s)) := by show s.cut n = (251, s); simp [DSt.cut, HO.out]
    go_enter Tryz.func29, Tryz.ntmps29
    go_wp2_with (go_at_call 46; refine K.mono ?_; rintro e w' ⟨rfl, rfl⟩)
    go_ret
    rw [HF.out]
    exact ⟨rfl, HH.out, Only.refl _ _⟩
end Go.Proofs.YtjlgkjhociaeiaaGreatDoor
namespace Go.Proofs.YtjlgkjhociaeiaaGreatDoor
open Go.RowKit
set_option linter.unusedVariables false

theorem info8 : (Tryz.prog.info? 5).map (fun i => (i.zero, i.size, i.bytes)) = some (some (.int .u8 0), 1, 1) := by kernel_rfl
theorem infoW : (Tryz.prog.info? 92).map (fun i => (i.zero, i.size, i.bytes)) = some (some (.agg #[.int .i64 0, .string ByteArray.empty]), 2, 24) := by kernel_rfl

theorem made8 (n : Nat) : madeCells #[Value.int .u8 0] n = (cells8 (List.replicate n 0)).toArray := by
  apply Array.toList_inj.1
  rw [toList_madeCells_one]
  simp [cells8, b8]

/-- What a new disk is, in the world that New leaves: its two contents lie in either order. -/
theorem new_at (w : World) (n a b : Nat) (hn : n ≤ 4194304) (hab : (a = w.heap.size ∧ b = w.heap.size + 1) ∨ (a = w.heap.size + 1 ∧ b = w.heap.size)) (q : Nat) :
    DiskAt w.heap.size ((((w.alloc (.cells (madeCells #[Value.int .u8 0] n) 5)).alloc (.cells (madeCells #[Value.int .u8 0] n) 5)).alloc (.cells #[.bool false, .int .i64 0, .slice (some ⟨a, 0, none⟩) n n, .slice (some ⟨b, 0, none⟩) n n, .slice none 0 0] 97)).drewN q)
      ⟨w.heap.size + 1 + 1, a, b, .slice none 0 0⟩ (DSt.new n) := by
  have hl : (DSt.new n).dur.length = n := by simp [DSt.new]
  have hb1 := (Blk.new w 5 (madeCells #[Value.int .u8 0] n)).alloc (.cells (madeCells #[Value.int .u8 0] n) 5)
  have hb2 := Blk.new (w.alloc (.cells (madeCells #[Value.int .u8 0] n) 5)) 5 (madeCells #[Value.int .u8 0] n)
  have hb3 := Blk.new ((w.alloc (.cells (madeCells #[Value.int .u8 0] n) 5)).alloc (.cells (madeCells #[Value.int .u8 0] n) 5)) 97 #[.bool false, .int .i64 0, .slice (some ⟨a, 0, none⟩) n n, .slice (some ⟨b, 0, none⟩) n n, .slice none 0 0]
  simp only [World.size_alloc] at hb2 hb3
  have ha : Blk (((w.alloc (.cells (madeCells #[Value.int .u8 0] n) 5)).alloc (.cells (madeCells #[Value.int .u8 0] n) 5))) a 5 (cells8 (List.replicate n 0)).toArray := by
    rw [← made8]
    rcases hab with ⟨rfl, _⟩ | ⟨rfl, _⟩
    · exact hb1
    · exact hb2
  have hb : Blk (((w.alloc (.cells (madeCells #[Value.int .u8 0] n) 5)).alloc (.cells (madeCells #[Value.int .u8 0] n) 5))) b 5 (cells8 (List.replicate n 0)).toArray := by
    rw [← made8]
    rcases hab with ⟨_, rfl⟩ | ⟨_, rfl⟩
    · exact hb2
    · exact hb1
  refine { blk := ?_, dur := ?_, vis := ?_, pend := ?_, ne := ?_, bp := ?_, bbd := ?_, bbv := ?_, len := ?_, small := ?_, left := ?_, fits := ?_ }
  · rw [hl]; exact hb3.drewN q
  · exact (ha.alloc _).drewN q
  · exact (hb.alloc _).drewN q
  · exact World.ownsRow_nil _ _ _ _
  · show a ≠ b; omega
  · show w.heap.size ≤ w.heap.size + 1 + 1; omega
  · show w.heap.size ≤ a; omega
  · show w.heap.size ≤ b; omega
  · rw [hl]; simp [DSt.new]
  · rw [hl]; exact hn
  · show 0 ≤ _; omega
  · intro x hx; simp [DSt.new] at hx

set_option maxHeartbeats 400000 in
theorem New_bad (n : Int) (w : World) (h : n < 1 ∨ 4194304 < n) :
    Calls Tryz.prog 24 #[.int .i64 n] w fun e w' => e = .returned (.tuple #[.pointer none, .int .i64 2]) ∧ w = w' := by
  by_cases h1 : n < 1
  · clear h
    go_enter Tryz.func24, Tryz.ntmps24
    go_wp2
    go_ret2
    exact ⟨rfl, rfl⟩
  · have h2 : 4194304 < n := by omega
    clear h
    go_enter Tryz.func24, Tryz.ntmps24
    go_wp2
    go_ret2
    exact ⟨rfl, rfl⟩

set_option maxHeartbeats 400000 in
theorem New_good (n : Nat) (w : World) (h1 : 1 ≤ n) (h2 : n ≤ 4194304) :
    Calls Tryz.prog 24 #[.int .i64 (n : Int)] w fun e w' => ∃ r, e = .returned (.tuple #[r.ptr, .int .i64 0]) ∧ DiskAt w.heap.size w' r (DSt.new n) ∧ Below w.heap.size w w' := by
  have hmk := run_make_row' (P := Tryz.prog) 39 5 (.int .u8 0) 1 Tryz.underlying39 info8 rfl .i64 .i64 n (by omega) (by omega)
  have H1 : ¬ ((n : Int) < 1) := by omega
  have H2 : ¬ (4194304 < (n : Int)) := by omega
  go_enter Tryz.func24, Tryz.ntmps24
  go_wp2
  go_region
  all_goals
    go_wp2
    go_ret2
    first
      | exact ⟨⟨w.heap.size + 1 + 1, w.heap.size, w.heap.size + 1, .slice none 0 0⟩, rfl, new_at w n w.heap.size (w.heap.size + 1) h2 (by omega) 1, ((((Below.refl _ w).alloc (Nat.le_refl _) _).alloc (by simp) _).alloc (by simp; omega) _).drew⟩
      | exact ⟨⟨w.heap.size + 1 + 1, w.heap.size + 1, w.heap.size, .slice none 0 0⟩, rfl, new_at w n (w.heap.size + 1) w.heap.size h2 (by omega) 1, ((((Below.refl _ w).alloc (Nat.le_refl _) _).alloc (by simp) _).alloc (by simp; omega) _).drew⟩

/-- 'string(b[o:][:n])' of the visible content. -/
theorem part_cells {B : Nat} {w : World} {r : DRep} {s : DSt} (h : DiskAt B w r s) (k m : Nat) (hk : k + m ≤ s.dur.length) (c : Nat) :
    (convert 39 9 (.slice (some ⟨r.bv, k, none⟩) m c)).run Tryz.prog w = .ok (.string ⟨((s.vis.drop k).take m).toArray⟩) w := by
  have hv := h.vis
  have hl := h.len
  have hlen : ((s.vis.drop k).take m).length = m := by simp; omega
  have := run_convert_bytes_back (P := Tryz.prog) w 39 9 5 ⟨r.bv, k, none⟩ c ((s.vis.drop k).take m) Tryz.underlying39 Tryz.underlying5 Tryz.underlying9 (fun j hj => by
    have hj' : j < m := by rw [hlen] at hj; exact hj
    have e : (⟨r.bv, k, none⟩ : Addr).add j = ⟨r.bv, k + j, none⟩ := by unfold Addr.add; split <;> simp_all
    rw [e, hv.cell (k + j)]
    simp only [List.getElem?_toArray]
    rw [cells8_get _ _ (by omega)]
    simp [b8])
  rw [hlen] at this
  exact this

set_option maxHeartbeats 400000 in
theorem Read_any {B : Nat} {w : World} {r : DRep} {s : DSt} (h : DiskAt B w r s) (o n : Int) :
    Calls Tryz.prog 52 #[r.ptr, .int .i64 o, .int .i64 n] w fun e w' => e = .returned (.tuple #[.string ⟨(s.read o n).1.toArray⟩, .int .i64 (s.read o n).2]) ∧ w = w' := by
  have c3 := h.c3
  have hs := h.small
  have K := check_any h
  have KI := inside_any h o n
  have HH : Hid (DiskAt B w r s) := h
  have KH := Lib.hid K
  have KIH := Lib.hid KI
  unfold DRep.ptr at *
  clear K KI
  have mt : (.string ⟨([] : List UInt8).toArray⟩ : Value) = .string ByteArray.empty := rfl
  cases ho : s.off
  · have HP : Hid (s.power = 0) := by show s.power = 0; simp [DSt.power, ho]
    have HO : Hid (s.off = false) := ho
    clear h ho
    rw [HP.out] at KH
    cases hi : s.inside o n
    · have HF : Hid (s.read o n = ([], 250)) := by show s.read o n = _; simp [DSt.read, HO.out, hi]
      rw [hi] at KIH
      clear hi mt
      go_enter Tryz.func52, Tryz.ntmps52
      go_wp2_with (first | (go_at_call 46; refine KH.out.mono ?_; rintro e w' ⟨rfl, rfl⟩) | (go_at_call 47; refine KIH.out.mono ?_; rintro e w' ⟨rfl, rfl⟩))
      go_ret2
      rw [HF.out]
      exact ⟨rfl, rfl⟩
    · have HF : Hid (s.read o n = (s.part o n, 0)) := by show s.read o n = _; simp [DSt.read, HO.out, hi]
      obtain ⟨i1, i2, i3, i4⟩ := (s.inside_iff o n).1 hi
      obtain ⟨k, rfl⟩ := Int.eq_ofNat_of_zero_le i1
      obtain ⟨m, rfl⟩ := Int.eq_ofNat_of_zero_le i2
      have j3 : k ≤ s.dur.length := by omega
      have j4 : m ≤ s.dur.length - k := by omega
      have HF2 : Hid (s.part k m = (s.vis.drop k).take m) := by show s.part k m = _; simp [DSt.part]
      rw [hi] at KIH
      clear hi mt i1 i2
      by_cases hk : s.dur.length = k
      · have hm : m = 0 := by omega
        subst hm
        have hcv := part_cells HH.out 0 0 (by omega)
        have e0 : (s.vis.drop k).take 0 = [] := List.take_zero
        have e1 : (s.vis.drop 0).take 0 = [] := List.take_zero
        rw [e0] at HF2
        rw [e1] at hcv
        clear e0 e1
        go_enter Tryz.func52, Tryz.ntmps52
        go_wp2_with (first | (go_at_call 46; refine KH.out.mono ?_; rintro e w' ⟨rfl, rfl⟩) | (go_at_call 47; refine KIH.out.mono ?_; rintro e w' ⟨rfl, rfl⟩))
        go_ret2
        rw [HF.out, HF2.out]
        exact ⟨rfl, rfl⟩
      · have hcv := part_cells HH.out k m (by omega)
        have hk' : k < s.dur.length := by omega
        clear hk
        go_enter Tryz.func52, Tryz.ntmps52
        go_wp2_with (first | (go_at_call 46; refine KH.out.mono ?_; rintro e w' ⟨rfl, rfl⟩) | (go_at_call 47; refine KIH.out.mono ?_; rintro e w' ⟨rfl, rfl⟩))
        go_ret2
        rw [HF.out, HF2.out]
        exact ⟨rfl, rfl⟩
  · have HP : Hid (s.power = 251) := by show s.power = 251; simp [DSt.power, ho]
    have HO : Hid (s.off = true) := ho
    clear h ho
    rw [HP.out] at KH
    have HF : Hid (s.read o n = ([], 251)) := by show s.read o n = _; simp [DSt.read, HO.out]
    clear mt
    go_enter Tryz.func52, Tryz.ntmps52
    go_wp2_with (go_at_call 46; refine KH.out.mono ?_; rintro e w' ⟨rfl, rfl⟩)
    go_ret2
    rw [HF.out]
    exact ⟨rfl, rfl⟩
end Go.Proofs.YtjlgkjhociaeiaaGreatDoor
namespace Go.Proofs.YtjlgkjhociaeiaaGreatDoor
open Go.RowKit
set_option linter.unusedVariables false

theorem splice_nil {α : Type} (L : List α) (off : Nat) : splice L off [] = L := by simp [splice]

/-- 'copy(b[off:], s)' of a string that fits, as one step of a region that draws: what lies behind is told by 'Blk' and 'Only'. -/
theorem step_copy_lay {P : Program} {ops : Array Oper} {o : Oper} {a : Act} {w : World} {K : Act → World → Prop} {Q : Exit → Act → World → Prop} {E : Prop}
    (hgd : o.guard = none) (d x : Operand) (dT sT : TypeId) (hop : o.op = Op.call { callee := Callee.builtin Builtin.copy, args := #[d, x], argTypes := #[dT, sT] })
    (elem : TypeId) (hu : P.underlying dT = some (.slice elem)) (hs : (P.info? elem).map (·.size) = some 1)
    (dp : Option Addr) (dLen dCap : Nat) (hd : a.eval d = .slice dp dLen dCap) (s : ByteArray) (hx : a.eval x = .string s)
    (g off : Nat) (cur : List UInt8) (t : TypeId) (hb : Blk w g t (cells8 cur).toArray) (hle : s.size ≤ dLen) (hpos : 0 < s.size → dp = some ⟨g, off, none⟩) (hfit : off + s.size ≤ cur.length)
    (hK : ∀ w', Hid (Blk w' g t (cells8 (splice cur off s.data.toList)).toArray) → Hid (Only (fun k => k = g) w w') → K (a.put o.dst (goInt s.size)) w') :
    if Region.wanted o (yielded ops a.tmps) = true then Oper.wp P o a w K Q else E := by
  have hw : Region.wanted o (yielded ops a.tmps) = true := by simp [Region.wanted, hgd]
  rw [if_pos hw]
  by_cases h0 : s.size = 0
  · have hrun := Lib.run_copy_empty_string (P := P) w dT sT o.type elem dp dLen dCap s hu (by cases h : P.info? elem <;> simp [h] at hs ⊢) h0
    have hn : s.data.toList = [] := List.eq_nil_of_length_eq_zero (by rw [size_list]; exact h0)
    have hz : goInt (s.size : Int) = goInt 0 := by rw [h0]; rfl
    unfold Oper.wp
    simp [execOp, hop, resolve, invoke, builtin, hd, hx, hrun, Result.andThen]
    rw [hn, splice_nil] at hK
    have := hK w (show _ from hb) (show _ from Only.refl _ _)
    rw [hz] at this
    exact this
  · obtain rfl := hpos (by omega)
    have hrun := Lib.run_copy_row_string (P := P) w dT sT o.type elem g off dLen dCap s (cells8 cur).toArray t hu hs hb hle (by simpa [cells8] using hfit)
    unfold Oper.wp
    simp [execOp, hop, resolve, invoke, builtin, hd, hx, hrun, Result.andThen]
    refine hK _ ?_ ?_
    · show Blk _ g t _
      have e : (cells8 (splice cur off s.data.toList)) = (cells8 cur).take off ++ (Lib.byteCells s.data.toList ++ (cells8 cur).drop (off + s.size)) := by
        simp [splice, cells8, Lib.byteCells, b8]
      rw [e]
      have := hb.row (((cells8 cur).take off ++ (Lib.byteCells s.data.toList ++ (cells8 cur).drop (off + s.size))).toArray)
      simpa using this
    · exact (Only.refl (fun k => k = g) w).setRow (.inl rfl) _

set_option maxHeartbeats 400000 in
/-- 'w.onto(b)'. -/
theorem onto_any (w : World) (g n : Nat) (cur : List UInt8) (x : Nat × ByteArray) (hb : Blk w g 5 (cells8 cur).toArray) (hn : cur.length = n) (hfit : x.1 + x.2.size ≤ n) (hm : n ≤ 4194304) :
    Calls Tryz.prog 48 #[.agg #[.int .i64 (x.1 : Int), .string x.2], .slice (some ⟨g, 0, none⟩) n n] w fun e w' => e = .returned (.tuple #[]) ∧ Blk w' g 5 (cells8 (lay cur x)).toArray ∧ Only (fun k => k = g) w w' := by
  obtain ⟨k, s⟩ := x
  simp only at hfit ⊢
  have HL : Hid (lay cur (k, s) = splice cur k s.data.toList) := rfl
  have HB : Hid (Blk w g 5 (cells8 cur).toArray) := hb
  have HN : Hid (cur.length = n) := hn
  have hk : (k : Int) ≤ (n : Int) := by omega
  clear hb hn
  by_cases h : n = k
  · subst h
    have h0 : s.size = 0 := by omega
    go_enter Tryz.func48, Tryz.ntmps48
    go_wp2
    go_region_law (refine step_copy_lay rfl (.tmp 7) (.tmp 9) 39 9 rfl 5 Tryz.underlying39 (by kernel_rfl) (some ⟨g, 0, none⟩) 0 0 (by simp [Act.eval, Act.put]) s (by simp [Act.eval, Act.put]) g n cur 5 ((HB.out.alloc _).drew) (by omega) (fun e => by omega) (by have := HN.out; omega) ?_; intro w' H1 H2)
    all_goals
      go_wp2
      go_end0
      rw [HL.out]
      exact ⟨rfl, H1.out, ((Only.refl _ w).alloc _).drew.trans' H2.out⟩
  · have hk2 : k < n := by omega
    go_enter Tryz.func48, Tryz.ntmps48
    go_wp2
    go_region_law (refine step_copy_lay rfl (.tmp 7) (.tmp 9) 39 9 rfl 5 Tryz.underlying39 (by kernel_rfl) (some ⟨g, k, none⟩) (n - k) (n - k) (by simp [Act.eval, Act.put]) s (by simp [Act.eval, Act.put]) g k cur 5 ((HB.out.alloc _).drew) (by omega) (fun e => rfl) (by have := HN.out; omega) ?_; intro w' H1 H2)
    all_goals
      go_wp2
      go_end0
      rw [HL.out]
      exact ⟨rfl, H1.out, ((Only.refl _ w).alloc _).drew.trans' H2.out⟩

theorem run_copy_whole {P : Program} (w : World) (dT sT ty elem : TypeId) (n g1 g2 : Nat) (X Y : List UInt8) (t : TypeId) (hu : P.underlying dT = some (.slice elem)) (hs : (P.info? elem).map (·.size) = some 1)
    (h1 : Blk w g1 t (cells8 X).toArray) (h2 : Blk w g2 t (cells8 Y).toArray) (hX : X.length = n) (hY : Y.length = n) :
    (Builtin.copy_ #[dT, sT] ty #[.slice (some ⟨g2, 0, none⟩) n n, .slice (some ⟨g1, 0, none⟩) n n]).run P w = .ok (goInt n) (w.setRow g2 (cells8 X).toArray) := by
  have := Go.run_copy_row (P := P) w dT sT ty elem g2 0 n n ⟨g1, 0, none⟩ n n (cells8 Y).toArray t (cells8 X) hu hs h2 (by simp [cells8, hX]) (fun j v hv => by
    have e : (⟨g1, 0, none⟩ : Addr).add j = ⟨g1, j, none⟩ := by unfold Addr.add; split <;> simp_all
    rw [e, h1.cell j]
    simpa using hv) (by simp [cells8, hX, hY]) (cells8_one X)
  rw [this]
  have e1 : (cells8 X).length = n := by rw [cells8_length, hX]
  have e2 : (cells8 Y).drop n = [] := List.drop_eq_nil_of_le (by rw [cells8_length, hY]; exact Nat.le_refl _)
  simp [e1, e2]

theorem zeroW (w : World) : (zeroValue 92).run Tryz.prog w = .ok (.agg #[.int .i64 0, .string ByteArray.empty]) w := by kernel_rfl

/-- 'clear(d.pending)': the pending row behind it still belongs to the disk. -/
theorem run_clear_pend (w : World) (B : Nat) (v : Value) (n : Nat) (xs : List Value) (hown : w.ownsRow B 92 2 v n xs) :
    ∃ w', (∀ ty, (Builtin.clear_ #[93] ty #[v]).run Tryz.prog w = .ok (.tuple #[]) w') ∧ Only (fun k => v.ownBlock = some k) w w' ∧ ∃ ys, w'.ownsRow B 92 2 v n ys := by
  have hu := Tryz.underlying93
  rcases hown.2 with ⟨rfl, rfl⟩ | ⟨g, cap, cur, rfl, hb, hg, hnc, hcm, hcs, hx⟩
  · refine ⟨w, fun ty => ?_, Only.refl _ _, _, hown⟩
    simp [Builtin.clear_, run_underlying hu]
  · by_cases h0 : n = 0
    · subst h0
      refine ⟨w, fun ty => ?_, Only.refl _ _, _, hown⟩
      simp [Builtin.clear_, run_underlying hu]
    · have hlen : (Builtin.zeroCells #[Value.int .i64 0, .string ByteArray.empty] n).toList.length = n * 2 := by simp [Builtin.zeroCells]
      have hone : ∀ v ∈ (Builtin.zeroCells #[Value.int .i64 0, .string ByteArray.empty] n).toList, v.oneCell' = true := by
        intro v hv
        simp only [Builtin.zeroCells, Array.toList_map, List.mem_map] at hv
        obtain ⟨i, _, rfl⟩ := hv
        have : i % 2 = 0 ∨ i % 2 = 1 := by omega
        rcases this with e | e <;> simp [e, Value.oneCell']
      have hzr : ∀ ty, (Builtin.clear_ #[93] ty #[Value.slice (some ⟨g, 0, none⟩) n cap]).run Tryz.prog w = ((storeCells ⟨g, 0, none⟩ (Builtin.zeroCells #[Value.int .i64 0, .string ByteArray.empty] n).toList).run Tryz.prog w).andThen fun _ w' => .ok (.tuple #[]) w' := by
        intro ty
        obtain ⟨m, rfl⟩ : ∃ m, n = m + 1 := ⟨n - 1, by omega⟩
        simp [Builtin.clear_, run_underlying hu, Value.cells]
        rfl
      generalize (Builtin.zeroCells #[Value.int .i64 0, .string ByteArray.empty] n).toList = zl at *
      have hst := run_storeCells_at Tryz.prog g 0 92 zl 0 cur w hg (by rw [hlen, hcs]; omega) hone
      refine ⟨w.setRow g (zl ++ cur.toList.drop (n * 2)).toArray, fun ty => ?_, (Only.refl (fun k => (Value.slice (some ⟨g, 0, none⟩) n cap).ownBlock = some k) w).setRow (.inl rfl) _, zl, hlen, .inr ⟨g, cap, _, rfl, hb, setRow_heap w g cur _ _ _ hg, hnc, hcm, ?_, ?_⟩⟩
      · rw [hzr, hst, hlen]
        simp
      · simp [hlen]; omega
      · simp [hlen]

/-- The pending value cut to length 0. -/
def cutPv : Value → Value
  | .slice a _ c => .slice a 0 c
  | v => v
theorem cutPv_block (v : Value) : (cutPv v).ownBlock = v.ownBlock := by
  unfold cutPv
  split
  · rename_i a n c; cases a <;> rfl
  · rfl
theorem cutPv_own {w : World} {B : Nat} {e : TypeId} {size n : Nat} {v : Value} {xs : List Value} (h : w.ownsRow B e size v n xs) : w.ownsRow B e size (cutPv v) 0 [] := by
  refine ⟨by simp, ?_⟩
  rcases h.2 with ⟨rfl, _⟩ | ⟨g, cap, cur, rfl, hb, hg, hn, hm, hs, _⟩
  · exact .inl ⟨rfl, rfl⟩
  · exact .inr ⟨g, cap, cur, rfl, hb, hg, Nat.zero_le _, hm, hs, by simp⟩

set_option maxHeartbeats 1000000 in
/-- 'd.settle(from, to)': the contents X (block g1) go over to block g2; no pending writes are left. -/
theorem settle_raw (w : World) (B p g1 g2 n : Nat) (v0 v1 v2 v3 pv : Value) (X Y : List UInt8) (m : Nat) (xs : List Value)
    (hp : Blk w p 97 #[v0, v1, v2, v3, pv]) (h1 : Blk w g1 5 (cells8 X).toArray) (h2 : Blk w g2 5 (cells8 Y).toArray) (hown : w.ownsRow B 92 2 pv m xs) (hne : g1 ≠ g2)
    (hX : X.length = n) (hY : Y.length = n) (hm : n ≤ 4194304) :
    Calls Tryz.prog 65 #[.pointer (some ⟨p, 0, none⟩), .slice (some ⟨g1, 0, none⟩) n n, .slice (some ⟨g2, 0, none⟩) n n] w fun e w' => e = .returned (.tuple #[]) ∧
      Blk w' p 97 #[v0, v1, v2, v3, cutPv pv] ∧ Blk w' g1 5 (cells8 X).toArray ∧ Blk w' g2 5 (cells8 X).toArray ∧ w'.ownsRow B 92 2 (cutPv pv) 0 [] ∧ Only (fun k => k = p ∨ k = g2 ∨ pv.ownBlock = some k) w w' := by
  have hcp := fun ty => run_copy_whole (P := Tryz.prog) w 39 39 ty 5 n g1 g2 X Y 5 Tryz.underlying39 (by kernel_rfl) h1 h2 hX hY
  have o1 : Only (fun k => k = g2) w (w.setRow g2 (cells8 X).toArray) := (Only.refl (fun k => k = g2) w).setRow (.inl rfl) _
  have p1 : Blk (w.setRow g2 (cells8 X).toArray) p 97 #[v0, v1, v2, v3, pv] := hp.only o1 (hp.ne_ h2 (by decide))
  have own1 : (w.setRow g2 (cells8 X).toArray).ownsRow B 92 2 pv m xs := ownsRow_only hown o1 fun k hk e => own_blk_ne hown h2 (by decide) (by rw [hk, e])
  have x1 : Blk (w.setRow g2 (cells8 X).toArray) g1 5 (cells8 X).toArray := h1.only o1 hne
  have x2 : Blk (w.setRow g2 (cells8 X).toArray) g2 5 (cells8 X).toArray := h2.row _
  have n1 := fun k (hk : pv.ownBlock = some k) (e : k = p) => own_blk_ne hown hp (by decide) (by rw [hk, e])
  have n2 := fun k (hk : pv.ownBlock = some k) (e : k = g1) => own_blk_ne hown h1 (by decide) (by rw [hk, e])
  have n3 := fun k (hk : pv.ownBlock = some k) (e : k = g2) => own_blk_ne hown h2 (by decide) (by rw [hk, e])
  have np : p ≠ g1 := hp.ne_ h1 (by decide)
  have np2 : p ≠ g2 := hp.ne_ h2 (by decide)
  clear hp h1 h2 hown
  generalize hW : w.setRow g2 (cells8 X).toArray = W at *
  have HW := Lib.hid hW
  clear hW
  obtain ⟨w2, hcl, o2, ys, hown2⟩ := run_clear_pend W B pv m xs own1
  have p2 : Blk w2 p 97 #[v0, v1, v2, v3, pv] := p1.only o2 fun e => n1 _ e rfl
  have y1 : Blk w2 g1 5 (cells8 X).toArray := x1.only o2 fun e => n2 _ e rfl
  have y2 : Blk w2 g2 5 (cells8 X).toArray := x2.only o2 fun e => n3 _ e rfl
  have cw := p1.cell 4
  have c2 := p2.cell 4
  have f2 := p2.frozen 4
  simp only [List.getElem?_toArray, List.getElem?_cons_succ, List.getElem?_cons_zero] at cw c2
  have fin : ∀ u, u = cutPv pv → Blk (w2.setCell ⟨p, 4, none⟩ u) p 97 #[v0, v1, v2, v3, cutPv pv] ∧ Blk (w2.setCell ⟨p, 4, none⟩ u) g1 5 (cells8 X).toArray ∧ Blk (w2.setCell ⟨p, 4, none⟩ u) g2 5 (cells8 X).toArray ∧ (w2.setCell ⟨p, 4, none⟩ u).ownsRow B 92 2 (cutPv pv) 0 [] ∧ Only (fun k => k = p ∨ k = g2 ∨ pv.ownBlock = some k) w (w2.setCell ⟨p, 4, none⟩ u) := by
    rintro u rfl
    have o3 : Only (fun k => k = p) w2 (w2.setCell ⟨p, 4, none⟩ (cutPv pv)) := (Only.refl (fun k => k = p) w2).setCell (.inl rfl) _
    refine ⟨p2.set_ 4 _, y1.only o3 np.symm, y2.only o3 np2.symm, ownsRow_only (cutPv_own hown2) o3 fun k hk e => n1 k (by rw [← cutPv_block]; exact hk) e, ?_⟩
    exact ((o1.mono fun _ _ e => .inr (.inl e)).trans' ((o2.mono fun _ _ e => .inr (.inr e)))).trans' (o3.mono fun _ _ e => .inl e)
  have FIN := Lib.hid fin
  clear fin p1 p2 x1 x2 y1 y2 o1 o2 n1 n2 n3 np np2 hown2
  rcases own1.2 with ⟨rfl, rfl⟩ | ⟨g, cap, cur, rfl, _, _, hnc, hcm, _⟩
  · clear own1
    go_enter Tryz.func65, Tryz.ntmps65
    go_wp2
    go_end0
    exact ⟨rfl, FIN.out _ rfl⟩
  · clear own1
    unfold maxLen at hcm
    go_enter Tryz.func65, Tryz.ntmps65
    go_wp2
    go_end0
    exact ⟨rfl, FIN.out _ rfl⟩
end Go.Proofs.YtjlgkjhociaeiaaGreatDoor
namespace Go.Proofs.YtjlgkjhociaeiaaGreatDoor
open Go.RowKit
set_option linter.unusedVariables false

/-- What settling leaves, as a disk. -/
theorem settled_sync {B : Nat} {w w' : World} {r : DRep} {s : DSt} (h : DiskAt B w r s)
    (hb : Blk w' r.p 97 #[.bool s.off, .int .i64 (s.left : Int), .slice (some ⟨r.bd, 0, none⟩) s.dur.length s.dur.length, .slice (some ⟨r.bv, 0, none⟩) s.dur.length s.dur.length, cutPv r.pv])
    (h1 : Blk w' r.bv 5 (cells8 s.vis).toArray) (h2 : Blk w' r.bd 5 (cells8 s.vis).toArray) (ho : w'.ownsRow B 92 2 (cutPv r.pv) 0 []) (o : Only (fun k => k = r.p ∨ k = r.bd ∨ r.pv.ownBlock = some k) w w') :
    DiskAt B w' { r with pv := cutPv r.pv } s.synced ∧ Turned r { r with pv := cutPv r.pv } w w' := by
  refine ⟨{ h with blk := ?_, dur := h2, vis := h1, pend := ho, len := rfl, small := ?_, fits := by intro x hx; simp [DSt.synced] at hx }, rfl, ?_, ?_⟩
  · show Blk w' r.p _ #[.bool s.off, .int .i64 (s.left : Int), .slice (some ⟨r.bd, 0, none⟩) s.vis.length s.vis.length, .slice (some ⟨r.bv, 0, none⟩) s.vis.length s.vis.length, cutPv r.pv]
    rw [h.len]; exact hb
  · show s.vis.length ≤ _; rw [h.len]; exact h.small
  · exact o.mono fun k _ e => e.elim .inl fun e => e.elim (fun x => .inr (.inl x)) fun x => .inr (.inr (.inr x))
  · rintro k (e | e | e | e)
    · exact .inl (.inl e)
    · exact .inl (.inr (.inl e))
    · exact .inl (.inr (.inr (.inl e)))
    · exact .inl (.inr (.inr (.inr (by rw [← cutPv_block]; exact e))))

set_option maxHeartbeats 1000000 in
theorem Sync_any {B : Nat} {w : World} {r : DRep} {s : DSt} (h : DiskAt B w r s) :
    Calls Tryz.prog 42 #[r.ptr] w fun e w' => e = .returned (.int .i64 s.sync.1) ∧ ∃ r', DiskAt B w' r' s.sync.2 ∧ Turned r r' w w' := by
  have c2 := h.c2
  have c3 := h.c3
  have hs := h.small
  have K := Lib.hid (check_any h)
  have HH : Hid (DiskAt B w r s) := h
  unfold DRep.ptr at *
  cases ho : s.off
  · have HP : Hid (s.power = 0) := by show s.power = 0; simp [DSt.power, ho]
    have HF : Hid (s.sync = (0, s.synced)) := by show s.sync = _; simp [DSt.sync, ho]
    rw [HP.out] at K
    have S := settle_raw w.drew B r.p r.bv r.bd s.dur.length _ _ _ _ _ s.vis s.dur _ _ h.blk.drew h.vis.drew h.dur.drew (ownsRow_only h.pend ((Only.refl (fun _ => False) w).drew) fun _ _ e => e) h.ne.symm h.len rfl hs
    have KS := Lib.hid S
    clear S h ho
    go_enter Tryz.func42, Tryz.ntmps42
    go_wp2_with (go_at_call 46; refine K.out.mono ?_; rintro e w' ⟨rfl, rfl⟩)
    go_region_with (go_at_call 65; refine KS.out.mono ?_; rintro e w1 ⟨rfl, hb, h1, h2, hp, ho⟩)
    all_goals
      go_wp2
      go_ret
      rw [HF.out]
      exact ⟨rfl, _, settled_sync HH.out hb h1 h2 hp ⟨ho.os, ho.tape, ho.output, ho.size, ho.block⟩⟩
  · have HP : Hid (s.power = 251) := by show s.power = 251; simp [DSt.power, ho]
    have HF : Hid (s.sync = (251, s)) := by show s.sync = _; simp [DSt.sync, ho]
    rw [HP.out] at K
    clear h ho
    go_enter Tryz.func42, Tryz.ntmps42
    go_wp2_with (go_at_call 46; refine K.out.mono ?_; rintro e w' ⟨rfl, rfl⟩)
    go_ret
    rw [HF.out]
    exact ⟨rfl, r, HH.out, Turned.refl _ _⟩

theorem wcells_length (l : List (Nat × ByteArray)) : (wcells l).length = l.length * 2 := by
  induction l with
  | nil => rfl
  | cons x l ih => simp only [wcells, List.flatMap_cons, List.length_append, List.length_cons] at ih ⊢; rw [ih]; simp [wcell]; omega
theorem wcells_snoc (l : List (Nat × ByteArray)) (x : Nat × ByteArray) : wcells (l ++ [x]) = wcells l ++ wcell x := by simp [wcells]

/-- append onto a row of the disk's own, as one step of a region that draws. -/
theorem step_append_at {P : Program} {ops : Array Oper} {o : Oper} {a : Act} {w : World} {K : Act → World → Prop} {Q : Exit → Act → World → Prop} {E : Prop}
    (hg : o.guard = none) (s x : Operand) (t : TypeId) (hop : o.op = Op.call { callee := Callee.builtin Builtin.append, args := #[s, x], argTypes := #[t, t] })
    (base : Nat) (e : TypeId) (i : TypeInfo) (z : Value) (size bytes : Nat) (h1 : P.underlying t = some (.slice e)) (h2 : P.info? e = some i) (h3 : i.zero = some z) (h4 : i.size = size) (h5 : i.bytes = bytes) (h6 : z.cells.size = size) (h7 : 0 < size)
    (v : Value) (n : Nat) (xs : List Value) (hs : a.eval s = v) (hown : w.ownsRow base e size v n xs)
    (ad : Addr) (m c : Nat) (news : List Value) (hx : a.eval x = .slice (some ad) m c) (hn : news.length = m * size) (hc : ∀ j u, news[j]? = some u → w.cell? (ad.add j) = some u) (h1c : ∀ u ∈ news, u.oneCell' = true)
    (b1 : n + m ≤ maxLen) (b2 : (n + m) * bytes ≤ 140737488355328) (hbase : base ≤ w.heap.size)
    (hK : ∀ v' w', w'.ownsRow base e size v' (n + m) (xs ++ news) → w.grownBy w' v.ownBlock → (v'.ownBlock = v.ownBlock ∨ v'.ownBlock = some w.heap.size) → K (a.put o.dst v') w') :
    if Region.wanted o (yielded ops a.tmps) = true then Oper.wp P o a w K Q else E := by
  have hw : Region.wanted o (yielded ops a.tmps) = true := by simp [Region.wanted, hg]
  rw [if_pos hw]
  obtain ⟨v', w', hrun, r1, r2, _, r3⟩ := run_append_own_at (P := P) w base t o.type e i z size bytes h1 h2 h3 h4 h5 h6 h7 v n xs hown ad m c news hn hc h1c b1 b2 hbase
  unfold Oper.wp
  simp [execOp, hop, resolve, invoke, builtin, hs, hx, hrun, Result.andThen]
  exact hK v' w' r1 r2 r3

theorem ownsRow_val {w : World} {base : Nat} {e : TypeId} {size n : Nat} {v : Value} {xs : List Value} (h : w.ownsRow base e size v (n + 1) xs) : ∃ g cap, v = .slice (some ⟨g, 0, none⟩) (n + 1) cap := by
  rcases h.2 with ⟨_, h0⟩ | ⟨g, cap, _, rfl, _⟩
  · omega
  · exact ⟨g, cap, rfl⟩

/-- The disk behind 'd.pending = append(d.pending, w)'. -/
theorem pushed {B : Nat} {w W w1 : World} {r : DRep} {s : DSt} (h : DiskAt B w r s) (hB : B ≤ w.heap.size) (x : Nat × ByteArray) (hx : x.1 + x.2.size ≤ s.dur.length) (hW : Only (fun _ => False) w W) (v' : Value)
    (hown : w1.ownsRow B 92 2 v' (s.pend.length + 1) (wcells s.pend ++ wcell x)) (hgr : W.grownBy w1 r.pv.ownBlock) (hbk : v'.ownBlock = r.pv.ownBlock ∨ v'.ownBlock = some W.heap.size) :
    Blk w1 r.p 97 #[.bool s.off, .int .i64 (s.left : Int), .slice (some ⟨r.bd, 0, none⟩) s.dur.length s.dur.length, .slice (some ⟨r.bv, 0, none⟩) s.dur.length s.dur.length, r.pv] ∧
    DiskAt B (w1.setCell ⟨r.p, 4, none⟩ v') { r with pv := v' } { s with pend := s.pend ++ [x] } ∧ Turned r { r with pv := v' } w (w1.setCell ⟨r.p, 4, none⟩ v') ∧
    (∀ g, w.heap.size ≤ g → g < W.heap.size → ∀ i, (w1.setCell ⟨r.p, 4, none⟩ v').cell? ⟨g, i, none⟩ = W.cell? ⟨g, i, none⟩) := by
  have hp1 : Blk w1 r.p 97 _ := (h.blk.only hW id).grown hgr (fun e => own_blk_ne h.pend h.blk (by decide) e.symm)
  have hd1 : Blk w1 r.bd 5 _ := (h.dur.only hW id).grown hgr (fun e => own_blk_ne h.pend h.dur (by decide) e.symm)
  have hv1 : Blk w1 r.bv 5 _ := (h.vis.only hW id).grown hgr (fun e => own_blk_ne h.pend h.vis (by decide) e.symm)
  have o1 : Only (fun k => r.pv.ownBlock = some k) w w1 := (hW.mono fun _ _ e => e.elim).trans' ⟨hgr.os, hgr.tape, hgr.output, hgr.size, fun k hk hn => hgr.block k hk fun e => hn e.symm⟩
  have o2 : Only (fun k => k = r.p) w1 (w1.setCell ⟨r.p, 4, none⟩ v') := (Only.refl (fun k => k = r.p) w1).setCell (.inl rfl) _
  have hnp : ∀ k, v'.ownBlock = some k → k ≠ r.p := by
    rintro k hk rfl
    exact own_blk_ne hown hp1 (by decide) hk
  refine ⟨hp1, { h with blk := ?_, dur := hd1.only o2 (hd1.ne_ hp1 (by decide)), vis := hv1.only o2 (hv1.ne_ hp1 (by decide)), pend := ?_, fits := ?_ }, ⟨rfl, ?_, ?_⟩, ?_⟩
  · exact hp1.set_ 4 _
  · show World.ownsRow _ B _ 2 v' (s.pend ++ [x]).length (wcells (s.pend ++ [x]))
    rw [wcells_snoc, List.length_append]
    exact ownsRow_only hown o2 fun k hk e => hnp k hk e
  · intro y hy
    rcases List.mem_append.1 hy with hy | hy
    · exact h.fits y hy
    · obtain rfl := List.mem_singleton.1 hy
      exact hx
  · exact (o1.mono fun _ _ e => .inr (.inr (.inr e))).trans (o2.mono fun _ _ e => .inl e) fun _ _ e => e
  · rintro k (e | e | e | e)
    · exact .inl (.inl e)
    · exact .inl (.inr (.inl e))
    · exact .inl (.inr (.inr (.inl e)))
    · rcases hbk with hb | hb
      · exact .inl (.inr (.inr (.inr (by rw [← hb]; exact e))))
      · rw [hb] at e
        injection e with e
        exact .inr (by rw [← e]; exact hW.size)
  · intro g hg hg2 i
    have hlt := h.blk.lt
    rw [World.cell?_setCell_other _ _ _ _ (by intro e; have : r.p = g := congrArg Addr.block e; omega)]
    exact World.cell?_of_block (hgr.block g hg2 fun e => by have := (h.pend.lt g e.symm).2; omega)
end Go.Proofs.YtjlgkjhociaeiaaGreatDoor
namespace Go.Proofs.YtjlgkjhociaeiaaGreatDoor
open Go.RowKit
set_option linter.unusedVariables false

theorem laid_at {B : Nat} {w w' : World} {r : DRep} {s : DSt} (h : DiskAt B w r s) (x : Nat × ByteArray) (hx : x.1 + x.2.size ≤ s.dur.length) (hb : Blk w' r.bv 5 (cells8 (lay s.vis x)).toArray) (o : Only (fun k => k = r.bv) w w') :
    DiskAt B w' r { s with vis := lay s.vis x } ∧ Turned r r w w' := by
  refine ⟨{ h with blk := h.blk.only o (h.blk.ne_ h.vis (by decide)), dur := h.dur.only o h.ne, vis := hb, pend := ownsRow_only h.pend o (fun k hk e => own_blk_ne h.pend h.vis (by decide) (by rw [hk, e])), len := ?_ }, rfl, ?_, fun k e => .inl e⟩
  · show (lay s.vis x).length = _
    rw [lay_length (by rw [h.len]; exact hx), h.len]
  · exact o.mono fun k _ e => .inr (.inr (.inl e))

theorem box2_cells (w : World) (X : Obj) (a b : Value) (t : TypeId) : ∀ j u, [a, b][j]? = some u → (((w.alloc X).alloc (.cells #[a, b] t)).drew).cell? ((⟨w.heap.size + 1, 0, none⟩ : Addr).add j) = some u := by
  intro j u hu
  have hb := Blk.new (w.alloc X) t #[a, b]
  rw [World.size_alloc] at hb
  have e : (⟨w.heap.size + 1, 0, none⟩ : Addr).add j = ⟨w.heap.size + 1, j, none⟩ := by unfold Addr.add; split <;> simp_all
  rw [e]
  exact (hb.drew.cell j).trans (by simpa using hu)

set_option maxHeartbeats 1000000 in
theorem Write_good {B : Nat} {w : World} {r : DRep} {s : DSt} (h : DiskAt B w r s) (o : Int) (t : ByteArray) (ho : s.off = false) (hi : s.inside o t.size = true) (hB : B ≤ w.heap.size) (hl : s.pend.length ≤ 1000000) :
    Calls Tryz.prog 13 #[r.ptr, .int .i64 o, .string t] w fun e w' => e = .returned (.int .i64 0) ∧ ∃ r', DiskAt B w' r' (s.wrote o t) ∧ Turned r r' w w' := by
  have c0 := h.c0
  have c1 := h.c1
  have c3 := h.c3
  have c4 := h.c4
  have f4 := h.blk.frozen 4
  have hs := h.small
  have K := Lib.hid (check_any h)
  have KI := Lib.hid (inside_any h o t.size)
  have HH : Hid (DiskAt B w r s) := h
  obtain ⟨i1, i2, i3, i4⟩ := (s.inside_iff o t.size).1 hi
  have HP : Hid (s.power = 0) := by show s.power = 0; simp [DSt.power, ho]
  rw [HP.out] at K
  rw [hi] at KI
  obtain ⟨k, rfl⟩ := Int.eq_ofNat_of_zero_le i1
  unfold DRep.ptr at *
  have HO := Lib.hid ho
  have hx : k + t.size ≤ s.dur.length := by omega
  have HF : Hid (s.wrote k t = { ({ s with pend := s.pend ++ [(k, t)] } : DSt) with vis := lay s.vis (k, t), off := decide (s.left = 1), left := s.left - 1 }) := by show s.wrote k t = _; simp [DSt.wrote]
  clear ho i1 i2 hi
  obtain ⟨A, cc, hpv⟩ := h.pv
  have HPV := Lib.hid hpv
  have hp := Lib.hid h.pend
  have hplt := h.blk.lt
  clear h hpv
  obtain ⟨iW, hiW, z0, z1, z2⟩ := info_parts infoW
  have Z := Lib.hid (And.intro hiW (And.intro z0 (And.intro z1 z2)))
  clear hiW z0 z1 z2
  go_enter Tryz.func13, Tryz.ntmps13
  go_wp2_with (first | (go_at_call 46; refine K.out.mono ?_; rintro e w' ⟨rfl, rfl⟩) | (go_at_call 47; refine KI.out.mono ?_; rintro e w' ⟨rfl, rfl⟩))
  go_region_law (refine step_append_at rfl (.tmp 27) (.tmp 29) 93 rfl B 92 iW _ 2 24 Tryz.underlying93 Z.out.1 Z.out.2.1 Z.out.2.2.1 Z.out.2.2.2 rfl (by decide) r.pv s.pend.length (wcells s.pend) (by simp [Act.eval]) (((hp.out.alloc _).alloc _).drew) ⟨w.heap.size + 1, 0, none⟩ 1 1 (wcell (k, t)) (by simp [Act.eval]) rfl (box2_cells w _ _ _ _) (by simp [wcell, Value.oneCell']) (by unfold maxLen; omega) (by omega) (by simp; omega) ?_; intro v' w1 hown hgr hbk; obtain ⟨g', cap', rfl⟩ := ownsRow_val hown; have hq := pushed HH.out hB (k, t) hx ((((Only.refl (fun _ => False) w).alloc _).alloc _).drew) _ hown hgr hbk; have q4 := hq.1.cell 4; have qf := hq.1.frozen 4; simp only [List.getElem?_toArray, List.getElem?_cons_succ, List.getElem?_cons_zero] at q4)
  all_goals
    obtain ⟨q1, q2, q3, q5⟩ := hq
    have d3 : (w1.setCell ⟨r.p, 4, none⟩ (.slice (some ⟨g', 0, none⟩) (s.pend.length + 1) cap')).cell? ⟨r.p, 3, none⟩ = some (.slice (some ⟨r.bv, 0, none⟩) s.dur.length s.dur.length) := q2.c3
    have hn := Blk.new w 92 #[.int .i64 (k : Int), .string t]
    have d5 := (q5 w.heap.size (Nat.le_refl _) (by simp; omega) 0).trans (((hn.alloc _).drew).cell 0)
    have d6 := (q5 w.heap.size (Nat.le_refl _) (by simp; omega) 1).trans (((hn.alloc _).drew).cell 1)
    simp only [List.getElem?_toArray, List.getElem?_cons_succ, List.getElem?_cons_zero] at d5 d6
    have Q2 := Lib.hid q2
    have Q3 := Lib.hid q3
    clear hown hgr hbk q1 q2 q3 q5 hn
    generalize w1.setCell ⟨r.p, 4, none⟩ (.slice (some ⟨g', 0, none⟩) (s.pend.length + 1) cap') = W2 at *
    clear c0 c1 c3 c4 f4 q4 qf
    go_wp2
    go_region_with (go_at_call 48; refine (onto_any _ r.bv s.dur.length s.vis (k, t) Q2.out.vis.drew Q2.out.len hx hs).mono ?_; rintro e w3 ⟨rfl, hb3, o3⟩)
    all_goals
      have L := laid_at Q2.out (k, t) hx hb3 ⟨o3.os, o3.tape, o3.output, o3.size, o3.block⟩
      have KU := Lib.hid (used_any L.1 HO.out)
      have L2 := Lib.hid L.2
      unfold DRep.ptr at KU
      clear L hb3 o3
      go_wp2_with (go_at_call 49; refine KU.out.mono ?_; rintro e w4 ⟨rfl, hd4, o4⟩)
      go_ret
      rw [HF.out]
      exact ⟨rfl, _, hd4, (Q3.out.trans L2.out).trans (Turned.own o4)⟩

set_option maxHeartbeats 1000000 in
/-- Write, at whatever place, of whatever string. -/
theorem Write_any {B : Nat} {w : World} {r : DRep} {s : DSt} (h : DiskAt B w r s) (o : Int) (t : ByteArray) (hB : B ≤ w.heap.size) (hl : s.pend.length ≤ 1000000) :
    Calls Tryz.prog 13 #[r.ptr, .int .i64 o, .string t] w fun e w' => e = .returned (.int .i64 (s.write o t).1) ∧ ∃ r', DiskAt B w' r' (s.write o t).2 ∧ Turned r r' w w' := by
  cases ho : s.off
  · cases hi : s.inside o t.size
    · have HF : Hid (s.write o t = (250, s)) := by show s.write o t = _; simp [DSt.write, ho, hi]
      have HP : Hid (s.power = 0) := by show s.power = 0; simp [DSt.power, ho]
      have K := Lib.hid (check_any h)
      have KI := Lib.hid (inside_any h o t.size)
      rw [HP.out] at K
      rw [hi] at KI
      have HH : Hid (DiskAt B w r s) := h
      unfold DRep.ptr at *
      clear h ho hi
      go_enter Tryz.func13, Tryz.ntmps13
      go_wp2_with (first | (go_at_call 46; refine K.out.mono ?_; rintro e w' ⟨rfl, rfl⟩) | (go_at_call 47; refine KI.out.mono ?_; rintro e w' ⟨rfl, rfl⟩))
      go_ret
      rw [HF.out]
      exact ⟨rfl, r, HH.out, Turned.refl _ _⟩
    · have e : s.write o t = (0, s.wrote o t) := by simp [DSt.write, ho, hi]
      rw [e]
      exact Write_good h o t ho hi hB hl
  · have HF : Hid (s.write o t = (251, s)) := by show s.write o t = _; simp [DSt.write, ho]
    have HP : Hid (s.power = 251) := by show s.power = 251; simp [DSt.power, ho]
    have K := Lib.hid (check_any h)
    rw [HP.out] at K
    have HH : Hid (DiskAt B w r s) := h
    unfold DRep.ptr at *
    clear h ho
    go_enter Tryz.func13, Tryz.ntmps13
    go_wp2_with (go_at_call 46; refine K.out.mono ?_; rintro e w' ⟨rfl, rfl⟩)
    go_ret
    rw [HF.out]
    exact ⟨rfl, r, HH.out, Turned.refl _ _⟩
end Go.Proofs.YtjlgkjhociaeiaaGreatDoor
namespace Go.Proofs.YtjlgkjhociaeiaaGreatDoor
open Go.RowKit
set_option linter.unusedVariables false

/-- At p there is a disk that holds s; it lies in the blocks of F. -/
def Dk (w : World) (p : Nat) (F : Nat → Prop) (s : DSt) : Prop := ∃ r : DRep, r.p = p ∧ (∀ k, r.foot k ↔ F k) ∧ DiskAt 0 w r s
/-- What a call leaves: a disk that holds s'; only its own blocks have turned; it lies in these and in new ones. -/
def Step (w : World) (p : Nat) (F : Nat → Prop) (s' : DSt) (w' : World) : Prop := ∃ F', Dk w' p F' s' ∧ Only F w w' ∧ ∀ k, F' k → F k ∨ w.heap.size ≤ k

theorem Dk.lt {w : World} {p : Nat} {F : Nat → Prop} {s : DSt} (h : Dk w p F s) : ∀ k, F k → k < w.heap.size := by
  obtain ⟨r, _, hF, hd⟩ := h
  exact fun k hk => (hd.footlt k ((hF k).2 hk)).2
theorem Dk.only {w w' : World} {p : Nat} {F S : Nat → Prop} {s : DSt} (h : Dk w p F s) (o : Only S w w') (hn : ∀ k, F k → ¬ S k) : Dk w' p F s := by
  obtain ⟨r, hp, hF, hd⟩ := h
  exact ⟨r, hp, hF, hd.only o fun k hk => hn k ((hF k).1 hk)⟩
theorem Dk.below {w w' : World} {p : Nat} {F : Nat → Prop} {s : DSt} (h : Dk w p F s) (o : Below w.heap.size w w') : Dk w' p F s := h.only (Only.of_below o fun _ => False) fun _ _ e => e
theorem Step.of {w w' : World} {r r' : DRep} {F : Nat → Prop} {s' : DSt} (hF : ∀ k, r.foot k ↔ F k) (hd : DiskAt 0 w' r' s') (t : Turned r r' w w') : Step w r.p F s' w' :=
  ⟨r'.foot, ⟨r', t.p, fun _ => Iff.rfl, hd⟩, t.only.mono fun k _ e => (hF k).1 e, fun k e => (t.foot k e).elim (fun x => .inl ((hF k).1 x)) .inr⟩
theorem Step.trans {a b c : World} {p : Nat} {F : Nat → Prop} {s1 s2 : DSt} (h : Step a p F s1 b) (k : ∀ F', Dk b p F' s1 → Step b p F' s2 c) : Step a p F s2 c := by
  obtain ⟨F1, d1, o1, f1⟩ := h
  obtain ⟨F2, d2, o2, f2⟩ := k F1 d1
  exact ⟨F2, d2, o1.trans o2 fun i hi e => (f1 i e).elim id fun x => absurd hi (by omega), fun i e => (f2 i e).elim (fun x => f1 i x) fun x => .inr (Nat.le_trans o1.size x)⟩
theorem Step.refl {w : World} {p : Nat} {F : Nat → Prop} {s : DSt} (h : Dk w p F s) : Step w p F s w := ⟨F, h, Only.refl _ _, fun _ e => .inl e⟩

theorem Dk.new (n : Nat) (w : World) (h1 : 1 ≤ n) (h2 : n ≤ 4194304) :
    Calls Tryz.prog 24 #[.int .i64 (n : Int)] w fun e w' => ∃ p F, e = .returned (.tuple #[.pointer (some ⟨p, 0, none⟩), .int .i64 0]) ∧ Dk w' p F (DSt.new n) ∧ (∀ k, F k → w.heap.size ≤ k) ∧ Below w.heap.size w w' := by
  refine (New_good n w h1 h2).mono ?_
  rintro e w' ⟨r, rfl, hd, hb⟩
  exact ⟨r.p, r.foot, rfl, ⟨r, rfl, fun _ => Iff.rfl, { hd with pend := ownsRow_base hd.pend fun _ _ => Nat.zero_le _, bp := Nat.zero_le _, bbd := Nat.zero_le _, bbv := Nat.zero_le _ }⟩, fun k hk => (hd.footlt k hk).1, hb⟩

section
variable {w : World} {p : Nat} {F : Nat → Prop} {s : DSt}
theorem Dk.size (h : Dk w p F s) : Calls Tryz.prog 51 #[.pointer (some ⟨p, 0, none⟩)] w fun e w' => e = .returned (.int .i64 (s.dur.length : Int)) ∧ w = w' := by
  obtain ⟨r, rfl, hF, hd⟩ := h
  exact Size_any hd
theorem Dk.pending (h : Dk w p F s) : Calls Tryz.prog 32 #[.pointer (some ⟨p, 0, none⟩)] w fun e w' => e = .returned (.int .i64 (s.pend.length : Int)) ∧ w = w' := by
  obtain ⟨r, rfl, hF, hd⟩ := h
  exact Pending_any hd
theorem Dk.read (h : Dk w p F s) (o n : Int) : Calls Tryz.prog 52 #[.pointer (some ⟨p, 0, none⟩), .int .i64 o, .int .i64 n] w fun e w' => e = .returned (.tuple #[.string ⟨(s.read o n).1.toArray⟩, .int .i64 (s.read o n).2]) ∧ w = w' := by
  obtain ⟨r, rfl, hF, hd⟩ := h
  exact Read_any hd o n
theorem Dk.write (h : Dk w p F s) (o : Int) (t : ByteArray) (hl : s.pend.length ≤ 1000000) : Calls Tryz.prog 13 #[.pointer (some ⟨p, 0, none⟩), .int .i64 o, .string t] w fun e w' => e = .returned (.int .i64 (s.write o t).1) ∧ Step w p F (s.write o t).2 w' := by
  obtain ⟨r, rfl, hF, hd⟩ := h
  exact (Write_any hd o t (Nat.zero_le _) hl).mono fun e w' ⟨he, r', hd', t'⟩ => ⟨he, Step.of hF hd' t'⟩
theorem Dk.sync (h : Dk w p F s) : Calls Tryz.prog 42 #[.pointer (some ⟨p, 0, none⟩)] w fun e w' => e = .returned (.int .i64 s.sync.1) ∧ Step w p F s.sync.2 w' := by
  obtain ⟨r, rfl, hF, hd⟩ := h
  exact (Sync_any hd).mono fun e w' ⟨he, r', hd', t'⟩ => ⟨he, Step.of hF hd' t'⟩
theorem Dk.cut (h : Dk w p F s) (n : Int) (hn : n ≤ 9223372036854775807) : Calls Tryz.prog 29 #[.pointer (some ⟨p, 0, none⟩), .int .i64 n] w fun e w' => e = .returned (.int .i64 (s.cut n).1) ∧ Step w p F (s.cut n).2 w' := by
  obtain ⟨r, rfl, hF, hd⟩ := h
  exact (Cut_any hd n hn).mono fun e w' ⟨he, hd', o'⟩ => ⟨he, Step.of hF hd' (Turned.own o')⟩
end

/-- The disk lies from block B on: what a law with one disk needs. -/
def DkB (B : Nat) (w : World) (p : Nat) (s : DSt) : Prop := ∃ F, Dk w p F s ∧ ∀ k, F k → B ≤ k
/-- What a call leaves to such a law. -/
def StepB (B : Nat) (w : World) (p : Nat) (s' : DSt) (w' : World) : Prop := DkB B w' p s' ∧ Below B w w'
theorem DkB.step {B : Nat} {w w' : World} {p : Nat} {F : Nat → Prop} {s' : DSt} (hB : B ≤ w.heap.size) (hF : ∀ k, F k → B ≤ k) (h : Step w p F s' w') : StepB B w p s' w' := by
  obtain ⟨F', d, o, f⟩ := h
  exact ⟨⟨F', d, fun k e => (f k e).elim (hF k) fun x => Nat.le_trans hB x⟩, o.below hB hF⟩
theorem DkB.below {B : Nat} {w w' : World} {p : Nat} {s : DSt} (h : DkB B w p s) (o : Below w.heap.size w w') : DkB B w' p s := by
  obtain ⟨F, hd, hF⟩ := h
  exact ⟨F, hd.below o, hF⟩
theorem DkB.new (n : Nat) (B : Nat) (w : World) (hB : B ≤ w.heap.size) (h1 : 1 ≤ n) (h2 : n ≤ 4194304) :
    Calls Tryz.prog 24 #[.int .i64 (n : Int)] w fun e w' => ∃ p, e = .returned (.tuple #[.pointer (some ⟨p, 0, none⟩), .int .i64 0]) ∧ StepB B w p (DSt.new n) w' :=
  (Dk.new n w h1 h2).mono fun e w' ⟨p, F, he, hd, hF, hb⟩ => ⟨p, he, ⟨F, hd, fun k e => Nat.le_trans hB (hF k e)⟩, hb.mono hB⟩
section
variable {B : Nat} {w : World} {p : Nat} {s : DSt}
theorem DkB.size (h : DkB B w p s) : Calls Tryz.prog 51 #[.pointer (some ⟨p, 0, none⟩)] w fun e w' => e = .returned (.int .i64 (s.dur.length : Int)) ∧ w = w' := by
  obtain ⟨F, hd, hF⟩ := h
  exact hd.size
theorem DkB.pending (h : DkB B w p s) : Calls Tryz.prog 32 #[.pointer (some ⟨p, 0, none⟩)] w fun e w' => e = .returned (.int .i64 (s.pend.length : Int)) ∧ w = w' := by
  obtain ⟨F, hd, hF⟩ := h
  exact hd.pending
theorem DkB.read (h : DkB B w p s) (o n : Int) : Calls Tryz.prog 52 #[.pointer (some ⟨p, 0, none⟩), .int .i64 o, .int .i64 n] w fun e w' => e = .returned (.tuple #[.string ⟨(s.read o n).1.toArray⟩, .int .i64 (s.read o n).2]) ∧ w = w' := by
  obtain ⟨F, hd, hF⟩ := h
  exact hd.read o n
theorem DkB.write (h : DkB B w p s) (o : Int) (t : ByteArray) (hB : B ≤ w.heap.size) (hl : s.pend.length ≤ 1000000) : Calls Tryz.prog 13 #[.pointer (some ⟨p, 0, none⟩), .int .i64 o, .string t] w fun e w' => e = .returned (.int .i64 (s.write o t).1) ∧ StepB B w p (s.write o t).2 w' := by
  obtain ⟨F, hd, hF⟩ := h
  exact (hd.write o t hl).mono fun e w' ⟨he, t'⟩ => ⟨he, DkB.step hB hF t'⟩
theorem DkB.sync (h : DkB B w p s) (hB : B ≤ w.heap.size) : Calls Tryz.prog 42 #[.pointer (some ⟨p, 0, none⟩)] w fun e w' => e = .returned (.int .i64 s.sync.1) ∧ StepB B w p s.sync.2 w' := by
  obtain ⟨F, hd, hF⟩ := h
  exact hd.sync.mono fun e w' ⟨he, t'⟩ => ⟨he, DkB.step hB hF t'⟩
theorem DkB.cut (h : DkB B w p s) (n : Int) (hB : B ≤ w.heap.size) (hn : n ≤ 9223372036854775807) : Calls Tryz.prog 29 #[.pointer (some ⟨p, 0, none⟩), .int .i64 n] w fun e w' => e = .returned (.int .i64 (s.cut n).1) ∧ StepB B w p (s.cut n).2 w' := by
  obtain ⟨F, hd, hF⟩ := h
  exact (hd.cut n hn).mono fun e w' ⟨he, t'⟩ => ⟨he, DkB.step hB hF t'⟩
end
end Go.Proofs.YtjlgkjhociaeiaaGreatDoor
