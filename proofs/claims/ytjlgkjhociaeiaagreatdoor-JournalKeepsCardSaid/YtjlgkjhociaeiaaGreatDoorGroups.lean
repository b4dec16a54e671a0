/-
  wire.groups: the 7-bit groups of a number.
-/
import Derived.RangeFuncBox
import Derived.RangeFuncLeaves
import Derived.Shelf.Abstract
import Derived.WalkKit
import Derived.OwnWalkIn
import Derived.TacticsInMore
import Derived.LoopNIn
import Derived.LoopIn
import Derived.Laws.BitsAllLaws
import Derived.Lib.Hide
import Derived.Test.YtjlgkjhociaeiaaGreatDoorState
import Derived.Test.YtjlgkjhociaeiaaGreatDoorWire
import Derived.Test.YtjlgkjhociaeiaaGreatDoorGa
namespace Go.Proofs.YtjlgkjhociaeiaaGreatDoor
open Go.RowKit Go.Shelf
set_option linter.unusedVariables false

attribute [local go_sem] Oper.semAt_some

/-- The groups of z, and whether a group is the last one. -/
def grpL : Nat → Nat → List (UInt8 × Bool)
  | 0, _ => []
  | f + 1, z => if z < 128 then [(UInt8.ofNat z, true)] else (UInt8.ofNat (z % 128), false) :: grpL f (z / 128)
theorem grpL_big (f z : Nat) (h : ¬ z < 128) : grpL (f + 1) z = (UInt8.ofNat (z % 128), false) :: grpL f (z / 128) := by rw [grpL, if_neg h]
theorem and127 (z : Nat) (h : z < 18446744073709551616) : Go.bits .and .u64 (z : Int) 127 = ((z % 128 : Nat) : Int) := by
  rw [show (127 : Int) = ((127 : Nat) : Int) from rfl, u64_and_nat _ _ h (by omega), nat_mask7]
theorem low_byte (z : Nat) : IntKind.u8.wrap ((z % 128 : Nat) : Int) = ((UInt8.ofNat (z % 128)).toNat : Int) := by
  rw [IntKind.wrap_u8', UInt8.toNat_ofNat']
  omega

/-- What the cell of a captured number holds. -/
def numAt (w : World) (b : Nat) : Nat := match w.cell? ⟨b, 0, none⟩ with
  | some (.int _ n) => n.toNat
  | _ => 0

theorem numAt_blk {w : World} {b : Nat} {t : TypeId} {k : IntKind} {n : Nat} (h : Blk w b t #[.int k (n : Int)]) : numAt w b = n := by
  have : w.cell? ⟨b, 0, none⟩ = some (.int k (n : Int)) := h.cell 0
  simp [numAt, this]
set_option maxRecDepth 100000 in
set_option maxHeartbeats 4000000 in
theorem groups1_in (F : Fence) (n : Nat) (hF : F.fn 132) (hro : F.round = none) (hn : 1 ≤ n) (l Bz z : Nat) (hz : z < 128 ^ 10) (hz64 : z < 18446744073709551616) (S : Nat → Prop) (hS : ¬ S Bz) (J : List (UInt8 × Bool) → World → Prop) (hJ : ∀ s A v, J s A → J s (A.setCell ⟨Bz, 0, none⟩ v))
    (hY : ∀ pre x W, J pre W → pre.length < 10 → YieldAt F (n - 1) Tryz.prog l #[.int .u8 (x.1.toNat : Int), .bool x.2] W fun e W' => e = .returned (.bool true) ∧ J (pre ++ [x]) W' ∧ Only S W W')
    (W : World) (hc : Blk W Bz 141 #[.int .u64 (z : Int)]) (h0 : J [] W) :
    CallsIn F n Tryz.prog 132 #[.func (.yield l) #[] #[], .pointer (some ⟨Bz, 0, none⟩)] W fun e W' => (∃ v, e = .returned v) ∧ ∃ xs, xs = grpL 10 z ∧ J xs W' := by
  refine callsIn_of_wp Tryz.func132 rfl hF ?_ hro
  simp only [Tryz.ntmps132, List.size_toArray, List.length_cons, List.length_nil, Nat.reduceAdd, Nat.reduceSub, Array.replicate_succ, Array.replicate_zero, List.push_toArray, List.append_toArray, List.nil_append, List.cons_append]
  gi_wp2
  gi_loopw [3] (fun _ wr => ∃ (pre : List (UInt8 × Bool)) (f y : Nat), J pre wr ∧ Blk wr Bz 141 #[.int .u64 (y : Int)] ∧ pre ++ grpL (f + 1) y = grpL 10 z ∧ y < 128 ^ (f + 1) ∧ y < 18446744073709551616 ∧ pre.length + f + 1 = 10)
    (fun _ wr => numAt wr Bz)
  case atStart => exact ⟨[], 9, z, h0, hc, rfl, hz, hz64, rfl⟩
  case round =>
    obtain ⟨pre, f, y, hJs, hb, hpre, hy1, hy2, hlen⟩ := hrel
    have c0 : wr.cell? ⟨Bz, 0, none⟩ = some (.int .u64 (y : Int)) := hb.cell 0
    obtain ⟨c, hcd⟩ : ∃ c, c = UInt8.ofNat (y % 128) := ⟨_, rfl⟩
    have ha : Go.bits .and .u64 (y : Int) 127 = (c.toNat : Int) := by
      rw [and127 y hy2, hcd, u8_toNat _ (by omega)]
    have hlb : IntKind.u8.wrap (c.toNat : Int) = (c.toNat : Int) := by
      have := c.toNat_lt
      rw [IntKind.wrap_u8']; omega
    have HCD := Lib.hid hcd
    have HP := Lib.hid hpre
    by_cases hlt : y < 128
    · obtain ⟨fn, tmps, assign, body, hy, hR⟩ := hY _ (c, true) wr hJs (by omega)
      dsimp only at hy
      have d1 : decide ((y : Int) < 128) = true := by simp; omega
      have HE := Lib.hid (show pre ++ [(c, true)] = grpL 10 z by rw [← hpre, grpL, if_pos hlt, hcd, Nat.mod_eq_of_lt hlt])
      clear hJs hb hpre hlen hcd
      gi_wp2
      refine hR.mono ?_
      rintro e W3 ⟨rfl, hJ3, hk3⟩
      have HJ3 := Lib.hid hJ3
      clear hJ3 hk3 hR hy
      gi_wp2
      refine bodyPost_ret (results_none rfl _ _ _) rfl ?_
      exact ⟨⟨_, rfl⟩, _, rfl, by rw [← HE.out]; exact HJ3.out⟩
    · obtain ⟨fn, tmps, assign, body, hy, hR⟩ := hY _ (c, false) wr hJs (by omega)
      dsimp only at hy
      have d1 : decide ((y : Int) < 128) = false := by simp; omega
      have hf : f ≠ 0 := by
        rintro rfl
        simp at hy1
        omega
      obtain ⟨f', rfl⟩ : ∃ f', f = f' + 1 := ⟨f - 1, by omega⟩
      have HE := Lib.hid (show (pre ++ [(c, false)]) ++ grpL (f' + 1) (y / 128) = grpL 10 z by rw [← hpre, grpL_big (f' + 1) y hlt, hcd, List.append_assoc]; rfl)
      have HB := Lib.hid hb
      have hy3 : y / 128 < 128 ^ (f' + 1) := by rw [Nat.pow_succ] at hy1; omega
      have hl2 : (pre ++ [(c, false)]).length + f' + 1 = 10 := by simp; omega
      have HL2 := Lib.hid hl2
      clear hJs hb hpre hlen hcd hl2
      gi_wp2
      refine hR.mono ?_
      rintro e W3 ⟨rfl, hJ3, hk3⟩
      have HJ3 := Lib.hid hJ3
      have K3 := Lib.hid (HB.out.only hk3 hS)
      have c3 : W3.cell? ⟨Bz, 0, none⟩ = some (.int .u64 (y : Int)) := K3.out.cell 0
      have f3 := K3.out.frozen 0
      clear hJ3 hk3 hR hy c0 ha hlb
      gi_wp2
      have K4 : Blk (W3.setCell ⟨Bz, 0, none⟩ (.int .u64 ((y : Int) / 128))) Bz 141 #[.int .u64 ((y / 128 : Nat) : Int)] := by simpa using K3.out.set_ 0 (.int .u64 ((y : Int) / 128))
      go_roundw
      case rel => exact ⟨pre ++ [(c, false)], f', y / 128, hJ _ _ _ HJ3.out, K4, HE.out, hy3, by omega, by have := HL2.out; omega⟩
      case measure => rw [numAt_blk HB.out, numAt_blk K4]; omega
end Go.Proofs.YtjlgkjhociaeiaaGreatDoor
