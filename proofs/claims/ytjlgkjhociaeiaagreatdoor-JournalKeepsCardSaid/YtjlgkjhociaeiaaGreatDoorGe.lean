/-
  Joined by program out of: WInt, WStr.
-/
import Derived.Test.YtjlgkjhociaeiaaGreatDoorWire
import Derived.Test.YtjlgkjhociaeiaaGreatDoorGa
import Derived.Laws.BitsAllLaws
import Derived.Laws.DeepNot64
import Derived.Laws.Shifts
import Derived.WalkLawsBesides
import Derived.IntWalk
import Derived.Lib.Hide
namespace Go.Proofs.YtjlgkjhociaeiaaGreatDoor
open Go.RowKit
set_option linter.unusedVariables false

theorem w64 (n : Int) (h : -9223372036854775808 ≤ n ∧ n ≤ 9223372036854775807) : wrap64 n = n := by
  unfold wrap64
  omega
/-- What wire.Int hands back. -/
def intRes : Option (Int × Nat) → Value
  | some (n, x) => .tuple #[.int .i64 n, .int .i64 (x : Int), .int .i64 0]
  | none => .tuple #[.int .i64 0, .int .i64 0, .int .i64 10]
theorem u8_and127 (c : UInt8) : Go.bits .and .u8 (c.toNat : Int) 127 = ((c.toNat % 128 : Nat) : Int) := by
  rw [show (127 : Int) = ((127 : Nat) : Int) from rfl, u8_and_nat _ _ c.toNat_lt (by omega), nat_mask7]
theorem or_step (z m k : Nat) (hz : z < 128 ^ k) (hm : m < 128) (hk : k ≤ 8) : Go.bits .or .u64 (z : Int) ((m * 128 ^ k : Nat) : Int) = ((z + m * 128 ^ k : Nat) : Int) ∧ z + m * 128 ^ k < 128 ^ (k + 1) := by
  have h1 : z + m * 128 ^ k < 128 ^ (k + 1) := by
    rw [Nat.pow_succ]
    have : m * 128 ^ k ≤ 127 * 128 ^ k := Nat.mul_le_mul_right _ (by omega)
    omega
  have h2 : 128 ^ (k + 1) ≤ 128 ^ 9 := Nat.pow_le_pow_right (by omega) (by omega)
  have h3 : (128 : Nat) ^ 9 < 18446744073709551616 := by decide
  have hp : (128 : Nat) ^ k = 2 ^ (7 * k) := by rw [Nat.pow_mul]
  refine ⟨?_, h1⟩
  rw [u64_or_nat _ _ (by omega) (by omega), Nat.or_comm]
  congr 1
  rw [nat_join (7 * k) (m * 128 ^ k) z (by rw [hp]; exact Nat.mul_mod_left _ _) (by rw [← hp]; exact hz)]
  omega
theorem xor_sign (z : Nat) (hz : z < 18446744073709551616) : Go.bits .xor .i64 ((z / 2 : Nat) : Int) (-((z % 2 : Nat) : Int)) = unzig z := by
  unfold unzig
  split
  · rename_i h
    rw [h]
    have h1 := i64_not (z / 2) (by omega)
    have hc : ∀ a b : Int, Go.bits .xor .i64 a b = Go.bits .xor .i64 b a := fun a b => by
      show IntKind.i64.wrap ((BitVec.ofInt 64 a ^^^ BitVec.ofInt 64 b).toNat : Int) = IntKind.i64.wrap ((BitVec.ofInt 64 b ^^^ BitVec.ofInt 64 a).toNat : Int)
      rw [BitVec.xor_comm]
    rw [hc]
    have e : (-((1 : Nat) : Int)) = -1 := rfl
    rw [e, h1]
    omega
  · rename_i h
    have h0 : z % 2 = 0 := by omega
    rw [h0]
    have e : (-((0 : Nat) : Int)) = 0 := rfl
    rw [e]
    show IntKind.i64.wrap ((BitVec.ofInt 64 ((z / 2 : Nat) : Int) ^^^ BitVec.ofInt 64 0).toNat : Int) = _
    have h1 : BitVec.ofInt 64 0 = 0#64 := rfl
    rw [h1, BitVec.xor_zero, ofInt_u64 _ (by omega)]
    exact IntWalk.i64_in _ (by omega)

theorem pow9 (k : Nat) (hk : k ≤ 8) : (128 : Nat) ^ (k + 1) ≤ 9223372036854775808 := by
  have h := Nat.pow_le_pow_right (n := 128) (by omega) (show k + 1 ≤ 9 by omega)
  have e : (128 : Nat) ^ 9 = 9223372036854775808 := by decide
  rwa [e] at h
/-- One group more. -/
theorem step_arith (z k : Nat) (c : UInt8) (hk : k ≤ 8) (hz : z < 128 ^ k) : ∃ m p y : Nat, Go.bits .and .u8 (c.toNat : Int) 127 = (m : Int) ∧ IntKind.u64.wrap (m : Int) = (m : Int) ∧ IntKind.u64.wrap ((m : Int) * 2 ^ (7 * k)) = (p : Int) ∧
    Go.bits .or .u64 (z : Int) (p : Int) = (y : Int) ∧ y = z + c.toNat % 128 * 128 ^ k ∧ y < 128 ^ (k + 1) ∧ y < 9223372036854775808 := by
  have hor := or_step z (c.toNat % 128) k hz (by omega) hk
  have h9 := pow9 k hk
  have hp : c.toNat % 128 * 128 ^ k < 9223372036854775808 := by omega
  refine ⟨c.toNat % 128, c.toNat % 128 * 128 ^ k, _, u8_and127 c, ?_, ?_, hor.1, rfl, hor.2, by omega⟩
  · rw [IntKind.wrap_u64]; omega
  · have e : ((c.toNat % 128 : Nat) : Int) * 2 ^ (7 * k) = ((c.toNat % 128 * 128 ^ k : Nat) : Int) := by
      rw [Int.natCast_mul, Int.natCast_pow, Int.pow_mul]
      rfl
    rw [e]
    generalize c.toNat % 128 * 128 ^ k = q at *
    rw [IntKind.wrap_u64]
    omega
theorem end_arith (y : Nat) (hy : y < 9223372036854775808) : ∃ b : Nat, Go.bits .and .u64 (y : Int) 1 = (b : Int) ∧ wrap64 (b : Int) = (b : Int) ∧ wrap64 (-(b : Int)) = -(b : Int) ∧ Go.bits .xor .i64 ((y : Int) / 2) (-(b : Int)) = unzig y := by
  refine ⟨y % 2, ?_, w64 _ (by omega), w64 _ (by omega), ?_⟩
  · rw [show (1 : Int) = ((1 : Nat) : Int) from rfl, u64_and_nat _ _ (by omega) (by omega), nat_mask1]
  · have := xor_sign y (by omega)
    rw [← this]
    rfl
set_option maxRecDepth 100000 in
set_option maxHeartbeats 4000000 in
theorem wint_any (s : ByteArray) (a : Nat) (w : World) (ha : a ≤ s.size) (hs : s.size ≤ 1099511627776) :
    Calls Tryz.prog 113 #[.string s, .int .i64 (a : Int)] w fun e w' => e = .returned (intRes (decI s a)) ∧ w = w' := by
  have d0 : decide ((a : Int) < 0) = false := decide_eq_false (by omega)
  have dS : decide (s.size < a) = false := decide_eq_false (by omega)
  go_enter Tryz.func113, Tryz.ntmps113
  go_wp2
  go_loop [7, 19] (fun v i => ∃ (k z : Nat), k ≤ 9 ∧ i = .int .i64 k ∧ v = .int .u64 z ∧ z < 128 ^ k ∧ decGo s a (9 - k) k z = decI s a) (fun _ i => 9 - (intOf i).toNat)
  case atStart => exact ⟨0, 0, by omega, rfl, rfl, by simp, rfl⟩
  case round =>
    obtain ⟨k, z, hk, rfl, rfl, hz, hd⟩ := hrel
    have HD := Lib.hid hd
    clear hd
    by_cases hk9 : k < 9
    · by_cases hin : a + k < s.size
      · obtain ⟨f, hf⟩ : ∃ f, 9 - k = f + 1 := ⟨8 - k, by omega⟩
        have hgo := HD.out
        rw [hf, decGo, dif_pos hin] at hgo
        obtain ⟨c, hc⟩ : ∃ c, s[a + k] = c := ⟨_, rfl⟩
        rw [hc] at hgo
        obtain ⟨m, p, y, r1, r2, r3, r4, hy, hylt, hy9⟩ := step_arith z k c (by omega) hz
        rw [← hy] at hgo
        have hd1 : k + 1 ≤ 9 := by omega
        have HFk : Hid (9 - (k + 1) = f) := by show _ = _; omega
        have HY := Lib.hid hylt
        clear hy hf hz hylt
        by_cases hbig : 128 ≤ c.toNat
        · rw [if_pos hbig] at hgo
          have HG := Lib.hid hgo
          have d1 : decide ((128 : Int) ≤ (c.toNat : Int)) = true := decide_eq_true (by omega)
          clear hgo
          go_wp2
          go_round
          case rel => exact ⟨k + 1, y, hd1, by go_num, rfl, HY.out, by rw [HFk.out]; exact HG.out⟩
          case measure => simp [intOf]; omega
        · rw [if_neg hbig] at hgo
          unfold decEnd at hgo
          have d1 : decide ((128 : Int) ≤ (c.toNat : Int)) = false := decide_eq_false (by omega)
          obtain ⟨b, r6, r7, r8, r9⟩ := end_arith y hy9
          obtain ⟨u, hu⟩ : ∃ u, u = unzig y := ⟨_, rfl⟩
          rw [← hu] at r9 hgo
          have HG := Lib.hid hgo
          clear hgo hu
          have hcases : (c.toNat = 0 ∧ 0 < k) ∨ ((¬ c.toNat = 0) ∧ u < -4611686018427387903) ∨ ((¬ c.toNat = 0) ∧ ¬ u < -4611686018427387903) ∨ ((c.toNat = 0 ∧ ¬ 0 < k) ∧ u < -4611686018427387903) ∨ ((c.toNat = 0 ∧ ¬ 0 < k) ∧ ¬ u < -4611686018427387903) := by omega
          have HN := Lib.hid (show ∀ x y : Option (Int × Nat), x = y → intRes x = intRes y from fun x y e => by rw [e])
          rcases hcases with ⟨h1, h2⟩ | ⟨h1, h2⟩ | ⟨h1, h2⟩ | ⟨⟨h1, h3⟩, h2⟩ | ⟨⟨h1, h3⟩, h2⟩
          · have q1 : ((c.toNat : Int) == 0) = true := by simp [h1]
            have q3 : decide (0 < (k : Int)) = true := decide_eq_true (by omega)
            have HR : Hid (decI s a = none) := by show _ = _; rw [← HG.out, if_pos (.inl ⟨h1, h2⟩)]
            clear h1
            go_wp2
            go_ret3
            rw [HR.out]
            exact ⟨rfl, rfl⟩
          · have q1 : ((c.toNat : Int) == 0) = false := by simp [h1]
            have HR : Hid (decI s a = none) := by show _ = _; rw [← HG.out, if_pos (.inr h2)]
            have q2 : decide (u < -4611686018427387903) = true := decide_eq_true h2
            clear h1
            go_wp2
            go_ret3
            rw [HR.out]
            exact ⟨rfl, rfl⟩
          · have q1 : ((c.toNat : Int) == 0) = false := by simp [h1]
            have HR : Hid (decI s a = some (u, a + k + 1)) := by show _ = _; rw [← HG.out, if_neg (by omega)]
            have q2 : decide (u < -4611686018427387903) = false := decide_eq_false h2
            clear h1
            go_wp2
            go_ret3
            rw [HR.out]
            exact ⟨rfl, rfl⟩
          · have q1 : ((c.toNat : Int) == 0) = true := by simp [h1]
            have q3 : decide (0 < (k : Int)) = false := decide_eq_false (by omega)
            have HR : Hid (decI s a = none) := by show _ = _; rw [← HG.out, if_pos (.inr h2)]
            have q2 : decide (u < -4611686018427387903) = true := decide_eq_true h2
            clear h1
            go_wp2
            go_ret3
            rw [HR.out]
            exact ⟨rfl, rfl⟩
          · have q1 : ((c.toNat : Int) == 0) = true := by simp [h1]
            have q3 : decide (0 < (k : Int)) = false := decide_eq_false (by omega)
            have HR : Hid (decI s a = some (u, a + k + 1)) := by show _ = _; rw [← HG.out, if_neg (by omega)]
            have q2 : decide (u < -4611686018427387903) = false := decide_eq_false h2
            clear h1
            go_wp2
            go_ret3
            rw [HR.out]
            exact ⟨rfl, rfl⟩
      · have HR : Hid (decI s a = none) := by
          show _ = _
          obtain ⟨f, hf⟩ : ∃ f, 9 - k = f + 1 := ⟨8 - k, by omega⟩
          rw [← HD.out, hf, decGo, dif_neg hin]
        clear hz
        go_wp2
        go_ret3
        rw [HR.out]
        exact ⟨rfl, rfl⟩
    · have HR : Hid (decI s a = none) := by
        show _ = _
        have h0 : 9 - k = 0 := by omega
        rw [← HD.out, h0]
        rfl
      clear hz
      go_wp2
      go_ret3
      rw [HR.out]
      exact ⟨rfl, rfl⟩
end Go.Proofs.YtjlgkjhociaeiaaGreatDoor
namespace Go.Proofs.YtjlgkjhociaeiaaGreatDoor
open Go.RowKit
set_option linter.unusedVariables false

def strRes : Option (ByteArray × Nat) → Value
  | some (r, x) => .tuple #[.string r, .int .i64 (x : Int), .int .i64 0]
  | none => .tuple #[.string "".toUTF8, .int .i64 0, .int .i64 10]
theorem decGo_bounds (s : ByteArray) (a : Nat) : ∀ (f i z : Nat) (n : Int) (x : Nat), z < 128 ^ i → i + f ≤ 9 → decGo s a f i z = some (n, x) → -4611686018427387903 ≤ n ∧ n ≤ 4611686018427387903 ∧ a < x ∧ x ≤ s.size
  | 0, i, z, n, x, _, _, h => by simp [decGo] at h
  | f + 1, i, z, n, x, hz, hi, h => by
    unfold decGo at h
    by_cases hin : a + i < s.size
    · rw [dif_pos hin] at h
      have hor := or_step z (s[a + i].toNat % 128) i hz (by omega) (by omega)
      by_cases hb : 128 ≤ s[a + i].toNat
      · rw [if_pos hb] at h
        exact decGo_bounds s a f (i + 1) _ n x hor.2 (by omega) h
      · rw [if_neg hb] at h
        unfold decEnd at h
        split at h
        · simp at h
        · rename_i hn
          have h9 := pow9 i (by omega)
          have hlt := hor.2
          simp only [Option.some.injEq, Prod.mk.injEq] at h
          obtain ⟨rfl, rfl⟩ := h
          refine ⟨by omega, ?_, by omega, by omega⟩
          generalize z + s[a + i].toNat % 128 * 128 ^ i = y at *
          unfold unzig
          split <;> omega
    · rw [dif_neg hin] at h
      simp at h
theorem decI_bounds (s : ByteArray) (a : Nat) (n : Int) (x : Nat) (h : decI s a = some (n, x)) : -4611686018427387903 ≤ n ∧ n ≤ 4611686018427387903 ∧ a < x ∧ x ≤ s.size :=
  decGo_bounds s a 9 0 0 n x (by simp) (by omega) h
set_option maxRecDepth 100000 in
set_option maxHeartbeats 4000000 in
theorem wstring_any (s : ByteArray) (a : Nat) (w : World) (ha : a ≤ s.size) (hs : s.size ≤ 1099511627776) :
    Calls Tryz.prog 101 #[.string s, .int .i64 (a : Int)] w fun e w' => e = .returned (strRes (decS s a)) ∧ w = w' := by
  rcases hd : decI s a with _ | ⟨n, x⟩
  · have HR : Hid (decS s a = none) := by show _ = _; unfold decS; rw [hd]
    have HD := Lib.hid hd
    clear hd
    go_enter Tryz.func101, Tryz.ntmps101
    go_wp2_with (go_at_call 113; refine (wint_any s a _ ha hs).mono ?_; rw [HD.out]; simp only [intRes]; rintro e w1 ⟨rfl, rfl⟩)
    go_ret3
    rw [HR.out]
    exact ⟨rfl, rfl⟩
  · obtain ⟨h1, h2, h3, h4⟩ := decI_bounds s a n x hd
    have HD := Lib.hid hd
    by_cases hc : n < 0 ∨ 65536 < n ∨ (s.size : Int) - x < n
    · have HR : Hid (decS s a = none) := by show _ = _; unfold decS; rw [hd]; exact if_pos hc
      clear hd
      rcases (show n < 0 ∨ ¬ n < 0 ∧ 65536 < n ∨ ¬ n < 0 ∧ ¬ 65536 < n ∧ (s.size : Int) - x < n by omega) with q | ⟨q, q'⟩ | ⟨q, q', q2⟩
      · have d1 : decide (n < 0) = true := decide_eq_true q
        go_enter Tryz.func101, Tryz.ntmps101
        go_wp2_with (go_at_call 113; refine (wint_any s a _ ha hs).mono ?_; rw [HD.out]; simp only [intRes]; rintro e w1 ⟨rfl, rfl⟩)
        go_ret3
        rw [HR.out]
        exact ⟨rfl, rfl⟩
      · have d1 : decide (n < 0) = false := decide_eq_false q
        have d2 : decide (65536 < n) = true := decide_eq_true q'
        go_enter Tryz.func101, Tryz.ntmps101
        go_wp2_with (go_at_call 113; refine (wint_any s a _ ha hs).mono ?_; rw [HD.out]; simp only [intRes]; rintro e w1 ⟨rfl, rfl⟩)
        go_ret3
        rw [HR.out]
        exact ⟨rfl, rfl⟩
      · have d1 : decide (n < 0) = false := decide_eq_false q
        have d2 : decide (65536 < n) = false := decide_eq_false q'
        have d3 : decide ((s.size : Int) - x < n) = true := decide_eq_true q2
        go_enter Tryz.func101, Tryz.ntmps101
        go_wp2_with (go_at_call 113; refine (wint_any s a _ ha hs).mono ?_; rw [HD.out]; simp only [intRes]; rintro e w1 ⟨rfl, rfl⟩)
        go_ret3
        rw [HR.out]
        exact ⟨rfl, rfl⟩
    · obtain ⟨m, rfl⟩ : ∃ m : Nat, n = m := ⟨n.toNat, by omega⟩
      have HR : Hid (decS s a = some (s.extract x (x + m), x + m)) := by show _ = _; unfold decS; rw [hd]; exact if_neg hc
      clear hd
      have hm : x + m ≤ s.size := by omega
      have hm2 : m ≤ 65536 := by omega
      have d1 : decide ((m : Int) < 0) = false := decide_eq_false (by omega)
      have d2 : decide (65536 < (m : Int)) = false := decide_eq_false (by omega)
      have d3 : decide ((s.size : Int) - x < m) = false := decide_eq_false (by omega)
      clear hc
      go_enter Tryz.func101, Tryz.ntmps101
      go_wp2_with (go_at_call 113; refine (wint_any s a _ ha hs).mono ?_; rw [HD.out]; simp only [intRes]; rintro e w1 ⟨rfl, rfl⟩)
      go_ret3
      rw [HR.out]
      exact ⟨rfl, rfl⟩
end Go.Proofs.YtjlgkjhociaeiaaGreatDoor
