/-
  The reference's wire: zigzag, PutInt, PutString.
-/
import Derived.Test.YtjlgkjhociaeiaaDoorJRows
namespace Go.Proofs.YtjlgkjhociaeiaaDoor
open Go.RowKit
set_option linter.unusedVariables false
theorem ret_int {k : IntKind} {a b : Int} (h : a = b) : Ending.returned (.int k a) = .returned (.int k b) := by rw [h]
set_option maxHeartbeats 1000000 in
theorem RZig_any (n : Int) (w : World) (h0 : -4611686018427387904 ≤ n) (h1 : n ≤ 4611686018427387903) :
    Calls Tryd.prog 50 #[.int .i64 n] w fun e w' => e = .returned (.int .u64 (zig n : Int)) ∧ w = w' := by
  have HZ : Hid (zig n = if n < 0 then 2 * (-n).toNat - 1 else 2 * n.toNat) := rfl
  by_cases h : n < 0
  · have e1 : IntKind.i64.wrap (-n) = -n := IntWalk.i64_in _ (by omega)
    have e2 : IntKind.u64.wrap (-n) = -n := IntWalk.u64_in _ (by omega)
    have e3 : IntKind.u64.wrap (-n * 2) = -n * 2 := IntWalk.u64_in _ (by omega)
    have e4 : IntKind.u64.wrap (-n * 2 - 1) = -n * 2 - 1 := IntWalk.u64_in _ (by omega)
    go_enter Tryd.func50, Tryd.ntmps50
    go_wp2
    go_ret
    refine ⟨ret_int ?_, rfl⟩
    rw [HZ.out, if_pos h]
    omega
  · have e2 : IntKind.u64.wrap n = n := IntWalk.u64_in _ (by omega)
    have e3 : IntKind.u64.wrap (n * 2) = n * 2 := IntWalk.u64_in _ (by omega)
    go_enter Tryd.func50, Tryd.ntmps50
    go_wp2
    go_ret
    refine ⟨ret_int ?_, rfl⟩
    rw [HZ.out, if_neg (by omega)]
    omega
/-- 'string(b)' of a row of bytes. -/
theorem conv_row {w : World} {B g n c : Nat} {xs : List Value} {l : List UInt8} (h : w.ownsRow B 5 1 (.slice (some ⟨g, 0, none⟩) n c) n xs) (hx : xs = cells8 l) (hl : l.length = n) :
    (convert 38 9 (.slice (some ⟨g, 0, none⟩) n c)).run Tryd.prog w = .ok (.string ⟨l.toArray⟩) w := by
  have := run_convert_bytes_back (P := Tryd.prog) w 38 9 5 ⟨g, 0, none⟩ c l Tryd.underlying38 Tryd.underlying5 Tryd.underlying9 (fun j hj => by
    rw [add_none, Nat.zero_add, h.cellAt j (by omega), hx, cells8_get _ _ hj]
    rfl)
  rw [hl] at this
  exact this
theorem zig_big (n : Int) (h0 : -4611686018427387903 ≤ n) (h1 : n ≤ 4611686018427387903) : zig n < 128 ^ 9 := (putI_nine n h0 h1).1
set_option maxRecDepth 100000 in
set_option maxHeartbeats 4000000 in
theorem RPutInt_any (n : Int) (w : World) (h0 : -4611686018427387903 ≤ n) (h1 : n ≤ 4611686018427387903) :
    Calls Tryd.prog 27 #[.int .i64 n] w fun e w' => e = .returned (.tuple #[.string ⟨(putI n).toArray⟩, .int .i64 0]) ∧ Below w.heap.size w w' := by
  obtain ⟨i8, hi8, z0, z1, z2⟩ := info_parts infoB8
  have Z := Lib.hid (And.intro hi8 (And.intro z0 (And.intro z1 z2)))
  have hz := zig_big n h0 h1
  have HE := Lib.hid (putI_nine n h0 h1).2
  obtain ⟨z, hzd⟩ : ∃ z, z = zig n := ⟨_, rfl⟩
  rw [← hzd] at hz HE
  have HZ := Lib.hid hzd.symm
  have t1 : decide (n < -4611686018427387903) = false := decide_eq_false (by omega)
  have t2 : decide (n > 4611686018427387903) = false := decide_eq_false (by omega)
  clear hi8 z0 z1 z2 hzd
  go_enter Tryd.func27, Tryd.ntmps27
  go_wp2_with fail
  refine (RZig_any n w (by omega) (by omega)).mono ?_
  rintro e w1 ⟨rfl, rfl⟩
  rw [HZ.out]
  go_wp2_with fail
  go_loopw [4, 5] (fun zz u wr => ∃ (f y : Nat) (pre : List UInt8), zz = .int .u64 (y : Int) ∧ pre ++ putG (f + 1) y = putG 9 z ∧ y < 128 ^ (f + 1) ∧ pre.length + f + 1 = 9 ∧ wr.ownsRow w.heap.size 5 1 u pre.length (cells8 pre) ∧ Below w.heap.size w wr) (fun zz _ _ => (intOf zz).toNat)
  case atStart => exact ⟨8, z, [], rfl, rfl, hz, rfl, ⟨rfl, .inl ⟨rfl, rfl⟩⟩, Below.refl _ _⟩
  case round =>
    obtain ⟨f, y, pre, rfl, hp, hy, hl, hO, hB⟩ := hrel
    obtain ⟨ua, uc, hu⟩ := ownsRow_form hO
    subst hu
    have HO := Lib.hid hO; have HB := Lib.hid hB; have HP := Lib.hid hp; have HL := Lib.hid hl
    have hpl : pre.length ≤ 9 := by omega
    have hy64 : y < 9223372036854775808 := by
      have : (128 : Nat) ^ (f + 1) ≤ 128 ^ 9 := Nat.pow_le_pow_right (by omega) (by omega)
      omega
    clear hO hB hp hl
    by_cases hb : 128 ≤ y
    · obtain ⟨c, hcd⟩ : ∃ c, c = UInt8.ofNat (y % 128 + 128) := ⟨_, rfl⟩
      have hc : (c.toNat : Int) = (y : Int) % 128 + 128 := by rw [hcd, u8_toNat _ (by omega)]; omega
      have e1 : IntKind.u64.wrap ((y : Int) % 128 + 128) = (y : Int) % 128 + 128 := IntWalk.u64_in _ (by omega)
      have e2 : IntKind.u8.wrap ((y : Int) % 128 + 128) = (y : Int) % 128 + 128 := IntWalk.u8_in _ (by omega)
      have HC := Lib.hid hc
      obtain ⟨f', rfl⟩ : ∃ f', f = f' + 1 := ⟨f - 1, by
        have : f ≠ 0 := by rintro rfl; simp at hy; omega
        omega⟩
      have HE2 := Lib.hid (show (pre ++ [c]) ++ putG (f' + 1) (y / 128) = putG 9 z by rw [← HP.out, putG_succ (f' + 1) y, if_neg (by omega), ← hcd, List.append_assoc]; rfl)
      have hy3 : y / 128 < 128 ^ (f' + 1) := by rw [Nat.pow_succ] at hy; omega
      have d1 : decide ((y : Int) ≥ 128) = true := decide_eq_true (by omega)
      clear hcd hc
      go_wp2_with (at_builtin; refine wpList_append_own_at _ rfl (.tmp 16) (.tmp 21) 38 rfl w.heap.size 5 i8 (.int .u8 0) 1 1 Tryd.underlying38 Z.out.1 Z.out.2.1 Z.out.2.2.1 Z.out.2.2.2 rfl (by decide) _ pre.length _ rfl (HO.out.alloc _) ⟨wr.heap.size, 0, none⟩ 1 1 [.int .u8 ((y : Int) % 128 + 128)] rfl rfl (cell_one_new _ _ _) (by simp [Value.oneCell']) (by unfold maxLen; omega) (by omega) (by simp; exact Nat.le_succ_of_le HB.out.size) ?_; intro v' w2 hown hgr _ _)
      have ho2 : w2.ownsRow w.heap.size 5 1 v' (pre ++ [c]).length (cells8 (pre ++ [c])) := by
        rw [List.length_append]
        have e : cells8 (pre ++ [c]) = cells8 pre ++ [.int .u8 ((y : Int) % 128 + 128)] := by simp [cells8, b8, HC.out]
        rw [e]
        exact hown
      have hb2 := (HB.out.alloc HB.out.size _).grown hgr (by simp; exact Nat.le_succ_of_le HB.out.size) (fun g hg => (HO.out.lt g hg).1)
      have HO2 := Lib.hid ho2; have HB2 := Lib.hid hb2
      obtain ⟨xa, xc, hx⟩ := ownsRow_form ho2
      rw [List.length_append] at hx
      clear hown hgr ho2 hb2
      subst hx
      go_wp2_with fail
      go_roundw
      case rel => exact ⟨f', y / 128, pre ++ [c], by go_num, HE2.out, hy3, by have := HL.out; rw [List.length_append]; simp; omega, HO2.out, HB2.out⟩
      case measure => simp [intOf]; omega
    · have e2 : IntKind.u8.wrap (y : Int) = (y : Int) := IntWalk.u8_in _ (by omega)
      have d1 : decide ((y : Int) ≥ 128) = false := decide_eq_false (by omega)
      have HE2 : Hid (pre ++ [UInt8.ofNat y] = putI n) := by show _ = _; rw [HE.out, ← HP.out, putG_succ f y, if_pos (by omega)]
      have HC : Hid (((UInt8.ofNat y).toNat : Int) = (y : Int)) := by show _ = _; rw [u8_toNat _ (by omega)]
      have HX : Hid (cells8 pre ++ [.int .u8 (y : Int)] = cells8 (putI n)) := by
        show _ = _
        rw [← HE2.out]
        unfold cells8
        rw [List.map_append]
        show _ = _ ++ [Value.int .u8 ((UInt8.ofNat y).toNat : Int)]
        rw [HC.out]
      have HXL : Hid ((putI n).length = pre.length + 1) := by show _ = _; rw [← HE2.out, List.length_append]; rfl
      go_wp2_with (at_builtin; refine wpList_append_own_at _ rfl (.tmp 25) (.tmp 28) 38 rfl w.heap.size 5 i8 (.int .u8 0) 1 1 Tryd.underlying38 Z.out.1 Z.out.2.1 Z.out.2.2.1 Z.out.2.2.2 rfl (by decide) _ pre.length _ rfl (HO.out.alloc _) ⟨wr.heap.size, 0, none⟩ 1 1 [.int .u8 (y : Int)] rfl rfl (cell_one_new _ _ _) (by simp [Value.oneCell']) (by unfold maxLen; omega) (by omega) (by simp; exact Nat.le_succ_of_le HB.out.size) ?_; intro v' w2 hown hgr _ _; obtain ⟨g', cap', rfl⟩ := ownsRow_val hown; have hcv : (convert 38 9 (.slice (some ⟨g', 0, none⟩) (pre.length + 1) cap')).run Tryd.prog w2 = .ok (.string ⟨(putI n).toArray⟩) w2 := (conv_row hown HX.out HXL.out); have HB2 := Lib.hid ((HB.out.alloc HB.out.size _).grown hgr (by simp; exact Nat.le_succ_of_le HB.out.size) (fun g hg => (HO.out.lt g hg).1)); clear hown hgr)
      go_ret2
      exact ⟨rfl, HB2.out⟩
/-- A string's code. -/
theorem RPutString_any (s : ByteArray) (w : World) (hs : s.size ≤ 65536) :
    Calls Tryd.prog 10 #[.string s] w fun e w' => e = .returned (.tuple #[.string (putS s), .int .i64 0]) ∧ Below w.heap.size w w' := by
  have HP : Hid (putS s = ⟨(putI s.size).toArray⟩ ++ s) := rfl
  obtain ⟨q, hq⟩ : ∃ q : ByteArray, q = ⟨(putI s.size).toArray⟩ := ⟨_, rfl⟩
  have hqs : q.size ≤ 10 := by rw [hq]; show (putI s.size).toArray.size ≤ 10; rw [List.size_toArray]; exact (putI_length _).2
  rw [← hq] at HP
  have HQ := Lib.hid hq.symm
  have d1 : decide ((s.size : Int) > 65536) = false := decide_eq_false (by omega)
  clear hq
  go_enter Tryd.func10, Tryd.ntmps10
  go_wp2_with (go_at_call 27; refine (RPutInt_any s.size w (by omega) (by omega)).mono ?_; rw [HQ.out]; rintro e w1 ⟨rfl, hb⟩)
  go_ret2
  rw [HP.out]
  exact ⟨rfl, hb⟩
end Go.Proofs.YtjlgkjhociaeiaaDoor
