/-
  Numbers and strings as they are written (wire), as plain data.
-/
import Derived.Test.YtjlgkjhociaeiaaGreatDoorBase
namespace Go.Proofs.YtjlgkjhociaeiaaGreatDoor
set_option linter.unusedVariables false

/-- The number that stands for n. -/
def zig (n : Int) : Nat := if n < 0 then 2 * (-n).toNat - 1 else 2 * n.toNat
def unzig (z : Nat) : Int := if z % 2 = 1 then -((z / 2 : Nat) : Int) - 1 else ((z / 2 : Nat) : Int)
/-- The 7-bit groups of z, the least one first, each but the last one marked. -/
def putG : Nat → Nat → List UInt8
  | 0, _ => []
  | f + 1, z => if z < 128 then [UInt8.ofNat z] else UInt8.ofNat (z % 128 + 128) :: putG f (z / 128)
def putI (n : Int) : List UInt8 := putG 10 (zig n)
def putS (s : ByteArray) : ByteArray := ⟨(putI s.size).toArray⟩ ++ s

def decEnd (b i z a : Nat) : Option (Int × Nat) := if (b = 0 ∧ 0 < i) ∨ unzig z < -4611686018427387903 then none else some (unzig z, a + i + 1)
/-- The number at place a of s: i groups have been read, they are z. -/
def decGo (s : ByteArray) (a : Nat) : Nat → Nat → Nat → Option (Int × Nat)
  | 0, _, _ => none
  | f + 1, i, z =>
    if h : a + i < s.size then
      if 128 ≤ s[a + i].toNat then decGo s a f (i + 1) (z + s[a + i].toNat % 128 * 128 ^ i)
      else decEnd s[a + i].toNat i (z + s[a + i].toNat % 128 * 128 ^ i) a
    else none
def decI (s : ByteArray) (a : Nat) : Option (Int × Nat) := decGo s a 9 0 0
/-- The string at place a of s, and the place behind it. -/
def decS (s : ByteArray) (a : Nat) : Option (ByteArray × Nat) :=
  match decI s a with
  | none => none
  | some (n, x) => if n < 0 ∨ 65536 < n ∨ (s.size : Int) - x < n then none else some (s.extract x (x + n.toNat), x + n.toNat)

theorem unzig_zig (n : Int) : unzig (zig n) = n := by
  unfold unzig zig
  split <;> split <;> omega
theorem zig_unzig (z : Nat) : zig (unzig z) = z := by
  unfold unzig zig
  split <;> split <;> omega

theorem putG_succ (f z : Nat) : putG (f + 1) z = if z < 128 then [UInt8.ofNat z] else UInt8.ofNat (z % 128 + 128) :: putG f (z / 128) := rfl
theorem putG_pos (f z : Nat) : 0 < (putG (f + 1) z).length := by
  unfold putG
  split <;> simp
theorem putG_length (f z : Nat) : (putG f z).length ≤ f := by
  induction f generalizing z with
  | zero => simp [putG]
  | succ f ih =>
    unfold putG
    split
    · simp
    · simp only [List.length_cons]; have := ih (z / 128); omega
theorem u8_toNat (n : Nat) (h : n < 256) : (UInt8.ofNat n).toNat = n := by
  simp [UInt8.toNat_ofNat']; omega

/-- What was written is read. -/
theorem decGo_put (s : ByteArray) (a : Nat) : ∀ (f g i z acc : Nat), z < 128 ^ f → f ≤ g → (0 < i → 0 < z) → (∀ k (h : k < (putG f z).length), ∃ hk : a + i + k < s.size, s[a + i + k] = (putG f z)[k]) →
    -4611686018427387903 ≤ unzig (acc + z * 128 ^ i) → decGo s a g i acc = if f = 0 then decGo s a g i acc else some (unzig (acc + z * 128 ^ i), a + i + (putG f z).length)
  | 0, g, i, z, acc, _, _, _, _, _ => by simp
  | f + 1, 0, i, z, acc, _, h, _, _, _ => by omega
  | f + 1, g + 1, i, z, acc, hz, hg, hi, hb, hn => by
    rw [if_neg (by omega)]
    obtain ⟨h0, h0e⟩ := hb 0 (putG_pos f z)
    have h0' : a + i < s.size := by simpa using h0
    unfold decGo
    rw [dif_pos h0']
    have hs0 : s[a + i] = (putG (f + 1) z)[0]'(putG_pos f z) := h0e
    by_cases hlt : z < 128
    · have e : putG (f + 1) z = [UInt8.ofNat z] := by unfold putG; rw [if_pos hlt]
      have hv : s[a + i].toNat = z := by rw [hs0]; simp only [e, List.getElem_cons_zero]; exact u8_toNat z (by omega)
      have hm : z % 128 = z := Nat.mod_eq_of_lt hlt
      rw [hv, if_neg (by omega), hm]
      unfold decEnd
      rw [if_neg (by
        rintro (⟨h1, h2⟩ | h1)
        · have := hi h2; omega
        · omega)]
      rw [e]; simp
    · have e : putG (f + 1) z = UInt8.ofNat (z % 128 + 128) :: putG f (z / 128) := by rw [putG, if_neg hlt]
      have hv : s[a + i].toNat = z % 128 + 128 := by rw [hs0]; simp only [e, List.getElem_cons_zero]; exact u8_toNat _ (by omega)
      have hm : (z % 128 + 128) % 128 = z % 128 := by omega
      have hp : 128 ^ (i + 1) = 128 * 128 ^ i := by rw [Nat.pow_succ, Nat.mul_comm]
      have ha : acc + z % 128 * 128 ^ i + z / 128 * 128 ^ (i + 1) = acc + z * 128 ^ i := by
        rw [hp, ← Nat.mul_assoc, Nat.add_assoc, ← Nat.add_mul]
        have : z % 128 + z / 128 * 128 = z := by omega
        rw [this]
      rw [hv, if_pos (by omega), hm]
      have hf : f ≠ 0 := by
        rintro rfl
        simp at hz
        omega
      have := decGo_put s a f g (i + 1) (z / 128) (acc + z % 128 * 128 ^ i) (by rw [Nat.pow_succ] at hz; omega) (by omega) (fun _ => by omega) (fun k hk => by
        obtain ⟨h1, h2⟩ := hb (k + 1) (by rw [e]; simp; exact hk)
        have e1 : a + i + (k + 1) = a + (i + 1) + k := by omega
        refine ⟨by omega, ?_⟩
        simp only [e, List.getElem_cons_succ] at h2
        simpa only [e1] using h2) (by rw [ha]; exact hn)
      rw [this, if_neg hf, ha, e]
      simp only [List.length_cons]
      congr 2
      omega

theorem putG_more : ∀ f z, z < 128 ^ (f + 1) → putG (f + 2) z = putG (f + 1) z
  | 0, z, hz => by
    have h : z < 128 := by simpa using hz
    rw [putG_succ 1 z, putG_succ 0 z, if_pos h, if_pos h]
  | f + 1, z, hz => by
    rw [putG_succ (f + 2) z, putG_succ (f + 1) z]
    split
    · rfl
    · rw [putG_more f (z / 128) (by rw [Nat.pow_succ] at hz; omega)]
theorem putI_nine (n : Int) (h0 : -4611686018427387903 ≤ n) (h1 : n ≤ 4611686018427387903) : zig n < 128 ^ 9 ∧ putI n = putG 9 (zig n) := by
  have hz : zig n < 128 ^ 9 := by unfold zig; split <;> omega
  exact ⟨hz, putG_more 8 _ hz⟩
theorem decI_put (s : ByteArray) (a : Nat) (n : Int) (h0 : -4611686018427387903 ≤ n) (h1 : n ≤ 4611686018427387903) (hb : ∀ k (h : k < (putI n).length), ∃ hk : a + k < s.size, s[a + k] = (putI n)[k]) :
    decI s a = some (n, a + (putI n).length) := by
  obtain ⟨hz, e⟩ := putI_nine n h0 h1
  revert hb
  rw [e]
  intro hb
  have := decGo_put s a 9 9 0 (zig n) 0 hz (Nat.le_refl _) (fun h => absurd h (by omega)) (fun k hk => by simpa using hb k hk) (by simp [unzig_zig]; omega)
  unfold decI
  rw [this, if_neg (by omega)]
  simp [unzig_zig]
theorem putI_length (n : Int) : 1 ≤ (putI n).length ∧ (putI n).length ≤ 10 := ⟨putG_pos 9 (zig n), putG_length 10 (zig n)⟩
theorem putI_small (n : Nat) (h : n ≤ 65536) : (putI n).length ≤ 3 := by
  have e : zig (n : Int) = 2 * n := by unfold zig; rw [if_neg (by omega)]; omega
  unfold putI
  rw [e]
  unfold putG
  split
  · simp
  · unfold putG
    split
    · simp
    · unfold putG
      split
      · simp
      · omega
end Go.Proofs.YtjlgkjhociaeiaaGreatDoor
