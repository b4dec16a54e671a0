/-
  Joined by program out of: Sha, Row, Sha1, Sha2.
-/
import Derived.Test.YtjlgkjhociaeiaaGreatDoorBase
import Derived.Test.YtjlgkjhociaeiaaGreatDoorGa
import Derived.Laws.BitsAllLaws
import Derived.Laws.IdiomCopy
import Derived.Deep.MidRow
import Derived.Laws.CopyOwn
import Derived.Lib.Hide
import Derived.StillTailTactics
import Derived.Deep.RegionHeld3
import Derived.IntWalk
namespace Go.Proofs.YtjlgkjhociaeiaaGreatDoor
open Go.RowKit
set_option linter.unusedVariables false

/-- A word as a number. -/
def U (x : UInt32) : Int := (x.toNat : Int)
theorem U_nonneg (x : UInt32) : 0 ≤ U x := Int.natCast_nonneg _
theorem U_lt (x : UInt32) : U x < 4294967296 := by have := x.toNat_lt; unfold U; omega
theorem U_xor (x y : UInt32) : Go.bits .xor .u32 (U x) (U y) = U (x ^^^ y) := by
  unfold U
  rw [u32_xor_nat _ _ x.toNat_lt y.toNat_lt, UInt32.toNat_xor]
theorem U_and (x y : UInt32) : Go.bits .and .u32 (U x) (U y) = U (x &&& y) := by
  unfold U
  rw [u32_and_nat _ _ x.toNat_lt y.toNat_lt, UInt32.toNat_and]
theorem U_or (x y : UInt32) : Go.bits .or .u32 (U x) (U y) = U (x ||| y) := by
  unfold U
  rw [u32_or_nat _ _ x.toNat_lt y.toNat_lt, UInt32.toNat_or]
theorem U_add (x y : UInt32) : IntKind.u32.wrap (U x + U y) = U (x + y) := by
  unfold U
  rw [IntKind.wrap_u32', UInt32.toNat_add]
  omega

namespace Sha
def rotl (x : UInt32) (s : Nat) : UInt32 := (x <<< UInt32.ofNat s) ||| (x >>> UInt32.ofNat (32 - s))
def rotr (x : UInt32) (n : Nat) : UInt32 := rotl x (32 - n)
def mix (x : UInt32) (l : List Nat) : UInt32 := l.foldl (fun o n => o ^^^ rotr x n) 0
def word (c0 c1 c2 c3 : UInt8) : UInt32 := c0.toUInt32 <<< 24 ||| c1.toUInt32 <<< 16 ||| c2.toUInt32 <<< 8 ||| c3.toUInt32
def w0 (b : List UInt8) (i : Nat) : UInt32 := word (b[4 * i]?.getD 0) (b[4 * i + 1]?.getD 0) (b[4 * i + 2]?.getD 0) (b[4 * i + 3]?.getD 0)
def next (w : List UInt32) (i : Nat) : UInt32 :=
  w[i - 16]?.getD 0 + (mix (w[i - 15]?.getD 0) [7, 18] ^^^ (w[i - 15]?.getD 0) >>> 3) + w[i - 7]?.getD 0 + (mix (w[i - 2]?.getD 0) [17, 19] ^^^ (w[i - 2]?.getD 0) >>> 10)
def first (b : List UInt8) : List UInt32 := (List.range 16).map (w0 b)
def grow : Nat → List UInt32 → List UInt32
  | 0, l => l
  | n + 1, l => grow n (l ++ [next l l.length])
def sched (b : List UInt8) : List UInt32 := grow 48 (first b)
theorem grow_length : ∀ n l, (grow n l).length = l.length + n
  | 0, l => rfl
  | n + 1, l => by rw [grow, grow_length n]; simp; omega
theorem sched_length (b : List UInt8) : (sched b).length = 64 := by unfold sched; rw [grow_length]; simp [first]
theorem grow_succ : ∀ n l, grow (n + 1) l = grow n l ++ [next (grow n l) (grow n l).length]
  | 0, l => rfl
  | n + 1, l => by rw [grow, grow_succ n]; rfl
/-- The eight words of a computation. -/
structure V where
  a : UInt32
  b : UInt32
  c : UInt32
  d : UInt32
  e : UInt32
  f : UInt32
  g : UInt32
  h : UInt32
namespace V
def t (v : V) (k w : UInt32) : UInt32 := v.h + mix v.e [6, 11, 25] + (v.e &&& v.f ^^^ ~~~v.e &&& v.g) + k + w
def u (v : V) : UInt32 := mix v.a [2, 13, 22] + (v.a &&& v.b ^^^ v.a &&& v.c ^^^ v.b &&& v.c)
def step (v : V) (x : UInt32 × UInt32) : V := ⟨v.t x.1 x.2 + v.u, v.a, v.b, v.c, v.d + v.t x.1 x.2, v.e, v.f, v.g⟩
def list (v : V) : List UInt32 := [v.a, v.b, v.c, v.d, v.e, v.f, v.g, v.h]
def plus (v x : V) : V := ⟨v.a + x.a, v.b + x.b, v.c + x.c, v.d + x.d, v.e + x.e, v.f + x.f, v.g + x.g, v.h + x.h⟩
end V
def K : List UInt32 := [
  0x428a2f98, 0x71374491, 0xb5c0fbcf, 0xe9b5dba5, 0x3956c25b, 0x59f111f1, 0x923f82a4, 0xab1c5ed5,
  0xd807aa98, 0x12835b01, 0x243185be, 0x550c7dc3, 0x72be5d74, 0x80deb1fe, 0x9bdc06a7, 0xc19bf174,
  0xe49b69c1, 0xefbe4786, 0x0fc19dc6, 0x240ca1cc, 0x2de92c6f, 0x4a7484aa, 0x5cb0a9dc, 0x76f988da,
  0x983e5152, 0xa831c66d, 0xb00327c8, 0xbf597fc7, 0xc6e00bf3, 0xd5a79147, 0x06ca6351, 0x14292967,
  0x27b70a85, 0x2e1b2138, 0x4d2c6dfc, 0x53380d13, 0x650a7354, 0x766a0abb, 0x81c2c92e, 0x92722c85,
  0xa2bfe8a1, 0xa81a664b, 0xc24b8b70, 0xc76c51a3, 0xd192e819, 0xd6990624, 0xf40e3585, 0x106aa070,
  0x19a4c116, 0x1e376c08, 0x2748774c, 0x34b0bcb5, 0x391c0cb3, 0x4ed8aa4a, 0x5b9cca4f, 0x682e6ff3,
  0x748f82ee, 0x78a5636f, 0x84c87814, 0x8cc70208, 0x90befffa, 0xa4506ceb, 0xbef9a3f7, 0xc67178f2]
def start : V := ⟨0x6a09e667, 0xbb67ae85, 0x3c6ef372, 0xa54ff53a, 0x510e527f, 0x9b05688c, 0x1f83d9ab, 0x5be0cd19⟩
def rounds (v : V) (l : List (UInt32 × UInt32)) : V := l.foldl V.step v
def block (v : V) (b : List UInt8) : V := v.plus (rounds v (K.zip (sched b)))
/-- The bytes behind a content of n bytes: 128, zeros, and the number of bits in eight bytes. -/
def zeros (n : Nat) : Nat := (119 - n % 64) % 64
def bitLen (n : Nat) : List UInt8 := [7, 6, 5, 4, 3, 2, 1, 0].map fun i => UInt8.ofNat (8 * n / 2 ^ (8 * i))
def pad (s : List UInt8) : List UInt8 := s ++ [128] ++ List.replicate (zeros s.length) 0 ++ bitLen s.length
def blocks : Nat → V → List UInt8 → V
  | 0, v, _ => v
  | n + 1, v, b => blocks n (block v (b.take 64)) (b.drop 64)
def bytes4 (x : UInt32) : List UInt8 := [(x >>> 24).toUInt8, (x >>> 16).toUInt8, (x >>> 8).toUInt8, x.toUInt8]
def out (v : V) : List UInt8 := v.list.flatMap bytes4
def sum (s : List UInt8) : List UInt8 := out (blocks ((pad s).length / 64) start (pad s))
theorem out_length (v : V) : (out v).length = 32 := rfl
theorem pad_length (s : List UInt8) : (pad s).length % 64 = 0 := by
  simp only [pad, bitLen, List.length_append, List.length_replicate, List.length_map, List.length_cons, List.length_nil, zeros]
  omega
end Sha

/-- The digest of a string. -/
def sha (s : ByteArray) : ByteArray := ⟨(Sha.sum s.data.toList).toArray⟩
theorem sha_size (s : ByteArray) : (sha s).size = 32 := by
  show (Sha.sum s.data.toList).toArray.size = 32
  rw [List.size_toArray]
  exact Sha.out_length _
/-- The head of a chain with a further record. -/
def chain (h r : ByteArray) : ByteArray := sha (⟨#[2]⟩ ++ h ++ r)
theorem chain_size (h r : ByteArray) : (chain h r).size = 32 := sha_size _
end Go.Proofs.YtjlgkjhociaeiaaGreatDoor
namespace Go.Proofs.YtjlgkjhociaeiaaGreatDoor
open Go.RowKit
set_option linter.unusedVariables false

def setAll (cs : Array Value) : Nat → List Value → Array Value
  | _, [] => cs
  | o, v :: r => setAll (cs.setIfInBounds o v) (o + 1) r
theorem setAll_size (vs : List Value) : ∀ (cs : Array Value) (o : Nat), (setAll cs o vs).size = cs.size := by
  induction vs with
  | nil => intro cs o; rfl
  | cons v r ih => intro cs o; rw [setAll, ih]; simp
theorem setAll_before (vs : List Value) : ∀ (cs : Array Value) (o i : Nat), i < o → (setAll cs o vs)[i]? = cs[i]? := by
  induction vs with
  | nil => intro cs o i _; rfl
  | cons v r ih =>
    intro cs o i h
    rw [setAll, ih _ _ _ (by omega), Array.getElem?_setIfInBounds, if_neg (by omega)]
theorem setAll_at (vs : List Value) : ∀ (cs : Array Value) (o i : Nat), o + vs.length ≤ cs.size → o ≤ i → i < o + vs.length → (setAll cs o vs)[i]? = vs[i - o]? := by
  induction vs with
  | nil => intro cs o i _ h1 h2; simp at h2; omega
  | cons v r ih =>
    intro cs o i h h1 h2
    rw [setAll]
    simp only [List.length_cons] at h h2
    by_cases e : i = o
    · subst e
      rw [setAll_before _ _ _ _ (by omega), Array.getElem?_setIfInBounds, if_pos rfl, if_pos (by omega), Nat.sub_self]
      rfl
    · rw [ih _ _ _ (by simp; omega) (by omega) (by omega), show i - o = (i - (o + 1)) + 1 by omega]
      rfl
theorem setAll_full (cs : Array Value) (vs : List Value) (h : vs.length = cs.size) : setAll cs 0 vs = vs.toArray := by
  apply Array.ext_getElem?
  intro i
  by_cases hi : i < vs.length
  · rw [setAll_at vs cs 0 i (by omega) (Nat.zero_le _) (by omega), Nat.sub_zero, List.getElem?_toArray]
  · rw [Array.getElem?_eq_none (by rw [setAll_size]; omega), Array.getElem?_eq_none (by simp; omega)]
theorem Blk.setCells {g : Nat} {t : TypeId} (vs : List Value) : ∀ {w : World} {cs : Array Value} (o : Nat), Blk w g t cs → Blk (w.setCells g o vs) g t (setAll cs o vs) := by
  induction vs with
  | nil => intro w cs o h; exact h
  | cons v r ih => intro w cs o h; exact ih (o + 1) (h.set_ o v)
theorem Blk.setWhole {w : World} {g : Nat} {t : TypeId} {cs : Array Value} (h : Blk w g t cs) (vs : List Value) (hl : vs.length = cs.size) : Blk (w.setCells g 0 vs) g t vs.toArray := by
  have := h.setCells vs 0
  rwa [setAll_full cs vs hl] at this
theorem Only.setCells {S : Nat → Prop} {a : World} {g : Nat} (hg : S g ∨ a.heap.size ≤ g) (vs : List Value) : ∀ {w : World} (o : Nat), Only S a w → Only S a (w.setCells g o vs) := by
  induction vs with
  | nil => intro w o h; exact h
  | cons v r ih => intro w o h; exact ih (o + 1) (h.setCell (p := ⟨g, o, none⟩) hg v)
theorem below_setCells {B : Nat} {a : World} {g : Nat} (hg : B ≤ g) (vs : List Value) : ∀ {w : World} (o : Nat), Below B a w → Below B a (w.setCells g o vs) := by
  induction vs with
  | nil => intro w o h; exact h
  | cons v r ih => intro w o h; exact ih (o + 1) (h.setCell (p := ⟨g, o, none⟩) hg v)
theorem Blk.there {w : World} {g : Nat} {t : TypeId} {cs : Array Value} (h : Blk w g t cs) (n : Nat) (hn : n ≤ cs.size) : w.there g 0 n := fun j hj => by
  rw [Nat.zero_add]
  exact ⟨by rw [h.cell j]; simp; omega, h.frozen j⟩
/-- A whole array or struct is stored into a block that is known whole: the world behind it is a letter. -/
theorem wpList_store_whole {P : Program} {ops : Array Oper} {rest : List Oper} {op : Oper} {a : Act} {w : World} {Q : Exit → Act → World → Prop} (hgd : op.guard = none) (ty : TypeId) (x y : Operand) (ho : op.op = .store ty x y)
    (g : Nat) (t : TypeId) (cs : Array Value) (hb : Blk w g t cs) (vs : List Value) (hx : a.eval x = .pointer (some ⟨g, 0, none⟩)) (hy : a.eval y = .agg vs.toArray) (hl : vs.length = cs.size)
    (hi : (P.info? ty).map (·.size) = some vs.length) (h1 : ∀ v ∈ vs, v.oneCell' = true)
    (h : ∀ w', Blk w' g t vs.toArray → Only (fun k => k = g) w w' → wpList P ops Q rest (a.put op.dst undef) w') : wpList P ops Q (op :: rest) a w :=
  wpList_store_mid hgd ty x y ho g 0 vs.toArray hx hy (hb.there _ (by simp [hl])) (by simpa using hi) (all_oneCell_toArray h1) (h _ (by simpa using hb.setWhole vs hl) (show Only (fun k => k = g) w (w.setCells g 0 vs) from Only.setCells (S := fun k => k = g) (.inl rfl) vs 0 (Only.refl _ w)))
/-- .. and loaded. -/
theorem wpList_load_whole {P : Program} {ops : Array Oper} {rest : List Oper} {o : Oper} {a : Act} {w : World} {Q : Exit → Act → World → Prop} (hgd : o.guard = none) (ty : TypeId) (x : Operand) (ho : o.op = .load ty x)
    (g : Nat) (t : TypeId) (vs : List Value) (hb : Blk w g t vs.toArray) (hx : a.eval x = .pointer (some ⟨g, 0, none⟩)) (d : TypeDesc) (hu : P.underlying ty = some d) (hd : (match d with | .struct _ | .array _ _ => true | _ => false) = true) (hi : (P.info? ty).map (·.size) = some vs.length)
    (h : wpList P ops Q rest (a.put o.dst (.agg vs.toArray)) w) : wpList P ops Q (o :: rest) a w :=
  wpList_load_row hgd ty x ho g hx t vs.toArray (0, 0) d hb hu hd (by simpa using hi) h
/-- A part of a block is copied to another place of the same block. -/
theorem wpList_copy_in {P : Program} {ops : Array Oper} {rest : List Oper} {o : Oper} {a : Act} {w : World} {Q : Exit → Act → World → Prop} (hgd : o.guard = none) (d s : Operand) (dT sT : TypeId)
    (ho : o.op = .call { callee := .builtin .copy, args := #[d, s], argTypes := #[dT, sT] }) (elem : TypeId) (hu : P.underlying dT = some (.slice elem)) (hsz : (P.info? elem).map (·.size) = some 1)
    (g off dLen dCap so sLen sCap : Nat) (hd : a.eval d = .slice (some ⟨g, off, none⟩) dLen dCap) (hs : a.eval s = .slice (some ⟨g, so, none⟩) sLen sCap)
    (cur : List Value) (t : TypeId) (hb : Blk w g t cur.toArray) (cs : List Value) (hn : cs.length = Nat.min sLen dLen) (hcs : ∀ j (h : j < cs.length), cur[so + j]? = some cs[j]) (hfit : off + cs.length ≤ cur.length) (h1 : ∀ v ∈ cs, v.oneCell' = true)
    (h : ∀ w', Blk w' g t (splice cur off cs).toArray → Only (fun k => k = g) w w' → wpList P ops Q rest (a.put o.dst (goInt cs.length)) w') : wpList P ops Q (o :: rest) a w := by
  refine wpList_copy_own hgd d s dT sT ho elem hu hsz g off dLen dCap ⟨g, so, none⟩ sLen sCap hd hs cur.toArray t hb cs hn (fun j v hv => ?_) (by simpa using hfit) h1 (h _ ?_ ?_)
  · have hj : j < cs.length := by
      rcases Nat.lt_or_ge j cs.length with e | e
      · exact e
      · rw [List.getElem?_eq_none e] at hv; cases hv
    rw [show (⟨g, so, none⟩ : Addr).add j = ⟨g, so + j, none⟩ from Addr.add_mid g so j, hb.cell (so + j), List.getElem?_toArray, hcs j hj]
    rw [List.getElem?_eq_getElem hj] at hv
    exact hv
  · show Blk _ _ _ (splice cur off cs).toArray
    have := hb.row (splice cur off cs).toArray
    simpa [splice] using this
  · exact (Only.refl (fun k => k = g) w).setRow (.inl rfl) _
end Go.Proofs.YtjlgkjhociaeiaaGreatDoor
namespace Go.Proofs.YtjlgkjhociaeiaaGreatDoor
open Go.RowKit
set_option linter.unusedVariables false

theorem and31 (m n : Nat) (hn : 1 ≤ n) (h : m + n = 32) : Go.bits .and .u64 (IntKind.u64.wrap (-(n : Int))) 31 = (m : Int) := by
  have e : IntKind.u64.wrap (-(n : Int)) = ((18446744073709551616 - n : Nat) : Int) := by
    rw [IntKind.wrap_u64]; omega
  rw [e, show (31 : Int) = ((31 : Nat) : Int) from rfl, u64_and_nat _ _ (by omega) (by omega), nat_mask5]
  omega
theorem u64_sub (m n : Nat) (h : m + n = 32) : IntKind.u64.wrap (32 - (m : Int)) = (n : Int) := by
  rw [IntKind.wrap_u64]; omega
theorem U_shl (x : UInt32) (m : Nat) (h : m < 32) : U x * 2 ^ m % 4294967296 = U (x <<< UInt32.ofNat m) := by
  unfold U
  rw [UInt32.toNat_shiftLeft, UInt32.toNat_ofNat', Nat.mod_eq_of_lt (show m < 2 ^ 32 by omega), Nat.mod_eq_of_lt h, Nat.shiftLeft_eq, show (x.toNat : Int) * 2 ^ m = ((x.toNat * 2 ^ m : Nat) : Int) by simp]
  omega
theorem U_shr (x : UInt32) (n : Nat) (h : n < 32) : U x / 2 ^ n = U (x >>> UInt32.ofNat n) := by
  unfold U
  rw [UInt32.toNat_shiftRight, UInt32.toNat_ofNat', Nat.mod_eq_of_lt (show n < 2 ^ 32 by omega), Nat.mod_eq_of_lt h, Nat.shiftRight_eq_div_pow]
  simp

set_option maxHeartbeats 400000 in
theorem rotate_any (x : UInt32) (n : Nat) (h1 : 1 ≤ n) (h2 : n ≤ 31) (w : World) :
    Calls Tryz.prog 149 #[.int .u32 (U x), .int .i64 (-(n : Int))] w fun e w' => e = .returned (.int .u32 (U (Sha.rotr x n))) ∧ w = w' := by
  obtain ⟨m, hm⟩ : ∃ m : Nat, m + n = 32 := ⟨32 - n, by omega⟩
  have a1 := and31 m n h1 hm
  have a2 := u64_sub m n hm
  have b0 := U_nonneg x
  have b1 := U_lt x
  have E : Hid (Go.bits .or .u32 (U x * 2 ^ m % 4294967296) (U x / 2 ^ n) = U (Sha.rotr x n)) := by
    show _ = _
    rw [U_shl x m (by omega), U_shr x n (by omega), U_or]
    unfold Sha.rotr Sha.rotl
    rw [show 32 - n = m by omega, show 32 - m = n by omega]
  go_enter Tryz.func149, Tryz.ntmps149
  go_wp2
  go_ret
  rw [E.out]
  exact ⟨rfl, rfl⟩

/-- The slice holds the numbers ns. -/
def Nats (w : World) (b o : Nat) (ns : List Nat) : Prop := ∀ j (h : j < ns.length), w.cell? ⟨b, o + j, none⟩ = some (.int .i64 (ns[j] : Int))
theorem mix_snoc (x : UInt32) (l : List Nat) (k : Nat) (h : k < l.length) : Sha.mix x (l.take (k + 1)) = Sha.mix x (l.take k) ^^^ Sha.rotr x l[k] := by
  unfold Sha.mix
  rw [List.take_succ_eq_append_getElem h, List.foldl_append]
  rfl

set_option maxHeartbeats 400000 in
theorem mixed_any (x : UInt32) (b o cap : Nat) (ns : List Nat) (hn : ∀ n ∈ ns, 1 ≤ n ∧ n ≤ 31) (w : World) (hc : Nats w b o ns) (hl : ns.length ≤ 100) :
    Calls Tryz.prog 145 #[.int .u32 (U x), .slice (some ⟨b, o, none⟩) ns.length cap] w fun e w' => e = .returned (.int .u32 (U (Sha.mix x ns))) ∧ w = w' := by
  have HC := Lib.hid hc
  have HN := Lib.hid hn
  clear hc hn
  go_enter Tryz.func145, Tryz.ntmps145
  go_wp2
  go_loop [5, 10] (fun v i => ∃ k : Nat, k ≤ ns.length ∧ i = .int .i64 k ∧ v = .int .u32 (U (Sha.mix x (ns.take k)))) (fun _ i => ns.length - (intOf i).toNat)
  case atStart => exact ⟨0, Nat.zero_le _, rfl, rfl⟩
  case round =>
    obtain ⟨k, hk, rfl, rfl⟩ := hrel
    by_cases hlt : k < ns.length
    · have hc := HC.out k hlt
      have hb := HN.out _ (List.getElem_mem hlt)
      have E := Lib.hid (mix_snoc x ns k hlt)
      have X := Lib.hid (U_xor (Sha.mix x (ns.take k)) (Sha.rotr x ns[k]))
      go_wp2_with (go_at_call 149; refine (rotate_any x ns[k] hb.1 hb.2 _).mono ?_; rintro e w' ⟨rfl, rfl⟩)
      go_round
      case rel => exact ⟨k + 1, hlt, by go_num, by rw [E.out, ← X.out]⟩
      case measure => simp [intOf]; omega
    · obtain rfl : k = ns.length := by omega
      go_wp2
      go_ret
      exact ⟨rfl, rfl⟩
theorem nats2 {w : World} {b o x y : Nat} (h0 : w.cell? ⟨b, o, none⟩ = some (.int .i64 (x : Int))) (h1 : w.cell? ⟨b, o + 1, none⟩ = some (.int .i64 (y : Int))) : Nats w b o [x, y] := fun j hj =>
  match j, hj with
  | 0, _ => h0
  | 1, _ => h1
theorem nats3 {w : World} {b o x y z : Nat} (h0 : w.cell? ⟨b, o, none⟩ = some (.int .i64 (x : Int))) (h1 : w.cell? ⟨b, o + 1, none⟩ = some (.int .i64 (y : Int))) (h2 : w.cell? ⟨b, o + 2, none⟩ = some (.int .i64 (z : Int))) : Nats w b o [x, y, z] := fun j hj =>
  match j, hj with
  | 0, _ => h0
  | 1, _ => h1
  | 2, _ => h2
theorem mixed_7_18 (x : UInt32) (b cap : Nat) (w : World) (h0 : w.cell? ⟨b, 0, none⟩ = some (.int .i64 7)) (h1 : w.cell? ⟨b, 1, none⟩ = some (.int .i64 18)) :
    Calls Tryz.prog 145 #[.int .u32 (U x), .slice (some ⟨b, 0, none⟩) 2 cap] w fun e w' => e = .returned (.int .u32 (U (Sha.mix x [7, 18]))) ∧ w = w' :=
  mixed_any x b 0 cap [7, 18] (by decide) w (nats2 h0 h1) (by decide)
theorem mixed_17_19 (x : UInt32) (b cap : Nat) (w : World) (h0 : w.cell? ⟨b, 0, none⟩ = some (.int .i64 17)) (h1 : w.cell? ⟨b, 1, none⟩ = some (.int .i64 19)) :
    Calls Tryz.prog 145 #[.int .u32 (U x), .slice (some ⟨b, 0, none⟩) 2 cap] w fun e w' => e = .returned (.int .u32 (U (Sha.mix x [17, 19]))) ∧ w = w' :=
  mixed_any x b 0 cap [17, 19] (by decide) w (nats2 h0 h1) (by decide)
theorem mixed_6_11_25 (x : UInt32) (b cap : Nat) (w : World) (h0 : w.cell? ⟨b, 0, none⟩ = some (.int .i64 6)) (h1 : w.cell? ⟨b, 1, none⟩ = some (.int .i64 11)) (h2 : w.cell? ⟨b, 2, none⟩ = some (.int .i64 25)) :
    Calls Tryz.prog 145 #[.int .u32 (U x), .slice (some ⟨b, 0, none⟩) 3 cap] w fun e w' => e = .returned (.int .u32 (U (Sha.mix x [6, 11, 25]))) ∧ w = w' :=
  mixed_any x b 0 cap [6, 11, 25] (by decide) w (nats3 h0 h1 h2) (by decide)
theorem mixed_2_13_22 (x : UInt32) (b cap : Nat) (w : World) (h0 : w.cell? ⟨b, 0, none⟩ = some (.int .i64 2)) (h1 : w.cell? ⟨b, 1, none⟩ = some (.int .i64 13)) (h2 : w.cell? ⟨b, 2, none⟩ = some (.int .i64 22)) :
    Calls Tryz.prog 145 #[.int .u32 (U x), .slice (some ⟨b, 0, none⟩) 3 cap] w fun e w' => e = .returned (.int .u32 (U (Sha.mix x [2, 13, 22]))) ∧ w = w' :=
  mixed_any x b 0 cap [2, 13, 22] (by decide) w (nats3 h0 h1 h2) (by decide)
end Go.Proofs.YtjlgkjhociaeiaaGreatDoor
namespace Go.Proofs.YtjlgkjhociaeiaaGreatDoor
open Go.RowKit
set_option linter.unusedVariables false
theorem U_shr3 (x : UInt32) : U x / (8 : Int) = U (x >>> 3) := U_shr x 3 (by omega)
theorem U_shr10 (x : UInt32) : U x / (1024 : Int) = U (x >>> 10) := U_shr x 10 (by omega)
theorem next_eq (a b x y m1 m2 : UInt32) : IntKind.u32.wrap (IntKind.u32.wrap (IntKind.u32.wrap (U a + Go.bits .xor .u32 (U m1) (U x / 8)) + U b) + Go.bits .xor .u32 (U m2) (U y / 1024)) = U (a + (m1 ^^^ x >>> 3) + b + (m2 ^^^ y >>> 10)) := by
  rw [U_shr3, U_shr10, U_xor, U_xor, U_add, U_add, U_add]
theorem keep2 {wr : World} {B i j : Nat} {v x : Value} {o1 o2 : Obj} (h : wr.cell? ⟨B, j, none⟩ = some x) (hB : B < wr.heap.size) (hne : ¬ i = j) : ((((wr.setCell ⟨B, i, none⟩ v).alloc o1).alloc o2).drew.drew).cell? ⟨B, j, none⟩ = some x := by
  have h1 : (wr.setCell ⟨B, i, none⟩ v).cell? ⟨B, j, none⟩ = some x := by
    rw [World.cell?_setCell_other _ _ _ _ (by intro e; injection e with _ e2 _; exact hne e2)]
    exact h
  have s1 : (wr.setCell ⟨B, i, none⟩ v).heap.size = wr.heap.size := by simp [World.setCell]
  show (((wr.setCell ⟨B, i, none⟩ v).alloc o1).alloc o2).cell? ⟨B, j, none⟩ = some x
  rw [World.cell?_alloc_lt _ _ _ (by simp [s1]; omega), World.cell?_alloc_lt _ _ _ (by rw [s1]; exact hB)]
  exact h1

def uc (x : UInt32) : Value := .int .u32 (U x)
def ucells (l : List UInt32) : List Value := l.map uc
theorem ucells_length (l : List UInt32) : (ucells l).length = l.length := by simp [ucells]
theorem ucells_one (l : List UInt32) : ∀ v ∈ ucells l, v.oneCell' = true := by
  intro v hv
  simp only [ucells, List.mem_map] at hv
  obtain ⟨x, _, rfl⟩ := hv
  rfl
theorem ucells_get (l : List UInt32) (i : Nat) (h : i < l.length) : (ucells l)[i]? = some (.int .u32 (U (l[i]?.getD 0))) := by simp [ucells, uc, h]
theorem ucells_set (l : List UInt32) (i : Nat) (x : UInt32) : (ucells l).toArray.setIfInBounds i (.int .u32 (U x)) = (ucells (l.set i x)).toArray := by
  apply Array.toList_inj.1
  simp [ucells, uc, List.map_set]
/-- n words, of which the first are l; the others are 0. -/
def fill (l : List UInt32) (n : Nat) : List UInt32 := l ++ List.replicate (n - l.length) 0
theorem fill_length (l : List UInt32) (n : Nat) (h : l.length ≤ n) : (fill l n).length = n := by simp [fill]; omega
theorem fill_get (l : List UInt32) (n i : Nat) (h : i < l.length) : (fill l n)[i]?.getD 0 = l[i]?.getD 0 := by
  unfold fill
  rw [List.getElem?_append_left h]
theorem fill_set (l : List UInt32) (n : Nat) (x : UInt32) (h : l.length < n) : (fill l n).set l.length x = fill (l ++ [x]) n := by
  unfold fill
  rw [List.set_append_right _ _ (Nat.le_refl _), Nat.sub_self, List.append_assoc]
  congr 1
  obtain ⟨m, hm⟩ : ∃ m, n - l.length = m + 1 := ⟨n - l.length - 1, by omega⟩
  rw [hm, List.replicate_succ, List.set_cons_zero]
  simp
  omega
theorem fill_full (l : List UInt32) (n : Nat) (h : l.length = n) : fill l n = l := by simp [fill, h]

/-- The slice's cells are the bytes bs. -/
def Bys (w : World) (g o : Nat) (bs : List UInt8) : Prop := ∀ j (h : j < bs.length), w.cell? ⟨g, o + j, none⟩ = some (.int .u8 ((bs[j]).toNat : Int))
theorem Bys.below {B : Nat} {w w' : World} {g o : Nat} {bs : List UInt8} (h : Bys w g o bs) (hb : Below B w w') (hg : g < B) : Bys w' g o bs := fun j hj => (hb.cell (p := ⟨g, o + j, none⟩) hg).trans (h j hj)

theorem zeros64 : (ucells (fill [] 64)).toArray = #[Value.int .u32 0, Value.int .u32 0, Value.int .u32 0, Value.int .u32 0, Value.int .u32 0, Value.int .u32 0, Value.int .u32 0, Value.int .u32 0, Value.int .u32 0, Value.int .u32 0, Value.int .u32 0, Value.int .u32 0, Value.int .u32 0, Value.int .u32 0, Value.int .u32 0, Value.int .u32 0, Value.int .u32 0, Value.int .u32 0, Value.int .u32 0, Value.int .u32 0, Value.int .u32 0, Value.int .u32 0, Value.int .u32 0, Value.int .u32 0, Value.int .u32 0, Value.int .u32 0, Value.int .u32 0, Value.int .u32 0, Value.int .u32 0, Value.int .u32 0, Value.int .u32 0, Value.int .u32 0, Value.int .u32 0, Value.int .u32 0, Value.int .u32 0, Value.int .u32 0, Value.int .u32 0, Value.int .u32 0, Value.int .u32 0, Value.int .u32 0, Value.int .u32 0, Value.int .u32 0, Value.int .u32 0, Value.int .u32 0, Value.int .u32 0, Value.int .u32 0, Value.int .u32 0, Value.int .u32 0, Value.int .u32 0, Value.int .u32 0, Value.int .u32 0, Value.int .u32 0, Value.int .u32 0, Value.int .u32 0, Value.int .u32 0, Value.int .u32 0, Value.int .u32 0, Value.int .u32 0, Value.int .u32 0, Value.int .u32 0, Value.int .u32 0, Value.int .u32 0, Value.int .u32 0, Value.int .u32 0] := by kernel_rfl
theorem U_byte (c : UInt8) : IntKind.u32.wrap (c.toNat : Int) = U c.toUInt32 := by
  unfold U
  rw [IntKind.wrap_u32', UInt8.toNat_toUInt32]
  have := c.toNat_lt
  omega
theorem U_shlc (x : UInt32) (m : Nat) (h : m < 32) : IntKind.u32.wrap (U x * 2 ^ m) = U (x <<< UInt32.ofNat m) := by
  rw [IntKind.wrap_u32', U_shl x m h]
theorem word_eq (c0 c1 c2 c3 : UInt8) : Go.bits .or .u32 (Go.bits .or .u32 (Go.bits .or .u32 (IntKind.u32.wrap (IntKind.u32.wrap (c0.toNat : Int) * 16777216)) (IntKind.u32.wrap (IntKind.u32.wrap (c1.toNat : Int) * 65536)))
    (IntKind.u32.wrap (IntKind.u32.wrap (c2.toNat : Int) * 256))) (IntKind.u32.wrap (c3.toNat : Int)) = U (Sha.word c0 c1 c2 c3) := by
  rw [U_byte, U_byte, U_byte, U_byte, show (16777216 : Int) = 2 ^ 24 from rfl, show (65536 : Int) = 2 ^ 16 from rfl, show (256 : Int) = 2 ^ 8 from rfl, U_shlc _ 24 (by omega), U_shlc _ 16 (by omega), U_shlc _ 8 (by omega), U_or, U_or, U_or]
  rfl
theorem take_first (bs : List UInt8) (k : Nat) (h : k < 16) : (Sha.first bs).take (k + 1) = (Sha.first bs).take k ++ [Sha.w0 bs k] := by
  rw [List.take_succ_eq_append_getElem (by simp [Sha.first]; omega)]
  simp [Sha.first]
theorem take_first_length (bs : List UInt8) (k : Nat) (h : k ≤ 16) : ((Sha.first bs).take k).length = k := by simp [Sha.first]; omega

set_option maxRecDepth 100000 in
set_option maxHeartbeats 4000000 in
theorem schedule_any (g o cap : Nat) (bs : List UInt8) (w : World) (hl : bs.length = 64) (hg : g < w.heap.size) (hb : Bys w g o bs) :
    Calls Tryz.prog 144 #[.slice (some ⟨g, o, none⟩) 64 cap] w fun e w' => e = .returned (.agg (ucells (Sha.sched bs)).toArray) ∧ Below w.heap.size w w' := by
  have HL := Lib.hid hl
  have HB := Lib.hid hb
  clear hl hb
  go_enter Tryz.func144, Tryz.ntmps144
  go_wp2
  go_loopw [7] (fun i wr => ∃ k : Nat, k ≤ 16 ∧ i = .int .i64 k ∧ Blk wr w.heap.size 214 (ucells (fill ((Sha.first bs).take k) 64)).toArray ∧ Below w.heap.size w wr) (fun i _ => 16 - (intOf i).toNat)
  case atStart => exact ⟨0, Nat.zero_le _, rfl, by rw [List.take_zero, zeros64]; exact Blk.new _ _ _, (Below.refl _ _).alloc (Nat.le_refl _) _⟩
  case round =>
    obtain ⟨k, hk, rfl, hbk, hbl⟩ := hrel
    by_cases hlt : k < 16
    · have hc0 := (HB.out.below hbl hg) (4 * k) (by have := HL.out; omega)
      have hc1 := (HB.out.below hbl hg) (4 * k + 1) (by have := HL.out; omega)
      have hc2 := (HB.out.below hbl hg) (4 * k + 2) (by have := HL.out; omega)
      have hc3 := (HB.out.below hbl hg) (4 * k + 3) (by have := HL.out; omega)
      have hf := hbk.frozen k
      obtain ⟨v0, hv⟩ : ∃ v, wr.cell? ⟨w.heap.size, k, none⟩ = some v := ⟨_, (hbk.cell k).trans (by rw [List.getElem?_toArray]; exact ucells_get _ _ (by rw [fill_length _ _ (by simp [Sha.first]; omega)]; omega))⟩
      have HK := Lib.hid hbk
      have HW := Lib.hid hbl
      clear hbk hbl
      have s0 : IntKind.i64.wrap (4 * (k : Int)) = 4 * (k : Int) := IntWalk.i64_in _ (by omega)
      have s1 : IntKind.i64.wrap (4 * (k : Int) + 1) = 4 * (k : Int) + 1 := IntWalk.i64_in _ (by omega)
      have s2 : IntKind.i64.wrap (4 * (k : Int) + 2) = 4 * (k : Int) + 2 := IntWalk.i64_in _ (by omega)
      have s3 : IntKind.i64.wrap (4 * (k : Int) + 3) = 4 * (k : Int) + 3 := IntWalk.i64_in _ (by omega)
      have n0 : (0 : Int) ≤ 4 * (k : Int) := by omega
      have n1 : (0 : Int) ≤ 4 * (k : Int) + 1 := by omega
      have n2 : (0 : Int) ≤ 4 * (k : Int) + 2 := by omega
      have n3 : (0 : Int) ≤ 4 * (k : Int) + 3 := by omega
      have l0 : 4 * (k : Int) < 64 := by omega
      have l1 : 4 * (k : Int) + 1 < 64 := by omega
      have l2 : 4 * (k : Int) + 2 < 64 := by omega
      have l3 : 4 * (k : Int) + 3 < 64 := by omega
      have t0 : (4 * (k : Int)).toNat = 4 * k := by omega
      have t1 : (4 * (k : Int) + 1).toNat = 4 * k + 1 := by omega
      have t2 : (4 * (k : Int) + 2).toNat = 4 * k + 2 := by omega
      have t3 : (4 * (k : Int) + 3).toNat = 4 * k + 3 := by omega
      have q0 : (0 : Int) ≤ (k : Int) := by omega
      have q1 : (k : Int) < 64 := by omega
      obtain ⟨c0, e0⟩ : ∃ c, c = bs[4 * k]'(by have := HL.out; omega) := ⟨_, rfl⟩
      obtain ⟨c1, e1⟩ : ∃ c, c = bs[4 * k + 1]'(by have := HL.out; omega) := ⟨_, rfl⟩
      obtain ⟨c2, e2⟩ : ∃ c, c = bs[4 * k + 2]'(by have := HL.out; omega) := ⟨_, rfl⟩
      obtain ⟨c3, e3⟩ : ∃ c, c = bs[4 * k + 3]'(by have := HL.out; omega) := ⟨_, rfl⟩
      rw [← e0] at hc0
      rw [← e1] at hc1
      rw [← e2] at hc2
      rw [← e3] at hc3
      have E : Hid (Sha.w0 bs k = Sha.word c0 c1 c2 c3) := by
        show _ = _
        unfold Sha.w0
        rw [e0, e1, e2, e3]
        simp [HL.out, show 4 * k < 64 by omega, show 4 * k + 1 < 64 by omega, show 4 * k + 2 < 64 by omega, show 4 * k + 3 < 64 by omega]
      have E2 := word_eq c0 c1 c2 c3
      clear e0 e1 e2 e3
      go_wp2
      go_still_tail 35, (by kernel_rfl)
      clear s0 s1 s2 s3 n0 n1 n2 n3 l0 l1 l2 l3 t0 t1 t2 t3
      go_wp2
      have HK2 : Hid (Blk (wr.setCell ⟨w.heap.size, k, none⟩ (.int .u32 (U (Sha.word c0 c1 c2 c3)))).drew w.heap.size 214 (ucells (fill ((Sha.first bs).take (k + 1)) 64)).toArray) := by
        show Blk _ _ _ _
        have hl := take_first_length bs k hk
        rw [take_first bs k hlt, E.out, ← fill_set _ _ _ (by omega), hl, ← ucells_set]
        exact (HK.out.set_ _ _).drew
      go_roundw
      case rel => exact ⟨k + 1, hlt, by go_num, HK2.out, (HW.out.setCell (p := ⟨w.heap.size, k, none⟩) (Nat.le_refl _) _).drew⟩
      case measure => simp [intOf]; omega
    · have HK : Hid (Blk wr w.heap.size 214 (ucells (fill (Sha.grow 0 (Sha.first bs)) 64)).toArray) := by
        show Blk _ _ _ _
        have h16 : k = 16 := by omega
        subst h16
        rw [List.take_of_length_le (by simp [Sha.first])] at hbk
        exact hbk
      have HW := Lib.hid hbl
      clear hbk hbl
      go_wp2
      go_loopw [4] (fun i wz => ∃ m : Nat, m ≤ 48 ∧ i = .int .i64 ((16 + m : Nat) : Int) ∧ Blk wz w.heap.size 214 (ucells (fill (Sha.grow m (Sha.first bs)) 64)).toArray ∧ Below w.heap.size w wz) (fun i _ => 64 - (intOf i).toNat)
      case atStart => exact ⟨0, Nat.zero_le _, rfl, HK.out, HW.out⟩
      case round =>
        obtain ⟨m, hm, rfl, hbk, hbl⟩ := hrel
        obtain ⟨i, hi⟩ : ∃ i, i = 16 + m := ⟨_, rfl⟩
        rw [← hi]
        by_cases hlt : i < 64
        · obtain ⟨l, hl⟩ : ∃ l, l = Sha.grow m (Sha.first bs) := ⟨_, rfl⟩
          have hll : l.length = i := by rw [hl, Sha.grow_length]; simp [Sha.first]; omega
          rw [← hl] at hbk
          have HL2 := Lib.hid hl
          have get : ∀ j, j < i → wr.cell? ⟨w.heap.size, j, none⟩ = some (.int .u32 (U (l[j]?.getD 0))) := fun j hj => by
            rw [hbk.cell j, List.getElem?_toArray, ucells_get _ _ (by rw [fill_length _ _ (by omega)]; omega), fill_get _ _ _ (by omega)]
          obtain ⟨v0, hv⟩ : ∃ v, wr.cell? ⟨w.heap.size, i, none⟩ = some v := ⟨_, (hbk.cell i).trans (by rw [List.getElem?_toArray]; exact ucells_get _ _ (by rw [fill_length _ _ (by omega)]; omega))⟩
          have hlast : (fill l 64).set i (Sha.next l i) = fill (Sha.grow (m + 1) (Sha.first bs)) 64 := by
            rw [Sha.grow_succ, ← hl, ← fill_set _ _ _ (by omega), hll]
          have g15 := get (i - 15) (by omega)
          have g16 := get (i - 16) (by omega)
          have g7 := get (i - 7) (by omega)
          have g2 := get (i - 2) (by omega)
          have HG := Lib.hid hlast
          have HK := Lib.hid hbk
          have HW := Lib.hid hbl
          have hf := hbk.frozen i
          have hBlt : w.heap.size < wr.heap.size := hbk.lt
          obtain ⟨j15, h15⟩ : ∃ j, j = i - 15 := ⟨_, rfl⟩
          obtain ⟨j16, h16⟩ : ∃ j, j = i - 16 := ⟨_, rfl⟩
          obtain ⟨j7, h7⟩ : ∃ j, j = i - 7 := ⟨_, rfl⟩
          obtain ⟨j2, h2⟩ : ∃ j, j = i - 2 := ⟨_, rfl⟩
          rw [← h15] at g15
          rw [← h16] at g16
          rw [← h7] at g7
          rw [← h2] at g2
          have E : Hid (Sha.next l i = l[j16]?.getD 0 + (Sha.mix (l[j15]?.getD 0) [7, 18] ^^^ (l[j15]?.getD 0) >>> 3) + l[j7]?.getD 0 + (Sha.mix (l[j2]?.getD 0) [17, 19] ^^^ (l[j2]?.getD 0) >>> 10)) := by
            show _ = _
            rw [h15, h16, h7, h2]
            rfl
          have r15 : IntKind.i64.wrap ((i : Int) - 15) = (j15 : Int) := by rw [IntWalk.i64_in _ (by omega)]; omega
          have r16 : IntKind.i64.wrap ((i : Int) - 16) = (j16 : Int) := by rw [IntWalk.i64_in _ (by omega)]; omega
          have r7 : IntKind.i64.wrap ((i : Int) - 7) = (j7 : Int) := by rw [IntWalk.i64_in _ (by omega)]; omega
          have r2 : IntKind.i64.wrap ((i : Int) - 2) = (j2 : Int) := by rw [IntWalk.i64_in _ (by omega)]; omega
          have q15 : (j15 : Int) < 64 := by omega
          have q16 : (j16 : Int) < 64 := by omega
          have q7 : (j7 : Int) < 64 := by omega
          have q2 : (j2 : Int) < 64 := by omega
          have q0 : (i : Int) < 64 := by omega
          have p15 : (0 : Int) ≤ (j15 : Int) := by omega
          have p16 : (0 : Int) ≤ (j16 : Int) := by omega
          have p7 : (0 : Int) ≤ (j7 : Int) := by omega
          have p2 : (0 : Int) ≤ (j2 : Int) := by omega
          have p0 : (0 : Int) ≤ (i : Int) := by omega
          have h16i : 16 ≤ i := by omega
          have d16 : ¬ i = j16 := by omega
          have d7 : ¬ i = j7 := by omega
          have d16' : ¬ j16 = i := by omega
          have d7' : ¬ j7 = i := by omega
          generalize hx : l[j15]?.getD 0 = x at *
          generalize hy : l[j2]?.getD 0 = y at *
          generalize ha : l[j16]?.getD 0 = a at *
          generalize hb : l[j7]?.getD 0 = b at *
          have HK2 : Hid (∀ o1 o2, Blk ((((wr.setCell ⟨w.heap.size, i, none⟩ (.int .u32 (U (Sha.next l i)))).alloc o1).alloc o2).drew.drew) w.heap.size 214 (ucells (fill (Sha.grow (m + 1) (Sha.first bs)) 64)).toArray ∧ Below w.heap.size w ((((wr.setCell ⟨w.heap.size, i, none⟩ (.int .u32 (U (Sha.next l i)))).alloc o1).alloc o2).drew.drew)) := by
            intro o1 o2
            refine ⟨?_, ((((HW.out.setCell (p := ⟨w.heap.size, i, none⟩) (Nat.le_refl _) _).alloc (by simp [World.setCell]; omega) o1).alloc (by simp [World.setCell]; omega) o2).drew).drew⟩
            rw [← HG.out, ← ucells_set]
            exact ((((HK.out.set_ i _).alloc o1).alloc o2).drew).drew
          have HI := Lib.hid hi
          have hm1 : m + 1 ≤ 48 := by omega
          clear get h15 h16 h7 h2 hx hy ha hb hlast hbk hbl hl hll hi hm
          go_wp2
          go_region_held3 (fun w' => w'.cell? ⟨w.heap.size, j15, none⟩ = some (.int .u32 (U x)) ∧ w'.cell? ⟨w.heap.size, j2, none⟩ = some (.int .u32 (U y))) (go_keep) (fail)
          all_goals go_wp2
          go_region_held3 (fun w' => w'.cell? ⟨w.heap.size, j16, none⟩ = some (.int .u32 (U a)) ∧ w'.cell? ⟨w.heap.size, j7, none⟩ = some (.int .u32 (U b))) (first | (with_reducible exact ⟨keep2 g16 hBlt d16, keep2 g7 hBlt d7⟩) | go_keep) (first | (go_at_call 145; (with_reducible refine (mixed_7_18 x _ _ _ ?_ ?_).mono ?_); (go_simp); (go_simp); rintro e w' ⟨rfl, rfl⟩) | (go_at_call 145; (with_reducible refine (mixed_17_19 y _ _ _ ?_ ?_).mono ?_); (go_simp); (go_simp); rintro e w' ⟨rfl, rfl⟩))
          all_goals
            rw [next_eq, ← E.out]
            go_wp2
            go_roundw
            case rel => exact ⟨m + 1, hm1, by rw [HI.out]; go_num, (HK2.out _ _).1, (HK2.out _ _).2⟩
            case measure => simp [intOf]; omega
        · obtain rfl : i = 64 := by omega
          obtain rfl : m = 48 := by omega
          have hgl : (Sha.sched bs).length = 64 := Sha.sched_length bs
          have hbk' : Blk wr w.heap.size 214 (ucells (Sha.sched bs)).toArray := by
            have e : fill (Sha.grow 48 (Sha.first bs)) 64 = Sha.sched bs := fill_full _ _ hgl
            rw [e] at hbk
            exact hbk
          have HK := Lib.hid hbk'
          have HW := Lib.hid hbl
          have HS := Lib.hid (show (ucells (Sha.sched bs)).toArray.size = 64 by simp [ucells, hgl])
          have hk2 := hbk'.setWhole (ucells (Sha.sched bs)) (by simp)
          have HK2 := Lib.hid hk2
          clear hbk hbk' hbl hk2 hgl hi
          go_wp2_with (first | (refine wpList_load_row rfl 214 _ rfl w.heap.size rfl 214 _ (0, 0) _ HK.out Tryz.underlying214 rfl (by rw [HS.out]; kernel_rfl) ?_) | (refine wpList_store_mid rfl 214 _ _ rfl w.heap.size 0 _ rfl rfl (HK.out.there _ (Nat.le_refl _)) (by rw [HS.out]; kernel_rfl) (all_oneCell_toArray (by intro v hv; simp only [ucells, List.mem_map] at hv; obtain ⟨x, _, rfl⟩ := hv; rfl)) ?_))
          refine bodyPost_ret (v := .agg (ucells (Sha.sched bs)).toArray) (results_cell_row (g := w.heap.size) rfl _ _ 214 _ (0, 0) _ rfl HK2.out Tryz.underlying214 rfl (by rw [HS.out]; kernel_rfl)) rfl ?_
          exact ⟨rfl, below_setCells (Nat.le_refl _) _ _ HW.out⟩
end Go.Proofs.YtjlgkjhociaeiaaGreatDoor
