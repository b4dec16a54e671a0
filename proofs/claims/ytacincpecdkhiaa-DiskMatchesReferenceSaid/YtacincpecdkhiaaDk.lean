/-
  The disk's calls, told of a handle p and of the set F of the blocks in which the disk lies.
-/
import Derived.Test.YtacincpecdkhiaaCrash2
namespace Go.Proofs.Ytacincpecdkhiaa
open Go.RowKit
set_option linter.unusedVariables false

/-- At p there is a disk that holds s; it lies in the blocks of F. -/
def Dk (w : World) (p : Nat) (F : Nat → Prop) (s : DSt) : Prop := ∃ r : DRep, r.p = p ∧ (∀ k, r.foot k ↔ F k) ∧ DiskAt 0 w r s
/-- What a call leaves: a disk that holds s'; only its own blocks have turned; it lies in these and in new ones. -/
def Step (w : World) (p : Nat) (F : Nat → Prop) (s' : DSt) (w' : World) : Prop := ∃ F', Dk w' p F' s' ∧ Only F w w' ∧ ∀ k, F' k → F k ∨ w.heap.size ≤ k

theorem Dk.lt {w : World} {p : Nat} {F : Nat → Prop} {s : DSt} (h : Dk w p F s) : ∀ k, F k → k < w.heap.size := by
  obtain ⟨r, _, hF, hd⟩ := h
  exact fun k hk => (hd.footlt k ((hF k).2 hk)).2
theorem Dk.only {w w' : World} {p : Nat} {F S : Nat → Prop} {s : DSt} (h : Dk w p F s) (o : Only S w w') (hn : ∀ k, F k → ¬ S k) : Dk w' p F s := by
  obtain ⟨r, hp, hF, hd⟩ := h
  exact ⟨r, hp, hF, hd.only o fun k hk => hn k ((hF k).1 hk)⟩
theorem Dk.below {w w' : World} {p : Nat} {F : Nat → Prop} {s : DSt} (h : Dk w p F s) (o : Below w.heap.size w w') : Dk w' p F s := h.only (Only.of_below o fun _ => False) fun _ _ e => e
theorem Step.of {w w' : World} {r r' : DRep} {F : Nat → Prop} {s' : DSt} (hF : ∀ k, r.foot k ↔ F k) (hd : DiskAt 0 w' r' s') (t : Turned r r' w w') : Step w r.p F s' w' :=
  ⟨r'.foot, ⟨r', t.p, fun _ => Iff.rfl, hd⟩, t.only.mono fun k _ e => (hF k).1 e, fun k e => (t.foot k e).elim (fun x => .inl ((hF k).1 x)) .inr⟩
theorem Step.trans {a b c : World} {p : Nat} {F : Nat → Prop} {s1 s2 : DSt} (h : Step a p F s1 b) (k : ∀ F', Dk b p F' s1 → Step b p F' s2 c) : Step a p F s2 c := by
  obtain ⟨F1, d1, o1, f1⟩ := h
  obtain ⟨F2, d2, o2, f2⟩ := k F1 d1
  exact ⟨F2, d2, o1.trans o2 fun i hi e => (f1 i e).elim id fun x => absurd hi (by omega), fun i e => (f2 i e).elim (fun x => f1 i x) fun x => .inr (Nat.le_trans o1.size x)⟩
theorem Step.refl {w : World} {p : Nat} {F : Nat → Prop} {s : DSt} (h : Dk w p F s) : Step w p F s w := ⟨F, h, Only.refl _ _, fun _ e => .inl e⟩

theorem Dk.new (n : Nat) (w : World) (h1 : 1 ≤ n) (h2 : n ≤ 4194304) :
    Calls Try.prog 13 #[.int .i64 (n : Int)] w fun e w' => ∃ p F, e = .returned (.tuple #[.pointer (some ⟨p, 0, none⟩), .int .i64 0]) ∧ Dk w' p F (DSt.new n) ∧ (∀ k, F k → w.heap.size ≤ k) ∧ Below w.heap.size w w' := by
  refine (New_good n w h1 h2).mono ?_
  rintro e w' ⟨r, rfl, hd, hb⟩
  exact ⟨r.p, r.foot, rfl, ⟨r, rfl, fun _ => Iff.rfl, { hd with pend := ownsRow_base hd.pend fun _ _ => Nat.zero_le _, bp := Nat.zero_le _, bbd := Nat.zero_le _, bbv := Nat.zero_le _ }⟩, fun k hk => (hd.footlt k hk).1, hb⟩

section
variable {w : World} {p : Nat} {F : Nat → Prop} {s : DSt}
theorem Dk.size (h : Dk w p F s) : Calls Try.prog 16 #[.pointer (some ⟨p, 0, none⟩)] w fun e w' => e = .returned (.int .i64 (s.dur.length : Int)) ∧ w = w' := by
  obtain ⟨r, rfl, hF, hd⟩ := h
  exact Size_any hd
theorem Dk.pending (h : Dk w p F s) : Calls Try.prog 17 #[.pointer (some ⟨p, 0, none⟩)] w fun e w' => e = .returned (.int .i64 (s.pend.length : Int)) ∧ w = w' := by
  obtain ⟨r, rfl, hF, hd⟩ := h
  exact Pending_any hd
theorem Dk.read (h : Dk w p F s) (o n : Int) : Calls Try.prog 14 #[.pointer (some ⟨p, 0, none⟩), .int .i64 o, .int .i64 n] w fun e w' => e = .returned (.tuple #[.string ⟨(s.read o n).1.toArray⟩, .int .i64 (s.read o n).2]) ∧ w = w' := by
  obtain ⟨r, rfl, hF, hd⟩ := h
  exact Read_any hd o n
theorem Dk.write (h : Dk w p F s) (o : Int) (t : ByteArray) (hl : s.pend.length ≤ 1000000) : Calls Try.prog 21 #[.pointer (some ⟨p, 0, none⟩), .int .i64 o, .string t] w fun e w' => e = .returned (.int .i64 (s.write o t).1) ∧ Step w p F (s.write o t).2 w' := by
  obtain ⟨r, rfl, hF, hd⟩ := h
  exact (Write_any hd o t (Nat.zero_le _) hl).mono fun e w' ⟨he, r', hd', t'⟩ => ⟨he, Step.of hF hd' t'⟩
theorem Dk.sync (h : Dk w p F s) : Calls Try.prog 23 #[.pointer (some ⟨p, 0, none⟩)] w fun e w' => e = .returned (.int .i64 s.sync.1) ∧ Step w p F s.sync.2 w' := by
  obtain ⟨r, rfl, hF, hd⟩ := h
  exact (Sync_any hd).mono fun e w' ⟨he, r', hd', t'⟩ => ⟨he, Step.of hF hd' t'⟩
theorem Dk.cut (h : Dk w p F s) (n : Int) (hn : n ≤ 9223372036854775807) : Calls Try.prog 24 #[.pointer (some ⟨p, 0, none⟩), .int .i64 n] w fun e w' => e = .returned (.int .i64 (s.cut n).1) ∧ Step w p F (s.cut n).2 w' := by
  obtain ⟨r, rfl, hF, hd⟩ := h
  exact (Cut_any hd n hn).mono fun e w' ⟨he, hd', o'⟩ => ⟨he, Step.of hF hd' (Turned.own o')⟩
theorem Dk.crash (h : Dk w p F s) (a : Option Addr) (len cap : Nat) (keep : List Int) (hI : Ints w.heap.size w (.slice a len cap) keep) (hreach : keep.length * 8 ≤ 140737488351232) (torn : Int) (ht : torn ≤ 9223372036854775807) :
    Calls Try.prog 25 #[.pointer (some ⟨p, 0, none⟩), .slice a len cap, .int .i64 torn] w fun e w' => e = .returned (.int .i64 0) ∧ Step w p F (s.crash keep torn) w' := by
  obtain ⟨r, rfl, hF, hd⟩ := h
  exact (Crash_any hd (Nat.zero_le _) a len cap keep hI hreach torn ht).mono fun e w' ⟨he, r', hd', t'⟩ => ⟨he, Step.of hF hd' t'⟩
end

/-- The disk lies from block B on: what a law with one disk needs. -/
def DkB (B : Nat) (w : World) (p : Nat) (s : DSt) : Prop := ∃ F, Dk w p F s ∧ ∀ k, F k → B ≤ k
/-- What a call leaves to such a law. -/
def StepB (B : Nat) (w : World) (p : Nat) (s' : DSt) (w' : World) : Prop := DkB B w' p s' ∧ Below B w w'
theorem DkB.step {B : Nat} {w w' : World} {p : Nat} {F : Nat → Prop} {s' : DSt} (hB : B ≤ w.heap.size) (hF : ∀ k, F k → B ≤ k) (h : Step w p F s' w') : StepB B w p s' w' := by
  obtain ⟨F', d, o, f⟩ := h
  exact ⟨⟨F', d, fun k e => (f k e).elim (hF k) fun x => Nat.le_trans hB x⟩, o.below hB hF⟩
theorem DkB.below {B : Nat} {w w' : World} {p : Nat} {s : DSt} (h : DkB B w p s) (o : Below w.heap.size w w') : DkB B w' p s := by
  obtain ⟨F, hd, hF⟩ := h
  exact ⟨F, hd.below o, hF⟩
theorem DkB.new (n : Nat) (B : Nat) (w : World) (hB : B ≤ w.heap.size) (h1 : 1 ≤ n) (h2 : n ≤ 4194304) :
    Calls Try.prog 13 #[.int .i64 (n : Int)] w fun e w' => ∃ p, e = .returned (.tuple #[.pointer (some ⟨p, 0, none⟩), .int .i64 0]) ∧ StepB B w p (DSt.new n) w' :=
  (Dk.new n w h1 h2).mono fun e w' ⟨p, F, he, hd, hF, hb⟩ => ⟨p, he, ⟨F, hd, fun k e => Nat.le_trans hB (hF k e)⟩, hb.mono hB⟩
section
variable {B : Nat} {w : World} {p : Nat} {s : DSt}
theorem DkB.size (h : DkB B w p s) : Calls Try.prog 16 #[.pointer (some ⟨p, 0, none⟩)] w fun e w' => e = .returned (.int .i64 (s.dur.length : Int)) ∧ w = w' := by
  obtain ⟨F, hd, hF⟩ := h
  exact hd.size
theorem DkB.pending (h : DkB B w p s) : Calls Try.prog 17 #[.pointer (some ⟨p, 0, none⟩)] w fun e w' => e = .returned (.int .i64 (s.pend.length : Int)) ∧ w = w' := by
  obtain ⟨F, hd, hF⟩ := h
  exact hd.pending
theorem DkB.read (h : DkB B w p s) (o n : Int) : Calls Try.prog 14 #[.pointer (some ⟨p, 0, none⟩), .int .i64 o, .int .i64 n] w fun e w' => e = .returned (.tuple #[.string ⟨(s.read o n).1.toArray⟩, .int .i64 (s.read o n).2]) ∧ w = w' := by
  obtain ⟨F, hd, hF⟩ := h
  exact hd.read o n
theorem DkB.write (h : DkB B w p s) (o : Int) (t : ByteArray) (hB : B ≤ w.heap.size) (hl : s.pend.length ≤ 1000000) : Calls Try.prog 21 #[.pointer (some ⟨p, 0, none⟩), .int .i64 o, .string t] w fun e w' => e = .returned (.int .i64 (s.write o t).1) ∧ StepB B w p (s.write o t).2 w' := by
  obtain ⟨F, hd, hF⟩ := h
  exact (hd.write o t hl).mono fun e w' ⟨he, t'⟩ => ⟨he, DkB.step hB hF t'⟩
theorem DkB.sync (h : DkB B w p s) (hB : B ≤ w.heap.size) : Calls Try.prog 23 #[.pointer (some ⟨p, 0, none⟩)] w fun e w' => e = .returned (.int .i64 s.sync.1) ∧ StepB B w p s.sync.2 w' := by
  obtain ⟨F, hd, hF⟩ := h
  exact hd.sync.mono fun e w' ⟨he, t'⟩ => ⟨he, DkB.step hB hF t'⟩
theorem DkB.cut (h : DkB B w p s) (n : Int) (hB : B ≤ w.heap.size) (hn : n ≤ 9223372036854775807) : Calls Try.prog 24 #[.pointer (some ⟨p, 0, none⟩), .int .i64 n] w fun e w' => e = .returned (.int .i64 (s.cut n).1) ∧ StepB B w p (s.cut n).2 w' := by
  obtain ⟨F, hd, hF⟩ := h
  exact (hd.cut n hn).mono fun e w' ⟨he, t'⟩ => ⟨he, DkB.step hB hF t'⟩
theorem DkB.crash (h : DkB B w p s) (hB : B ≤ w.heap.size) (a : Option Addr) (len cap : Nat) (keep : List Int) (hI : Ints w.heap.size w (.slice a len cap) keep) (hreach : keep.length * 8 ≤ 140737488351232) (torn : Int) (ht : torn ≤ 9223372036854775807) :
    Calls Try.prog 25 #[.pointer (some ⟨p, 0, none⟩), .slice a len cap, .int .i64 torn] w fun e w' => e = .returned (.int .i64 0) ∧ StepB B w p (s.crash keep torn) w' := by
  obtain ⟨F, hd, hF⟩ := h
  exact (hd.crash a len cap keep hI hreach torn ht).mono fun e w' ⟨he, t'⟩ => ⟨he, DkB.step hB hF t'⟩
end
end Go.Proofs.Ytacincpecdkhiaa
