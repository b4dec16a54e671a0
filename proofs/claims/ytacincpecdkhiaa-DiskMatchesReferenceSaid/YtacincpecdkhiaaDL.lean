/-
  A disk from block B on, apart from the blocks of a list l (the law's own): what a law with several things of its own needs.
-/
import Derived.Test.YtacincpecdkhiaaDCalm
namespace Go.Proofs.Ytacincpecdkhiaa
open Go.RowKit
set_option linter.unusedVariables false

def DkL (B : Nat) (l : List Nat) (w : World) (p : Nat) (s : DSt) : Prop :=
  (∃ F, Dk w p F s ∧ ∀ k, F k → B ≤ k ∧ k ∉ l) ∧ B ≤ w.heap.size ∧ ∀ j ∈ l, j < w.heap.size
/-- What a call of the disk leaves. -/
def StepL (B : Nat) (l : List Nat) (w : World) (p : Nat) (s' : DSt) (w' : World) : Prop := DkL B l w' p s' ∧ Only (fun k => B ≤ k ∧ k ∉ l) w w'

section
variable {B : Nat} {l : List Nat} {w w' w0 : World} {p : Nat} {s s' : DSt}
theorem DkL.start (h : DkB B w p s) (hB : B ≤ w.heap.size) : DkL B [] w p s := by
  obtain ⟨F, hd, hF⟩ := h
  exact ⟨⟨F, hd, fun k e => ⟨hF k e, by simp⟩⟩, hB, by simp⟩
theorem DkL.dk (h : DkL B l w p s) : DkB B w p s := by
  obtain ⟨⟨F, hd, hF⟩, _⟩ := h
  exact ⟨F, hd, fun k e => (hF k e).1⟩
theorem DkL.below (h : DkL B l w p s) (hb : Below w.heap.size w w') : DkL B l w' p s := by
  obtain ⟨⟨F, hd, hF⟩, hB, hl⟩ := h
  exact ⟨⟨F, hd.below hb, hF⟩, Nat.le_trans hB hb.size, fun j hj => Nat.lt_of_lt_of_le (hl j hj) hb.size⟩
/-- A new block of the law's own. -/
theorem DkL.add (h : DkL B l w p s) (hb : Below w.heap.size w w') (g : Nat) (hg : w.heap.size ≤ g) (hg2 : g < w'.heap.size) : DkL B (g :: l) w' p s := by
  obtain ⟨⟨F, hd, hF⟩, hB, hl⟩ := h
  refine ⟨⟨F, hd.below hb, fun k e => ⟨(hF k e).1, fun hm => ?_⟩⟩, Nat.le_trans hB hb.size, fun j hj => ?_⟩
  · rcases List.mem_cons.1 hm with rfl | hm
    · have := hd.lt _ e; omega
    · exact (hF k e).2 hm
  · rcases List.mem_cons.1 hj with rfl | hj
    · exact hg2
    · exact Nat.lt_of_lt_of_le (hl j hj) hb.size
theorem DkL.drop {g : Nat} (h : DkL B (g :: l) w p s) : DkL B l w p s := by
  obtain ⟨⟨F, hd, hF⟩, hB, hl⟩ := h
  exact ⟨⟨F, hd, fun k e => ⟨(hF k e).1, fun hm => (hF k e).2 (List.mem_cons_of_mem _ hm)⟩⟩, hB, fun j hj => hl j (List.mem_cons_of_mem _ hj)⟩
theorem DkL.sub {l' : List Nat} (h : DkL B l w p s) (hs : ∀ j ∈ l', j ∈ l) : DkL B l' w p s := by
  obtain ⟨⟨F, hd, hF⟩, hB, hl⟩ := h
  exact ⟨⟨F, hd, fun k e => ⟨(hF k e).1, fun hm => (hF k e).2 (hs k hm)⟩⟩, hB, fun j hj => hl j (hs j hj)⟩
/-- What turns in the law's own blocks leaves the disk. -/
theorem DkL.only {S : Nat → Prop} (h : DkL B l w p s) (o : Only S w w') (hS : ∀ k, S k → k ∈ l ∨ w.heap.size ≤ k) : DkL B l w' p s := by
  obtain ⟨⟨F, hd, hF⟩, hB, hl⟩ := h
  exact ⟨⟨F, hd.only o fun k e1 e2 => (hS k e2).elim (hF k e1).2 fun x => by have := hd.lt k e1; omega, hF⟩, Nat.le_trans hB o.size, fun j hj => Nat.lt_of_lt_of_le (hl j hj) o.size⟩
theorem DkL.step {F : Nat → Prop} (hF : ∀ k, F k → B ≤ k ∧ k ∉ l) (hB : B ≤ w.heap.size) (hl : ∀ j ∈ l, j < w.heap.size) (t : Step w p F s' w') : StepL B l w p s' w' := by
  obtain ⟨F', d, o, f⟩ := t
  exact ⟨⟨⟨F', d, fun k e => (f k e).elim (hF k) fun x => ⟨by omega, fun hm => by have := hl k hm; omega⟩⟩, Nat.le_trans hB o.size, fun j hj => Nat.lt_of_lt_of_le (hl j hj) o.size⟩, o.mono fun k _ e => hF k e⟩
theorem StepL.below (h : StepL B l w p s' w') (h0 : Below B w0 w) (hB : B ≤ w.heap.size) : Below B w0 w' := h0.trans (h.2.below hB fun k e => e.1)
theorem StepL.blk {g : Nat} {t : TypeId} {cs : Array Value} (h : StepL B l w p s' w') (hb : Blk w g t cs) (hg : g ∈ l) : Blk w' g t cs := hb.only h.2 fun e => e.2 hg
theorem DkL.size (h : DkL B l w p s) : Calls Try.prog 16 #[.pointer (some ⟨p, 0, none⟩)] w fun e w' => e = .returned (.int .i64 (s.dur.length : Int)) ∧ w = w' := h.dk.size
theorem DkL.pending (h : DkL B l w p s) : Calls Try.prog 17 #[.pointer (some ⟨p, 0, none⟩)] w fun e w' => e = .returned (.int .i64 (s.pend.length : Int)) ∧ w = w' := h.dk.pending
theorem DkL.read (h : DkL B l w p s) (o n : Int) : Calls Try.prog 14 #[.pointer (some ⟨p, 0, none⟩), .int .i64 o, .int .i64 n] w fun e w' => e = .returned (.tuple #[.string ⟨(s.read o n).1.toArray⟩, .int .i64 (s.read o n).2]) ∧ w = w' := h.dk.read o n
theorem DkL.write (h : DkL B l w p s) (o : Int) (t : ByteArray) (hl : s.pend.length ≤ 1000000) : Calls Try.prog 21 #[.pointer (some ⟨p, 0, none⟩), .int .i64 o, .string t] w fun e w' => e = .returned (.int .i64 (s.write o t).1) ∧ StepL B l w p (s.write o t).2 w' := by
  obtain ⟨⟨F, hd, hF⟩, hB, hj⟩ := h
  exact (hd.write o t hl).mono fun e w' ⟨he, t'⟩ => ⟨he, DkL.step hF hB hj t'⟩
theorem DkL.sync (h : DkL B l w p s) : Calls Try.prog 23 #[.pointer (some ⟨p, 0, none⟩)] w fun e w' => e = .returned (.int .i64 s.sync.1) ∧ StepL B l w p s.sync.2 w' := by
  obtain ⟨⟨F, hd, hF⟩, hB, hj⟩ := h
  exact hd.sync.mono fun e w' ⟨he, t'⟩ => ⟨he, DkL.step hF hB hj t'⟩
theorem DkL.cut (h : DkL B l w p s) (n : Int) (hn' : n ≤ 9223372036854775807) : Calls Try.prog 24 #[.pointer (some ⟨p, 0, none⟩), .int .i64 n] w fun e w' => e = .returned (.int .i64 (s.cut n).1) ∧ StepL B l w p (s.cut n).2 w' := by
  obtain ⟨⟨F, hd, hF⟩, hB, hj⟩ := h
  exact (hd.cut n hn').mono fun e w' ⟨he, t'⟩ => ⟨he, DkL.step hF hB hj t'⟩
theorem DkL.crash (h : DkL B l w p s) (a : Option Addr) (len cap : Nat) (keep : List Int) (hI : Ints w.heap.size w (.slice a len cap) keep) (hreach : keep.length * 8 ≤ 140737488351232) (torn : Int) (ht : torn ≤ 9223372036854775807) :
    Calls Try.prog 25 #[.pointer (some ⟨p, 0, none⟩), .slice a len cap, .int .i64 torn] w fun e w' => e = .returned (.int .i64 0) ∧ StepL B l w p (s.crash keep torn) w' := by
  obtain ⟨⟨F, hd, hF⟩, hB, hj⟩ := h
  exact (hd.crash a len cap keep hI hreach torn ht).mono fun e w' ⟨he, t'⟩ => ⟨he, DkL.step hF hB hj t'⟩
/-- The three cells of a struct of the law's own. -/
theorem three_cells {h : Nat} {t : TypeId} {c0 c1 c2 : Value} (hb : Blk w h t #[c0, c1, c2]) : w.cell? ⟨h, 0, none⟩ = some c0 ∧ w.cell? ⟨h, 1, none⟩ = some c1 ∧ w.cell? ⟨h, 2, none⟩ = some c2 := ⟨hb.cell 0, hb.cell 1, hb.cell 2⟩
end

theorem crash_none (s : DSt) (torn : Int) : s.crash [] torn = { off := false, left := 0, dur := s.dur, vis := s.dur, pend := [] } := by
  have e : s.kept [] = [] := by simp [DSt.kept]
  simp [DSt.crash, e, DSt.layAll]
theorem nil_ints (n₀ : Nat) (w : World) : Ints n₀ w (.slice none 0 0) [] := .inl ⟨⟨none, 0, rfl⟩, rfl⟩
end Go.Proofs.Ytacincpecdkhiaa
