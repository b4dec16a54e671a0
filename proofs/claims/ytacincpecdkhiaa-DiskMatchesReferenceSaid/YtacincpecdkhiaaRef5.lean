/-
  A disk and a reference disk beside one another.
-/
import Derived.Test.YtacincpecdkhiaaRef4
import Derived.Test.YtacincpecdkhiaaFloat
namespace Go.Proofs.Ytacincpecdkhiaa
open Go.RowKit
set_option linter.unusedVariables false

/-- At q there is a reference disk that holds s; it lies in the blocks of G. -/
def Rk (w : World) (q : Nat) (G : Nat → Prop) (s : DSt) : Prop := ∃ r : RRep, r.q = q ∧ (∀ k, r.foot k ↔ G k) ∧ RefAt w r s
def RStep (w : World) (q : Nat) (G : Nat → Prop) (s' : DSt) (w' : World) : Prop := ∃ G', Rk w' q G' s' ∧ Only G w w' ∧ ∀ k, G' k → G k ∨ w.heap.size ≤ k
theorem Rk.lt {w : World} {q : Nat} {G : Nat → Prop} {s : DSt} (h : Rk w q G s) : ∀ k, G k → k < w.heap.size := by
  obtain ⟨r, _, hF, hd⟩ := h
  exact fun k hk => hd.footlt k ((hF k).2 hk)
theorem Rk.only {w w' : World} {q : Nat} {G S : Nat → Prop} {s : DSt} (h : Rk w q G s) (o : Only S w w') (hn : ∀ k, G k → ¬ S k) : Rk w' q G s := by
  obtain ⟨r, hp, hF, hd⟩ := h
  exact ⟨r, hp, hF, hd.only o fun k hk => hn k ((hF k).1 hk)⟩
theorem Rk.below {w w' : World} {q : Nat} {G : Nat → Prop} {s : DSt} (h : Rk w q G s) (o : Below w.heap.size w w') : Rk w' q G s := h.only (Only.of_below o fun _ => False) fun _ _ e => e
theorem RStep.of {w w' : World} {r r' : RRep} {G : Nat → Prop} {s' : DSt} (hF : ∀ k, r.foot k ↔ G k) (hd : RefAt w' r' s') (t : RTurned r r' w w') : RStep w r.q G s' w' :=
  ⟨r'.foot, ⟨r', t.q, fun _ => Iff.rfl, hd⟩, t.only.mono fun k _ e => (hF k).1 e, fun k e => (t.foot k e).elim (fun x => .inl ((hF k).1 x)) .inr⟩

/-- A disk at p that holds s and a reference disk at q that holds t, in blocks of their own from B on and apart from the list l. -/
def Pr (B : Nat) (l : List Nat) (w : World) (p : Nat) (s : DSt) (q : Nat) (t : DSt) : Prop :=
  (∃ F G, Dk w p F s ∧ Rk w q G t ∧ (∀ k, F k → (B ≤ k ∧ k ∉ l) ∧ ¬ G k) ∧ ∀ k, G k → B ≤ k ∧ k ∉ l) ∧ B ≤ w.heap.size ∧ ∀ j ∈ l, j < w.heap.size
section
variable {B : Nat} {l : List Nat} {w w' w0 : World} {p q : Nat} {s t : DSt}
theorem Pr.below (h : Pr B l w p s q t) (hb : Below w.heap.size w w') : Pr B l w' p s q t := by
  obtain ⟨⟨F, G, d, r, hh⟩, hB, hl⟩ := h
  exact ⟨⟨F, G, d.below hb, r.below hb, hh⟩, Nat.le_trans hB hb.size, fun j hj => Nat.lt_of_lt_of_le (hl j hj) hb.size⟩
theorem Pr.dk (h : Pr B l w p s q t) : DkB B w p s := by
  obtain ⟨⟨F, G, d, r, h1, h2⟩, _⟩ := h
  exact ⟨F, d, fun k e => (h1 k e).1.1⟩
theorem Pr.fresh (h : Pr B l w p s q t) : Fresh t := by
  obtain ⟨⟨F, G, d, ⟨r, _, _, hr⟩, _⟩, _⟩ := h
  exact hr.fresh
theorem Pr.add (h : Pr B l w p s q t) (hb : Below w.heap.size w w') (g : Nat) (hg : w.heap.size ≤ g) (hg2 : g < w'.heap.size) : Pr B (g :: l) w' p s q t := by
  obtain ⟨⟨F, G, d, r, h1, h2⟩, hB, hl⟩ := h
  refine ⟨⟨F, G, d.below hb, r.below hb, fun k e => ⟨⟨(h1 k e).1.1, fun hm => ?_⟩, (h1 k e).2⟩, fun k e => ⟨(h2 k e).1, fun hm => ?_⟩⟩, Nat.le_trans hB hb.size, fun j hj => ?_⟩
  · rcases List.mem_cons.1 hm with rfl | hm
    · have := d.lt _ e; omega
    · exact (h1 k e).1.2 hm
  · rcases List.mem_cons.1 hm with rfl | hm
    · have := r.lt _ e; omega
    · exact (h2 k e).2 hm
  · rcases List.mem_cons.1 hj with rfl | hj
    · exact hg2
    · exact Nat.lt_of_lt_of_le (hl j hj) hb.size
theorem Pr.drop {g : Nat} (h : Pr B (g :: l) w p s q t) : Pr B l w p s q t := by
  obtain ⟨⟨F, G, d, r, h1, h2⟩, hB, hl⟩ := h
  exact ⟨⟨F, G, d, r, fun k e => ⟨⟨(h1 k e).1.1, fun hm => (h1 k e).1.2 (List.mem_cons_of_mem _ hm)⟩, (h1 k e).2⟩, fun k e => ⟨(h2 k e).1, fun hm => (h2 k e).2 (List.mem_cons_of_mem _ hm)⟩⟩, hB, fun j hj => hl j (List.mem_cons_of_mem _ hj)⟩
/-- What a call leaves. -/
def StepP (B : Nat) (l : List Nat) (w : World) (p : Nat) (s : DSt) (q : Nat) (t : DSt) (w' : World) : Prop := Pr B l w' p s q t ∧ Only (fun k => B ≤ k ∧ k ∉ l) w w'
theorem StepP.below (h : StepP B l w p s q t w') (h0 : Below B w0 w) (hB : B ≤ w.heap.size) : Below B w0 w' := h0.trans (h.2.below hB fun k e => e.1)
theorem StepP.blk {g : Nat} {ty : TypeId} {cs : Array Value} (h : StepP B l w p s q t w') (hb : Blk w g ty cs) (hg : g ∈ l) : Blk w' g ty cs := hb.only h.2 fun e => e.2 hg
theorem Pr.dcall {f : FuncId} {args : Array Value} {s' : DSt} {e0 : Ending} (h : Pr B l w p s q t) (hc : ∀ F, Dk w p F s → Calls Try.prog f args w fun e w' => e = e0 ∧ Step w p F s' w') : Calls Try.prog f args w fun e w' => e = e0 ∧ StepP B l w p s' q t w' := by
  obtain ⟨⟨F, G, d, r, h1, h2⟩, hB, hl⟩ := h
  refine (hc F d).mono fun e w' ⟨he, F', d', o, f⟩ => ⟨he, ⟨⟨F', G, d', r.only o fun k e e2 => (h1 k e2).2 e, fun k e => ?_, h2⟩, Nat.le_trans hB o.size, fun j hj => Nat.lt_of_lt_of_le (hl j hj) o.size⟩, o.mono fun k _ e => (h1 k e).1⟩
  rcases f k e with x | x
  · exact h1 k x
  · exact ⟨⟨by omega, fun hm => by have := hl k hm; omega⟩, fun g => by have := r.lt k g; omega⟩
theorem Pr.rcall {f : FuncId} {args : Array Value} {t' : DSt} {e0 : Ending} (h : Pr B l w p s q t) (hc : ∀ r : RRep, r.q = q → RefAt w r t → Calls Try.prog f args w fun e w' => e = e0 ∧ ∃ r', RefAt w' r' t' ∧ RTurned r r' w w') : Calls Try.prog f args w fun e w' => e = e0 ∧ StepP B l w p s q t' w' := by
  obtain ⟨⟨F, G, d, ⟨r, hq, hG, hr⟩, h1, h2⟩, hB, hl⟩ := h
  refine (hc r hq hr).mono fun e w' ⟨he, r', hr', tu⟩ => ?_
  subst hq
  obtain ⟨G', k', o, f⟩ := RStep.of hG hr' tu
  have rl : ∀ k, F k → k < w.heap.size := d.lt
  refine ⟨he, ⟨⟨F, G', d.only o fun k e e2 => (h1 k e).2 e2, k', fun k e => ⟨(h1 k e).1, fun g => (f k g).elim (h1 k e).2 fun x => by have := rl k e; omega⟩, fun k e => ?_⟩, Nat.le_trans hB o.size, fun j hj => Nat.lt_of_lt_of_le (hl j hj) o.size⟩, o.mono fun k _ e => h2 k e⟩
  rcases f k e with x | x
  · exact h2 k x
  · exact ⟨by omega, fun hm => by have := hl k hm; omega⟩
theorem Pr.write (h : Pr B l w p s q t) (o : Int) (b : ByteArray) (hl : s.pend.length ≤ 1000000) : Calls Try.prog 21 #[.pointer (some ⟨p, 0, none⟩), .int .i64 o, .string b] w fun e w' => e = .returned (.int .i64 (s.write o b).1) ∧ StepP B l w p (s.write o b).2 q t w' := h.dcall fun F hd => hd.write o b hl
theorem Pr.sync (h : Pr B l w p s q t) : Calls Try.prog 23 #[.pointer (some ⟨p, 0, none⟩)] w fun e w' => e = .returned (.int .i64 s.sync.1) ∧ StepP B l w p s.sync.2 q t w' := h.dcall fun F hd => hd.sync
theorem Pr.cut (h : Pr B l w p s q t) (n : Int) (hn : n ≤ 9223372036854775807) : Calls Try.prog 24 #[.pointer (some ⟨p, 0, none⟩), .int .i64 n] w fun e w' => e = .returned (.int .i64 (s.cut n).1) ∧ StepP B l w p (s.cut n).2 q t w' := h.dcall fun F hd => hd.cut n hn
theorem Pr.crash (h : Pr B l w p s q t) (a : Option Addr) (len cap : Nat) (keep : List Int) (hI : Ints w.heap.size w (.slice a len cap) keep) (hreach : keep.length * 8 ≤ 140737488351232) (torn : Int) (ht : torn ≤ 9223372036854775807) :
    Calls Try.prog 25 #[.pointer (some ⟨p, 0, none⟩), .slice a len cap, .int .i64 torn] w fun e w' => e = .returned (.int .i64 0) ∧ StepP B l w p (s.crash keep torn) q t w' := h.dcall fun F hd => hd.crash a len cap keep hI hreach torn ht
theorem Pr.rwrite (h : Pr B l w p s q t) (o : Int) (b : ByteArray) (hl : t.pend.length ≤ 1000000) : Calls Try.prog 30 #[.pointer (some ⟨q, 0, none⟩), .int .i64 o, .string b] w fun e w' => e = .returned (.int .i64 (t.write o b).1) ∧ StepP B l w p s q (t.write o b).2 w' := h.rcall fun r hq hr => by subst hq; exact RWrite_any hr o b hl
theorem Pr.rsync (h : Pr B l w p s q t) : Calls Try.prog 31 #[.pointer (some ⟨q, 0, none⟩)] w fun e w' => e = .returned (.int .i64 t.sync.1) ∧ StepP B l w p s q t.sync.2 w' := h.rcall fun r hq hr => by subst hq; exact RSync_any hr
theorem Pr.rcut (h : Pr B l w p s q t) (n : Int) (hn : n ≤ 9223372036854775807) : Calls Try.prog 32 #[.pointer (some ⟨q, 0, none⟩), .int .i64 n] w fun e w' => e = .returned (.int .i64 (t.cut n).1) ∧ StepP B l w p s q (t.cut n).2 w' := h.rcall fun r hq hr => by
  subst hq
  exact (RCut_any hr n hn).mono fun e w' ⟨he, hr', o⟩ => ⟨he, r, hr', RTurned.own o⟩
theorem Pr.rcrash (h : Pr B l w p s q t) (a : Option Addr) (len cap : Nat) (keep : List Int) (hI : Ints w.heap.size w (.slice a len cap) keep) (hz : keep.length = len) (hm : len ≤ 4611686018427387904) (torn : Int) (ht : torn ≤ 9223372036854775807) (hl : t.pend.length ≤ 1000000) :
    Calls Try.prog 33 #[.pointer (some ⟨q, 0, none⟩), .slice a len cap, .int .i64 torn] w fun e w' => e = .returned (.tuple #[]) ∧ StepP B l w p s q (t.crash keep torn) w' := h.rcall fun r hq hr => by subst hq; exact RCrash_any hr a len cap keep hI hz hm torn ht hl
theorem Pr.rread (h : Pr B l w p s q t) (o n : Int) : Calls Try.prog 20 #[.pointer (some ⟨q, 0, none⟩), .int .i64 o, .int .i64 n] w fun e w' => e = .returned (.tuple #[.string ⟨(t.read o n).1.toArray⟩, .int .i64 (t.read o n).2]) ∧ Below w.heap.size w w' := by
  obtain ⟨⟨F, G, d, ⟨r, hq, hG, hr⟩, h1, h2⟩, hB, hl⟩ := h
  subst hq
  exact RRead_any hr o n
/-- The cell that holds the reference's pending writes. -/
theorem Pr.rcell (h : Pr B l w p s q t) : q < w.heap.size ∧ ∃ A c, w.cell? ⟨q, 1, none⟩ = some (.slice A t.pend.length c) := by
  obtain ⟨⟨F, G, d, ⟨r, hq, hG, hr⟩, h1, h2⟩, hB, hl⟩ := h
  subst hq
  obtain ⟨A, c, e⟩ := hr.lvform
  exact ⟨hr.blk.lt, A, c, by rw [hr.c1, e]⟩
end
theorem Pr.new {B n : Nat} {w w1 w2 : World} {p q : Nat} {F : Nat → Prop} (hB : B ≤ w.heap.size) (h1 : Dk w1 p F (DSt.new n)) (hF : ∀ k, F k → B ≤ k) (b1 : Below w.heap.size w w1) (b2 : Below w1.heap.size w1 w2) {r : RRep} (hq : r.q = q) (h2 : RefAt w2 r (DSt.new n)) (hG : ∀ k, r.foot k → w1.heap.size ≤ k) : Pr B [] w2 p (DSt.new n) q (DSt.new n) := by
  have l1 := h1.lt
  have s1 := b1.size
  have s2 := b2.size
  exact ⟨⟨F, r.foot, h1.below b2, ⟨r, hq, fun _ => Iff.rfl, h2⟩, fun k e => ⟨⟨hF k e, by simp⟩, fun f => by have := hG k f; have := l1 k e; omega⟩, fun k e => ⟨by have := hG k e; omega, by simp⟩⟩, by omega, by simp⟩
end Go.Proofs.Ytacincpecdkhiaa
