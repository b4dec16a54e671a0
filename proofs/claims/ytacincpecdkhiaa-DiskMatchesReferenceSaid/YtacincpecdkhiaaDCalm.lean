/-
  A disk with power and without a cut, under writes that fit and syncs; a content beside it.
-/
import Derived.Test.YtacincpecdkhiaaDHelp
namespace Go.Proofs.Ytacincpecdkhiaa
open Go.RowKit
set_option linter.unusedVariables false

structure Calm (n : Nat) (s : DSt) : Prop where
  off : s.off = false
  left : s.left = 0
  dl : s.dur.length = n
  vl : s.vis.length = n

theorem Calm.new (n : Nat) : Calm n (DSt.new n) := ⟨rfl, rfl, by simp [DSt.new], by simp [DSt.new]⟩
section
variable {n : Nat} {s : DSt}
theorem Calm.write_eq (h : Calm n s) (o : Nat) (t : ByteArray) (ho : o + t.size ≤ n) : s.write o t = (0, s.wrote o t) := by
  have hi : s.inside o t.size = true := by rw [DSt.inside_iff, h.dl]; omega
  simp [DSt.write, h.off, hi]
theorem Calm.wrote (h : Calm n s) (o : Nat) (t : ByteArray) (ho : o + t.size ≤ n) : Calm n (s.wrote o t) := by
  refine ⟨?_, ?_, h.dl, ?_⟩
  · show decide (s.left = 1) = false
    rw [h.left]; rfl
  · show s.left - 1 = 0
    rw [h.left]
  · show (lay s.vis (((o : Int)).toNat, t)).length = n
    rw [lay_length (by rw [h.vl]; exact ho), h.vl]
theorem wrote_vis (s : DSt) (o : Nat) (t : ByteArray) : (s.wrote o t).vis = lay s.vis (o, t) := rfl
theorem wrote_dur (s : DSt) (o : Nat) (t : ByteArray) : (s.wrote o t).dur = s.dur := rfl
theorem wrote_pend (s : DSt) (o : Nat) (t : ByteArray) : (s.wrote o t).pend = s.pend ++ [(o, t)] := rfl
theorem Calm.sync_eq (h : Calm n s) : s.sync = (0, s.synced) := by simp [DSt.sync, h.off]
theorem Calm.synced (h : Calm n s) : Calm n s.synced := ⟨h.off, h.left, h.vl, h.vl⟩
theorem Calm.read_all (h : Calm n s) : s.read 0 n = (s.vis, 0) := by
  have hi : s.inside 0 n = true := by rw [DSt.inside_iff, h.dl]; omega
  have hp : s.part 0 n = s.vis := by
    simp only [DSt.part]
    rw [Int.toNat_natCast]
    have : (0 : Int).toNat = 0 := rfl
    rw [this, List.drop_zero, List.take_of_length_le (by rw [h.vl]; exact Nat.le_refl _)]
  simp [DSt.read, h.off, hi, hp]
end

/-- 'string(b)' of a content that lies whole in a block. -/
theorem run_string {w : World} {g n : Nat} {bs : List UInt8} (h : Blk w g 5 (cells8 bs).toArray) (hl : bs.length = n) :
    (convert 40 9 (.slice (some ⟨g, 0, none⟩) n n)).run Try.prog w = .ok (.string ⟨bs.toArray⟩) w := by
  have := run_convert_bytes_back (P := Try.prog) w 40 9 5 ⟨g, 0, none⟩ n bs Try.underlying40 Try.underlying5 Try.underlying9 (fun j hj => by
    rw [add_none, Nat.zero_add, h.cell j]
    simp only [List.getElem?_toArray]
    rw [cells8_get _ _ hj]
    rfl)
  rw [hl] at this
  exact this

/-- A disk at p, in blocks from B on and below M, and a content bs in block g, apart from it. -/
def DkBs (B M : Nat) (w : World) (p : Nat) (s : DSt) (g : Nat) (bs : List UInt8) : Prop :=
  ∃ F, Dk w p F s ∧ (∀ k, F k → B ≤ k ∧ k < M) ∧ ¬ F g ∧ B ≤ g ∧ Blk w g 5 (cells8 bs).toArray
section
variable {B M : Nat} {w w' : World} {p g : Nat} {s s' : DSt} {bs : List UInt8}
theorem DkBs.blk (h : DkBs B M w p s g bs) : Blk w g 5 (cells8 bs).toArray := by
  obtain ⟨F, _, _, _, _, hb⟩ := h
  exact hb
theorem DkBs.lt (h : DkBs B M w p s g bs) : B ≤ w.heap.size := by
  obtain ⟨F, _, _, _, hg, hb⟩ := h
  have := hb.lt
  omega
theorem DkBs.glt (h : DkBs B M w p s g bs) : g < w.heap.size := h.blk.lt
theorem DkBs.gB (h : DkBs B M w p s g bs) : B ≤ g := by
  obtain ⟨F, _, _, _, hg, hb⟩ := h
  exact hg
theorem DkBs.dk (h : DkBs B M w p s g bs) : DkB B w p s := by
  obtain ⟨F, hd, hF, _⟩ := h
  exact ⟨F, hd, fun k e => (hF k e).1⟩
theorem DkBs.only (h : DkBs B M w p s g bs) (hb : Below w.heap.size w w') : DkBs B M w' p s g bs := by
  obtain ⟨F, hd, hF, hn, hg, hbk⟩ := h
  exact ⟨F, hd.below hb, hF, hn, hg, hbk.below hb hbk.lt⟩
/-- The content was written. -/
theorem DkBs.put {bs' : List UInt8} (h : DkBs B M w p s g bs) (hb : Blk w' g 5 (cells8 bs').toArray) (o : Only (fun k => k = g) w w') : DkBs B M w' p s g bs' ∧ Below B w w' := by
  have hlt := h.lt
  obtain ⟨F, hd, hF, hn, hg, hbk⟩ := h
  exact ⟨⟨F, hd.only o (fun k e1 e2 => hn (e2 ▸ e1)), hF, hn, hg, hb⟩, o.below hlt (fun k e => by omega)⟩
/-- What a call of the disk leaves. -/
def StepBs (B M : Nat) (w : World) (p : Nat) (s' : DSt) (g : Nat) (bs : List UInt8) (w' : World) : Prop := DkBs B w'.heap.size w' p s' g bs ∧ Only (fun k => B ≤ k ∧ k < M ∧ k ≠ g) w w'
theorem StepBs.below {w0 : World} (h : StepBs B M w p s' g bs w') (h0 : Below B w0 w) (hg : g < w.heap.size) (hB : B ≤ g) : Below B w0 w' := h0.trans (h.2.below (by omega) fun k e => e.1)
theorem DkBs.step {F : Nat → Prop} (hF : ∀ k, F k → B ≤ k ∧ k < M) (hn : ¬ F g) (hg : B ≤ g) (hbk : Blk w g 5 (cells8 bs).toArray) (t : Step w p F s' w') : StepBs B M w p s' g bs w' := by
  obtain ⟨F', d, o, f⟩ := t
  have hlt := hbk.lt
  exact ⟨⟨F', d, fun k e => ⟨(f k e).elim (fun x => (hF k x).1) fun x => by omega, d.lt k e⟩, fun e => (f g e).elim hn fun x => by omega, hg, hbk.only o hn⟩, o.mono fun k _ e => ⟨(hF k e).1, (hF k e).2, fun x => hn (x ▸ e)⟩⟩
theorem DkBs.write (h : DkBs B M w p s g bs) (o : Int) (t : ByteArray) (hl : s.pend.length ≤ 1000000) : Calls Try.prog 21 #[.pointer (some ⟨p, 0, none⟩), .int .i64 o, .string t] w fun e w' => e = .returned (.int .i64 (s.write o t).1) ∧ StepBs B M w p (s.write o t).2 g bs w' := by
  obtain ⟨F, hd, hF, hn, hg, hb⟩ := h
  exact (hd.write o t hl).mono fun e w' ⟨he, t'⟩ => ⟨he, DkBs.step hF hn hg hb t'⟩
theorem DkBs.sync (h : DkBs B M w p s g bs) : Calls Try.prog 23 #[.pointer (some ⟨p, 0, none⟩)] w fun e w' => e = .returned (.int .i64 s.sync.1) ∧ StepBs B M w p s.sync.2 g bs w' := by
  obtain ⟨F, hd, hF, hn, hg, hb⟩ := h
  exact hd.sync.mono fun e w' ⟨he, t'⟩ => ⟨he, DkBs.step hF hn hg hb t'⟩
theorem DkBs.cut (h : DkBs B M w p s g bs) (n : Int) (hn' : n ≤ 9223372036854775807) : Calls Try.prog 24 #[.pointer (some ⟨p, 0, none⟩), .int .i64 n] w fun e w' => e = .returned (.int .i64 (s.cut n).1) ∧ StepBs B M w p (s.cut n).2 g bs w' := by
  obtain ⟨F, hd, hF, hn, hg, hb⟩ := h
  exact (hd.cut n hn').mono fun e w' ⟨he, t'⟩ => ⟨he, DkBs.step hF hn hg hb t'⟩
theorem DkBs.crash (h : DkBs B M w p s g bs) (a : Option Addr) (len cap : Nat) (keep : List Int) (hI : Ints w.heap.size w (.slice a len cap) keep) (hreach : keep.length * 8 ≤ 140737488351232) (torn : Int) (ht : torn ≤ 9223372036854775807) :
    Calls Try.prog 25 #[.pointer (some ⟨p, 0, none⟩), .slice a len cap, .int .i64 torn] w fun e w' => e = .returned (.int .i64 0) ∧ StepBs B M w p (s.crash keep torn) g bs w' := by
  obtain ⟨F, hd, hF, hn, hg, hb⟩ := h
  exact (hd.crash a len cap keep hI hreach torn ht).mono fun e w' ⟨he, t'⟩ => ⟨he, DkBs.step hF hn hg hb t'⟩
/-- make([]byte, n) beside a disk. -/
theorem DkBs.made (h : DkB B w p s) (hB : B ≤ w.heap.size) (n : Nat) : DkBs B w.heap.size (w.alloc (.cells (madeCells #[Value.int .u8 0] n) 5)) p s w.heap.size (List.replicate n 0) ∧ Below B w (w.alloc (.cells (madeCells #[Value.int .u8 0] n) 5)) := by
  obtain ⟨F, hd, hF⟩ := h
  have hb := (Below.refl w.heap.size w).alloc (Nat.le_refl _) (.cells (madeCells #[Value.int .u8 0] n) 5)
  refine ⟨⟨F, hd.below hb, fun k e => ⟨hF k e, hd.lt k e⟩, fun e => by have := hd.lt _ e; omega, hB, ?_⟩, hb.mono hB⟩
  rw [← made8]
  exact Blk.new _ _ _
theorem DkBs.more {M' : Nat} (h : DkBs B M w p s g bs) (hM : M ≤ M') : DkBs B M' w p s g bs := by
  obtain ⟨F, hd, hF, hn, hg, hb⟩ := h
  exact ⟨F, hd, fun k e => ⟨(hF k e).1, Nat.lt_of_lt_of_le (hF k e).2 hM⟩, hn, hg, hb⟩
/-- A struct of three cells that was laid in block h, seen behind what turned elsewhere. -/
theorem three {S : Nat → Prop} {h : Nat} {t : TypeId} {c0 c1 c2 : Value} (hb : Blk w h t #[c0, c1, c2]) (o : Only S w w') (hn : ¬ S h) :
    Blk w' h t #[c0, c1, c2] ∧ w'.cell? ⟨h, 0, none⟩ = some c0 ∧ w'.cell? ⟨h, 1, none⟩ = some c1 ∧ w'.cell? ⟨h, 2, none⟩ = some c2 := by
  have hb' := hb.only o hn
  exact ⟨hb', hb'.cell 0, hb'.cell 1, hb'.cell 2⟩
end
end Go.Proofs.Ytacincpecdkhiaa
