/-
  Joined by program out of: Jn, Jlaw, JPlain.
-/
import Derived.Test.YtjlgkjhociaeiaaGreatDoorApp
namespace Go.Proofs.YtjlgkjhociaeiaaGreatDoor
open Go.RowKit
set_option linter.unusedVariables false

/-- What Open answers: the error, the journal, the disk behind it. -/
noncomputable def opn (d : DSt) : Int × Option Tape × DSt :=
  if d.off = true then (251, .none, d)
  else match Tape.none.load ⟨d.vis.toArray⟩ with
    | .none => (262, .none, d)
    | some t =>
      if (d.vis.drop t.size).all (· == 0) = true then (0, some t, d)
      else if (d.put t.size (zeros (d.dur.length - t.size))).1 = 0 then (0, some t, (d.put t.size (zeros (d.dur.length - t.size))).2)
      else ((d.put t.size (zeros (d.dur.length - t.size))).1, .none, (d.put t.size (zeros (d.dur.length - t.size))).2)
theorem clean_all (l : List UInt8) (n : Nat) : clean ⟨l.toArray⟩ n ↔ (l.drop n).all (· == 0) = true := by
  rw [clean_iff]
  simp
theorem Dk.apart {w : World} {p b : Nat} {F : Nat → Prop} {s : DSt} (h : Dk w p F s) {cs : Array Value} {ty : TypeId} {fz : Nat × Nat} (hb : w.heap[b]? = some (.cells cs ty fz)) (h1 : ty ≠ 97) (h2 : ty ≠ 5) (h3 : ty ≠ 92) : ¬ F b := by
  obtain ⟨r, _, hF, hd⟩ := h
  intro e
  rcases (hF b).2 e with rfl | rfl | rfl | hk
  · have := hd.blk
    unfold Blk at this
    rw [this] at hb
    injection hb with hb
    injection hb with _ hb _
    exact h1 hb.symm
  · have := hd.dur
    unfold Blk at this
    rw [this] at hb
    injection hb with hb
    injection hb with _ hb _
    exact h2 hb.symm
  · have := hd.vis
    unfold Blk at this
    rw [this] at hb
    injection hb with hb
    injection hb with _ hb _
    exact h2 hb.symm
  · rcases hd.pend.2 with ⟨q, _⟩ | ⟨g', cap, cur, q, _, hg, _⟩
    · rw [q] at hk; simp [Value.ownBlock] at hk
    · rw [q] at hk
      simp only [Value.ownBlock, Option.some.injEq] at hk
      subst hk
      rw [hg] at hb
      injection hb with hb
      injection hb with _ hb _
      exact h3 hb.symm
/-- A journal lies apart from its disk, of itself. -/
theorem JnAt.of {w : World} {b p : Nat} {F : Nat → Prop} {d : DSt} {t : Tape} {br : Bool} {rv : Value} (h : TapeAt w b 74 [.pointer (some ⟨p, 0, none⟩), .bool br] rv t) (hd : Dk w p F d) (hfit : t.size ≤ d.dur.length) (hfew : t.recs.length ≤ t.size) : JnAt w b p F d t br rv := by
  refine ⟨h, hd, hd.apart h.blk (by decide) (by decide) (by decide), fun k hk => ?_, hfit, hfew⟩
  rcases h.own.2 with ⟨q, _⟩ | ⟨g', cap, cur, q, _, hg, _⟩
  · rw [q] at hk; simp [Value.ownBlock] at hk
  · rw [q] at hk
    simp only [Value.ownBlock, Option.some.injEq] at hk
    subst hk
    exact hd.apart hg (by decide) (by decide) (by decide)
theorem load_few : ∀ (n : Nat) (t t' : Tape) (s : ByteArray), s.size - t.size ≤ n → t.recs.length ≤ t.size → t.load s = some t' → t'.recs.length ≤ t'.size
  | n, t, t', s, hn, ht, h => by
    rw [Tape.load] at h
    split at h
    · rename_i hlt
      split at h
      · cases h; exact ht
      · split at h
        · split at h
          · simp at h
          · rename_i r x hd
            split at h
            · rename_i hc
              have hp := stored_pos r (chain t.head r)
              have e : (t.add r).size = t.size + (stored r (chain t.head r)).size := rfl
              have e2 : (t.add r).recs.length = t.recs.length + 1 := by simp [Tape.add]
              match n, hn with
              | 0, hn => omega
              | n + 1, hn => exact load_few n (t.add r) t' s (by omega) (by omega) h
            · simp at h
        · simp at h
    · cases h; exact ht
def OpPost (w : World) (p : Nat) (F : Nat → Prop) (r : Int × Option Tape × DSt) (e : Ending) (w' : World) : Prop :=
  (match r.2.1 with
    | some t => r.1 = 0 ∧ ∃ b rv F', e = .returned (.tuple #[.pointer (some ⟨b, 0, none⟩), .int .i64 0]) ∧ JnAt w' b p F' r.2.2 t false rv ∧ w.heap.size ≤ b ∧ (∀ k, rv.ownBlock = some k → w.heap.size ≤ k) ∧ Only F w w' ∧ ∀ k, F' k → F k ∨ w.heap.size ≤ k
    | .none => r.1 ≠ 0 ∧ e = .returned (.tuple #[.pointer .none, .int .i64 r.1]) ∧ Step w p F r.2.2 w')
theorem Open_any {w : World} {p : Nat} {F : Nat → Prop} {s : DSt} {a : Addr} (g : Gl w a) (h : Dk w p F s) (hl : s.pend.length ≤ 1000000) :
    Calls Tryz.prog 25 #[.pointer (some ⟨p, 0, none⟩)] w fun e w' => OpPost w p F (opn s) e w' := by
  obtain ⟨hv, hsm⟩ := h.lens
  unfold opn
  cases ho : s.off with
  | true =>
    rw [if_pos rfl]
    refine (Open_off h ho).mono ?_
    rintro e w' ⟨rfl, hb⟩
    exact ⟨by show (251 : Int) ≠ 0; decide, rfl, F, h.below hb, Only.of_below hb F, fun k e => .inl e⟩
  | false =>
    rw [if_neg (by simp)]
    rcases hR : Tape.none.load ⟨s.vis.toArray⟩ with _ | t
    · refine (Open_bad g h ho hv hsm hR).mono ?_
      rintro e w' ⟨rfl, hb⟩
      exact ⟨by show (262 : Int) ≠ 0; decide, rfl, F, h.below hb, Only.of_below hb F, fun k e => .inl e⟩
    · have hS : (⟨s.vis.toArray⟩ : ByteArray).size = s.dur.length := by rw [← hv]; simp [ByteArray.size]
      have hts := Tape.load_size _ _ _ _ (Nat.le_refl _) (Nat.zero_le _) hR
      rw [hS] at hts
      have htf := load_few _ _ _ _ (Nat.le_refl _) (Nat.le_refl _) hR
      simp only
      by_cases hc : (s.vis.drop t.size).all (· == 0) = true
      · rw [if_pos hc]
        refine (Open_fine g h ho hv hsm hR ((clean_all _ _).2 hc)).mono ?_
        rintro e w' ⟨b, rv, rfl, hT, hb, hf, hB⟩
        exact ⟨rfl, b, rv, F, rfl, JnAt.of hT (h.below hB) hts htf, hb, hf, Only.of_below hB F, fun k e => .inl e⟩
      · rw [if_neg hc]
        refine (Open_tail g h ho hv hsm hR hl (fun e => hc ((clean_all _ _).1 e))).mono ?_
        rintro e w' ⟨⟨F', d', o', f'⟩, hh⟩
        have hlen := (DSt.put_len (o := (t.size : Int)) (s := zeros (s.dur.length - t.size)) hv).2
        rcases hh with ⟨h0, b, rv, rfl, hT, hb, hf⟩ | ⟨h0, rfl⟩
        · rw [if_pos h0]
          exact ⟨rfl, b, rv, F', rfl, JnAt.of hT d' (by rw [hlen]; exact hts) htf, hb, hf, o', f'⟩
        · rw [if_neg h0]
          exact ⟨h0, rfl, F', d', o', f'⟩
end Go.Proofs.YtjlgkjhociaeiaaGreatDoor
namespace Go.Proofs.YtjlgkjhociaeiaaGreatDoor
open Go.RowKit
set_option linter.unusedVariables false

/-- The law's world: from block B on it is the law's; the variables of the program lie below. -/
structure JW (B : Nat) (a : Addr) (w : World) : Prop where
  size : B ≤ w.heap.size
  gl : Gl w a
  g1 : 3 < B
  g2 : 0 < B
theorem JW.below {B : Nat} {a : Addr} {w w' : World} (h : JW B a w) (hb : Below B w w') : JW B a w' :=
  ⟨Nat.le_trans h.size hb.size, h.gl.only (S := fun k => B ≤ k) ⟨hb.os, hb.tape, hb.output, hb.size, fun k _ hn => hb.block k (by omega)⟩ (fun k hk => ⟨by have := h.g1; omega, by have := h.g2; omega⟩), h.g1, h.g2⟩
theorem JW.start {a : Addr} {w : World} (g : Gl w a) : JW w.heap.size a w := ⟨Nat.le_refl _, g, g.tab.lt, g.sen.lt⟩

/-- Rows of strings stand as they stood. -/
def Keep (w w' : World) : Prop := ∀ (g : Nat) (cs : Array Value) (fz : Nat × Nat), w.heap[g]? = some (Obj.cells cs 9 fz) → w'.heap[g]? = some (Obj.cells cs 9 fz)
theorem Keep.refl (w : World) : Keep w w := fun _ _ _ h => h
theorem Keep.trans {a b c : World} (h : Keep a b) (k : Keep b c) : Keep a c := fun g cs fz q => k g cs fz (h g cs fz q)
theorem Keep.of {w w' : World} (h : Below w.heap.size w w') : Keep w w' := fun g cs fz q => (h.block g (Array.getElem?_eq_some_iff.1 q).1).trans q
theorem Keep.row {w w' : World} (h : Keep w w') {base size n : Nat} {v : Value} {xs : List Value} (ho : w.ownsRow base 9 size v n xs) : w'.ownsRow base 9 size v n xs := by
  refine ⟨ho.1, ?_⟩
  rcases ho.2 with hx | ⟨g', cap, cur, rfl, hb, hh, rest⟩
  · exact .inl hx
  · exact .inr ⟨g', cap, cur, rfl, hb, h g' _ _ hh, rest⟩
/-- All that is no part of a disk stands as it stood. -/
def KeepO (w w' : World) : Prop := ∀ (g : Nat) (cs : Array Value) (ty : TypeId) (fz : Nat × Nat), w.heap[g]? = some (Obj.cells cs ty fz) → ty ≠ 97 → ty ≠ 5 → ty ≠ 92 → w'.heap[g]? = some (Obj.cells cs ty fz)
theorem KeepO.refl (w : World) : KeepO w w := fun _ _ _ _ h _ _ _ => h
theorem KeepO.trans {a b c : World} (h : KeepO a b) (k : KeepO b c) : KeepO a c := fun g cs ty fz q h1 h2 h3 => k g cs ty fz (h g cs ty fz q h1 h2 h3) h1 h2 h3
theorem KeepO.of {w w' : World} (h : Below w.heap.size w w') : KeepO w w' := fun g cs ty fz q _ _ _ => (h.block g (Array.getElem?_eq_some_iff.1 q).1).trans q
theorem KeepO.keep {w w' : World} (h : KeepO w w') : Keep w w' := fun g cs fz q => h g cs _ fz q (by decide) (by decide) (by decide)
/-- A row of strings that was made by the law. -/
def Row (w : World) (v : Value) (zs : List ByteArray) : Prop := w.ownsRow 0 9 1 v zs.length (zs.map Value.string)
theorem Row.keep {w w' : World} {v : Value} {zs : List ByteArray} (h : Row w v zs) (k : Keep w w') : Row w' v zs := k.row h
theorem Row.of {w : World} {B : Nat} {v : Value} {zs : List ByteArray} (h : w.ownsRow B 9 1 v zs.length (zs.map Value.string)) : Row w v zs := ownsRow_base h (fun _ _ => Nat.zero_le _)
theorem Row.nil (w : World) : Row w (.slice none 0 0) [] := ⟨rfl, .inl ⟨rfl, rfl⟩⟩
theorem Row.strs {w : World} {v : Value} {zs : List ByteArray} (h : Row w v zs) : StrsAt w v zs := by
  unfold Row at h
  rcases h.2 with ⟨rfl, h0⟩ | ⟨g, cap, cur, rfl, _, hh, _, _, hs, hx⟩
  · exact .inl ⟨none, 0, rfl, List.length_eq_zero_iff.1 h0⟩
  · refine .inr ⟨g, 0, cap, rfl, (Array.getElem?_eq_some_iff.1 hh).1, fun j hj => ?_⟩
    rw [Nat.zero_add, cell_of_row w g j cur 9 (0, 0) hh]
    have e : (cur.toList.take zs.length)[j]? = (zs.map Value.string)[j]? := by rw [← hx, Nat.mul_one]
    rw [List.getElem?_take_of_lt hj, Array.getElem?_toList] at e
    rw [e]
    simp [hj]
theorem Row.form {w : World} {v : Value} {zs : List ByteArray} (h : Row w v zs) : ∃ a c, v = .slice a zs.length c := ownsRow_form h

/-- A disk. -/
def DJ (B : Nat) (a : Addr) (w : World) (p : Nat) (d : DSt) : Prop := JW B a w ∧ DkB B w p d
/-- A journal on a disk. -/
def JL (B : Nat) (a : Addr) (w : World) (b p : Nat) (d : DSt) (t : Tape) (br : Bool) : Prop :=
  JW B a w ∧ ∃ F rv, JnAt w b p F d t br rv ∧ (∀ k, F k → B ≤ k) ∧ B ≤ b ∧ ∀ k, rv.ownBlock = some k → B ≤ k
/-- A journal that is only read. -/
def JR (w : World) (b : Nat) (t : Tape) (rest : List Value) : Prop := ∃ rv, TapeAt w b 74 rest rv t
theorem JR.keep {w w' : World} {b : Nat} {t : Tape} {rest : List Value} (h : JR w b t rest) (k : KeepO w w') : JR w' b t rest := by
  obtain ⟨rv, h⟩ := h
  exact ⟨rv, k b _ _ _ h.blk (by decide) (by decide) (by decide), h.ne, k.keep.row h.own, h.head, h.small, h.few⟩

section
variable {B : Nat} {a : Addr} {w w' : World} {b p : Nat} {d : DSt} {t : Tape} {br : Bool}
theorem JL.dj (h : JL B a w b p d t br) : DJ B a w p d := by
  obtain ⟨hw, F, rv, hj, hF, _⟩ := h
  exact ⟨hw, F, hj.dk, hF⟩
theorem JL.jw (h : JL B a w b p d t br) : JW B a w := h.1
theorem JL.lens (h : JL B a w b p d t br) : d.vis.length = d.dur.length ∧ d.dur.length ≤ 4194304 ∧ t.size ≤ d.dur.length ∧ t.recs.length ≤ t.size := by
  obtain ⟨hw, F, rv, hj, hF, _⟩ := h
  exact ⟨hj.dk.lens.1, hj.dk.lens.2, hj.fit, hj.few⟩
theorem DJ.below (h : DJ B a w p d) (hb : Below w.heap.size w w') : DJ B a w' p d := ⟨h.1.below (hb.mono h.1.size), h.2.below hb⟩
theorem JL.below (h : JL B a w b p d t br) (hb : Below w.heap.size w w') : JL B a w' b p d t br := by
  obtain ⟨hw, F, rv, hj, hF, hB, hr⟩ := h
  have o := Only.of_below hb (fun _ => False)
  exact ⟨hw.below (hb.mono hw.size), F, rv, ⟨hj.tape.only o id (fun _ _ e => e), hj.dk.below hb, hj.nb, hj.nr, hj.fit, hj.few⟩, hF, hB, hr⟩
theorem JL.only (h : JL B a w b p d t br) (o : Only (fun _ => False) w w') : JL B a w' b p d t br := h.below (o.below (Nat.le_refl _) (fun _ e => e.elim))

/-- What a call leaves: below B nothing has turned, and no row of strings. -/
def Left (B : Nat) (w w' : World) : Prop := Below B w w' ∧ Keep w w'
theorem Left.of (hB : B ≤ w.heap.size) (h : Below w.heap.size w w') : Left B w w' := ⟨h.mono hB, Keep.of h⟩
theorem Left.trans {w'' : World} (h : Left B w w') (k : Left B w' w'') : Left B w w'' := ⟨h.1.trans k.1, h.2.trans k.2⟩
theorem Left.refl (w : World) : Left B w w := ⟨Below.refl _ _, Keep.refl _⟩
/-- The same, of a call that turns a disk alone. -/
def LeftO (B : Nat) (w w' : World) : Prop := Below B w w' ∧ KeepO w w'
theorem LeftO.of (hB : B ≤ w.heap.size) (h : Below w.heap.size w w') : LeftO B w w' := ⟨h.mono hB, KeepO.of h⟩
theorem LeftO.trans {w'' : World} (h : LeftO B w w') (k : LeftO B w' w'') : LeftO B w w'' := ⟨h.1.trans k.1, h.2.trans k.2⟩
theorem LeftO.refl (w : World) : LeftO B w w := ⟨Below.refl _ _, KeepO.refl _⟩
theorem LeftO.left (h : LeftO B w w') : Left B w w' := ⟨h.1, h.2.keep⟩
theorem keep_disk {F : Nat → Prop} (hd : Dk w p F d) (o : Only F w w') : KeepO w w' := fun g cs ty fz q h1 h2 h3 => (o.block g (Array.getElem?_eq_some_iff.1 q).1 (hd.apart q h1 h2 h3)).trans q
theorem DJ.step {d' : DSt} {F : Nat → Prop} (hw : JW B a w) (hd : Dk w p F d) (hF : ∀ k, F k → B ≤ k) (h : Step w p F d' w') : DJ B a w' p d' ∧ LeftO B w w' := by
  obtain ⟨F', d1, o, f⟩ := h
  have hb : Below B w w' := o.below hw.size hF
  exact ⟨⟨hw.below hb, F', d1, fun k e => (f k e).elim (hF k) fun q => Nat.le_trans hw.size q⟩, hb, keep_disk hd o⟩
theorem JL.step {d' : DSt} {F : Nat → Prop} {rv : Value} (hw : JW B a w) (hj : JnAt w b p F d t br rv) (hF : ∀ k, F k → B ≤ k) (hB : B ≤ b) (hr : ∀ k, rv.ownBlock = some k → B ≤ k) (hl : d'.dur.length = d.dur.length) (h : Step w p F d' w') : JL B a w' b p d' t br ∧ LeftO B w w' := by
  obtain ⟨F', d1, o, f⟩ := h
  have hb : Below B w w' := o.below hw.size hF
  exact ⟨⟨hw.below hb, F', rv, JnAt.of (hj.tape.only o hj.nb hj.nr) d1 (by rw [hl]; exact hj.fit) hj.few, fun k e => (f k e).elim (hF k) fun q => Nat.le_trans hw.size q, hB, hr⟩, hb, keep_disk hj.dk o⟩

theorem DJ.new (n : Nat) (hw : JW B a w) (h1 : 1 ≤ n) (h2 : n ≤ 4194304) :
    Calls Tryz.prog 24 #[.int .i64 (n : Int)] w fun e w' => ∃ p, e = .returned (.tuple #[.pointer (some ⟨p, 0, none⟩), .int .i64 0]) ∧ DJ B a w' p (DSt.new n) ∧ LeftO B w w' :=
  (Dk.new n w h1 h2).mono fun e w' ⟨p, F, he, hd, hF, hb⟩ => ⟨p, he, ⟨hw.below (hb.mono hw.size), F, hd, fun k e => Nat.le_trans hw.size (hF k e)⟩, LeftO.of hw.size hb⟩
theorem DJ.pending (h : DJ B a w p d) : Calls Tryz.prog 32 #[.pointer (some ⟨p, 0, none⟩)] w fun e w' => e = .returned (.int .i64 (d.pend.length : Int)) ∧ w = w' := h.2.pending
theorem DJ.size (h : DJ B a w p d) : Calls Tryz.prog 51 #[.pointer (some ⟨p, 0, none⟩)] w fun e w' => e = .returned (.int .i64 (d.dur.length : Int)) ∧ w = w' := h.2.size
theorem DJ.read (h : DJ B a w p d) (o n : Int) : Calls Tryz.prog 52 #[.pointer (some ⟨p, 0, none⟩), .int .i64 o, .int .i64 n] w fun e w' => e = .returned (.tuple #[.string ⟨(d.read o n).1.toArray⟩, .int .i64 (d.read o n).2]) ∧ w = w' := h.2.read o n
theorem DJ.write (h : DJ B a w p d) (o : Int) (s : ByteArray) (hl : d.pend.length ≤ 1000000) : Calls Tryz.prog 13 #[.pointer (some ⟨p, 0, none⟩), .int .i64 o, .string s] w fun e w' => e = .returned (.int .i64 (d.write o s).1) ∧ DJ B a w' p (d.write o s).2 ∧ LeftO B w w' := by
  obtain ⟨hw, F, hd, hF⟩ := h
  exact (hd.write o s hl).mono fun e w' ⟨he, hs⟩ => ⟨he, DJ.step hw hd hF hs⟩
theorem DJ.cut (h : DJ B a w p d) (n : Int) (hn : n ≤ 9223372036854775807) : Calls Tryz.prog 29 #[.pointer (some ⟨p, 0, none⟩), .int .i64 n] w fun e w' => e = .returned (.int .i64 (d.cut n).1) ∧ DJ B a w' p (d.cut n).2 ∧ LeftO B w w' := by
  obtain ⟨hw, F, hd, hF⟩ := h
  exact (hd.cut n hn).mono fun e w' ⟨he, hs⟩ => ⟨he, DJ.step hw hd hF hs⟩
theorem DSt.cut_dur (d : DSt) (n : Int) : (d.cut n).2.dur.length = d.dur.length ∧ (d.cut n).2.pend = d.pend ∧ (d.cut n).2.vis = d.vis ∧ (d.cut n).2.dur = d.dur := by
  unfold DSt.cut
  split
  · exact ⟨rfl, rfl, rfl, rfl⟩
  · split <;> exact ⟨rfl, rfl, rfl, rfl⟩
theorem JL.cut (h : JL B a w b p d t br) (n : Int) (hn : n ≤ 9223372036854775807) : Calls Tryz.prog 29 #[.pointer (some ⟨p, 0, none⟩), .int .i64 n] w fun e w' => e = .returned (.int .i64 (d.cut n).1) ∧ JL B a w' b p (d.cut n).2 t br ∧ LeftO B w w' := by
  obtain ⟨hw, F, rv, hj, hF, hB, hr⟩ := h
  exact (hj.dk.cut n hn).mono fun e w' ⟨he, hs⟩ => ⟨he, JL.step hw hj hF hB hr (d.cut_dur n).1 hs⟩
theorem JL.write (h : JL B a w b p d t br) (o : Int) (s : ByteArray) (hl : d.pend.length ≤ 1000000) : Calls Tryz.prog 13 #[.pointer (some ⟨p, 0, none⟩), .int .i64 o, .string s] w fun e w' => e = .returned (.int .i64 (d.write o s).1) ∧ JL B a w' b p (d.write o s).2 t br ∧ LeftO B w w' := by
  obtain ⟨hw, F, rv, hj, hF, hB, hr⟩ := h
  exact (hj.dk.write o s hl).mono fun e w' ⟨he, hs⟩ => ⟨he, JL.step hw hj hF hB hr (DSt.write_len hj.dk.lens.1).2 hs⟩
theorem JL.append (h : JL B a w b p d t br) {v : Value} {l : List ByteArray} (hv : StrsAt w v l) (hl : l.length ≤ 1000) (hp : d.pend.length ≤ 999999) :
    Calls Tryz.prog 10 #[.pointer (some ⟨b, 0, none⟩), v] w fun e w' => e = .returned (.int .i64 (app t br d l).1) ∧ JL B a w' b p (app t br d l).2.2.2 (app t br d l).2.1 (app t br d l).2.2.1 ∧ Left B w w' := by
  obtain ⟨hw, F, rv, hj, hF, hB, hr⟩ := h
  refine (Append_any hw.gl hj hv hl hp).mono ?_
  rintro e w' ⟨rfl, rv', F', hj', o, f, r'⟩
  have hb : Below B w w' := o.below hw.size (fun k e => e.elim (fun q => q ▸ hB) (hF k))
  refine ⟨rfl, ⟨hw.below hb, F', rv', hj', fun k e => (f k e).elim (hF k) fun q => Nat.le_trans hw.size q, hB, fun k e => (r' k e).elim (hr k) fun q => Nat.le_trans hw.size q⟩, hb, fun g cs fz q => (o.block g (Array.getElem?_eq_some_iff.1 q).1 ?_).trans q⟩
  rintro (rfl | e)
  · have := hj.tape.blk
    unfold Blk at this
    rw [this] at q
    injection q with q
    injection q with _ q _
    exact absurd q (by decide)
  · exact hj.dk.apart q (by decide) (by decide) (by decide) e
theorem JL.room (h : JL B a w b p d t br) : Calls Tryz.prog 20 #[.pointer (some ⟨b, 0, none⟩)] w fun e w' => e = .returned (.int .i64 ((d.dur.length : Int) - t.size)) ∧ JL B a w' b p d t br ∧ LeftO B w w' := by
  have h0 := h
  obtain ⟨hw, F, rv, hj, hF, hB, hr⟩ := h
  exact (Room_any hj.tape hj.dk hj.dk.lens.2).mono fun e w' ⟨he, o⟩ => ⟨he, h0.only o, LeftO.of hw.size (o.below (Nat.le_refl _) (fun _ e => e.elim))⟩
theorem JL.records (h : JL B a w b p d t br) : Calls Tryz.prog 19 #[.pointer (some ⟨b, 0, none⟩)] w fun e w' => ∃ v, e = .returned v ∧ Row w' v t.recs ∧ JL B a w' b p d t br ∧ LeftO B w w' := by
  have h0 := h
  obtain ⟨hw, F, rv, hj, hF, hB, hr⟩ := h
  exact (Records_any hj.tape).mono fun e w' ⟨v, he, ho, hb⟩ => ⟨v, he, Row.of ho, h0.below hb, LeftO.of hw.size hb⟩
theorem JL.jr (h : JL B a w b p d t br) : JR w b t [.pointer (some ⟨p, 0, none⟩), .bool br] := by
  obtain ⟨hw, F, rv, hj, _⟩ := h
  exact ⟨rv, hj.tape⟩
theorem JR.room (h : JR w b t [.pointer (some ⟨p, 0, none⟩), .bool br]) (hd : DJ B a w p d) : Calls Tryz.prog 20 #[.pointer (some ⟨b, 0, none⟩)] w fun e w' => e = .returned (.int .i64 ((d.dur.length : Int) - t.size)) ∧ Below w.heap.size w w' := by
  obtain ⟨rv, h⟩ := h
  obtain ⟨hw, F, hd, hF⟩ := hd
  exact (Room_any h hd hd.lens.2).mono fun e w' ⟨he, o⟩ => ⟨he, o.below (Nat.le_refl _) (fun _ e => e.elim)⟩
theorem JR.records {rest : List Value} (h : JR w b t rest) : Calls Tryz.prog 19 #[.pointer (some ⟨b, 0, none⟩)] w fun e w' => ∃ v, e = .returned v ∧ Row w' v t.recs ∧ Below w.heap.size w w' := by
  obtain ⟨rv, h⟩ := h
  exact (Records_any h).mono fun e w' ⟨v, he, ho, hb⟩ => ⟨v, he, Row.of ho, hb⟩
/-- Open, of a disk. -/
theorem DJ.open (h : DJ B a w p d) (hl : d.pend.length ≤ 1000000) : Calls Tryz.prog 25 #[.pointer (some ⟨p, 0, none⟩)] w fun e w' => LeftO B w w' ∧
    match (opn d).2.1 with
    | some t => (opn d).1 = 0 ∧ ∃ b, e = .returned (.tuple #[.pointer (some ⟨b, 0, none⟩), .int .i64 0]) ∧ JL B a w' b p (opn d).2.2 t false ∧ w.heap.size ≤ b
    | none => (opn d).1 ≠ 0 ∧ e = .returned (.tuple #[.pointer none, .int .i64 (opn d).1]) ∧ DJ B a w' p (opn d).2.2 := by
  obtain ⟨hw, F, hd, hF⟩ := h
  refine (Open_any hw.gl hd hl).mono ?_
  intro e w' hp
  unfold OpPost at hp
  rcases hr : (opn d).2.1 with _ | t
  · rw [hr] at hp
    obtain ⟨h0, rfl, hs⟩ := hp
    have := DJ.step hw hd hF hs
    exact ⟨this.2, h0, rfl, this.1⟩
  · rw [hr] at hp
    obtain ⟨h0, b, rv, F', rfl, hj, hb, hrv, o, f⟩ := hp
    have hbl : Below B w w' := o.below hw.size hF
    exact ⟨⟨hbl, keep_disk hd o⟩, h0, b, rfl, ⟨hw.below hbl, F', rv, hj, fun k e => (f k e).elim (hF k) fun q => Nat.le_trans hw.size q, Nat.le_trans hw.size hb, fun k e => Nat.le_trans hw.size (hrv k e)⟩, hb⟩
end
end Go.Proofs.YtjlgkjhociaeiaaGreatDoor
namespace Go.Proofs.YtjlgkjhociaeiaaGreatDoor
set_option linter.unusedVariables false

/-- The tape of a list of records, and its bytes. -/
def tp (l : List ByteArray) : Tape := Tape.none.adds l
def enc (l : List ByteArray) : List UInt8 := Tape.none.out l
theorem tp_size (l : List ByteArray) : (tp l).size = (enc l).length := by unfold tp enc; rw [Tape.adds_size]; exact Nat.zero_add _
theorem tp_recs (l : List ByteArray) : (tp l).recs = l := by unfold tp; rw [Tape.adds_recs]; rfl
theorem tp_append (l m : List ByteArray) : (tp l).adds m = tp (l ++ m) := (Tape.adds_append _ l m).symm
theorem enc_append (l m : List ByteArray) : enc (l ++ m) = enc l ++ (tp l).out m := Tape.out_append l m _
theorem tp_nil : tp [] = Tape.none := rfl
theorem enc_nil : enc [] = [] := rfl

theorem lay_mid (A X C : List UInt8) (o : Nat) (s : ByteArray) (ho : o = A.length) (hx : s.size = X.length) : lay (A ++ (X ++ C)) (o, s) = A ++ (s.data.toList ++ C) := by
  subst ho
  unfold lay splice
  have e : s.data.toList.length = X.length := by rw [data_len, hx]
  rw [e, List.take_left, ← List.drop_drop, List.drop_left, List.drop_left]
theorem rep_split (a b : Nat) : List.replicate (a + b) (0 : UInt8) = List.replicate a 0 ++ List.replicate b 0 := by rw [List.replicate_append_replicate]

/-- The disk holds the records of l and nothing else; nothing is pending. -/
structure Held (n : Nat) (d : DSt) (l : List ByteArray) : Prop where
  off : d.off = false
  pend : d.pend = []
  dur : d.dur = d.vis
  vis : ∃ k, d.vis = enc l ++ List.replicate k 0
  len : d.vis.length = n
  small : ∀ r ∈ l, r.size ≤ 65536
/-- The same, but behind the records there may be a rest, whose first byte is 0; no power failure is planned. -/
structure Rec (n : Nat) (d : DSt) (l : List ByteArray) : Prop where
  off : d.off = false
  left : d.left = 0
  pend : d.pend = []
  dur : d.dur = d.vis
  vis : ∃ rest : List UInt8, d.vis = enc l ++ rest ∧ ∀ c, rest[0]? = some c → c = 0
  len : d.vis.length = n
  small : ∀ r ∈ l, r.size ≤ 65536
theorem held_new (n : Nat) : Held n (DSt.new n) [] := ⟨rfl, rfl, rfl, ⟨n, by simp [DSt.new, enc_nil]⟩, by simp [DSt.new], by simp⟩

section
variable {n : Nat} {d : DSt} {l m : List ByteArray}
theorem Held.fits (h : Held n d l) : (enc l).length ≤ n := by
  obtain ⟨k, e⟩ := h.vis
  have := h.len
  rw [e, List.length_append] at this
  omega
theorem Held.durlen (h : Held n d l) : d.dur.length = n := by rw [h.dur, h.len]
theorem Held.toRec (h : Held n d l) (h0 : d.left = 0) : Rec n d l := by
  obtain ⟨k, e⟩ := h.vis
  refine ⟨h.off, h0, h.pend, h.dur, ⟨_, e, fun c hc => ?_⟩, h.len, h.small⟩
  rw [List.getElem?_replicate] at hc
  split at hc
  · injection hc with hc; exact hc.symm
  · cases hc
theorem Held.cut (h : Held n d l) (c : Int) (hc : 1 ≤ c) : Held n (d.cut c).2 l ∧ (d.cut c).1 = 0 ∧ (d.cut c).2.left = c.toNat := by
  have e : d.cut c = (0, { d with off := decide (c = 0), left := c.toNat }) := by
    unfold DSt.cut
    rw [if_neg (by rw [h.off]; simp), if_neg (by omega)]
  rw [e]
  exact ⟨⟨decide_eq_false (by omega), h.pend, h.dur, h.vis, h.len, h.small⟩, rfl, rfl⟩
theorem Held.crash (h : Held n d l) (keep : List Int) (torn : Int) : Held n (d.crash keep torn) l ∧ (d.crash keep torn).left = 0 := by
  have e : d.kept keep = [] := by simp [DSt.kept, h.pend]
  have e2 : d.crash keep torn = { off := false, left := 0, dur := d.dur, vis := d.dur, pend := [] } := by
    unfold DSt.crash
    rw [e]
    rfl
  rw [e2]
  obtain ⟨k, hk⟩ := h.vis
  exact ⟨⟨rfl, rfl, rfl, ⟨k, by show d.dur = _; rw [h.dur, hk]⟩, by show d.dur.length = _; rw [h.dur, h.len], h.small⟩, rfl⟩
/-- What an opening makes of it. -/
theorem Rec.open (h : Rec n d l) : ∃ d', opn d = (0, some (tp l), d') ∧ Held n d' l ∧ d'.left = 0 := by
  obtain ⟨rest, hv, hr⟩ := h.vis
  have hL : Tape.none.load ⟨d.vis.toArray⟩ = some (tp l) := by
    refine load_zero Tape.none ⟨d.vis.toArray⟩ 0 l h.small rest hr ?_
    show d.vis.drop 0 = _
    rw [List.drop_zero]
    exact hv
  unfold opn
  rw [if_neg (by rw [h.off]; simp), hL]
  simp only
  have hdrop : d.vis.drop (tp l).size = rest := by rw [tp_size, hv, List.drop_left]
  rw [hdrop]
  have hlen : (enc l).length + rest.length = n := by rw [← List.length_append, ← hv]; exact h.len
  by_cases hc : rest.all (· == 0) = true
  · rw [if_pos hc]
    refine ⟨d, rfl, ⟨h.off, h.pend, h.dur, ⟨rest.length, ?_⟩, h.len, h.small⟩, h.left⟩
    rw [hv]
    have : rest = List.replicate rest.length 0 := by
      rw [List.eq_replicate_iff]
      exact ⟨rfl, fun c hc' => by simpa using List.all_eq_true.1 hc c hc'⟩
    rw [← this]
  · rw [if_neg hc]
    have hz : (zeros (d.dur.length - (tp l).size)).size = rest.length := by
      show (List.replicate _ (0 : UInt8)).toArray.size = _
      rw [List.size_toArray, List.length_replicate, h.dur, tp_size, h.len]
      omega
    have hzd : (zeros (d.dur.length - (tp l).size)).data.toList = List.replicate rest.length 0 := by
      have : (zeros (d.dur.length - (tp l).size)).data.toList = List.replicate (d.dur.length - (tp l).size) 0 := rfl
      rw [this, h.dur, tp_size, h.len]
      congr 1
      omega
    have hi : d.inside ((tp l).size : Int) ((zeros (d.dur.length - (tp l).size)).size : Int) = true := by
      rw [DSt.inside_iff, hz, h.dur, tp_size, h.len]
      omega
    have hlay : lay d.vis ((tp l).size, zeros (d.dur.length - (tp l).size)) = enc l ++ List.replicate rest.length 0 := by
      have := lay_mid (enc l) rest [] (tp l).size (zeros (d.dur.length - (tp l).size)) (tp_size l) hz
      rw [List.append_nil, List.append_nil, ← hv, hzd] at this
      exact this
    have hw : d.write (tp l).size (zeros (d.dur.length - (tp l).size)) = (0, d.wrote (tp l).size (zeros (d.dur.length - (tp l).size))) := by
      unfold DSt.write
      rw [if_neg (by rw [h.off]; simp), if_pos hi]
    have hp : d.put (tp l).size (zeros (d.dur.length - (tp l).size)) = (0, (d.wrote (tp l).size (zeros (d.dur.length - (tp l).size))).synced) := by
      unfold DSt.put
      rw [hw, if_neg (by simp)]
      unfold DSt.sync
      rw [if_neg (by simp [DSt.wrote, h.left])]
    rw [hp]
    refine ⟨_, rfl, ⟨?_, rfl, rfl, ⟨rest.length, ?_⟩, ?_, h.small⟩, ?_⟩
    · show decide (d.left = 1) = false
      rw [h.left]; rfl
    · show lay d.vis (((tp l).size : Int).toNat, _) = _
      rw [Int.toNat_natCast, hlay]
    · show (lay d.vis (((tp l).size : Int).toNat, _)).length = _
      rw [Int.toNat_natCast, hlay, List.length_append, List.length_replicate]
      exact hlen
    · show d.left - 1 = 0
      rw [h.left]

theorem Held.open (h : Held n d l) : opn d = (0, some (tp l), d) := by
  obtain ⟨k, hv⟩ := h.vis
  have hL : Tape.none.load ⟨d.vis.toArray⟩ = some (tp l) := by
    refine load_zero Tape.none ⟨d.vis.toArray⟩ 0 l h.small (List.replicate k 0) (fun c hc => ?_) ?_
    · rw [List.getElem?_replicate] at hc
      split at hc
      · injection hc with hc; exact hc.symm
      · cases hc
    · show d.vis.drop 0 = _
      rw [List.drop_zero]
      exact hv
  unfold opn
  rw [if_neg (by rw [h.off]; simp), hL]
  simp only
  rw [if_pos (by rw [tp_size, hv, List.drop_left]; simp)]
theorem Held.read (h : Held n d l) : d.read 0 (d.dur.length : Int) = (d.vis, 0) := read_all h.off (by rw [h.dur])
/-- A group's bytes: the first one is 1. -/
theorem out_head (t : Tape) (hm : m ≠ []) : ∃ tl, t.out m = 1 :: tl := by
  cases m with
  | nil => exact absurd rfl hm
  | cons r m =>
    refine ⟨(putI r.size ++ r.data.toList ++ (chain t.head r).data.toList) ++ (t.add r).out m, ?_⟩
    show (stored r (chain t.head r)).data.toList ++ _ = _
    rw [stored_data, List.cons_append]
/-- What the four calls do, by when the power fails. -/
theorem Held.put (h : Held n d l) (hm : m ≠ []) (hfit : (enc l).length + ((tp l).out m).length ≤ n) :
    ∃ (tl : List UInt8) (k : Nat) (s1 s2 : ByteArray), (tp l).out m = 1 :: tl ∧ s1.data.toList = tl ∧ s2.data.toList = [1] ∧ d.vis = enc l ++ ([0] ++ (List.replicate tl.length 0 ++ List.replicate k 0)) ∧
      (d.left = 1 → putAll (tp l) d m = (251, { off := true, left := 0, dur := d.dur, vis := enc l ++ ([0] ++ (tl ++ List.replicate k 0)), pend := [((enc l).length + 1, s1)] })) ∧
      (d.left = 2 → putAll (tp l) d m = (251, { off := true, left := 0, dur := enc l ++ ([0] ++ (tl ++ List.replicate k 0)), vis := enc l ++ ([1] ++ (tl ++ List.replicate k 0)), pend := [((enc l).length, s2)] })) ∧
      (d.left ≠ 1 → d.left ≠ 2 → putAll (tp l) d m = (0, { off := false, left := d.left - 2, dur := enc l ++ ([1] ++ (tl ++ List.replicate k 0)), vis := enc l ++ ([1] ++ (tl ++ List.replicate k 0)), pend := [] })) := by
  obtain ⟨tl, ht⟩ := out_head (tp l) hm
  obtain ⟨K, hK⟩ := h.vis
  have hlen := h.len
  rw [hK, List.length_append, List.length_replicate] at hlen
  rw [ht, List.length_cons] at hfit
  obtain ⟨k, hk⟩ : ∃ k, K = 1 + (tl.length + k) := ⟨K - 1 - tl.length, by omega⟩
  have hv : d.vis = enc l ++ ([0] ++ (List.replicate tl.length 0 ++ List.replicate k 0)) := by rw [hK, hk, rep_split, rep_split]; rfl
  obtain ⟨S, hS⟩ : ∃ S, S = (tp l).outB m := ⟨_, rfl⟩
  have hSd : S.data.toList = 1 :: tl := by rw [hS]; exact ht
  have hSs : S.size = tl.length + 1 := by rw [← data_len, hSd]; rfl
  obtain ⟨s1, h1⟩ : ∃ s1, s1 = S.extract 1 S.size := ⟨_, rfl⟩
  obtain ⟨s2, h2⟩ : ∃ s2, s2 = S.extract 0 1 := ⟨_, rfl⟩
  have d1 : s1.data.toList = tl := by rw [h1, data_ext, ← data_len, List.take_length, hSd]; rfl
  have d2 : s2.data.toList = [1] := by rw [h2, data_ext, hSd]; rfl
  have z1 : s1.size = tl.length := by rw [← data_len, d1]
  have z2 : s2.size = 1 := by rw [← data_len, d2]; rfl
  have hdl := h.durlen
  have hpa : putAll (tp l) d m = d.put2 ((enc l).length + 1 : Int) s1 ((enc l).length : Int) s2 := by
    unfold putAll
    rw [← hS, ← h1, ← h2, tp_size]
  have hi1 : d.inside ((enc l).length + 1 : Int) (s1.size : Int) = true := by rw [DSt.inside_iff, hdl, z1]; omega
  have hw1 : d.write ((enc l).length + 1 : Int) s1 = (0, d.wrote ((enc l).length + 1 : Int) s1) := by
    unfold DSt.write
    rw [if_neg (by rw [h.off]; simp), if_pos hi1]
  have lay1 : lay d.vis ((enc l).length + 1, s1) = enc l ++ ([0] ++ (tl ++ List.replicate k 0)) := by
    have := lay_mid (enc l ++ [0]) (List.replicate tl.length 0) (List.replicate k 0) ((enc l).length + 1) s1 (by simp) (by rw [List.length_replicate]; exact z1)
    rw [List.append_assoc, List.append_assoc, d1] at this
    rw [hv]
    exact this
  have e1 : (((enc l).length : Int) + 1).toNat = (enc l).length + 1 := by omega
  have D1 : d.wrote ((enc l).length + 1 : Int) s1 = { off := decide (d.left = 1), left := d.left - 1, dur := d.dur, vis := enc l ++ ([0] ++ (tl ++ List.replicate k 0)), pend := [((enc l).length + 1, s1)] } := by
    unfold DSt.wrote
    rw [e1, lay1, h.pend]
    rfl
  obtain ⟨V0, hV0⟩ : ∃ V0, V0 = enc l ++ ([0] ++ (tl ++ List.replicate k 0)) := ⟨_, rfl⟩
  obtain ⟨V1, hV1⟩ : ∃ V1, V1 = enc l ++ ([1] ++ (tl ++ List.replicate k 0)) := ⟨_, rfl⟩
  have lay2 : lay V0 ((enc l).length, s2) = V1 := by
    have := lay_mid (enc l) [0] (tl ++ List.replicate k 0) (enc l).length s2 rfl z2
    rw [d2] at this
    rw [hV0, hV1]
    exact this
  have hV0l : V0.length = n := by
    rw [hV0]
    simp only [List.length_append, List.length_cons, List.length_nil, List.length_replicate]
    omega
  have hput1 : d.put ((enc l).length + 1 : Int) s1 = if d.left = 1 then (251, d.wrote ((enc l).length + 1 : Int) s1) else (0, (d.wrote ((enc l).length + 1 : Int) s1).synced) := by
    unfold DSt.put
    rw [hw1, if_neg (by simp)]
    unfold DSt.sync
    rw [D1]
    by_cases q : d.left = 1
    · rw [if_pos (by simp [q]), if_pos q]
    · rw [if_neg (by simp [q]), if_neg q]
  refine ⟨tl, k, s1, s2, ht, d1, d2, hv, ?_, ?_, ?_⟩
  · intro q
    rw [hpa]
    unfold DSt.put2
    rw [hput1, if_pos q, if_pos (by simp), D1, q]
    rfl
  all_goals
    intro q
    first | (intro q2) | skip
    have q1 : d.left ≠ 1 := by omega
    rw [hpa]
    unfold DSt.put2
    rw [hput1, if_neg q1, if_neg (by simp), D1]
    simp only [DSt.synced]
    rw [← hV0, ← hV1]
    have e2 : decide (d.left = 1) = false := decide_eq_false q1
    rw [e2]
    have hi2 : DSt.inside { off := false, left := d.left - 1, dur := V0, vis := V0, pend := [] } ((enc l).length : Int) (s2.size : Int) = true := by
      rw [DSt.inside_iff]
      simp only
      rw [hV0l, z2]
      omega
    have hw2 : DSt.write { off := false, left := d.left - 1, dur := V0, vis := V0, pend := [] } ((enc l).length : Int) s2 = (0, { off := decide (d.left - 1 = 1), left := d.left - 1 - 1, dur := V0, vis := V1, pend := [((enc l).length, s2)] }) := by
      unfold DSt.write
      rw [if_neg (by simp), if_pos hi2]
      unfold DSt.wrote
      simp only
      rw [Int.toNat_natCast, lay2]
      rfl
    unfold DSt.put
    rw [hw2, if_neg (by simp)]
    unfold DSt.sync
    simp only [DSt.synced]
  · rw [if_pos (by simp; omega)]
    have : d.left - 1 = 1 := by omega
    simp [this]
  · rw [if_neg (by simp; omega)]
    have : ¬ d.left - 1 = 1 := by omega
    simp only [this, decide_false]
    rfl

theorem crash_one {x : Nat × ByteArray} (hp : d.pend = [x]) (keep : List Int) (torn : Int) : ∃ L, d.crash keep torn = { off := false, left := 0, dur := L, vis := L, pend := [] } ∧ (L = d.dur ∨ L = lay d.dur (DSt.tear torn x)) := by
  refine ⟨_, rfl, ?_⟩
  have e : d.kept keep = ([0] : List Nat).filter (fun i : Nat => decide ((i : Int) ∈ keep)) := by simp [DSt.kept, hp, List.range_succ]
  rw [e, List.filter_cons]
  split
  · right
    show DSt.layAll d.pend torn [0] d.dur = _
    rw [hp]
    rfl
  · exact .inl rfl
theorem tear_prefix (torn : Int) (x : Nat × ByteArray) : (DSt.tear torn x).1 = x.1 ∧ ∃ j, (DSt.tear torn x).2.data.toList = x.2.data.toList.take j := by
  unfold DSt.tear
  split
  · refine ⟨rfl, min torn.toNat x.2.size, ?_⟩
    show (x.2.extract 0 _).data.toList = _
    rw [data_ext]
    rfl
  · refine ⟨rfl, x.2.size, ?_⟩
    rw [← data_len, List.take_length]
/-- A group was not acknowledged: behind the power failure it is there as a whole, or not at all. -/
structure Fail (n : Nat) (d : DSt) (l m : List ByteArray) : Prop where
  off : d.off = true
  pend : d.pend.length ≤ 1
  dur : d.dur.length = n
  vis : d.vis.length = n
  crash : ∀ keep torn, Rec n (d.crash keep torn) l ∨ Rec n (d.crash keep torn) (l ++ m)
theorem small_app (h : Held n d l) (hs : ∀ r ∈ m, r.size ≤ 65536) : ∀ r ∈ l ++ m, r.size ≤ 65536 := fun r hr => (List.mem_append.1 hr).elim (h.small r) (hs r)
theorem long_no (hs : ∀ r ∈ m, r.size ≤ 65536) : m.any long = false := by
  rw [List.any_eq_false]
  intro r hr
  have := hs r hr
  simp [long]
  omega
theorem Held.app_full (h : Held n d l) (hs : ∀ r ∈ m, r.size ≤ 65536) (hf : n < (enc l).length + ((tp l).out m).length) : app (tp l) false d m = (261, tp l, false, d) := by
  unfold app
  rw [if_neg (by rw [long_no hs]; simp), if_pos (by rw [h.durlen, tp_size]; exact hf)]
theorem Held.app_nil (h : Held n d l) : app (tp l) false d [] = (0, tp l, false, d) := by
  unfold app
  rw [if_neg (by simp), if_neg (by rw [h.durlen, tp_size]; have := h.fits; simp [Tape.out]; omega), if_pos rfl]
theorem Held.app_some (h : Held n d l) (hs : ∀ r ∈ m, r.size ≤ 65536) (hm : m ≠ []) (hf : (enc l).length + ((tp l).out m).length ≤ n) :
    (d.left ≠ 1 ∧ d.left ≠ 2 ∧ ∃ d', app (tp l) false d m = (0, tp (l ++ m), false, d') ∧ Held n d' (l ++ m) ∧ d'.left = d.left - 2) ∨
    ((d.left = 1 ∨ d.left = 2) ∧ ∃ d', app (tp l) false d m = (251, tp l, true, d') ∧ Fail n d' l m) := by
  obtain ⟨tl, k, s1, s2, ht, e1, e2, hv, c1, c2, c3⟩ := h.put hm hf
  have hdv : d.dur = enc l ++ ([0] ++ (List.replicate tl.length 0 ++ List.replicate k 0)) := h.dur.trans hv
  have hn : (enc l).length + (1 + (tl.length + k)) = n := by
    have := h.len
    rw [hv] at this
    simp only [List.length_append, List.length_cons, List.length_nil, List.length_replicate] at this
    omega
  have hsm := small_app h hs
  have happ : ∀ r : Int × DSt, putAll (tp l) d m = r → app (tp l) false d m = if r.1 = 0 then (0, tp (l ++ m), false, r.2) else (r.1, tp l, true, r.2) := by
    rintro r rfl
    unfold app
    rw [if_neg (by rw [long_no hs]; simp), if_neg (by rw [h.durlen, tp_size]; omega), if_neg hm, tp_append]
  have henc : enc (l ++ m) = enc l ++ (1 :: tl) := by rw [enc_append, ht]
  by_cases q1 : d.left = 1
  · right
    refine ⟨.inl q1, _, by rw [happ _ (c1 q1), if_neg (by simp)], rfl, Nat.le_refl _, ?_, ?_, fun keep torn => .inl ?_⟩
    · show d.dur.length = n
      exact h.durlen
    · simp only [List.length_append, List.length_cons, List.length_nil, List.length_replicate]; omega
    · obtain ⟨L, hc, hL⟩ := crash_one (d := { off := true, left := 0, dur := d.dur, vis := enc l ++ ([0] ++ (tl ++ List.replicate k 0)), pend := [((enc l).length + 1, s1)] }) rfl keep torn
      rw [hc]
      have key : ∃ rest, L = enc l ++ ([0] ++ rest) ∧ L.length = n := by
        rcases hL with rfl | rfl
        · exact ⟨_, hdv, h.durlen⟩
        · obtain ⟨t1, j, t2⟩ := tear_prefix torn ((enc l).length + 1, s1)
          simp only at t1 t2 ⊢
          obtain ⟨x, hx⟩ : ∃ x, x = DSt.tear torn ((enc l).length + 1, s1) := ⟨_, rfl⟩
          rw [← hx] at t1 t2 ⊢
          obtain ⟨xo, xs⟩ := x
          simp only at t1 t2
          subst t1
          have hxl : xs.size ≤ tl.length := by rw [← data_len, t2, e1, List.length_take]; omega
          have hsp : List.replicate tl.length (0 : UInt8) ++ List.replicate k 0 = List.replicate xs.size 0 ++ List.replicate (tl.length - xs.size + k) 0 := by
            rw [List.replicate_append_replicate, List.replicate_append_replicate]
            congr 1
            omega
          have := lay_mid (enc l ++ [0]) (List.replicate xs.size 0) (List.replicate (tl.length - xs.size + k) 0) ((enc l).length + 1) xs (by simp) (by simp)
          rw [List.append_assoc, List.append_assoc, ← hsp] at this
          rw [hdv, this]
          refine ⟨_, rfl, ?_⟩
          simp only [List.length_append, List.length_cons, List.length_nil, List.length_replicate, data_len]
          omega
      obtain ⟨rest, hr1, hr2⟩ := key
      refine ⟨rfl, rfl, rfl, rfl, ⟨[0] ++ rest, hr1, fun c hc => ?_⟩, hr2, h.small⟩
      simp only [List.cons_append, List.nil_append, List.getElem?_cons_zero, Option.some.injEq] at hc
      exact hc.symm
  · by_cases q2 : d.left = 2
    · right
      refine ⟨.inr q2, _, by rw [happ _ (c2 q2), if_neg (by simp)], rfl, Nat.le_refl _, ?_, ?_, fun keep torn => ?_⟩
      · simp only [List.length_append, List.length_cons, List.length_nil, List.length_replicate]; omega
      · simp only [List.length_append, List.length_cons, List.length_nil, List.length_replicate]; omega
      · obtain ⟨L, hc, hL⟩ := crash_one (d := { off := true, left := 0, dur := enc l ++ ([0] ++ (tl ++ List.replicate k 0)), vis := enc l ++ ([1] ++ (tl ++ List.replicate k 0)), pend := [((enc l).length, s2)] }) rfl keep torn
        rw [hc]
        have key : L = enc l ++ ([0] ++ (tl ++ List.replicate k 0)) ∨ L = enc l ++ ([1] ++ (tl ++ List.replicate k 0)) := by
          rcases hL with rfl | rfl
          · exact .inl rfl
          · obtain ⟨t1, j, t2⟩ := tear_prefix torn ((enc l).length, s2)
            simp only at t1 t2 ⊢
            obtain ⟨x, hx⟩ : ∃ x, x = DSt.tear torn ((enc l).length, s2) := ⟨_, rfl⟩
            rw [← hx] at t1 t2 ⊢
            obtain ⟨xo, xs⟩ := x
            simp only at t1 t2
            subst t1
            rw [e2] at t2
            rcases Nat.eq_zero_or_pos j with hj | hj
            · left
              subst hj
              have hxl : xs.size = 0 := by rw [← data_len, t2]; rfl
              have := lay_mid (enc l) [] ([0] ++ (tl ++ List.replicate k 0)) (enc l).length xs rfl hxl
              rw [t2] at this
              exact this
            · right
              have t3 : xs.data.toList = [1] := by rw [t2, List.take_of_length_le (by simp; omega)]
              have hxl : xs.size = 1 := by rw [← data_len, t3]; rfl
              have := lay_mid (enc l) [0] (tl ++ List.replicate k 0) (enc l).length xs rfl hxl
              rw [t3] at this
              exact this
        rcases key with rfl | rfl
        · left
          refine ⟨rfl, rfl, rfl, rfl, ⟨_, rfl, fun c hc => ?_⟩, ?_, h.small⟩
          · simp only [List.cons_append, List.nil_append, List.getElem?_cons_zero, Option.some.injEq] at hc
            exact hc.symm
          · simp only [List.length_append, List.length_cons, List.length_nil, List.length_replicate]; omega
        · right
          refine ⟨rfl, rfl, rfl, rfl, ⟨List.replicate k 0, ?_, fun c hc => ?_⟩, ?_, hsm⟩
          · show enc l ++ ([1] ++ (tl ++ List.replicate k 0)) = _
            rw [henc, List.append_assoc]
            rfl
          · rw [List.getElem?_replicate] at hc
            split at hc
            · injection hc with hc; exact hc.symm
            · cases hc
          · simp only [List.length_append, List.length_cons, List.length_nil, List.length_replicate]; omega
    · left
      refine ⟨q1, q2, _, by rw [happ _ (c3 q1 q2), if_pos rfl], ⟨rfl, rfl, rfl, ⟨k, ?_⟩, ?_, hsm⟩, rfl⟩
      · show enc l ++ ([1] ++ (tl ++ List.replicate k 0)) = _
        rw [henc, List.append_assoc]
        rfl
      · simp only [List.length_append, List.length_cons, List.length_nil, List.length_replicate]; omega
end
end Go.Proofs.YtjlgkjhociaeiaaGreatDoor
