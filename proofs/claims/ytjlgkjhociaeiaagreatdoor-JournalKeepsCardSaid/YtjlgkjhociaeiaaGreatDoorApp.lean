/-
  (*Journal).Append.
-/
import Derived.Test.YtjlgkjhociaeiaaGreatDoorGl
import Derived.Test.YtjlgkjhociaeiaaGreatDoorGk
import Derived.Deep.QuietTactic
import Derived.BigQuiet
namespace Go.Proofs.YtjlgkjhociaeiaaGreatDoor
open Go.RowKit
set_option linter.unusedVariables false
/-- A journal at b on the disk at p. -/
structure JnAt (w : World) (b p : Nat) (F : Nat → Prop) (d : DSt) (t : Tape) (br : Bool) (rv : Value) : Prop where
  tape : TapeAt w b 74 [.pointer (some ⟨p, 0, none⟩), .bool br] rv t
  dk : Dk w p F d
  nb : ¬ F b
  nr : ∀ k, rv.ownBlock = some k → ¬ F k
  fit : t.size ≤ d.dur.length
  few : t.recs.length ≤ t.size
theorem ownsRow_form {w : World} {base : Nat} {e : TypeId} {size n : Nat} {v : Value} {xs : List Value} (h : w.ownsRow base e size v n xs) : ∃ a cap, v = .slice a n cap := by
  rcases h.2 with ⟨rfl, h0⟩ | ⟨g, cap, _, rfl, _⟩
  · exact ⟨none, 0, by rw [h0]⟩
  · exact ⟨_, cap, rfl⟩
def AppPost (w : World) (b p : Nat) (F : Nat → Prop) (rv : Value) (r : Int × Tape × Bool × DSt) (e : Ending) (w' : World) : Prop :=
  e = .returned (.int .i64 r.1) ∧ ∃ rv' F', JnAt w' b p F' r.2.2.2 r.2.1 r.2.2.1 rv' ∧ Only (fun k => k = b ∨ F k) w w' ∧ (∀ k, F' k → F k ∨ w.heap.size ≤ k) ∧ ∀ k, rv'.ownBlock = some k → rv.ownBlock = some k ∨ w.heap.size ≤ k
theorem Append_nil (w : World) (v : Value) : Calls Tryz.prog 10 #[.pointer none, v] w fun e w' => e = .returned (.int .i64 1) ∧ w = w' := by
  go_enter Tryz.func10, Tryz.ntmps10
  go_wp2
  go_ret
  exact ⟨rfl, rfl⟩
theorem AppPost.same {w : World} {b p : Nat} {F : Nat → Prop} {d : DSt} {t : Tape} {br : Bool} {rv : Value} {n : Int} {w' : World} (h : JnAt w b p F d t br rv) (o : Only (fun _ => False) w w') : AppPost w b p F rv (n, t, br, d) (.returned (.int .i64 n)) w' :=
  ⟨rfl, rv, F, ⟨h.tape.only o id (fun _ _ e => e), h.dk.only o (fun _ _ e => e), h.nb, h.nr, h.fit, h.few⟩, o.mono (fun _ _ e => e.elim), fun _ e => .inl e, fun _ e => .inl e⟩
set_option maxRecDepth 100000 in
set_option maxHeartbeats 4000000 in
theorem Append_broken {w : World} {b p : Nat} {F : Nat → Prop} {d : DSt} {t : Tape} {rv v : Value} {l : List ByteArray} (h : JnAt w b p F d t true rv) :
    Calls Tryz.prog 10 #[.pointer (some ⟨b, 0, none⟩), v] w fun e w' => AppPost w b p F rv (app t true d l) e w' := by
  have c4 := h.tape.blk.cell 4
  simp only [tcells, List.getElem?_toArray, List.getElem?_cons_succ, List.getElem?_cons_zero] at c4
  have e : app t true d l = (260, t, true, d) := if_pos (.inl rfl)
  rw [e]
  have H := Lib.hid h
  clear h e
  go_enter Tryz.func10, Tryz.ntmps10
  go_wp2
  go_ret
  exact AppPost.same H.out ((Only.refl _ _))
set_option maxRecDepth 100000 in
set_option maxHeartbeats 4000000 in
theorem Append_long {w : World} {b p : Nat} {F : Nat → Prop} {d : DSt} {t : Tape} {rv v : Value} {l : List ByteArray} (h : JnAt w b p F d t false rv) (hv : StrsAt w v l) (hl : l.length ≤ 1000) (hlong : l.any long = true) :
    Calls Tryz.prog 10 #[.pointer (some ⟨b, 0, none⟩), v] w fun e w' => AppPost w b p F rv (app t false d l) e w' := by
  have c4 := h.tape.blk.cell 4
  simp only [tcells, List.getElem?_toArray, List.getElem?_cons_succ, List.getElem?_cons_zero] at c4
  have e : app t false d l = (260, t, false, d) := if_pos (.inr hlong)
  rw [e]
  have H := Lib.hid h
  have HV := Lib.hid hv
  have HLG := Lib.hid hlong
  clear h e hv hlong
  go_enter Tryz.func10, Tryz.ntmps10
  go_wp2_with (go_at_call 35; refine (long_list HV.out (by omega)).mono ?_; rw [HLG.out]; rintro e w1 ⟨rfl, q, rfl⟩)
  go_ret
  exact AppPost.same H.out ((Only.refl _ _).drewN q)
/-- What stands at the loop's head: the records of acc have been taken up. -/
structure AppSt (w wr : World) (bn bb : Nat) (rvn : Value) (t : Tape) (acc : List ByteArray) : Prop where
  tape : TapeAt wr bn 72 [] rvn (t.adds acc)
  bld : Lib.IsBuilderF 78 5 w.heap.size bb (Lib.byteCells (t.out acc)) wr
  below : Below w.heap.size w wr
  bnl : w.heap.size ≤ bn
  rvl : ∀ k, rvn.ownBlock = some k → w.heap.size ≤ k
  ne : bn ≠ bb
  rne : rvn.ownBlock ≠ some bb
theorem app_start {w w1 w2 : World} {b : Nat} {ty : TypeId} {rest : List Value} {rv rv' : Value} {t : Tape} (T1 : TapeAt w1 b ty rest rv t) (O1 : Only (fun _ => False) w w1) (ho : w2.ownsRow (w1.heap.size + 1) 9 1 rv' t.recs.length (t.recs.map Value.string))
    (hb : Below (w1.heap.size + 1) (w1.alloc (.cells #[rv, .string t.head, .int .i64 (t.size : Int)] 72)) w2) :
    Blk w2 w1.heap.size 72 #[rv, .string t.head, .int .i64 (t.size : Int)] ∧ AppSt w ((w2.setCell ⟨w1.heap.size, 0, none⟩ rv').alloc (.cells #[.pointer none, .slice none 0 0] 78)) w1.heap.size w2.heap.size rv' t [] := by
  have k1 := Blk.new w1 72 #[rv, .string t.head, .int .i64 (t.size : Int)]
  have k2 := k1.below hb (Nat.lt_succ_self _)
  have o2 : Only (fun k => k = w1.heap.size) w2 (w2.setCell ⟨w1.heap.size, 0, none⟩ rv') := (Only.refl (fun k => k = w1.heap.size) w2).setCell (p := ⟨w1.heap.size, 0, none⟩) (.inl rfl) _
  obtain ⟨W3, h3⟩ : ∃ W3, W3 = w2.setCell ⟨w1.heap.size, 0, none⟩ rv' := ⟨_, rfl⟩
  have s3 : W3.heap.size = w2.heap.size := by rw [h3]; simp [World.setCell]
  have hlt : w1.heap.size < w2.heap.size := k2.lt
  have ow := ownsRow_only ho o2 (fun k hk e => by have := (ho.lt k hk).1; omega)
  rw [← h3] at o2 ow ⊢
  have o3 : Only (fun k => k = w1.heap.size) w2 (W3.alloc (.cells #[.pointer none, .slice none 0 0] 78)) := o2.alloc _
  have kb := Blk.new W3 78 #[.pointer none, .slice none 0 0]
  rw [s3] at kb
  have k3 : Blk W3 w1.heap.size 72 #[rv', .string t.head, .int .i64 (t.size : Int)] := by
    have := k2.set_ 0 rv'
    rw [← h3] at this
    simpa using this
  have hsz := O1.size
  refine ⟨k2, ⟨⟨?_, by decide, ?_, T1.head, T1.small, T1.few⟩, ?_, ?_, hsz, fun k hk => ?_, by omega, fun e => ?_⟩⟩
  · have e : tcells rv' (t.adds []) [] = #[rv', .string t.head, .int .i64 (t.size : Int)] := rfl
    rw [e]
    exact k3.alloc _
  · exact ownsRow_base (ownsRow_only ow ((Only.refl (fun _ => False) W3).alloc _) (fun _ _ e => e)) (fun _ _ => Nat.zero_le _)
  · exact .inl ⟨by omega, .slice none 0 0, kb, ⟨rfl, .inl ⟨rfl, rfl⟩⟩, by simp [Value.ownBlock]⟩
  · have b1 : Below w.heap.size w w1 := O1.below (Nat.le_refl _) (fun _ e => e.elim)
    have b2 : Below w.heap.size w (w1.alloc (.cells #[rv, .string t.head, .int .i64 (t.size : Int)] 72)) := b1.alloc b1.size _
    exact (b2.trans (hb.mono (by omega))).trans (o3.below (by omega) (fun k e => by omega))
  · have := (ho.lt k hk).1
    omega
  · have := (ho.lt _ e).2
    omega
theorem StrsAt.form {w : World} {v : Value} {zs : List ByteArray} (h : StrsAt w v zs) : ∃ a c, v = .slice a zs.length c := by
  rcases h with ⟨q, c, rfl, rfl⟩ | ⟨g, off, c, rfl, _⟩
  · exact ⟨q, c, rfl⟩
  · exact ⟨_, c, rfl⟩
theorem StrsAt.get {w : World} {a : Option Addr} {n c : Nat} {zs : List ByteArray} (h : StrsAt w (.slice a n c) zs) (k : Nat) (hk : k < zs.length) : ∃ g off, a = some ⟨g, off, none⟩ ∧ g < w.heap.size ∧ w.cell? ⟨g, off + k, none⟩ = some (.string zs[k]) := by
  rcases h with ⟨q, c, h1, rfl⟩ | ⟨g, off, c, h1, hg, hc⟩
  · simp at hk
  · injection h1 with h1 h2 h3
    exact ⟨g, off, h1, hg, hc k hk⟩
theorem out_small (t : Tape) : ∀ (l : List ByteArray), (∀ r ∈ l, r.size ≤ 65536) → (t.out l).length ≤ 65572 * l.length
  | l, h => by
    induction l generalizing t with
    | nil => simp [Tape.out]
    | cons r l ih =>
      have h1 := ih (t.add r) (fun x hx => h x (by simp [hx]))
      have h0 := h r (by simp)
      have h2 := (stored_size r (chain t.head r) h0 (chain_size _ _)).2
      have e : (stored r (chain t.head r)).data.toList.length = (stored r (chain t.head r)).size := Array.length_toList
      simp only [Tape.out, List.length_append, List.length_cons, e]
      omega
theorem adds_small (t : Tape) (l : List ByteArray) (h : ∀ r ∈ l, r.size ≤ 65536) (ht : t.size ≤ 4194304) (hl : l.length ≤ 1000) (hf : t.recs.length ≤ t.size) : (t.adds l).size ≤ 69766304 ∧ (t.adds l).recs.length ≤ 4195304 ∧ (t.out l).length ≤ 65572000 := by
  have h1 := out_small t l h
  refine ⟨?_, ?_, by omega⟩
  · rw [Tape.adds_size]; omega
  · rw [Tape.adds_recs, List.length_append]; omega
theorem bld_lt {T e : TypeId} {B b : Nat} {bs : List Value} {w : World} (h : Lib.IsBuilderF T e B b bs w) : b < w.heap.size := by
  rcases h with ⟨_, v, hb, _⟩ | ⟨_, v, hb, _⟩ <;> exact (Array.getElem?_eq_some_iff.1 hb).1
theorem out_pos (t : Tape) {l : List ByteArray} (h : l ≠ []) : 0 < (t.out l).length := by
  cases l with
  | nil => exact absurd rfl h
  | cons r l =>
    have := stored_pos r (chain t.head r)
    have e : (stored r (chain t.head r)).data.toList.length = (stored r (chain t.head r)).size := Array.length_toList
    simp only [Tape.out, List.length_append, e]
    omega
/-- Behind the record's add: the builder stands. -/
theorem app_mid {w wr w2 : World} {bn bb : Nat} {rvn : Value} {t : Tape} {acc : List ByteArray} (h : AppSt w wr bn bb rvn t acc) (o : Only (fun k => k = bn ∨ rvn.ownBlock = some k) wr w2) : Lib.IsBuilderF 78 5 w.heap.size bb (Lib.byteCells (t.out acc)) w2 := by
  refine builder_only h.bld o fun k hk cs ty fz hh => ?_
  rcases hk with rfl | hk
  · have := h.tape.blk
    unfold Blk at this
    rw [this] at hh
    injection hh with hh
    injection hh with _ hh _
    subst hh
    exact ⟨by decide, by decide⟩
  · rcases h.tape.own.2 with ⟨q, _⟩ | ⟨g', cap, cur, q, _, hg, _⟩
    · rw [q] at hk; simp [Value.ownBlock] at hk
    · rw [q] at hk
      simp only [Value.ownBlock, Option.some.injEq] at hk
      subst hk
      rw [hg] at hh
      injection hh with hh
      injection hh with _ hh _
      subst hh
      exact ⟨by decide, by decide⟩
theorem app_next {w wr w2 w3 : World} {bn bb : Nat} {rvn rv2 : Value} {t : Tape} {acc : List ByteArray} {r : ByteArray} (h : AppSt w wr bn bb rvn t acc) (o : Only (fun k => k = bn ∨ rvn.ownBlock = some k) wr w2) (hT : TapeAt w2 bn 72 [] rv2 ((t.adds acc).add r)) (hf : ∀ k, rv2.ownBlock = some k → rvn.ownBlock = some k ∨ wr.heap.size ≤ k)
    (hb : Lib.BuilderAtF 78 5 w.heap.size bb (.pointer (some ⟨bb, 0, none⟩)) (Lib.byteCells (t.out acc) ++ Lib.strCells (stored r (chain (t.adds acc).head r))) w3) (hB : Below w.heap.size w2 w3) (hk : Lib.OthersKept 5 (some bb) w2 w3) (hbb : bb < wr.heap.size) :
    AppSt w w3 bn bb rv2 t (acc ++ [r]) := by
  have hw := h.below.size
  have rl : ∀ k, rv2.ownBlock = some k → w.heap.size ≤ k := fun k e => (hf k e).elim (h.rvl k) fun q => by omega
  have rn : rv2.ownBlock ≠ some bb := fun e => (hf bb e).elim h.rne fun q => by omega
  refine ⟨?_, .inr ?_, ?_, h.bnl, rl, h.ne, rn⟩
  · rw [Tape.adds_snoc]
    exact tape_kept hT hk (by decide) h.ne rn
  · rw [Tape.out_snoc, Lib.byteCells_append]
    exact hb
  · exact (h.below.trans (o.below hw fun k e => e.elim (fun q => by have := h.bnl; omega) (h.rvl k))).trans hB
/-- What the region of the four calls gives, operation by operation. -/
def appVals (b p n : Nat) (S : ByteArray) : List Value :=
  let B : Value := .pointer (some ⟨b, 0, none⟩)
  let P : Value := .pointer (some ⟨p, 0, none⟩)
  let N : Value := .int .i64 (n : Int)
  let O (k : Nat) : Value := .pointer (some ⟨b, k, none⟩)
  [B, B, B, O 0, O 2, N, .int .i64 ((n : Int) + 1), .string S, .string (S.extract 1 S.size), undef,
   B, B, O 3, P, fval (syVal p), B, B, B, O 0, O 2, N, .string S, .string (S.extract 0 1), undef,
   B, B, O 3, P, fval (syVal p), undef]
def appW (b p n : Nat) (S : ByteArray) (B : Nat) (k : Nat) (vals : Nat → Value) (v : Value) (w : World) : Prop :=
  if k = 9 then ∃ x y z, v = fval (wrVal x y z) ∧ Wr w x y z b ((n : Int) + 1) (S.extract 1 S.size) ∧ B ≤ x ∧ B ≤ y ∧ B ≤ z
  else if k = 23 then ∃ x y z, v = fval (wrVal x y z) ∧ Wr w x y z b n (S.extract 0 1) ∧ B ≤ x ∧ B ≤ y ∧ B ≤ z
  else if k = 29 then ∃ g, v = .slice (some ⟨g, 0, none⟩) 4 4 ∧ Blk w g 85 #[vals 9, vals 14, vals 23, vals 28] ∧ B ≤ g
  else v = (appVals b p n S)[k]?.getD undef
theorem appW_get {b p n : Nat} {S : ByteArray} {B : Nat} {vals : Nat → Value} {v : Value} {w : World} (k : Nat) (h : appW b p n S B k vals v w) (hk : (k != 9 && k != 23 && k != 29) = true) : v = (appVals b p n S)[k]?.getD undef := by
  simp only [Bool.and_eq_true, bne_iff_ne, ne_eq] at hk
  unfold appW at h
  rw [if_neg hk.1.1, if_neg hk.1.2, if_neg hk.2] at h
  exact h
theorem appW_put {b p n : Nat} {S : ByteArray} {B : Nat} {vals : Nat → Value} {v : Value} {w : World} (k : Nat) (hk : (k != 9 && k != 23 && k != 29) = true) (h : v = (appVals b p n S)[k]?.getD undef) : appW b p n S B k vals v w := by
  simp only [Bool.and_eq_true, bne_iff_ne, ne_eq] at hk
  unfold appW
  rw [if_neg hk.1.1, if_neg hk.1.2, if_neg hk.2]
  exact h
theorem appW_w1 {b p n : Nat} {S : ByteArray} {B : Nat} {vals : Nat → Value} {v : Value} {w : World} : appW b p n S B 9 vals v w ↔ ∃ x y z, v = fval (wrVal x y z) ∧ Wr w x y z b ((n : Int) + 1) (S.extract 1 S.size) ∧ B ≤ x ∧ B ≤ y ∧ B ≤ z := by unfold appW; rw [if_pos rfl]
theorem appW_w2 {b p n : Nat} {S : ByteArray} {B : Nat} {vals : Nat → Value} {v : Value} {w : World} : appW b p n S B 23 vals v w ↔ ∃ x y z, v = fval (wrVal x y z) ∧ Wr w x y z b n (S.extract 0 1) ∧ B ≤ x ∧ B ≤ y ∧ B ≤ z := by unfold appW; rw [if_neg (by decide), if_pos rfl]
theorem appW_s {b p n : Nat} {S : ByteArray} {B : Nat} {vals : Nat → Value} {v : Value} {w : World} : appW b p n S B 29 vals v w ↔ ∃ g, v = .slice (some ⟨g, 0, none⟩) 4 4 ∧ Blk w g 85 #[vals 9, vals 14, vals 23, vals 28] ∧ B ≤ g := by unfold appW; rw [if_neg (by decide), if_neg (by decide), if_pos rfl]
theorem Wr.only {S : Nat → Prop} {w w' : World} {x y z b : Nat} {at_ : Int} {s : ByteArray} (h : Wr w x y z b at_ s) (o : Only S w w') (hx : ¬ S x) (hy : ¬ S y) (hz : ¬ S z) : Wr w' x y z b at_ s := ⟨h.j.only o hx, h.a.only o hy, h.s.only o hz⟩
theorem DSt.write_len {d : DSt} {o : Int} {s : ByteArray} (h : d.vis.length = d.dur.length) : (d.write o s).2.vis.length = d.dur.length ∧ (d.write o s).2.dur.length = d.dur.length := by
  unfold DSt.write
  split
  · exact ⟨h, rfl⟩
  · split
    · rename_i hi
      obtain ⟨h1, h2, h3, h4⟩ := (d.inside_iff _ _).1 hi
      refine ⟨?_, rfl⟩
      show (lay d.vis (o.toNat, s)).length = _
      rw [lay_length (by show o.toNat + s.size ≤ _; omega), h]
    · exact ⟨h, rfl⟩
theorem DSt.put_len {d : DSt} {o : Int} {s : ByteArray} (h : d.vis.length = d.dur.length) : (d.put o s).2.vis.length = d.dur.length ∧ (d.put o s).2.dur.length = d.dur.length := by
  have h1 := DSt.write_len (o := o) (s := s) h
  unfold DSt.put
  split
  · exact h1
  · unfold DSt.sync
    split
    · exact h1
    · exact ⟨h1.1, h1.1⟩
theorem DSt.put2_len {d : DSt} {a1 a2 : Int} {s1 s2 : ByteArray} (h : d.vis.length = d.dur.length) : (d.put2 a1 s1 a2 s2).2.vis.length = d.dur.length ∧ (d.put2 a1 s1 a2 s2).2.dur.length = d.dur.length := by
  have h1 := DSt.put_len (o := a1) (s := s1) h
  unfold DSt.put2
  split
  · exact h1
  · have h2 := DSt.put_len (d := (d.put a1 s1).2) (o := a2) (s := s2) (h1.1.trans h1.2.symm)
    exact ⟨h2.1.trans h1.2, h2.2.trans h1.2⟩
theorem Dk.lens {w : World} {p : Nat} {F : Nat → Prop} {s : DSt} (h : Dk w p F s) : s.vis.length = s.dur.length ∧ s.dur.length ≤ 4194304 := by
  obtain ⟨r, _, _, hd⟩ := h
  exact ⟨hd.len, hd.small⟩
theorem out_ge (t : Tape) (l : List ByteArray) : l.length ≤ (t.out l).length := by
  induction l generalizing t with
  | nil => exact Nat.zero_le _
  | cons r l ih =>
    have := ih (t.add r)
    have h2 := stored_pos r (chain t.head r)
    have e : (stored r (chain t.head r)).data.toList.length = (stored r (chain t.head r)).size := Array.length_toList
    simp only [Tape.out, List.length_append, List.length_cons, e]
    omega
/-- Behind the four calls: an error. -/
theorem app_bad {w w5 w6 : World} {b p : Nat} {F : Nat → Prop} {d : DSt} {t : Tape} {rv : Value} {r : Int × DSt} (h : JnAt w b p F d t false rv) (hb : Below w.heap.size w w5) (hs : Step w5 p F r.2 w6) (hd : r.2.dur.length = d.dur.length) :
    Blk w6 b 74 (tcells rv t [.pointer (some ⟨p, 0, none⟩), .bool false]) ∧ AppPost w b p F rv (r.1, t, true, r.2) (.returned (.int .i64 r.1)) (w6.setCell ⟨b, 4, none⟩ (.bool true)) := by
  obtain ⟨F', d6, o6, f6⟩ := hs
  have hsz := hb.size
  have o : Only F w w6 := (Only.of_below hb F).trans' o6
  have hlt := h.tape.blk.lt
  have T6 := h.tape.only o h.nb h.nr
  have o7 : Only (fun k => k = b) w6 (w6.setCell ⟨b, 4, none⟩ (.bool true)) := (Only.refl (fun k => k = b) w6).setCell (p := ⟨b, 4, none⟩) (.inl rfl) _
  have nF' : ¬ F' b := fun e => (f6 b e).elim h.nb fun q => by omega
  have rb : ∀ k, rv.ownBlock = some k → k ≠ b := by
    rintro k hk rfl
    exact own_blk_ne T6.own T6.blk T6.ne.symm hk
  refine ⟨T6.blk, rfl, rv, F', ⟨⟨?_, h.tape.ne, ownsRow_only T6.own o7 rb, h.tape.head, h.tape.small, h.tape.few⟩, d6.only o7 (fun k e q => nF' (q ▸ e)), nF', fun k hk e => ?_, ?_, h.few⟩, ?_, fun k e => (f6 k e).imp id fun q => by omega, fun k e => .inl e⟩
  · have e : tcells rv t [.pointer (some ⟨p, 0, none⟩), .bool true] = (tcells rv t [.pointer (some ⟨p, 0, none⟩), .bool false]).setIfInBounds 4 (.bool true) := by simp [tcells]
    rw [e]
    exact T6.blk.set_ 4 _
  · have := ownsRow_lt h.tape.own hk
    exact (f6 k e).elim (h.nr k hk) fun q => by omega
  · show t.size ≤ r.2.dur.length
    rw [hd]
    exact h.fit
  · exact (o.mono fun _ _ e => .inr e).trans' (o7.mono fun _ _ e => .inl e)
/-- Behind the four calls: all is well. -/
theorem app_good {w wr w3 w5 w6 : World} {b p bn bb : Nat} {F : Nat → Prop} {d : DSt} {t : Tape} {rv rvn : Value} {r : Int × DSt} {l : List ByteArray} (h : JnAt w b p F d t false rv) (hL : AppSt w wr bn bb rvn t l) (hk : Lib.OthersKept 5 (some bb) wr w3) (o5 : Only (fun _ => False) w3 w5) (hb : Below w.heap.size w w5) (hs : Step w5 p F r.2 w6) (hd : r.2.dur.length = d.dur.length)
    (hfit : (t.adds l).size ≤ d.dur.length) (h0 : r.1 = 0) :
    Blk w6 b 74 (tcells rv t [.pointer (some ⟨p, 0, none⟩), .bool false]) ∧ Blk w6 bn 72 (tcells rvn (t.adds l) []) ∧ b ≠ bn ∧
      AppPost w b p F rv (r.1, t.adds l, false, r.2) (.returned (.int .i64 0)) (((w6.setCell ⟨b, 0, none⟩ rvn).setCell ⟨b, 1, none⟩ (.string (t.adds l).head)).setCell ⟨b, 2, none⟩ (.int .i64 ((t.adds l).size : Int))) := by
  obtain ⟨F', d6, o6, f6⟩ := hs
  have hsz := hb.size
  have o : Only F w w6 := (Only.of_below hb F).trans' o6
  have hlt := h.tape.blk.lt
  have hF := h.dk.lt
  have T6 := h.tape.only o h.nb h.nr
  have N3 := tape_kept hL.tape hk (by decide) hL.ne hL.rne
  have N6 := (N3.only o5 id (fun _ _ e => e)).only o6 (fun e => by have := hF _ e; have := hL.bnl; omega) (fun k hk e => by have := hF _ e; have := hL.rvl k hk; omega)
  obtain ⟨W7, h7⟩ : ∃ W7, W7 = ((w6.setCell ⟨b, 0, none⟩ rvn).setCell ⟨b, 1, none⟩ (.string (t.adds l).head)).setCell ⟨b, 2, none⟩ (.int .i64 ((t.adds l).size : Int)) := ⟨_, rfl⟩
  have o7 : Only (fun k => k = b) w6 W7 := by
    rw [h7]
    exact (((Only.refl (fun k => k = b) w6).setCell (p := ⟨b, 0, none⟩) (.inl rfl) _).setCell (p := ⟨b, 1, none⟩) (.inl rfl) _).setCell (p := ⟨b, 2, none⟩) (.inl rfl) _
  have k7 : Blk W7 b 74 (tcells rvn (t.adds l) [.pointer (some ⟨p, 0, none⟩), .bool false]) := by
    have := ((T6.blk.set_ 0 rvn).set_ 1 (.string (t.adds l).head)).set_ 2 (.int .i64 ((t.adds l).size : Int))
    rw [← h7] at this
    simpa [tcells] using this
  rw [← h7]
  have nF' : ¬ F' b := fun e => (f6 b e).elim h.nb fun q => by omega
  have hbn := hL.bnl
  refine ⟨T6.blk, N6.blk, by omega, by rw [h0], rvn, F', ⟨⟨k7, h.tape.ne, ownsRow_only N6.own o7 (fun k hk e => by have := hL.rvl k hk; omega), N6.head, N6.small, N6.few⟩, d6.only o7 (fun k e q => nF' (q ▸ e)), nF', fun k hk e => ?_, ?_, ?_⟩, ?_, fun k e => (f6 k e).imp id fun q => by omega, fun k e => .inr (hL.rvl k e)⟩
  · have h1 := hL.rvl k hk
    have h2 : k < w3.heap.size := ownsRow_lt N3.own hk
    have h3 := o5.size
    exact (f6 k e).elim (fun q => by have := hF k q; omega) fun q => by omega
  · show (t.adds l).size ≤ r.2.dur.length
    rw [hd]
    exact hfit
  · show (t.adds l).recs.length ≤ (t.adds l).size
    have := out_ge t l
    have := h.few
    rw [Tape.adds_recs, Tape.adds_size, List.length_append]
    omega
  · exact (o.mono fun _ _ e => .inr e).trans' (o7.mono fun _ _ e => .inl e)
theorem four_enters (x y z x' y' z' p : Nat) : ∀ f ∈ [wrVal x y z, syVal p] ++ [wrVal x' y' z', syVal p], ∀ args w, (callFunc f.1 args).run Tryz.prog w = .ok (.enter f.1 args) w := by
  intro f hf
  rcases List.mem_append.1 hf with h | h
  · exact put_enters x y z p f h
  · exact put_enters x' y' z' p f h
set_option maxRecDepth 100000 in
set_option maxHeartbeats 4000000 in
theorem Append_loop {w : World} {b p : Nat} {F : Nat → Prop} {d : DSt} {t : Tape} {rv v : Value} {l : List ByteArray} {a : Addr} (gl : Gl w a) (h : JnAt w b p F d t false rv) (hv : StrsAt w v l) (hl : l.length ≤ 1000) (hlong : l.any long = false) (hp : d.pend.length ≤ 999999) :
    Calls Tryz.prog 10 #[.pointer (some ⟨b, 0, none⟩), v] w fun e w' => AppPost w b p F rv (app t false d l) e w' := by
  obtain ⟨ra, rc, hrv⟩ := ownsRow_form h.tape.own
  subst hrv
  obtain ⟨va, vc, hva⟩ := hv.form
  subst hva
  have hsh : ∀ r ∈ l, r.size ≤ 65536 := by
    intro r hr
    have := List.any_eq_false.1 hlong r hr
    simpa [long] using this
  have hsm : d.dur.length ≤ 4194304 := by
    obtain ⟨r, _, _, hd⟩ := h.dk
    exact hd.small
  have hfit := h.fit
  have hfew := h.few
  have hin : ∀ k, k ≤ l.length → (t.adds (l.take k)).size ≤ 69766304 ∧ (t.adds (l.take k)).recs.length ≤ 4195304 ∧ (t.out (l.take k)).length ≤ 65572000 := fun k hk => adds_small t _ (fun r hr => hsh r (List.mem_of_mem_take hr)) (by omega) (by rw [List.length_take]; omega) hfew
  have HIN := Lib.hid hin
  have HSH := Lib.hid hsh
  have GL := Lib.hid gl
  clear hin hsh gl
  have c4 := h.tape.blk.cell 4
  have c0 := h.tape.blk.cell 0
  have c1 := h.tape.blk.cell 1
  have c2 := h.tape.blk.cell 2
  simp only [tcells, List.getElem?_toArray, List.getElem?_cons_succ, List.getElem?_cons_zero] at c4 c0 c1 c2
  have H := Lib.hid h
  have HV := Lib.hid hv
  have HLG := Lib.hid hlong
  clear h hv hlong
  go_enter Tryz.func10, Tryz.ntmps10
  go_wp2_with (first | (go_at_call 35; refine (long_list HV.out (by omega)).mono ?_; rw [HLG.out]; rintro e w1 ⟨rfl, q, hw1⟩; have O1 := Lib.hid (show Only (fun _ => False) w w1 by rw [hw1]; exact (Only.refl _ _).drewN q); clear hw1 c4 c0 c1 c2; have T1 := Lib.hid (H.out.tape.only O1.out id (fun _ _ e => e)); have c0 := T1.out.blk.cell 0; have c1 := T1.out.blk.cell 1; have c2 := T1.out.blk.cell 2; simp only [tcells, List.getElem?_toArray, List.getElem?_cons_succ, List.getElem?_cons_zero] at c0 c1 c2) | (go_at_call 36; refine (clone_any (ownsRow_only T1.out.own ((Only.refl (fun _ => False) w1).alloc _) (fun _ _ e => e)) T1.out.few).mono ?_; rintro e w2 ⟨rv', rfl, ho, hb⟩; rw [World.size_alloc] at ho hb; obtain ⟨xa, xc, rfl⟩ := ownsRow_form ho; have S2 := app_start T1.out O1.out ho hb; have c0n := S2.1.cell 0; have f0n := S2.1.frozen 0; have ST := Lib.hid S2.2; clear S2 ho hb; simp only [List.getElem?_toArray, List.getElem?_cons_succ, List.getElem?_cons_zero] at c0n))
  go_loopw [33] (fun i wr => ∃ (k : Nat) (rvn : Value), k ≤ l.length ∧ i = .int .i64 k ∧ AppSt w wr w1.heap.size w2.heap.size rvn t (l.take k)) (fun i _ => l.length - (intOf i).toNat)
  case atStart => exact ⟨0, _, Nat.zero_le _, rfl, by rw [List.take_zero]; exact ST.out⟩
  case round =>
    obtain ⟨k, rvn, hk, rfl, hS⟩ := hrel
    have HS := Lib.hid hS
    clear hS c0 c1 c2 c0n f0n
    by_cases hlt : k < l.length
    · obtain ⟨g, off, hva, hg, hc⟩ := HV.out.get k hlt
      subst hva
      obtain ⟨r, hr⟩ : ∃ r, r = l[k] := ⟨_, rfl⟩
      have hrs : r.size ≤ 65536 := hr ▸ HSH.out _ (List.getElem_mem hlt)
      rw [← hr] at hc
      have cl : wr.cell? ⟨g, off + k, none⟩ = some (.string r) := (HS.out.below.cell (p := ⟨g, off + k, none⟩) hg).trans hc
      have HT : Hid (l.take (k + 1) = l.take k ++ [r]) := by show _ = _; rw [hr, List.take_succ_eq_append_getElem hlt]
      have hI := HIN.out k hk
      have TB : Hid (Tab wr) := ((GL.out.only (Only.of_below HS.out.below (fun _ => False)) (fun k e => e.elim)).tab)
      have KA := Lib.hid (add_raw wr w1.heap.size 72 [] rvn (t.adds (l.take k)) r TB.out HS.out.tape hrs (by omega) (by omega))
      clear hc hr
      obtain ⟨sr, hsr⟩ : ∃ sr, sr = stored r (chain (t.adds (l.take k)).head r) := ⟨_, rfl⟩
      have hss := (stored_size r (chain (t.adds (l.take k)).head r) hrs (chain_size _ _)).2
      rw [← hsr] at KA hss
      have HSR := Lib.hid hsr
      clear hsr
      go_wp2_with (first | (go_at_call 38; refine KA.out.mono ?_; rintro e w3 ⟨rfl, rv2, hT, hO, hF⟩; have T3 := Lib.hid hT; have O3 := Lib.hid hO; have F3 := Lib.hid hF; clear hT hO hF) | (go_at_call 37; refine (write_string_k w.heap.size w2.heap.size _ sr w3 (app_mid HS.out O3.out) (by rw [Lib.byteCells_length]; omega) (Nat.le_trans HS.out.below.size O3.out.size)).mono ?_; rintro e w4 ⟨rfl, hb, hB, hK⟩; have X4 := Lib.hid (And.intro hb (And.intro hB hK)); clear hb hB hK))
      go_round
      case rel => exact ⟨k + 1, rv2, hlt, by go_num, by rw [HT.out]; exact app_next HS.out O3.out T3.out F3.out (by rw [← HSR.out]; exact X4.out.1) X4.out.2.1 X4.out.2.2 (bld_lt HS.out.bld)⟩
      case measure => simp [intOf]; omega
    · obtain rfl : k = l.length := by omega
      have HL : Hid (AppSt w wr w1.heap.size w2.heap.size rvn t l) := by have := HS.out; rw [List.take_length] at this; exact this
      clear HS
      obtain ⟨S, hS⟩ : ∃ S, S = t.outB l := ⟨_, rfl⟩
      have hSz : S.size = (t.out l).length := by rw [hS]; exact t.outB_size l
      have hSb : S.size ≤ 65572000 := by have := (HIN.out l.length (Nat.le_refl _)).2.2; rw [List.take_length] at this; omega
      have HSS := Lib.hid hS
      have HSZ := Lib.hid hSz
      clear hS hSz
      have hcalls : ∀ x : Nat, x = x := fun _ => rfl
      clear hcalls
      by_cases hfull : d.dur.length < t.size + S.size
      · have e : app t false d l = (261, t, false, d) := by
          unfold app
          rw [if_neg (by rw [HLG.out]; simp), if_pos (by rw [← HSZ.out]; exact hfull)]
        have E := Lib.hid e
        clear e
        have q1 : decide ((S.size : Int) > (d.dur.length : Int) - t.size) = true := decide_eq_true (by omega)
        go_wp2_with (first | (go_at_call 39; refine (string_k w.heap.size w2.heap.size (t.out l) wr HL.out.bld HL.out.below.size).mono ?_; rw [show (⟨(t.out l).toArray⟩ : ByteArray) = S from HSS.out.symm]; rintro e w3 ⟨rfl, hB, hK⟩; have B3 := Lib.hid (HL.out.below.trans hB); have K3 := Lib.hid hK; clear hB hK) | (go_at_call 20; refine (Room_any (H.out.tape.only (Only.of_below B3.out (fun _ => False)) id (fun _ _ e => e)) (H.out.dk.below B3.out) hsm).mono ?_; rintro e w4 ⟨rfl, hO⟩; have O4 := Lib.hid hO; clear hO))
        go_ret
        rw [E.out]
        exact AppPost.same H.out ((Only.of_below B3.out _).trans' O4.out)
      · by_cases hl0 : l = []
        · have e : app t false d l = (0, t, false, d) := by
            unfold app
            rw [if_neg (by rw [HLG.out]; simp), if_neg (by rw [← HSZ.out]; exact hfull), if_pos hl0]
          have E := Lib.hid e
          clear e
          have hS0 : S = ⟨#[]⟩ := by rw [HSS.out, hl0]; rfl
          clear hl0
          subst hS0
          have q1 : decide ((0 : Int) > (d.dur.length : Int) - t.size) = false := decide_eq_false (by omega)
          go_wp2_with (first | (go_at_call 39; refine (string_k w.heap.size w2.heap.size (t.out l) wr HL.out.bld HL.out.below.size).mono ?_; rw [show (⟨(t.out l).toArray⟩ : ByteArray) = ⟨#[]⟩ from HSS.out.symm]; rintro e w3 ⟨rfl, hB, hK⟩; have B3 := Lib.hid (HL.out.below.trans hB); have K3 := Lib.hid hK; clear hB hK) | (go_at_call 20; refine (Room_any (H.out.tape.only (Only.of_below B3.out (fun _ => False)) id (fun _ _ e => e)) (H.out.dk.below B3.out) hsm).mono ?_; rintro e w4 ⟨rfl, hO⟩; have O4 := Lib.hid hO; clear hO))
          go_ret
          rw [E.out]
          exact AppPost.same H.out ((Only.of_below B3.out _).trans' O4.out)
        · have hSp : 0 < S.size := by rw [HSZ.out]; exact out_pos t hl0
          have q1 : decide ((S.size : Int) > (d.dur.length : Int) - t.size) = false := decide_eq_false (by omega)
          have q3 : S.toList ≠ [] := by
            intro e
            rw [ByteArray.toList_eq] at e
            have := congrArg List.length e
            rw [Array.length_toList] at this
            have e3 : S.data.size = S.size := rfl
            rw [e3] at this
            have e4 : ([] : List UInt8).length = 0 := rfl
            omega
          have q2 : S.toList.isEmpty = false := by cases hh : S.toList with | nil => exact absurd hh q3 | cons _ _ => rfl
          have HL0 := Lib.hid hl0
          clear hl0
          go_wp2_with (first | (go_at_call 39; refine (string_k w.heap.size w2.heap.size (t.out l) wr HL.out.bld HL.out.below.size).mono ?_; rw [show (⟨(t.out l).toArray⟩ : ByteArray) = S from HSS.out.symm]; rintro e w3 ⟨rfl, hB, hK⟩; have B3 := Lib.hid (HL.out.below.trans hB); have K3 := Lib.hid hK; clear hB hK) | (go_at_call 20; refine (Room_any (H.out.tape.only (Only.of_below B3.out (fun _ => False)) id (fun _ _ e => e)) (H.out.dk.below B3.out) hsm).mono ?_; rintro e w4 ⟨rfl, hO⟩; have O4 := Lib.hid hO; clear hO))
          have d4 := H.out.dk.only ((Only.of_below B3.out (fun _ => False)).trans' O4.out) (fun _ _ e => e)
          have T4 := Lib.hid (H.out.tape.only ((Only.of_below B3.out (fun _ => False)).trans' O4.out) id (fun _ _ e => e))
          have D4 := Lib.hid d4
          clear d4
          have s1 : (1 : Int) ≤ (S.size : Int) := by omega
          have hw6 : IntKind.i64.wrap ((t.size : Int) + 1) = (t.size : Int) + 1 := IntWalk.i64_in _ (by omega)
          have mixed : Tryz.prog.follows Departure.mixedOrders = true := by kernel_rfl
          refine wp_region_local (fun w' => Only (fun _ => False) w4 w') (Only (fun _ => False)) (appW b p t.size S w4.heap.size) 30 [(30, false), (31, false)] _ _ [some 51, some 52, some 53, some 54, some 55, some 56, some 57, some 58, some 59, some 60, some 61, some 62, some 63, some 64, some 65, some 66, some 67, some 68, some 69, some 70, some 71, some 72, some 73, some 74, some 75, some 76, some 77, some 78, some 79, some 80] mixed rfl rfl (by kernel_rfl) (by kernel_rfl) ((Only.refl _ _).drew) (fun _ => Only.refl _ _) ?hW ?hstep ?hend
          case hW =>
            intro k hk vals vals' v wa wb hv hG hw
            by_cases h9 : k = 9
            · subst h9
              obtain ⟨x, y, z, h1, h2, h3⟩ := appW_w1.1 hw
              exact appW_w1.2 ⟨x, y, z, h1, h2.only hG id id id, h3⟩
            · by_cases h23 : k = 23
              · subst h23
                obtain ⟨x, y, z, h1, h2, h3⟩ := appW_w2.1 hw
                exact appW_w2.2 ⟨x, y, z, h1, h2.only hG id id id, h3⟩
              · by_cases h29 : k = 29
                · subst h29
                  obtain ⟨g, h1, h2, h3⟩ := appW_s.1 hw
                  refine appW_s.2 ⟨g, h1, ?_, h3⟩
                  rw [hv 9 (by kernel_rfl), hv 14 (by kernel_rfl), hv 23 (by kernel_rfl), hv 28 (by kernel_rfl)]
                  exact h2.only hG id
                · have hne : (k != 9 && k != 23 && k != 29) = true := by simp [h9, h23, h29]
                  exact appW_put k hne (appW_get k hw hne)
          case hstep =>
            refine ⟨fun vals w' hI hd => ?_, ?_⟩
            · have c2 := (T4.out.only hI id (fun _ _ e => e)).blk.cell 2
              have c3 := (T4.out.only hI id (fun _ _ e => e)).blk.cell 3
              simp only [tcells, List.getElem?_toArray, List.getElem?_cons_succ, List.getElem?_cons_zero] at c2 c3
              have HI := Lib.hid hI
              clear hI
              clear hd
              unfold nVal
              simp only [putL]
              go_simp
              exact ⟨HI.out, Only.refl _ _, appW_put 0 (by decide) rfl⟩
            refine ⟨fun vals w' hI hd => ?_, ?_⟩
            · have c2 := (T4.out.only hI id (fun _ _ e => e)).blk.cell 2
              have c3 := (T4.out.only hI id (fun _ _ e => e)).blk.cell 3
              simp only [tcells, List.getElem?_toArray, List.getElem?_cons_succ, List.getElem?_cons_zero] at c2 c3
              have HI := Lib.hid hI
              clear hI
              clear hd
              unfold nVal
              simp only [putL]
              go_simp
              exact ⟨HI.out, Only.refl _ _, appW_put 1 (by decide) rfl⟩
            refine ⟨fun vals w' hI hd => ?_, ?_⟩
            · have c2 := (T4.out.only hI id (fun _ _ e => e)).blk.cell 2
              have c3 := (T4.out.only hI id (fun _ _ e => e)).blk.cell 3
              simp only [tcells, List.getElem?_toArray, List.getElem?_cons_succ, List.getElem?_cons_zero] at c2 c3
              have v1 : vals 1 = .pointer (some ⟨b, 0, none⟩) := appW_get 1 (hd 1 (by kernel_rfl)) (by decide)
              have HI := Lib.hid hI
              clear hI
              clear hd
              unfold nVal
              simp only [putL]
              go_simp
              exact ⟨HI.out, Only.refl _ _, appW_put 2 (by decide) rfl⟩
            refine ⟨fun vals w' hI hd => ?_, ?_⟩
            · have c2 := (T4.out.only hI id (fun _ _ e => e)).blk.cell 2
              have c3 := (T4.out.only hI id (fun _ _ e => e)).blk.cell 3
              simp only [tcells, List.getElem?_toArray, List.getElem?_cons_succ, List.getElem?_cons_zero] at c2 c3
              have v2 : vals 2 = .pointer (some ⟨b, 0, none⟩) := appW_get 2 (hd 2 (by kernel_rfl)) (by decide)
              have HI := Lib.hid hI
              clear hI
              clear hd
              unfold nVal
              simp only [putL]
              go_simp
              exact ⟨HI.out, Only.refl _ _, appW_put 3 (by decide) rfl⟩
            refine ⟨fun vals w' hI hd => ?_, ?_⟩
            · have c2 := (T4.out.only hI id (fun _ _ e => e)).blk.cell 2
              have c3 := (T4.out.only hI id (fun _ _ e => e)).blk.cell 3
              simp only [tcells, List.getElem?_toArray, List.getElem?_cons_succ, List.getElem?_cons_zero] at c2 c3
              have v3 : vals 3 = .pointer (some ⟨b, 0, none⟩) := appW_get 3 (hd 3 (by kernel_rfl)) (by decide)
              have HI := Lib.hid hI
              clear hI
              clear hd
              unfold nVal
              simp only [putL]
              go_simp
              exact ⟨HI.out, Only.refl _ _, appW_put 4 (by decide) rfl⟩
            refine ⟨fun vals w' hI hd => ?_, ?_⟩
            · have c2 := (T4.out.only hI id (fun _ _ e => e)).blk.cell 2
              have c3 := (T4.out.only hI id (fun _ _ e => e)).blk.cell 3
              simp only [tcells, List.getElem?_toArray, List.getElem?_cons_succ, List.getElem?_cons_zero] at c2 c3
              have v4 : vals 4 = .pointer (some ⟨b, 2, none⟩) := appW_get 4 (hd 4 (by kernel_rfl)) (by decide)
              have HI := Lib.hid hI
              clear hI
              clear hd
              unfold nVal
              simp only [putL]
              go_simp
              exact ⟨HI.out, Only.refl _ _, appW_put 5 (by decide) rfl⟩
            refine ⟨fun vals w' hI hd => ?_, ?_⟩
            · have c2 := (T4.out.only hI id (fun _ _ e => e)).blk.cell 2
              have c3 := (T4.out.only hI id (fun _ _ e => e)).blk.cell 3
              simp only [tcells, List.getElem?_toArray, List.getElem?_cons_succ, List.getElem?_cons_zero] at c2 c3
              have v5 : vals 5 = .int .i64 (t.size : Int) := appW_get 5 (hd 5 (by kernel_rfl)) (by decide)
              have HI := Lib.hid hI
              clear hI
              clear hd
              unfold nVal
              simp only [putL]
              go_simp
              exact ⟨HI.out, Only.refl _ _, appW_put 6 (by decide) rfl⟩
            refine ⟨fun vals w' hI hd => ?_, ?_⟩
            · have c2 := (T4.out.only hI id (fun _ _ e => e)).blk.cell 2
              have c3 := (T4.out.only hI id (fun _ _ e => e)).blk.cell 3
              simp only [tcells, List.getElem?_toArray, List.getElem?_cons_succ, List.getElem?_cons_zero] at c2 c3
              have HI := Lib.hid hI
              clear hI
              clear hd
              unfold nVal
              simp only [putL]
              go_simp
              exact ⟨HI.out, Only.refl _ _, appW_put 7 (by decide) rfl⟩
            refine ⟨fun vals w' hI hd => ?_, ?_⟩
            · have c2 := (T4.out.only hI id (fun _ _ e => e)).blk.cell 2
              have c3 := (T4.out.only hI id (fun _ _ e => e)).blk.cell 3
              simp only [tcells, List.getElem?_toArray, List.getElem?_cons_succ, List.getElem?_cons_zero] at c2 c3
              have v7 : vals 7 = .string S := appW_get 7 (hd 7 (by kernel_rfl)) (by decide)
              have HI := Lib.hid hI
              clear hI
              clear hd
              unfold nVal
              simp only [putL]
              go_simp
              exact ⟨HI.out, Only.refl _ _, appW_put 8 (by decide) rfl⟩
            refine ⟨fun vals w' hI hd => ?_, ?_⟩
            · have c2 := (T4.out.only hI id (fun _ _ e => e)).blk.cell 2
              have c3 := (T4.out.only hI id (fun _ _ e => e)).blk.cell 3
              simp only [tcells, List.getElem?_toArray, List.getElem?_cons_succ, List.getElem?_cons_zero] at c2 c3
              have v0 : vals 0 = .pointer (some ⟨b, 0, none⟩) := appW_get 0 (hd 0 (by kernel_rfl)) (by decide)
              have v6 : vals 6 = .int .i64 ((t.size : Int) + 1) := appW_get 6 (hd 6 (by kernel_rfl)) (by decide)
              have v8 : vals 8 = .string (S.extract 1 S.size) := appW_get 8 (hd 8 (by kernel_rfl)) (by decide)
              have HI := Lib.hid hI
              clear hI
              clear hd
              unfold nVal
              simp only [putL]
              go_simp
              refine (writing_any w' b ((t.size : Int) + 1) (S.extract 1 S.size)).mono ?_
              rintro e w5 ⟨x, y, z, rfl, hW, hx, hy, hz, hB⟩
              have hsz := HI.out.size
              exact ⟨_, rfl, HI.out.trans' (Only.of_below hB _), Only.of_below hB _, appW_w1.2 ⟨x, y, z, rfl, hW, by omega, by omega, by omega⟩⟩
            refine ⟨fun vals w' hI hd => ?_, ?_⟩
            · have c2 := (T4.out.only hI id (fun _ _ e => e)).blk.cell 2
              have c3 := (T4.out.only hI id (fun _ _ e => e)).blk.cell 3
              simp only [tcells, List.getElem?_toArray, List.getElem?_cons_succ, List.getElem?_cons_zero] at c2 c3
              have HI := Lib.hid hI
              clear hI
              clear hd
              unfold nVal
              simp only [putL]
              go_simp
              exact ⟨HI.out, Only.refl _ _, appW_put 10 (by decide) rfl⟩
            refine ⟨fun vals w' hI hd => ?_, ?_⟩
            · have c2 := (T4.out.only hI id (fun _ _ e => e)).blk.cell 2
              have c3 := (T4.out.only hI id (fun _ _ e => e)).blk.cell 3
              simp only [tcells, List.getElem?_toArray, List.getElem?_cons_succ, List.getElem?_cons_zero] at c2 c3
              have v10 : vals 10 = .pointer (some ⟨b, 0, none⟩) := appW_get 10 (hd 10 (by kernel_rfl)) (by decide)
              have HI := Lib.hid hI
              clear hI
              clear hd
              unfold nVal
              simp only [putL]
              go_simp
              exact ⟨HI.out, Only.refl _ _, appW_put 11 (by decide) rfl⟩
            refine ⟨fun vals w' hI hd => ?_, ?_⟩
            · have c2 := (T4.out.only hI id (fun _ _ e => e)).blk.cell 2
              have c3 := (T4.out.only hI id (fun _ _ e => e)).blk.cell 3
              simp only [tcells, List.getElem?_toArray, List.getElem?_cons_succ, List.getElem?_cons_zero] at c2 c3
              have v11 : vals 11 = .pointer (some ⟨b, 0, none⟩) := appW_get 11 (hd 11 (by kernel_rfl)) (by decide)
              have HI := Lib.hid hI
              clear hI
              clear hd
              unfold nVal
              simp only [putL]
              go_simp
              exact ⟨HI.out, Only.refl _ _, appW_put 12 (by decide) rfl⟩
            refine ⟨fun vals w' hI hd => ?_, ?_⟩
            · have c2 := (T4.out.only hI id (fun _ _ e => e)).blk.cell 2
              have c3 := (T4.out.only hI id (fun _ _ e => e)).blk.cell 3
              simp only [tcells, List.getElem?_toArray, List.getElem?_cons_succ, List.getElem?_cons_zero] at c2 c3
              have v12 : vals 12 = .pointer (some ⟨b, 3, none⟩) := appW_get 12 (hd 12 (by kernel_rfl)) (by decide)
              have HI := Lib.hid hI
              clear hI
              clear hd
              unfold nVal
              simp only [putL]
              go_simp
              exact ⟨HI.out, Only.refl _ _, appW_put 13 (by decide) rfl⟩
            refine ⟨fun vals w' hI hd => ?_, ?_⟩
            · have c2 := (T4.out.only hI id (fun _ _ e => e)).blk.cell 2
              have c3 := (T4.out.only hI id (fun _ _ e => e)).blk.cell 3
              simp only [tcells, List.getElem?_toArray, List.getElem?_cons_succ, List.getElem?_cons_zero] at c2 c3
              have v13 : vals 13 = .pointer (some ⟨p, 0, none⟩) := appW_get 13 (hd 13 (by kernel_rfl)) (by decide)
              have HI := Lib.hid hI
              clear hI
              clear hd
              unfold nVal
              simp only [putL]
              go_simp
              exact ⟨HI.out, Only.refl _ _, appW_put 14 (by decide) rfl⟩
            refine ⟨fun vals w' hI hd => ?_, ?_⟩
            · have c2 := (T4.out.only hI id (fun _ _ e => e)).blk.cell 2
              have c3 := (T4.out.only hI id (fun _ _ e => e)).blk.cell 3
              simp only [tcells, List.getElem?_toArray, List.getElem?_cons_succ, List.getElem?_cons_zero] at c2 c3
              have HI := Lib.hid hI
              clear hI
              clear hd
              unfold nVal
              simp only [putL]
              go_simp
              exact ⟨HI.out, Only.refl _ _, appW_put 15 (by decide) rfl⟩
            refine ⟨fun vals w' hI hd => ?_, ?_⟩
            · have c2 := (T4.out.only hI id (fun _ _ e => e)).blk.cell 2
              have c3 := (T4.out.only hI id (fun _ _ e => e)).blk.cell 3
              simp only [tcells, List.getElem?_toArray, List.getElem?_cons_succ, List.getElem?_cons_zero] at c2 c3
              have HI := Lib.hid hI
              clear hI
              clear hd
              unfold nVal
              simp only [putL]
              go_simp
              exact ⟨HI.out, Only.refl _ _, appW_put 16 (by decide) rfl⟩
            refine ⟨fun vals w' hI hd => ?_, ?_⟩
            · have c2 := (T4.out.only hI id (fun _ _ e => e)).blk.cell 2
              have c3 := (T4.out.only hI id (fun _ _ e => e)).blk.cell 3
              simp only [tcells, List.getElem?_toArray, List.getElem?_cons_succ, List.getElem?_cons_zero] at c2 c3
              have v16 : vals 16 = .pointer (some ⟨b, 0, none⟩) := appW_get 16 (hd 16 (by kernel_rfl)) (by decide)
              have HI := Lib.hid hI
              clear hI
              clear hd
              unfold nVal
              simp only [putL]
              go_simp
              exact ⟨HI.out, Only.refl _ _, appW_put 17 (by decide) rfl⟩
            refine ⟨fun vals w' hI hd => ?_, ?_⟩
            · have c2 := (T4.out.only hI id (fun _ _ e => e)).blk.cell 2
              have c3 := (T4.out.only hI id (fun _ _ e => e)).blk.cell 3
              simp only [tcells, List.getElem?_toArray, List.getElem?_cons_succ, List.getElem?_cons_zero] at c2 c3
              have v17 : vals 17 = .pointer (some ⟨b, 0, none⟩) := appW_get 17 (hd 17 (by kernel_rfl)) (by decide)
              have HI := Lib.hid hI
              clear hI
              clear hd
              unfold nVal
              simp only [putL]
              go_simp
              exact ⟨HI.out, Only.refl _ _, appW_put 18 (by decide) rfl⟩
            refine ⟨fun vals w' hI hd => ?_, ?_⟩
            · have c2 := (T4.out.only hI id (fun _ _ e => e)).blk.cell 2
              have c3 := (T4.out.only hI id (fun _ _ e => e)).blk.cell 3
              simp only [tcells, List.getElem?_toArray, List.getElem?_cons_succ, List.getElem?_cons_zero] at c2 c3
              have v18 : vals 18 = .pointer (some ⟨b, 0, none⟩) := appW_get 18 (hd 18 (by kernel_rfl)) (by decide)
              have HI := Lib.hid hI
              clear hI
              clear hd
              unfold nVal
              simp only [putL]
              go_simp
              exact ⟨HI.out, Only.refl _ _, appW_put 19 (by decide) rfl⟩
            refine ⟨fun vals w' hI hd => ?_, ?_⟩
            · have c2 := (T4.out.only hI id (fun _ _ e => e)).blk.cell 2
              have c3 := (T4.out.only hI id (fun _ _ e => e)).blk.cell 3
              simp only [tcells, List.getElem?_toArray, List.getElem?_cons_succ, List.getElem?_cons_zero] at c2 c3
              have v19 : vals 19 = .pointer (some ⟨b, 2, none⟩) := appW_get 19 (hd 19 (by kernel_rfl)) (by decide)
              have HI := Lib.hid hI
              clear hI
              clear hd
              unfold nVal
              simp only [putL]
              go_simp
              exact ⟨HI.out, Only.refl _ _, appW_put 20 (by decide) rfl⟩
            refine ⟨fun vals w' hI hd => ?_, ?_⟩
            · have c2 := (T4.out.only hI id (fun _ _ e => e)).blk.cell 2
              have c3 := (T4.out.only hI id (fun _ _ e => e)).blk.cell 3
              simp only [tcells, List.getElem?_toArray, List.getElem?_cons_succ, List.getElem?_cons_zero] at c2 c3
              have HI := Lib.hid hI
              clear hI
              clear hd
              unfold nVal
              simp only [putL]
              go_simp
              exact ⟨HI.out, Only.refl _ _, appW_put 21 (by decide) rfl⟩
            refine ⟨fun vals w' hI hd => ?_, ?_⟩
            · have c2 := (T4.out.only hI id (fun _ _ e => e)).blk.cell 2
              have c3 := (T4.out.only hI id (fun _ _ e => e)).blk.cell 3
              simp only [tcells, List.getElem?_toArray, List.getElem?_cons_succ, List.getElem?_cons_zero] at c2 c3
              have v21 : vals 21 = .string S := appW_get 21 (hd 21 (by kernel_rfl)) (by decide)
              have HI := Lib.hid hI
              clear hI
              clear hd
              unfold nVal
              simp only [putL]
              go_simp
              exact ⟨HI.out, Only.refl _ _, appW_put 22 (by decide) rfl⟩
            refine ⟨fun vals w' hI hd => ?_, ?_⟩
            · have c2 := (T4.out.only hI id (fun _ _ e => e)).blk.cell 2
              have c3 := (T4.out.only hI id (fun _ _ e => e)).blk.cell 3
              simp only [tcells, List.getElem?_toArray, List.getElem?_cons_succ, List.getElem?_cons_zero] at c2 c3
              have v15 : vals 15 = .pointer (some ⟨b, 0, none⟩) := appW_get 15 (hd 15 (by kernel_rfl)) (by decide)
              have v20 : vals 20 = .int .i64 (t.size : Int) := appW_get 20 (hd 20 (by kernel_rfl)) (by decide)
              have v22 : vals 22 = .string (S.extract 0 1) := appW_get 22 (hd 22 (by kernel_rfl)) (by decide)
              have HI := Lib.hid hI
              clear hI
              clear hd
              unfold nVal
              simp only [putL]
              go_simp
              refine (writing_any w' b (t.size : Int) (S.extract 0 1)).mono ?_
              rintro e w5 ⟨x, y, z, rfl, hW, hx, hy, hz, hB⟩
              have hsz := HI.out.size
              exact ⟨_, rfl, HI.out.trans' (Only.of_below hB _), Only.of_below hB _, appW_w2.2 ⟨x, y, z, rfl, hW, by omega, by omega, by omega⟩⟩
            refine ⟨fun vals w' hI hd => ?_, ?_⟩
            · have c2 := (T4.out.only hI id (fun _ _ e => e)).blk.cell 2
              have c3 := (T4.out.only hI id (fun _ _ e => e)).blk.cell 3
              simp only [tcells, List.getElem?_toArray, List.getElem?_cons_succ, List.getElem?_cons_zero] at c2 c3
              have HI := Lib.hid hI
              clear hI
              clear hd
              unfold nVal
              simp only [putL]
              go_simp
              exact ⟨HI.out, Only.refl _ _, appW_put 24 (by decide) rfl⟩
            refine ⟨fun vals w' hI hd => ?_, ?_⟩
            · have c2 := (T4.out.only hI id (fun _ _ e => e)).blk.cell 2
              have c3 := (T4.out.only hI id (fun _ _ e => e)).blk.cell 3
              simp only [tcells, List.getElem?_toArray, List.getElem?_cons_succ, List.getElem?_cons_zero] at c2 c3
              have v24 : vals 24 = .pointer (some ⟨b, 0, none⟩) := appW_get 24 (hd 24 (by kernel_rfl)) (by decide)
              have HI := Lib.hid hI
              clear hI
              clear hd
              unfold nVal
              simp only [putL]
              go_simp
              exact ⟨HI.out, Only.refl _ _, appW_put 25 (by decide) rfl⟩
            refine ⟨fun vals w' hI hd => ?_, ?_⟩
            · have c2 := (T4.out.only hI id (fun _ _ e => e)).blk.cell 2
              have c3 := (T4.out.only hI id (fun _ _ e => e)).blk.cell 3
              simp only [tcells, List.getElem?_toArray, List.getElem?_cons_succ, List.getElem?_cons_zero] at c2 c3
              have v25 : vals 25 = .pointer (some ⟨b, 0, none⟩) := appW_get 25 (hd 25 (by kernel_rfl)) (by decide)
              have HI := Lib.hid hI
              clear hI
              clear hd
              unfold nVal
              simp only [putL]
              go_simp
              exact ⟨HI.out, Only.refl _ _, appW_put 26 (by decide) rfl⟩
            refine ⟨fun vals w' hI hd => ?_, ?_⟩
            · have c2 := (T4.out.only hI id (fun _ _ e => e)).blk.cell 2
              have c3 := (T4.out.only hI id (fun _ _ e => e)).blk.cell 3
              simp only [tcells, List.getElem?_toArray, List.getElem?_cons_succ, List.getElem?_cons_zero] at c2 c3
              have v26 : vals 26 = .pointer (some ⟨b, 3, none⟩) := appW_get 26 (hd 26 (by kernel_rfl)) (by decide)
              have HI := Lib.hid hI
              clear hI
              clear hd
              unfold nVal
              simp only [putL]
              go_simp
              exact ⟨HI.out, Only.refl _ _, appW_put 27 (by decide) rfl⟩
            refine ⟨fun vals w' hI hd => ?_, ?_⟩
            · have c2 := (T4.out.only hI id (fun _ _ e => e)).blk.cell 2
              have c3 := (T4.out.only hI id (fun _ _ e => e)).blk.cell 3
              simp only [tcells, List.getElem?_toArray, List.getElem?_cons_succ, List.getElem?_cons_zero] at c2 c3
              have v27 : vals 27 = .pointer (some ⟨p, 0, none⟩) := appW_get 27 (hd 27 (by kernel_rfl)) (by decide)
              have HI := Lib.hid hI
              clear hI
              clear hd
              unfold nVal
              simp only [putL]
              go_simp
              exact ⟨HI.out, Only.refl _ _, appW_put 28 (by decide) rfl⟩
            refine ⟨fun vals w' hI hd => ?_, ?_⟩
            · have c2 := (T4.out.only hI id (fun _ _ e => e)).blk.cell 2
              have c3 := (T4.out.only hI id (fun _ _ e => e)).blk.cell 3
              simp only [tcells, List.getElem?_toArray, List.getElem?_cons_succ, List.getElem?_cons_zero] at c2 c3
              have v14 : vals 14 = fval (syVal p) := appW_get 14 (hd 14 (by kernel_rfl)) (by decide)
              have v28 : vals 28 = fval (syVal p) := appW_get 28 (hd 28 (by kernel_rfl)) (by decide)
              have HI := Lib.hid hI
              clear hI
              obtain ⟨x, y, z, h9, _⟩ := appW_w1.1 (hd 9 (by kernel_rfl))
              obtain ⟨x', y', z', h23, _⟩ := appW_w2.1 (hd 23 (by kernel_rfl))
              clear hd
              have hsz := HI.out.size
              have HE : Hid (#[vals 9, vals 14, vals 23, vals 28] = #[fval (wrVal x y z), fval (syVal p), fval (wrVal x' y' z'), fval (syVal p)]) := by show _ = _; rw [h9, v14, h23, v28]
              unfold fval wrVal at h9 h23
              unfold fval syVal at v14 v28
              unfold nVal
              simp only [putL]
              go_simp
              refine ⟨HI.out.alloc _, (Only.refl _ _).alloc _, appW_s.2 ⟨w'.heap.size, rfl, ?_, hsz⟩⟩
              rw [HE.out]
              exact Blk.new _ _ _
            exact trivial
          case hend =>
            intro vals w5 hI hk5
            obtain ⟨x, y, z, h9, W9, hx, hy, hz⟩ := appW_w1.1 (hk5 9 (by omega))
            obtain ⟨x', y', z', h23, W23, hx', hy', hz'⟩ := appW_w2.1 (hk5 23 (by omega))
            obtain ⟨g, h29, K29, hg⟩ := appW_s.1 (hk5 29 (by omega))
            have v14 : vals 14 = fval (syVal p) := appW_get 14 (hk5 14 (by omega)) (by decide)
            have v28 : vals 28 = fval (syVal p) := appW_get 28 (hk5 28 (by omega)) (by decide)
            rw [h9, v14, h23, v28] at K29
            clear hk5 h9 v14 h23 v28
            have o5 : Only (fun _ => False) w3 w5 := O4.out.trans' hI
            have b5 : Below w.heap.size w w5 := B3.out.trans (o5.below B3.out.size (fun _ e => e.elim))
            have hlt := H.out.dk.lt
            have hsz4 : w.heap.size ≤ w4.heap.size := Nat.le_trans B3.out.size O4.out.size
            have nf : ∀ k, w4.heap.size ≤ k → ¬ F k := fun k hk e => by have := hlt k e; omega
            have T5 := T4.out.only hI id (fun _ _ e => e)
            have FF := Lib.hid (first_any ([wrVal x y z, syVal p] ++ [wrVal x' y' z', syVal p]) g 4 _ w5 K29 (by show 4 ≤ 1000; omega) _ (four_enters x y z x' y' z' p) (first_four W9 W23 ⟨nf _ hx', nf _ hy', nf _ hz'⟩ T5.blk H.out.nb rfl (D4.out.only hI (fun _ _ e => e)) hp K29.lt (nf _ hg)))
            have O5 := Lib.hid o5
            have B5 := Lib.hid b5
            clear W9 W23 K29 T5 hI nf hlt o5 b5 hx hy hz hx' hy' hz' hg
            obtain ⟨r, hr⟩ : ∃ r, r = putAll t d l := ⟨_, rfl⟩
            have hr2 : d.put2 ((t.size : Int) + 1) (S.extract 1 S.size) t.size (S.extract 0 1) = r := by rw [hr, HSS.out]; rfl
            rw [hr2] at FF
            have HR := Lib.hid hr.symm
            have hrl : r.2.dur.length = d.dur.length := by rw [← hr2]; exact (DSt.put2_len H.out.dk.lens.1).2
            have HRL := Lib.hid hrl
            clear hr hr2 hrl
            refine nList_step (fun K hK => ?_)
            unfold nOp nUpon
            simp only [putL]
            go_simp
            refine FF.out.mono ?_
            rintro e w6 ⟨n, rfl, rfl, hS6⟩
            refine ⟨_, rfl, hK _ _ trivial ?_⟩
            clear hK K FF
            refine nList_step (fun K hK => ?_)
            unfold nOp nUpon
            go_simp
            refine hK _ _ trivial ?_
            clear hK K
            refine nList_nil ?_
            have hfit2 : Hid ((t.adds l).size ≤ d.dur.length) := by show _ ≤ _; rw [Tape.adds_size, ← HSZ.out]; omega
            obtain ⟨rn, rd⟩ := r
            by_cases h0 : rn = 0
            · subst h0
              obtain ⟨k6, n6, hne, hpost⟩ := app_good H.out HL.out K3.out O5.out B5.out hS6 HRL.out hfit2.out rfl
              have e : app t false d l = (0, t.adds l, false, rd) := by
                unfold app
                rw [if_neg (by rw [HLG.out]; simp), if_neg (by rw [← HSZ.out]; exact hfull), if_neg HL0.out, HR.out, if_pos rfl]
              have E := Lib.hid e
              obtain ⟨rna, rnc, hrn⟩ := ownsRow_form HL.out.tape.own
              subst hrn
              have c0 := k6.cell 0
              have c1 := k6.cell 1
              have c2 := k6.cell 2
              have f0 := k6.frozen 0
              have f1 := k6.frozen 1
              have f2 := k6.frozen 2
              have m0 := n6.cell 0
              have m1 := n6.cell 1
              have m2 := n6.cell 2
              simp only [tcells, List.getElem?_toArray, List.getElem?_cons_succ, List.getElem?_cons_zero] at c0 c1 c2 m0 m1 m2
              have HP := Lib.hid hpost
              clear e hpost k6 n6 hS6
              go_wp2_with fail
              go_ret
              rw [E.out]
              exact HP.out
            · obtain ⟨k6, hpost⟩ := app_bad H.out B5.out hS6 HRL.out
              have e : app t false d l = (rn, t, true, rd) := by
                unfold app
                rw [if_neg (by rw [HLG.out]; simp), if_neg (by rw [← HSZ.out]; exact hfull), if_neg HL0.out, HR.out, if_neg h0]
              have E := Lib.hid e
              have c4 := k6.cell 4
              have f4 := k6.frozen 4
              simp only [tcells, List.getElem?_toArray, List.getElem?_cons_succ, List.getElem?_cons_zero] at c4
              have q5 : (rn == 0) = false := beq_eq_false_iff_ne.2 h0
              have q6 : (rn != 0) = true := bne_iff_ne.2 h0
              have HP := Lib.hid hpost
              clear e hpost k6 hS6 h0
              go_wp2_with fail
              go_ret
              rw [E.out]
              exact HP.out
/-- Append, whatever the state. -/
theorem Append_any {w : World} {b p : Nat} {F : Nat → Prop} {d : DSt} {t : Tape} {br : Bool} {rv v : Value} {l : List ByteArray} {a : Addr} (gl : Gl w a) (h : JnAt w b p F d t br rv) (hv : StrsAt w v l) (hl : l.length ≤ 1000) (hp : d.pend.length ≤ 999999) :
    Calls Tryz.prog 10 #[.pointer (some ⟨b, 0, none⟩), v] w fun e w' => AppPost w b p F rv (app t br d l) e w' := by
  cases br with
  | true => exact Append_broken h
  | false =>
    cases hlong : l.any long with
    | true => exact Append_long h hv hl hlong
    | false => exact Append_loop gl h hv hl hlong hp
end Go.Proofs.YtjlgkjhociaeiaaGreatDoor
