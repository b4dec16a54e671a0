/-
  Joined by program out of: First, Writing, Two.
-/
import Derived.Test.YtjlgkjhociaeiaaGreatDoorGg
namespace Go.Proofs.YtjlgkjhociaeiaaGreatDoor
open Go.RowKit
set_option linter.unusedVariables false
/-- Calls one after the other, up to the first error; Q: of the error (0: none) and the world behind. -/
def FirstSpec (g : Nat) : List (FuncId × Array Value × Array Value) → World → (Int → World → Prop) → Prop
  | [], w, Q => Q 0 w
  | f :: fs, w, Q => Calls Tryz.prog f.1 (f.2.1 ++ f.2.2) w fun e w' => ∃ n : Int, e = .returned (.int .i64 n) ∧ w'.heap[g]? = w.heap[g]? ∧ (n ≠ 0 → Q n w') ∧ (n = 0 → FirstSpec g fs w' Q)
def fval (f : FuncId × Array Value × Array Value) : Value := .func (.func f.1) f.2.1 f.2.2
set_option maxRecDepth 100000 in
set_option maxHeartbeats 4000000 in
theorem first_any (fs : List (FuncId × Array Value × Array Value)) (g c : Nat) (t : TypeId) (w : World) (hg : Blk w g t (fs.map fval).toArray) (hl : fs.length ≤ 1000) (Q : Int → World → Prop) (he : ∀ f ∈ fs, ∀ args w, (callFunc f.1 args).run Tryz.prog w = .ok (.enter f.1 args) w)
    (h : FirstSpec g fs w Q) : Calls Tryz.prog 40 #[.slice (some ⟨g, 0, none⟩) fs.length c] w fun e w' => ∃ n : Int, e = .returned (.int .i64 n) ∧ Q n w' := by
  go_enter Tryz.func40, Tryz.ntmps40
  have HS := Lib.hid h
  have HG := Lib.hid hg
  have HE := Lib.hid he
  clear h hg he
  go_wp2
  go_loopw [8] (fun i wr => ∃ k : Nat, k ≤ fs.length ∧ i = .int .i64 k ∧ Blk wr g t (fs.map fval).toArray ∧ FirstSpec g (fs.drop k) wr Q) (fun i _ => fs.length - (intOf i).toNat)
  case atStart => exact ⟨0, by omega, rfl, HG.out, HS.out⟩
  case round =>
    obtain ⟨k, hk, rfl, hb, hs⟩ := hrel
    by_cases hlt : k < fs.length
    · obtain ⟨f, hf⟩ : ∃ f, fs[k] = f := ⟨_, rfl⟩
      rw [List.drop_eq_getElem_cons hlt, hf] at hs
      have c1 := hb.cell k
      have e1 : (fs.map fval).toArray[k]? = some (fval f) := by simp [hlt, hf]
      rw [e1] at c1
      have eg := HE.out f (hf ▸ List.getElem_mem hlt)
      have K := Lib.hid hs
      have HB := Lib.hid hb
      obtain ⟨f1, f2, f3⟩ := f
      unfold fval at c1
      simp only at c1 eg
      have hE : Hid (∀ args w, (callFunc f1 args).run Tryz.prog w = .ok (.enter f1 args) w) := eg
      clear hs hb hf e1
      have d1 : decide ((k : Int) < fs.length) = true := decide_eq_true (by omega)
      go_wp2_with fail
      refine K.out.mono ?_
      rintro e w' ⟨n, rfl, hh, h1, h2⟩
      have hb2 : Hid (Blk w' g t (fs.map fval).toArray) := hh.trans HB.out
      have H1 := Lib.hid h1
      have H2 := Lib.hid h2
      clear hh h1 h2
      by_cases hn : n = 0
      · subst hn
        have H3 := Lib.hid (H2.out rfl)
        go_wp2
        go_round
        case rel => exact ⟨k + 1, by omega, by go_num, hb2.out, H3.out⟩
        case measure => simp [intOf]; omega
      · have q1 : (n == 0) = false := beq_eq_false_iff_ne.2 hn
        have q2 : (n != 0) = true := bne_iff_ne.2 hn
        have H3 := Lib.hid (H1.out hn)
        clear hn
        go_wp2
        go_ret
        exact ⟨n, rfl, H3.out⟩
    · have e0 : fs.drop k = [] := List.drop_eq_nil_of_le (by omega)
      rw [e0] at hs
      have HQ : Hid (Q 0 wr) := hs
      have d1 : decide ((k : Int) < fs.length) = false := decide_eq_false (by omega)
      clear hs
      go_wp2
      go_ret
      exact ⟨0, rfl, HQ.out⟩
end Go.Proofs.YtjlgkjhociaeiaaGreatDoor
namespace Go.Proofs.YtjlgkjhociaeiaaGreatDoor
open Go.RowKit
set_option linter.unusedVariables false
/-- The call that writes: its three cells. -/
structure Wr (w : World) (x y z b : Nat) (at_ : Int) (s : ByteArray) : Prop where
  j : Blk w x 28 #[.pointer (some ⟨b, 0, none⟩)]
  a : Blk w y 3 #[.int .i64 at_]
  s : Blk w z 9 #[.string s]
def wrVal (x y z : Nat) : FuncId × Array Value × Array Value := (72, #[], #[.pointer (some ⟨x, 0, none⟩), .pointer (some ⟨y, 0, none⟩), .pointer (some ⟨z, 0, none⟩)])
set_option maxRecDepth 100000 in
theorem writing_any (w : World) (b : Nat) (at_ : Int) (s : ByteArray) :
    Calls Tryz.prog 41 #[.pointer (some ⟨b, 0, none⟩), .int .i64 at_, .string s] w fun e w' => ∃ x y z, e = .returned (fval (wrVal x y z)) ∧ Wr w' x y z b at_ s ∧ w.heap.size ≤ x ∧ w.heap.size ≤ y ∧ w.heap.size ≤ z ∧ Below w.heap.size w w' := by
  have hmf : ∀ (fn : Fn) (first cap : Array Value) (w : World), (Instr.makeFunc fn first cap).run Tryz.prog w = .ok (.func fn first cap) w := fun _ _ _ _ => rfl
  go_enter Tryz.func41, Tryz.ntmps41
  go_wp2
  go_ret
  obtain ⟨w1, h1⟩ : ∃ w1, w1 = w.alloc (.cells #[.pointer (some ⟨b, 0, none⟩)] 28) := ⟨_, rfl⟩
  obtain ⟨w2, h2⟩ : ∃ w2, w2 = w1.alloc (.cells #[.int .i64 at_] 3) := ⟨_, rfl⟩
  have s1 : w1.heap.size = w.heap.size + 1 := by rw [h1]; simp
  have s2 : w2.heap.size = w.heap.size + 1 + 1 := by rw [h2]; simp [s1]
  have k1 := Blk.new w 28 #[.pointer (some ⟨b, 0, none⟩)]
  rw [← h1] at k1 ⊢
  have k2 := Blk.new w1 3 #[.int .i64 at_]
  rw [← h2] at k2 ⊢
  have k3 := Blk.new w2 9 #[.string s]
  have k1' := k1.alloc (.cells #[.int .i64 at_] 3)
  rw [← h2] at k1'
  rw [s1] at k2
  rw [s2] at k3
  have b1 : Below w.heap.size w w2 := by rw [h2, h1]; exact (((Only.refl (fun _ => False) w).alloc _).alloc _).below (Nat.le_refl _) (fun _ e => e.elim)
  exact ⟨w.heap.size, w.heap.size + 1, w.heap.size + 1 + 1, rfl, ⟨k1'.alloc _, k2.alloc _, k3⟩, Nat.le_refl _, by omega, by omega, b1.alloc b1.size _⟩
set_option maxRecDepth 100000 in
set_option maxHeartbeats 1000000 in
theorem write_any {w : World} {p : Nat} {F : Nat → Prop} {d : DSt} {x y z b : Nat} {at_ : Int} {s : ByteArray} {ty : TypeId} {cs : Array Value} (h : Wr w x y z b at_ s) (hj : Blk w b ty cs) (h3 : cs[3]? = some (.pointer (some ⟨p, 0, none⟩))) (hd : Dk w p F d) (hl : d.pend.length ≤ 1000000) :
    Calls Tryz.prog 72 #[.pointer (some ⟨x, 0, none⟩), .pointer (some ⟨y, 0, none⟩), .pointer (some ⟨z, 0, none⟩)] w fun e w' => e = .returned (.int .i64 (d.write at_ s).1) ∧ Step w p F (d.write at_ s).2 w' := by
  have c1 := h.j.cell 0
  have c2 := h.a.cell 0
  have c3 := h.s.cell 0
  have c4 := hj.cell 3
  rw [h3] at c4
  simp only [List.getElem?_toArray, List.getElem?_cons_zero] at c1 c2 c3
  have K := Lib.hid (Dk.write (hd.only (Only.drew (Only.refl (fun _ => False) w)) (fun _ _ e => e) : Dk w.drew p F d) at_ s hl)
  clear h hj hd h3
  go_enter Tryz.func72, Tryz.ntmps72
  go_wp2
  go_still_tail 6, (by kernel_rfl)
  change wpList _ _ _ _ _ w.drew
  go_wp2_with (go_at_call 13; refine K.out.mono ?_; rintro e w1 ⟨rfl, hs⟩)
  go_ret
  obtain ⟨F', q1, q2, q3⟩ := hs
  exact ⟨rfl, F', q1, ⟨q2.os, q2.tape, q2.output, q2.size, q2.block⟩, q3⟩
end Go.Proofs.YtjlgkjhociaeiaaGreatDoor
namespace Go.Proofs.YtjlgkjhociaeiaaGreatDoor
open Go.RowKit
set_option linter.unusedVariables false
def syVal (p : Nat) : FuncId × Array Value × Array Value := (42, #[.pointer (some ⟨p, 0, none⟩)], #[])
/-- A write and a sync, up to the first error. -/
def DSt.put (d : DSt) (at_ : Int) (s : ByteArray) : Int × DSt := if (d.write at_ s).1 ≠ 0 then d.write at_ s else (d.write at_ s).2.sync
theorem Step.keeps {w w' : World} {p g : Nat} {F : Nat → Prop} {d : DSt} (h : Step w p F d w') (hg : g < w.heap.size) (hn : ¬ F g) : w'.heap[g]? = w.heap[g]? := by
  obtain ⟨F', _, o, _⟩ := h
  exact o.block g hg hn
theorem first_two {w : World} {p g : Nat} {F : Nat → Prop} {d : DSt} {x y z b : Nat} {at_ : Int} {s : ByteArray} {ty : TypeId} {cs : Array Value} (h : Wr w x y z b at_ s) (hj : Blk w b ty cs) (h3 : cs[3]? = some (.pointer (some ⟨p, 0, none⟩))) (hd : Dk w p F d) (hl : d.pend.length ≤ 1000000) (hg : g < w.heap.size) (hn : ¬ F g) :
    FirstSpec g [wrVal x y z, syVal p] w fun n w' => n = (d.put at_ s).1 ∧ Step w p F (d.put at_ s).2 w' := by
  unfold FirstSpec
  refine (write_any h hj h3 hd hl).mono ?_
  rintro e w1 ⟨rfl, hs⟩
  refine ⟨_, rfl, hs.keeps hg hn, ?_, ?_⟩
  · intro hne
    have e : d.put at_ s = d.write at_ s := if_pos hne
    rw [e]
    exact ⟨rfl, hs⟩
  · intro he
    have e : d.put at_ s = (d.write at_ s).2.sync := if_neg (fun q => q he)
    rw [e]
    unfold FirstSpec
    obtain ⟨F1, d1, o1, f1⟩ := hs
    have hn1 : ¬ F1 g := fun q => (f1 g q).elim hn fun q => absurd hg (by omega)
    have hg1 : g < w1.heap.size := by have := o1.size; omega
    refine (Dk.sync d1).mono ?_
    rintro e w2 ⟨rfl, hs2⟩
    have S : Step w p F (d.write at_ s).2.sync.2 w2 := by
      obtain ⟨F2, d2, o2, f2⟩ := hs2
      exact ⟨F2, d2, o1.trans o2 fun i hi e => (f1 i e).elim id fun x => absurd hi (by omega), fun i e => (f2 i e).elim (fun x => f1 i x) fun x => .inr (Nat.le_trans o1.size x)⟩
    refine ⟨_, rfl, hs2.keeps hg1 hn1, fun _ => ⟨rfl, S⟩, fun e0 => ?_⟩
    unfold FirstSpec
    exact ⟨e0.symm, S⟩
theorem FirstSpec.append {g : Nat} {R Q : Int → World → Prop} (gs : List (FuncId × Array Value × Array Value)) (H : ∀ n w', R n w' → (n ≠ 0 → Q n w') ∧ (n = 0 → FirstSpec g gs w' Q)) : ∀ (fs : List (FuncId × Array Value × Array Value)) (w : World), FirstSpec g fs w R → FirstSpec g (fs ++ gs) w Q
  | [], w, h => (H 0 w h).2 rfl
  | f :: fs, w, h => by
    unfold FirstSpec at h
    rw [List.cons_append]
    unfold FirstSpec
    refine h.mono ?_
    rintro e w1 ⟨n, rfl, hh, h1, h2⟩
    exact ⟨n, rfl, hh, fun hn => (H _ _ (h1 hn)).1 hn, fun h0 => FirstSpec.append gs H fs w1 (h2 h0)⟩
end Go.Proofs.YtjlgkjhociaeiaaGreatDoor
