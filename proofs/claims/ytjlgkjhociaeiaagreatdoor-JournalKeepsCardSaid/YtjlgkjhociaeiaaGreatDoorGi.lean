/-
  Joined by program out of: Open1, Open2, Open3.
-/
import Derived.Test.YtjlgkjhociaeiaaGreatDoorGh
import Derived.Test.YtjlgkjhociaeiaaGreatDoorBuild
namespace Go.Proofs.YtjlgkjhociaeiaaGreatDoor
open Go.RowKit
set_option linter.unusedVariables false
theorem Open_nil (w : World) : Calls Tryz.prog 25 #[.pointer none] w fun e w' => e = .returned (.tuple #[.pointer none, .int .i64 1]) ∧ w = w' := by
  go_enter Tryz.func25, Tryz.ntmps25
  go_wp2
  go_ret2
  exact ⟨rfl, rfl⟩
theorem Dk.drew' {w : World} {p : Nat} {F : Nat → Prop} {s : DSt} (h : Dk w p F s) : Dk w.drew p F s := h.only (Only.drew (Only.refl (fun _ => False) w)) fun _ _ e => e
set_option maxRecDepth 100000 in
set_option maxHeartbeats 4000000 in
theorem Open_off {w : World} {p : Nat} {F : Nat → Prop} {s : DSt} (h : Dk w p F s) (ho : s.off = true) :
    Calls Tryz.prog 25 #[.pointer (some ⟨p, 0, none⟩)] w fun e w' => e = .returned (.tuple #[.pointer none, .int .i64 251]) ∧ Below w.heap.size w w' := by
  have hr : s.read 0 (s.dur.length : Int) = ([], 251) := by simp [DSt.read, ho]
  have H := Lib.hid h
  have HR := Lib.hid hr
  clear hr h ho
  go_enter Tryz.func25, Tryz.ntmps25
  go_wp2_with (first | (go_at_call 51; refine (Dk.size H.out).mono ?_; rintro e w1 ⟨rfl, rfl⟩) | (go_at_call 52; refine (Dk.read H.out 0 _).mono ?_; rw [HR.out]; rintro e w1 ⟨rfl, rfl⟩))
  go_ret2
  exact ⟨rfl, Below.refl _ _⟩
set_option maxRecDepth 100000 in
set_option maxHeartbeats 4000000 in
theorem Tape.load_size : ∀ (n : Nat) (t t' : Tape) (s : ByteArray), s.size - t.size ≤ n → t.size ≤ s.size → t.load s = some t' → t'.size ≤ s.size
  | n, t, t', s, hn, ht, h => by
    rw [Tape.load] at h
    split at h
    · rename_i hlt
      split at h
      · cases h; exact ht
      · split at h
        · split at h
          · simp at h
          · rename_i r x hd
            split at h
            · rename_i hc
              have hp := stored_pos r (chain t.head r)
              have hz : (stored r (chain t.head r)).size = x + 32 - t.size := by
                rw [hc.2, ByteArray.size_extract]
                omega
              have e : (t.add r).size = t.size + (stored r (chain t.head r)).size := rfl
              have hx := decS_bounds hd
              match n, hn with
              | 0, hn => omega
              | n + 1, hn => exact Tape.load_size n (t.add r) t' s (by omega) (by omega) h
            · simp at h
        · simp at h
    · cases h; exact ht
theorem read_all {s : DSt} (ho : s.off = false) (hv : s.vis.length = s.dur.length) : s.read 0 (s.dur.length : Int) = (s.vis, 0) := by
  have hp : s.power = 0 := by simp [DSt.power, ho]
  have hi : s.inside 0 (s.dur.length : Int) = true := (s.inside_iff _ _).2 ⟨by omega, by omega, by omega, by omega⟩
  have e : s.read 0 (s.dur.length : Int) = (s.part 0 (s.dur.length : Int), 0) := by simp [DSt.read, ho, hi]
  rw [e]
  unfold DSt.part
  rw [← hv]
  simp
theorem Open_bad {w : World} {p : Nat} {F : Nat → Prop} {s : DSt} {a : Addr} (g : Gl w a) (h : Dk w p F s) (ho : s.off = false) (hv : s.vis.length = s.dur.length) (hsm : s.dur.length ≤ 4194304) (hR : Tape.none.load ⟨s.vis.toArray⟩ = none) :
    Calls Tryz.prog 25 #[.pointer (some ⟨p, 0, none⟩)] w fun e w' => e = .returned (.tuple #[.pointer none, .int .i64 262]) ∧ Below w.heap.size w w' := by
  have hr := read_all ho hv
  obtain ⟨S, hS⟩ : ∃ S : ByteArray, S = ⟨s.vis.toArray⟩ := ⟨_, rfl⟩
  have hSz : S.size = s.dur.length := by rw [hS, ← hv]; simp [ByteArray.size]
  have hS2 : S.size ≤ 4194304 := by omega
  have HS := Lib.hid hS
  have H := Lib.hid h
  have HR := Lib.hid hr
  have G := Lib.hid g
  rw [← hS] at hR
  have HRR := Lib.hid hR
  clear hr h ho hS g hR
  go_enter Tryz.func25, Tryz.ntmps25
  go_wp2_with (first | (go_at_call 51; refine (Dk.size H.out).mono ?_; rintro e w1 ⟨rfl, rfl⟩) | (go_at_call 52; refine (Dk.read H.out 0 _).mono ?_; rw [HR.out, ← HS.out]; rintro e w1 ⟨rfl, rfl⟩) | (go_at_call 54; refine (open_any w p S a G.out hS2).mono ?_; rw [HRR.out]; intro e w1 hl; obtain ⟨rfl, hb⟩ := hl))
  go_ret2
  exact ⟨rfl, hb⟩
end Go.Proofs.YtjlgkjhociaeiaaGreatDoor
namespace Go.Proofs.YtjlgkjhociaeiaaGreatDoor
open Go.RowKit
set_option linter.unusedVariables false
theorem trim_only {w w' : World} (h : w' = w ∨ w' = w.drew) : Only (fun _ => False) w w' := by
  rcases h with rfl | rfl
  · exact Only.refl _ _
  · exact (Only.refl _ _).drew
/-- What lies behind the records is nothing but zeros. -/
def clean (S : ByteArray) (n : Nat) : Prop := Lib.trimB (S.extract n S.size).data.toList 0 = []
set_option maxRecDepth 100000 in
set_option maxHeartbeats 4000000 in
theorem Open_fine {w : World} {p : Nat} {F : Nat → Prop} {s : DSt} {a : Addr} {t : Tape} (g : Gl w a) (h : Dk w p F s) (ho : s.off = false) (hv : s.vis.length = s.dur.length) (hsm : s.dur.length ≤ 4194304) (hR : Tape.none.load ⟨s.vis.toArray⟩ = some t) (hc : clean ⟨s.vis.toArray⟩ t.size) :
    Calls Tryz.prog 25 #[.pointer (some ⟨p, 0, none⟩)] w fun e w' => ∃ b rv, e = .returned (.tuple #[.pointer (some ⟨b, 0, none⟩), .int .i64 0]) ∧ TapeAt w' b 74 [.pointer (some ⟨p, 0, none⟩), .bool false] rv t ∧ w.heap.size ≤ b ∧ (∀ k, rv.ownBlock = some k → w.heap.size ≤ k) ∧ Below w.heap.size w w' := by
  have hr := read_all ho hv
  obtain ⟨S, hS⟩ : ∃ S : ByteArray, S = ⟨s.vis.toArray⟩ := ⟨_, rfl⟩
  have hSz : S.size = s.dur.length := by rw [hS, ← hv]; simp [ByteArray.size]
  have hS2 : S.size ≤ 4194304 := by omega
  have HS := Lib.hid hS
  have H := Lib.hid h
  have HR := Lib.hid hr
  have G := Lib.hid g
  rw [← hS] at hR hc
  have htS := Tape.load_size _ _ _ _ (Nat.le_refl _) (Nat.zero_le _) hR
  have HRR := Lib.hid hR
  obtain ⟨Z, hZ⟩ : ∃ Z, Z = Lib.trimB (S.extract t.size S.size).data.toList 0 := ⟨_, rfl⟩
  have HC : Hid (Z = []) := hZ.trans hc
  have HZ := Lib.hid hZ.symm
  have HSz := Lib.hid hSz
  clear hr h ho hS g hR hc hZ hSz
  go_enter Tryz.func25, Tryz.ntmps25
  go_wp2_with (first | (go_at_call 51; refine (Dk.size H.out).mono ?_; rintro e w1 ⟨rfl, rfl⟩) | (go_at_call 52; refine (Dk.read H.out 0 _).mono ?_; rw [HR.out, ← HS.out]; rintro e w1 ⟨rfl, rfl⟩) | (go_at_call 54; refine (open_any w p S a G.out hS2).mono ?_; rw [HRR.out]; intro e w1 hl; obtain ⟨⟨b, rv, rfl, hT, hb, hf⟩, hB⟩ := hl; have c2 := hT.blk.cell 2; simp only [tcells, List.getElem?_toArray, List.getElem?_cons_succ, List.getElem?_cons_zero] at c2; have HT := Lib.hid hT; have HF := Lib.hid hf; have HB := Lib.hid hB; clear hT hf hB) | (go_at_call 55; refine (Tryz.strings_Trim_one (S.extract t.size S.size) 0 (by decide) _ (by rw [ByteArray.size_extract]; omega)).mono ?_; rw [HZ.out, HC.out]; rintro e w2 ⟨rfl, hw⟩; have O2 := Lib.hid (trim_only hw); clear hw))
  go_ret2
  exact ⟨b, rv, rfl, HT.out.only O2.out id (fun _ _ e => e), hb, HF.out, HB.out.trans (O2.out.below HB.out.size (fun _ e => e.elim))⟩
end Go.Proofs.YtjlgkjhociaeiaaGreatDoor
namespace Go.Proofs.YtjlgkjhociaeiaaGreatDoor
open Go.RowKit
set_option linter.unusedVariables false
theorem put_enters (x y z p : Nat) : ∀ f ∈ [wrVal x y z, syVal p], ∀ args w, (callFunc f.1 args).run Tryz.prog w = .ok (.enter f.1 args) w := by
  intro f hf
  simp only [List.mem_cons, List.not_mem_nil, or_false] at hf
  rcases hf with rfl | rfl
  · exact enters_of Tryz.func72 (by kernel_rfl) rfl
  · exact enters_of Tryz.func42 (by kernel_rfl) rfl
/-- The call of first. -/
theorem tail_first {w W W2 w4 : World} {p b x y z : Nat} {F : Nat → Prop} {s : DSt} {t : Tape} {rv : Value} {at_ : Int} {zs : ByteArray} (H : Dk w p F s) (HT : TapeAt W b 74 [.pointer (some ⟨p, 0, none⟩), .bool false] rv t) (hb : w.heap.size ≤ b) (hf : ∀ k, rv.ownBlock = some k → w.heap.size ≤ k) (HB : Below w.heap.size w W)
    (o : Only (fun _ => False) W W2) (hW : Wr w4 x y z b at_ zs) (hB4 : Below W2.heap.size W2 w4) (hl : s.pend.length ≤ 1000000) :
    Calls Tryz.prog 40 #[.slice (some ⟨w4.heap.size, 0, none⟩) 2 2] (w4.alloc (.cells #[fval (wrVal x y z), fval (syVal p)] 85)) fun e w' => e = .returned (.int .i64 (s.put at_ zs).1) ∧ Step w p F (s.put at_ zs).2 w' ∧ TapeAt w' b 74 [.pointer (some ⟨p, 0, none⟩), .bool false] rv t := by
  obtain ⟨W5, h5⟩ : ∃ W5, W5 = w4.alloc (.cells #[fval (wrVal x y z), fval (syVal p)] 85) := ⟨_, rfl⟩
  have o2 : Only (fun _ => False) W w4 := o.trans' (Only.of_below hB4 _)
  have o5 : Only (fun _ => False) W W5 := by rw [h5]; exact o2.alloc _
  have b5 : Below w.heap.size w W5 := HB.trans (o5.below HB.size fun _ e => e.elim)
  have T5 := HT.only o5 id (fun _ _ e => e)
  have hlt := H.lt
  have k5 := Blk.new w4 85 #[fval (wrVal x y z), fval (syVal p)]
  rw [← h5] at k5 ⊢
  have W5r : Wr W5 x y z b at_ zs := by rw [h5]; exact ⟨hW.j.alloc _, hW.a.alloc _, hW.s.alloc _⟩
  have D5 := H.below b5
  have hg : ¬ F w4.heap.size := fun e => by
    have := hlt _ e
    have := o2.size
    have := HB.size
    omega
  refine (first_any [wrVal x y z, syVal p] w4.heap.size 2 _ W5 k5 (by show 2 ≤ 1000; omega) _ (put_enters x y z p) (first_two W5r T5.blk rfl D5 hl k5.lt hg)).mono ?_
  rintro e w6 ⟨n, rfl, rfl, F', q1, q2, q3⟩
  refine ⟨rfl, ⟨F', q1, (Only.of_below b5 F).trans' q2, fun k e => (q3 k e).elim .inl fun q => .inr (by have := b5.size; omega)⟩, T5.only q2 (fun e => by have := hlt _ e; omega) (fun k hk e => by have := hlt _ e; have := hf k hk; omega)⟩
def openTail (w : World) (p : Nat) (F : Nat → Prop) (s : DSt) (t : Tape) (e : Ending) (w' : World) : Prop :=
  Step w p F (s.put t.size (zeros (s.dur.length - t.size))).2 w' ∧ (((s.put t.size (zeros (s.dur.length - t.size))).1 = 0 ∧ ∃ b rv, e = .returned (.tuple #[.pointer (some ⟨b, 0, none⟩), .int .i64 0]) ∧ TapeAt w' b 74 [.pointer (some ⟨p, 0, none⟩), .bool false] rv t ∧ w.heap.size ≤ b ∧ ∀ k, rv.ownBlock = some k → w.heap.size ≤ k) ∨
    ((s.put t.size (zeros (s.dur.length - t.size))).1 ≠ 0 ∧ e = .returned (.tuple #[.pointer none, .int .i64 (s.put t.size (zeros (s.dur.length - t.size))).1])))
theorem openTail.good {w w' : World} {p b : Nat} {F : Nat → Prop} {s : DSt} {t : Tape} {rv : Value} {n : Nat} (hn : n = s.dur.length) (hm : (s.put t.size (zeros (n - t.size))).1 = 0) (hs : Step w p F (s.put t.size (zeros (n - t.size))).2 w') (hT : TapeAt w' b 74 [.pointer (some ⟨p, 0, none⟩), .bool false] rv t) (hb : w.heap.size ≤ b) (hf : ∀ k, rv.ownBlock = some k → w.heap.size ≤ k) :
    openTail w p F s t (.returned (.tuple #[.pointer (some ⟨b, 0, none⟩), .int .i64 0])) w' := by
  subst hn
  exact ⟨hs, .inl ⟨hm, b, rv, rfl, hT, hb, hf⟩⟩
theorem openTail.bad {w w' : World} {p : Nat} {F : Nat → Prop} {s : DSt} {t : Tape} {n : Nat} {m : Int} (hn : n = s.dur.length) (hm : (s.put t.size (zeros (n - t.size))).1 = m) (h0 : m ≠ 0) (hs : Step w p F (s.put t.size (zeros (n - t.size))).2 w') :
    openTail w p F s t (.returned (.tuple #[.pointer none, .int .i64 m])) w' := by
  subst hn
  subst hm
  exact ⟨hs, .inr ⟨h0, rfl⟩⟩
set_option maxRecDepth 100000 in
set_option maxHeartbeats 4000000 in
theorem Open_tail {w : World} {p : Nat} {F : Nat → Prop} {s : DSt} {a : Addr} {t : Tape} (g : Gl w a) (h : Dk w p F s) (ho : s.off = false) (hv : s.vis.length = s.dur.length) (hsm : s.dur.length ≤ 4194304) (hR : Tape.none.load ⟨s.vis.toArray⟩ = some t) (hl : s.pend.length ≤ 1000000) (hc : ¬ clean ⟨s.vis.toArray⟩ t.size) :
    Calls Tryz.prog 25 #[.pointer (some ⟨p, 0, none⟩)] w fun e w' => openTail w p F s t e w' := by
  have hr := read_all ho hv
  obtain ⟨S, hS⟩ : ∃ S : ByteArray, S = ⟨s.vis.toArray⟩ := ⟨_, rfl⟩
  have hSz : S.size = s.dur.length := by rw [hS, ← hv]; simp [ByteArray.size]
  have hS2 : S.size ≤ 4194304 := by omega
  have HS := Lib.hid hS
  have H := Lib.hid h
  have HR := Lib.hid hr
  have G := Lib.hid g
  rw [← hS] at hR hc
  have htS := Tape.load_size _ _ _ _ (Nat.le_refl _) (Nat.zero_le _) hR
  have HRR := Lib.hid hR
  obtain ⟨Z, hZ⟩ : ∃ Z, Z = Lib.trimB (S.extract t.size S.size).data.toList 0 := ⟨_, rfl⟩
  have HC : Hid (Z ≠ []) := fun e => hc (hZ.symm.trans e)
  have HZ := Lib.hid hZ.symm
  have HSz := Lib.hid hSz
  have qZ : Z.isEmpty = false := by cases Z with | nil => exact absurd rfl HC.out | cons _ _ => rfl
  obtain ⟨n, hn⟩ : ∃ n, n = S.size - t.size := ⟨_, rfl⟩
  have hw : IntKind.i64.wrap ((S.size : Int) - t.size) = (n : Int) := by rw [IntWalk.i64_in _ (by omega)]; omega
  have hn2 : n ≤ 4194304 := by omega
  have hmk : ∀ w : World, (Instr.makeSlice 39 (.int .i64 (n : Int)) (.int .i64 (n : Int))).run Tryz.prog w = .ok (.slice (some ⟨w.heap.size, 0, none⟩) n n) (w.alloc (.cells (madeCells #[Value.int .u8 0] n) 5)) := run_make_row' (P := Tryz.prog) 39 5 (.int .u8 0) 1 Tryz.underlying39 info8 rfl .i64 .i64 n (by omega) (by omega)
  have cv := zeros_back n
  have hmf : ∀ (fn : Fn) (first cap : Array Value) (w : World), (Instr.makeFunc fn first cap).run Tryz.prog w = .ok (.func fn first cap) w := fun _ _ _ _ => rfl
  clear hr h ho hS g hR hc hZ hSz
  subst hn
  go_enter Tryz.func25, Tryz.ntmps25
  go_wp2_with (first | (go_at_call 51; refine (Dk.size H.out).mono ?_; rintro e w1 ⟨rfl, rfl⟩) | (go_at_call 52; refine (Dk.read H.out 0 _).mono ?_; rw [HR.out, ← HS.out]; rintro e w1 ⟨rfl, rfl⟩) | (go_at_call 54; refine (open_any w p S a G.out hS2).mono ?_; rw [HRR.out]; intro e w1 hl; obtain ⟨⟨b, rv, rfl, hT, hb, hf⟩, hB⟩ := hl; have c2 := hT.blk.cell 2; simp only [tcells, List.getElem?_toArray, List.getElem?_cons_succ, List.getElem?_cons_zero] at c2; have HT := Lib.hid hT; have HF := Lib.hid hf; have HB := Lib.hid hB; clear hT hf hB) | (go_at_call 55; refine (Tryz.strings_Trim_one (S.extract t.size S.size) 0 (by decide) _ (by rw [ByteArray.size_extract]; omega)).mono ?_; rw [HZ.out]; rintro e w2 ⟨rfl, hw⟩; have O2 := Lib.hid (trim_only hw); clear hw))
  have c2b := (HT.out.only O2.out id (fun _ _ e => e)).blk.cell 2
  simp only [tcells, List.getElem?_toArray, List.getElem?_cons_succ, List.getElem?_cons_zero] at c2b
  have c2c := ((HT.out.only O2.out id (fun _ _ e => e)).blk.alloc (.cells (madeCells #[Value.int .u8 0] (S.size - t.size)) 5)).cell 2
  simp only [tcells, List.getElem?_toArray, List.getElem?_cons_succ, List.getElem?_cons_zero] at c2c
  have cvv : (convert 39 9 (.slice (some ⟨w2.heap.size, 0, none⟩) (S.size - t.size) (S.size - t.size))).run Tryz.prog (w2.alloc (.cells (madeCells #[Value.int .u8 0] (S.size - t.size)) 5)).drew = .ok (.string (zeros (S.size - t.size))) (w2.alloc (.cells (madeCells #[Value.int .u8 0] (S.size - t.size)) 5)).drew := cv w2.drew
  clear cv
  clear c2
  obtain ⟨m, hm⟩ : ∃ m, m = (s.put t.size (zeros (S.size - t.size))).1 := ⟨_, rfl⟩
  have HM := Lib.hid hm.symm
  clear hm
  go_region_with (first | (go_at_call 41; refine (writing_any _ b t.size (zeros (S.size - t.size))).mono ?_; rintro e w4 ⟨x, y, z, rfl, hW, hx, hy, hz, hB4⟩; have HW := Lib.hid hW; have HB4 := Lib.hid hB4; clear hW hx hy hz hB4; unfold fval wrVal) | (go_at_call 40; refine (tail_first H.out HT.out hb HF.out HB.out ((O2.out.alloc (.cells (madeCells #[Value.int .u8 0] (S.size - t.size)) 5)).drew) HW.out HB4.out hl).mono ?_; rw [HM.out]; rintro e w6 ⟨rfl, hS6, hT6⟩; have HS6 := Lib.hid hS6; have HT6 := Lib.hid hT6; clear hS6 hT6))
  all_goals
    by_cases h0 : m = 0
    · subst h0
      go_wp2
      go_ret2
      exact openTail.good HSz.out HM.out HS6.out HT6.out hb HF.out
    · have q1 : (m == 0) = false := beq_eq_false_iff_ne.2 h0
      have q2 : (m != 0) = true := bne_iff_ne.2 h0
      have H0 := Lib.hid h0
      clear h0
      go_wp2
      go_ret2
      exact openTail.bad HSz.out HM.out H0.out HS6.out
end Go.Proofs.YtjlgkjhociaeiaaGreatDoor
