/-
  JournalSurvives, walked.
-/
import Derived.Test.YtjlgkjhociaeiaaGreatDoorJKeep
namespace Go.Proofs.YtjlgkjhociaeiaaGreatDoor
open Go.RowKit
set_option linter.unusedVariables false

theorem Row.len {w : World} {v : Value} {zs : List ByteArray} (h : Row w v zs) : zs.length ≤ 9223372036854775807 := by
  rcases h.2 with ⟨_, h0⟩ | ⟨g', cap, cur, _, _, _, hn, hm, _⟩
  · omega
  · unfold maxLen at hm
    omega
/-- What may be behind a power failure. -/
def Two (n : Nat) (d : DSt) (l m : List ByteArray) : Prop := ∀ keep torn, Rec n (d.crash keep torn) l ∨ Rec n (d.crash keep torn) (l ++ m)
theorem two_held {n : Nat} {d : DSt} {l : List ByteArray} (h : Held n d l) : Two n d l [] := fun keep torn => .inl ((h.crash keep torn).1.toRec (h.crash keep torn).2)
/-- The loop's state. -/
def SurvSt (n : Nat) (d : DSt) (l m : List ByteArray) (br more : Bool) : Prop :=
  (br = false ∧ m = [] ∧ Held n d l ∧ (more = true → d.left = 0)) ∨ (br = true ∧ more = false ∧ Fail n d l m)
/-- append(append([]string{}, was...), few(..)...), as an order that is drawn: what the first eight operations give. -/
def catW (u gv : Value) (yv : Value) (i : Value) (q : Value) (l f : List ByteArray) (B : Nat) (k : Nat) (vals : Nat → Value) (v : Value) (w : World) : Prop :=
  if k = 0 then ∃ g, v = .slice (some ⟨g, 0, none⟩) 0 0 ∧ w.ownsRow B 9 1 v 0 []
  else if k = 2 then w.ownsRow B 9 1 v l.length (l.map Value.string)
  else if k = 7 then Row w v f
  else v = ([undef, u, undef, gv, i, q, yv] : List Value)[k]?.getD undef
section
variable {u gv yv i q : Value} {l f : List ByteArray} {B : Nat} {vals : Nat → Value} {v : Value} {w : World}
theorem catW_0 : catW u gv yv i q l f B 0 vals v w ↔ ∃ g, v = .slice (some ⟨g, 0, none⟩) 0 0 ∧ w.ownsRow B 9 1 v 0 [] := by unfold catW; rw [if_pos rfl]
theorem catW_2 : catW u gv yv i q l f B 2 vals v w ↔ w.ownsRow B 9 1 v l.length (l.map Value.string) := by unfold catW; rw [if_neg (by decide), if_pos rfl]
theorem catW_7 : catW u gv yv i q l f B 7 vals v w ↔ Row w v f := by unfold catW; rw [if_neg (by decide), if_neg (by decide), if_pos rfl]
theorem catW_get (k : Nat) (h : catW u gv yv i q l f B k vals v w) (hk : (k != 0 && k != 2 && k != 7) = true) : v = ([undef, u, undef, gv, i, q, yv] : List Value)[k]?.getD undef := by
  simp only [Bool.and_eq_true, bne_iff_ne, ne_eq] at hk
  unfold catW at h
  rw [if_neg hk.1.1, if_neg hk.1.2, if_neg hk.2] at h
  exact h
theorem catW_put (k : Nat) (hk : (k != 0 && k != 2 && k != 7) = true) (h : v = ([undef, u, undef, gv, i, q, yv] : List Value)[k]?.getD undef) : catW u gv yv i q l f B k vals v w := by
  simp only [Bool.and_eq_true, bne_iff_ne, ne_eq] at hk
  unfold catW
  rw [if_neg hk.1.1, if_neg hk.1.2, if_neg hk.2]
  exact h
theorem catW_stable (k : Nat) {vals' : Nat → Value} {w' : World} (hG : Only (fun _ => False) w w') (h : catW u gv yv i q l f B k vals v w) : catW u gv yv i q l f B k vals' v w' := by
  by_cases h0 : k = 0
  · subst h0
    obtain ⟨g, h1, h2⟩ := catW_0.1 h
    exact catW_0.2 ⟨g, h1, ownsRow_only h2 hG (fun _ _ e => e)⟩
  · by_cases h2 : k = 2
    · subst h2
      exact catW_2.2 (ownsRow_only (catW_2.1 h) hG (fun _ _ e => e))
    · by_cases h7 : k = 7
      · subst h7
        exact catW_7.2 (ownsRow_only (catW_7.1 h) hG (fun _ _ e => e))
      · have hne : (k != 0 && k != 2 && k != 7) = true := by simp [h0, h2, h7]
        exact catW_put k hne (catW_get k h hne)
end
/-- A group more, whatever power failure is planned. -/
theorem JL.appAny {B : Nat} {a : Addr} {w : World} {b p n : Nat} {d : DSt} {l m : List ByteArray} {v : Value} (h : JL B a w b p d (tp l) false) (hh : Held n d l) (hv : StrsAt w v m) (hs : ∀ r ∈ m, r.size ≤ 65536) (hl : m.length ≤ 1000) :
    Calls Tryz.prog 10 #[.pointer (some ⟨b, 0, none⟩), v] w fun e w' => ∃ (c : Int) (d' : DSt), e = .returned (.int .i64 c) ∧ Left B w w' ∧ ((c = 0 ∧ JL B a w' b p d' (tp (l ++ m)) false ∧ Held n d' (l ++ m) ∧ (d.left = 0 → d'.left = 0)) ∨ (c = 261 ∧ JL B a w' b p d' (tp l) false ∧ Held n d' l ∧ (d.left = 0 → d'.left = 0)) ∨ (c = 251 ∧ (d.left = 1 ∨ d.left = 2) ∧ JL B a w' b p d' (tp l) true ∧ Fail n d' l m)) := by
  refine (h.append hv hl (by rw [hh.pend]; exact Nat.zero_le _)).mono ?_
  rintro e w' ⟨rfl, hj, hL⟩
  refine ⟨_, (app (tp l) false d m).2.2.2, rfl, hL, ?_⟩
  by_cases hm : m = []
  · subst hm
    rw [hh.app_nil] at hj ⊢
    rw [List.append_nil]
    exact .inl ⟨rfl, hj, hh, id⟩
  · by_cases hf : (enc l).length + ((tp l).out m).length ≤ n
    · rcases hh.app_some hs hm hf with ⟨_, _, d', e1, h1, h2⟩ | ⟨q, d', e1, h1⟩
      · rw [e1] at hj ⊢
        exact .inl ⟨rfl, hj, h1, fun h0 => by rw [h2, h0]⟩
      · rw [e1] at hj ⊢
        exact .inr (.inr ⟨rfl, q, hj, h1⟩)
    · rw [hh.app_full hs (by omega)] at hj ⊢
      exact .inr (.inl ⟨rfl, hj, hh, id⟩)
set_option maxRecDepth 100000 in
set_option maxHeartbeats 8000000 in
theorem journalSurvives_any (a0 : Int) (a1 : Option Addr) (len1 cap1 : Nat) (x1 : List (Value × List ByteArray)) (a2 : Int) (a3 : Option Addr) (len3 cap3 : Nat) (x3 : List Int) (a4 : Int) {w : World} {a : Addr} (g : Gl w a)
    (w0 : -9223372036854775808 ≤ a0 ∧ a0 ≤ 9223372036854775807) (w1 : Groups w a1 len1 cap1 x1) (w2 : -9223372036854775808 ≤ a2 ∧ a2 ≤ 9223372036854775807) (w3 : Keeps w a3 len3 cap3 x3) (w4 : -9223372036854775808 ≤ a4 ∧ a4 ≤ 9223372036854775807) :
    Calls Tryz.prog 5 #[.int .i64 a0, .slice a1 len1 cap1, .int .i64 a2, .slice a3 len3 cap3, .int .i64 a4] w fun e w' => e = .returned (.bool true) ∧ Below w.heap.size w w' := by
  have hcap := w1.hcap
  have hmax := w1.hmax
  unfold maxLen at hmax
  have hcap3 := w3.hcap
  have hmax3 := w3.hmax
  unfold maxLen at hmax3
  have HW := Lib.hid w1
  have HK3 := Lib.hid w3
  have hw := JW.start g
  have c20 := pickI_nonneg a2 3 (by omega)
  have c21 := pickI_lt a2 3 (by omega)
  obtain ⟨ct, hct⟩ : ∃ ct, ct = pickI a2 3 := ⟨_, rfl⟩
  rw [← hct] at c20 c21
  have HCT := Lib.hid hct.symm
  obtain ⟨n, hn⟩ : ∃ n, n = sizeN a0 := ⟨_, rfl⟩
  have hnl := sizeN_le a0
  rw [← hn] at hnl
  have HN := Lib.hid hn.symm
  have mixed : Tryz.prog.follows Departure.mixedOrders = true := by kernel_rfl
  clear w1 w3 hn hct
  go_enter Tryz.func5, Tryz.ntmps5
  go_wp2_with fail
  refine (sane_any g).mono ?_
  rintro e v1 ⟨rfl, b1⟩
  have hw1 := Lib.hid (hw.below b1)
  have hL1 := Lib.hid (LeftO.of (B := w.heap.size) (Nat.le_refl _) b1)
  clear b1 hw g
  go_wp2_with fail
  refine (size_any a0 v1 w0).mono ?_
  rintro e v1' ⟨rfl, rfl⟩
  rw [HN.out]
  go_wp2_with fail
  refine (DJ.new n hw1.out (by omega) (by omega)).mono ?_
  rintro e v2 ⟨p, rfl, D2, L2⟩
  have hD2 := Lib.hid D2; have hL2 := Lib.hid (hL1.out.trans L2); clear D2 L2 hw1 hL1
  go_wp2_with fail
  refine (hD2.out.openRec ((held_new n).toRec rfl)).mono ?_
  rintro e v3 ⟨b, d3, rfl, J3, H3, k3, hb3, L3⟩
  have hJ3 := Lib.hid J3; have hH3 := Lib.hid H3; have hK3 := Lib.hid k3; have hL3 := Lib.hid (hL2.out.trans L3).left
  clear J3 H3 k3 L3 hb3 hD2 hL2
  go_wp2_with fail
  go_loopw [16, 17, 18] (fun u v i wr => ∃ (k : Nat) (d : DSt) (l m : List ByteArray) (br : Bool), k ≤ len1 ∧ k ≤ 8 ∧ i = .int .i64 k ∧ JL w.heap.size a wr b p d (tp l) br ∧ SurvSt n d l m br (decide (k < len1) && decide (k < 8)) ∧ Row wr u l ∧ Row wr v (l ++ m) ∧ Left w.heap.size w wr) (fun _ _ i _ => 8 - (intOf i).toNat)
  case atStart => exact ⟨0, d3, [], [], false, Nat.zero_le _, Nat.zero_le _, rfl, hJ3.out, .inl ⟨rfl, rfl, hH3.out, fun _ => hK3.out⟩, Row.nil _, Row.nil _, hL3.out⟩
  case round =>
    obtain ⟨k, d, l, m, br, hk, hk8, rfl, hJ, hSS, hR1, hR2, hL⟩ := hrel
    obtain ⟨ua, uc, hua⟩ := hR1.form
    obtain ⟨va, vc, hva⟩ := hR2.form
    rw [List.length_append] at hva
    subst hua hva
    have HJ := Lib.hid hJ; have HR1 := Lib.hid hR1; have HR2 := Lib.hid hR2; have HL := Lib.hid hL
    clear hJ hR1 hR2 hL hJ3 hH3 hK3 hL3
    by_cases hgo : k < len1 ∧ k < 8
    · obtain ⟨hlt, hlt8⟩ := hgo
      obtain ⟨rfl, rfl, hH, h0⟩ : br = false ∧ m = [] ∧ Held n d l ∧ d.left = 0 := by
        rcases hSS with ⟨h1, h2, h3, h4⟩ | ⟨_, h2, _⟩
        · exact ⟨h1, h2, h3, h4 (by simp [hlt, hlt8])⟩
        · simp [hlt, hlt8] at h2
      have HH := Lib.hid hH
      have HZ := Lib.hid h0
      clear hSS hH h0
      have hll : l.length ≤ 1500 := by
        have h1 := HH.out.fits
        have h2 := out_ge Tape.none l
        have h3 : (enc l).length = (Tape.none.out l).length := rfl
        omega
      have hxl : k < x1.length := by rw [HW.out.hlen]; exact hlt
      obtain ⟨ab, ao, rfl, hal, g0⟩ := HW.out.get k hxl
      have hst := HW.out.ok _ (List.getElem_mem hxl)
      obtain ⟨y, hy⟩ : ∃ y, y = x1[k] := ⟨_, rfl⟩
      rw [← hy] at g0 hst
      obtain ⟨yv, yl⟩ := y
      simp only at g0 hst
      have HG0 := Lib.hid g0
      have HST := Lib.hid hst
      obtain ⟨ya, yc, hyv⟩ := hst.at_.form
      subst hyv
      clear hy g0 hst
      have d1 : decide ((k : Int) < len1) = true := decide_eq_true (by omega)
      have d2 : decide ((k : Int) < 8) = true := decide_eq_true (by omega)
      have i1 : (k : Int) < (len1 : Int) := by omega
      go_wp2_with fail
      refine HJ.out.records.mono ?_
      rintro e v4 ⟨r4, rfl, R4, J4, L4⟩
      rw [tp_recs] at R4
      obtain ⟨ra, rc, hra⟩ := R4.form
      subst hra
      have hR4 := Lib.hid R4; have hJ4 := Lib.hid J4; have hL4 := Lib.hid (HL.out.trans L4.left)
      clear R4 J4 L4 HJ HR1 HR2 HL
      go_wp2_with fail
      refine wp_region_local (fun w' => Only (fun _ => False) v4 w') (Only (fun _ => False)) (catW (.slice ra l.length rc) (.slice (some ⟨ab, ao, none⟩) len1 cap1) (.slice ya yl.length yc) (.int .i64 k) (.pointer (some ⟨ab, ao + k, none⟩)) l (fewL yl) v4.heap.size) 8 [(8, false), (9, false)] _ _ [some 49, some 50, some 51, some 52, some 53, some 54, some 55, some 56] mixed rfl rfl (by kernel_rfl) (by kernel_rfl) ((Only.refl _ _).drew) (fun _ => Only.refl _ _) (fun k hk vals vals' v wa wb hv hG hw => catW_stable k hG hw) ?hstep ?hend
      case hstep =>
        refine ⟨fun vals w' hI hd => ?_, ?_⟩
        · have HI := Lib.hid hI
          clear hI hd
          unfold nVal
          simp only [putL]
          go_simp
          exact ⟨HI.out.alloc _, (Only.refl _ _).alloc _, catW_0.2 ⟨w'.heap.size, rfl, ownsRow_base (World.ownsRow_lit w' #[] 0 (Nat.le_refl _) (by unfold maxLen; omega) (by simp)) (fun k hk => by simp [Value.ownBlock] at hk; subst hk; exact HI.out.size)⟩⟩
        refine ⟨fun vals w' hI hd => ?_, ?_⟩
        · have HI := Lib.hid hI
          clear hI hd
          unfold nVal
          simp only [putL]
          go_simp
          exact ⟨HI.out, Only.refl _ _, catW_put 1 (by decide) rfl⟩
        refine ⟨fun vals w' hI hd => ?_, ?_⟩
        · obtain ⟨g2, q0, ho⟩ := catW_0.1 (hd 0 (by kernel_rfl))
          have q1 : vals 1 = .slice ra l.length rc := catW_get 1 (hd 1 (by kernel_rfl)) (by decide)
          rw [q0] at ho
          obtain ⟨v', w2, hr, h1, h2⟩ := run_append_lit ho (ownsRow_only hR4.out hI (fun _ _ e => e)) hI.size (by omega) 22
          refine nVal_append rfl (.tmp 49) (.tmp 50) rfl ?_ ?_ hr ⟨hI.trans' h2, h2, catW_2.2 h1⟩
          · rw [← q0]; simp only [putL]; simp [Act.eval, Act.put]
          · rw [← q1]; simp only [putL]; simp [Act.eval, Act.put]
        refine ⟨fun vals w' hI hd => ?_, ?_⟩
        · have HI := Lib.hid hI
          clear hI hd
          unfold nVal
          simp only [putL]
          go_simp
          exact ⟨HI.out, Only.refl _ _, catW_put 3 (by decide) rfl⟩
        refine ⟨fun vals w' hI hd => ?_, ?_⟩
        · have HI := Lib.hid hI
          clear hI hd
          unfold nVal
          simp only [putL]
          go_simp
          exact ⟨HI.out, Only.refl _ _, catW_put 4 (by decide) rfl⟩
        refine ⟨fun vals w' hI hd => ?_, ?_⟩
        · have q3 : vals 3 = .slice (some ⟨ab, ao, none⟩) len1 cap1 := catW_get 3 (hd 3 (by kernel_rfl)) (by decide)
          have q4 : vals 4 = .int .i64 k := catW_get 4 (hd 4 (by kernel_rfl)) (by decide)
          have HI := Lib.hid hI
          clear hI hd
          unfold nVal
          simp only [putL]
          go_simp
          exact ⟨HI.out, Only.refl _ _, catW_put 5 (by decide) rfl⟩
        refine ⟨fun vals w' hI hd => ?_, ?_⟩
        · have q5 : vals 5 = .pointer (some ⟨ab, ao + k, none⟩) := catW_get 5 (hd 5 (by kernel_rfl)) (by decide)
          have HI := Lib.hid hI
          have c1 := (hI.cell (p := ⟨ab, ao + k, none⟩) (Nat.lt_of_lt_of_le hal hL4.out.1.size) (fun e => e)).trans ((hL4.out.1.cell (p := ⟨ab, ao + k, none⟩) hal).trans HG0.out)
          clear hI hd
          unfold nVal
          simp only [putL]
          go_simp
          exact ⟨HI.out, Only.refl _ _, catW_put 6 (by decide) rfl⟩
        refine ⟨fun vals w' hI hd => ?_, ?_⟩
        · have q6 : vals 6 = .slice ya yl.length yc := catW_get 6 (hd 6 (by kernel_rfl)) (by decide)
          have HI := Lib.hid hI
          have hst := (HST.out.all hL4.out.1).all (hI.below (Nat.le_refl _) (fun _ e => e.elim))
          have HS := Lib.hid hst
          clear hI hd hst
          unfold nVal
          simp only [putL]
          go_simp
          refine (few_any HS.out.at_ HS.out.len HS.out.small).mono ?_
          rintro e w2 ⟨fv, rfl, hF, hb⟩
          exact ⟨_, rfl, HI.out.trans' (Only.of_below hb _), Only.of_below hb _, catW_7.2 hF⟩
        exact trivial
      case hend =>
        intro vals w5 hI hk5
        have h2 := catW_2.1 (hk5 2 (by omega))
        have h7 := catW_7.1 (hk5 7 (by omega))
        obtain ⟨v', w6, hr, h6, hgr⟩ := run_append_rows h2 h7 hI.size (by have := fewL_length yl; omega) 22
        have o6 := only_grown h2 hgr
        have b6 : Below v4.heap.size v4 w6 := (hI.below (Nat.le_refl _) (fun _ e => e.elim)).trans (o6.below hI.size (fun k e => e.1))
        have HB6 := Lib.hid b6
        have HR6 := Lib.hid (Row.of h6)
        clear hk5 h2 h7 hI hgr o6 b6 h6
        refine nList_step (fun K hK => ?_)
        refine nOp_append rfl (.tmp 51) (.tmp 56) rfl (by simp only [putL]; simp [Act.eval, Act.put]) (by simp only [putL]; simp [Act.eval, Act.put]) hr (hK _ _ trivial ?_)
        clear hK K hr
        refine nList_step (fun K hK => ?_)
        unfold nOp nUpon
        simp only [putL]
        go_simp
        refine hK _ _ trivial ?_
        clear hK K
        refine nList_nil ?_
        obtain ⟨wa, wc, hwa⟩ := HR6.out.form
        rw [List.length_append] at hwa
        subst hwa
        have hJ6 := Lib.hid (hJ4.out.below HB6.out)
        have hL6 := Lib.hid (hL4.out.trans (Left.of hJ4.out.jw.size HB6.out))
        have hR6a := Lib.hid (hR4.out.keep (Keep.of HB6.out))
        have c1 := (hL6.out.1.cell (p := ⟨ab, ao + k, none⟩) hal).trans HG0.out
        clear HB6 hJ4 hL4 hR4
        have hw1 : IntKind.i64.wrap ((len1 : Int) - 1) = (len1 : Int) - 1 := IntWalk.i64_in _ (by omega)
        have hone : ∃ lastB : Bool, (lastB = true ↔ ¬ (k + 1 < len1 ∧ k + 1 < 8)) ∧ (((k : Int) == (len1 : Int) - 1) || ((k : Int) == 7)) = lastB := by
          refine ⟨_, ?_, rfl⟩
          simp only [Bool.or_eq_true, beq_iff_eq]
          omega
        by_cases hla : (k : Int) = (len1 : Int) - 1
        · have t1 : ((k : Int) == (len1 : Int) - 1) = true := beq_iff_eq.2 hla
          have hmore : (decide (k + 1 < len1) && decide (k + 1 < 8)) = false := by simp; omega
          clear hla hone
          go_wp2_with fail
          refine (pick_any a2 3 w6 w2.1 w2.2 (by omega) (by omega)).mono ?_
          rintro e w6' ⟨rfl, rfl⟩
          rw [HCT.out]
          go_wp2_with fail
          refine (hJ6.out.cut (1 + ct) (by omega)).mono ?_
          rintro e v9 ⟨rfl, J9, L9⟩
          have HC := Lib.hid (HH.out.cut (1 + ct) (by omega))
          have hJ9 := Lib.hid J9; have hL9 := Lib.hid (hL6.out.trans L9.left); have hR9 := Lib.hid (HR6.out.keep L9.left.2); have hR9a := Lib.hid (hR6a.out.keep L9.left.2)
          clear J9 L9
          obtain ⟨dd, hdd⟩ : ∃ dd, dd = (d.cut (1 + ct)).2 := ⟨_, rfl⟩
          rw [← hdd] at hJ9 HC
          clear hdd c1
          have c1 := (hL9.out.1.cell (p := ⟨ab, ao + k, none⟩) hal).trans HG0.out
          go_wp2_with fail
          refine (few_any ((HST.out.all hL9.out.1).at_) HST.out.len HST.out.small).mono ?_
          rintro e v7 ⟨fv, rfl, R7, b7⟩
          have hR7 := Lib.hid R7; have hB7 := Lib.hid b7; clear R7 b7
          go_wp2_with fail
          refine (JL.appAny (hJ9.out.below hB7.out) HC.out.1 hR7.out.strs (fun r hr => by have := fewL_small yl r hr; omega) (by have := fewL_length yl; omega)).mono ?_
          rintro e v8 ⟨c, d8, rfl, L8, hcase⟩
          have hL8 := Lib.hid ((hL9.out.trans (Left.of hJ9.out.jw.size hB7.out)).trans L8)
          have hR8 := Lib.hid (hR9.out.keep ((Keep.of hB7.out).trans L8.2))
          have hR8a := Lib.hid (hR9a.out.keep ((Keep.of hB7.out).trans L8.2))
          clear L8
          rcases hcase with ⟨rfl, J8, H8, z8⟩ | ⟨rfl, J8, H8, z8⟩ | ⟨rfl, _, J8, H8⟩
          · have hJ8 := Lib.hid J8; have hS8 : Hid (SurvSt n d8 (l ++ fewL yl) [] false (decide (k + 1 < len1) && decide (k + 1 < 8))) := .inl ⟨rfl, rfl, H8, fun q => by rw [hmore] at q; cases q⟩
            clear J8 H8 z8
            go_wp2_with fail
            go_roundw
            case rel => exact ⟨k + 1, d8, l ++ fewL yl, [], false, hlt, hlt8, by go_num, hJ8.out, hS8.out, hR8.out, by rw [List.append_nil]; exact hR8.out, hL8.out⟩
            case measure => simp [intOf]; omega
          · have hJ8 := Lib.hid J8; have hS8 : Hid (SurvSt n d8 l [] false (decide (k + 1 < len1) && decide (k + 1 < 8))) := .inl ⟨rfl, rfl, H8, fun q => by rw [hmore] at q; cases q⟩
            clear J8 H8 z8
            go_wp2_with fail
            go_roundw
            case rel => exact ⟨k + 1, d8, l, [], false, hlt, hlt8, by go_num, hJ8.out, hS8.out, hR8a.out, by rw [List.append_nil]; exact hR8a.out, hL8.out⟩
            case measure => simp [intOf]; omega
          · have hJ8 := Lib.hid J8; have hS8 : Hid (SurvSt n d8 l (fewL yl) true (decide (k + 1 < len1) && decide (k + 1 < 8))) := .inr ⟨rfl, hmore, H8⟩
            clear J8 H8
            go_wp2_with fail
            go_roundw
            case rel => exact ⟨k + 1, d8, l, fewL yl, true, hlt, hlt8, by go_num, hJ8.out, hS8.out, hR8a.out, hR8.out, hL8.out⟩
            case measure => simp [intOf]; omega
        · by_cases hlb : (k : Int) = 7
          · have t1 : ((k : Int) == (len1 : Int) - 1) = false := beq_eq_false_iff_ne.2 hla
            have t2 : ((k : Int) == 7) = true := beq_iff_eq.2 hlb
            have hmore : (decide (k + 1 < len1) && decide (k + 1 < 8)) = false := by simp; omega
            clear hla hlb hone
            go_wp2_with fail
            refine (pick_any a2 3 w6 w2.1 w2.2 (by omega) (by omega)).mono ?_
            rintro e w6' ⟨rfl, rfl⟩
            rw [HCT.out]
            go_wp2_with fail
            refine (hJ6.out.cut (1 + ct) (by omega)).mono ?_
            rintro e v9 ⟨rfl, J9, L9⟩
            have HC := Lib.hid (HH.out.cut (1 + ct) (by omega))
            have hJ9 := Lib.hid J9; have hL9 := Lib.hid (hL6.out.trans L9.left); have hR9 := Lib.hid (HR6.out.keep L9.left.2); have hR9a := Lib.hid (hR6a.out.keep L9.left.2)
            clear J9 L9
            obtain ⟨dd, hdd⟩ : ∃ dd, dd = (d.cut (1 + ct)).2 := ⟨_, rfl⟩
            rw [← hdd] at hJ9 HC
            clear hdd c1
            have c1 := (hL9.out.1.cell (p := ⟨ab, ao + k, none⟩) hal).trans HG0.out
            go_wp2_with fail
            refine (few_any ((HST.out.all hL9.out.1).at_) HST.out.len HST.out.small).mono ?_
            rintro e v7 ⟨fv, rfl, R7, b7⟩
            have hR7 := Lib.hid R7; have hB7 := Lib.hid b7; clear R7 b7
            go_wp2_with fail
            refine (JL.appAny (hJ9.out.below hB7.out) HC.out.1 hR7.out.strs (fun r hr => by have := fewL_small yl r hr; omega) (by have := fewL_length yl; omega)).mono ?_
            rintro e v8 ⟨c, d8, rfl, L8, hcase⟩
            have hL8 := Lib.hid ((hL9.out.trans (Left.of hJ9.out.jw.size hB7.out)).trans L8)
            have hR8 := Lib.hid (hR9.out.keep ((Keep.of hB7.out).trans L8.2))
            have hR8a := Lib.hid (hR9a.out.keep ((Keep.of hB7.out).trans L8.2))
            clear L8
            rcases hcase with ⟨rfl, J8, H8, z8⟩ | ⟨rfl, J8, H8, z8⟩ | ⟨rfl, _, J8, H8⟩
            · have hJ8 := Lib.hid J8; have hS8 : Hid (SurvSt n d8 (l ++ fewL yl) [] false (decide (k + 1 < len1) && decide (k + 1 < 8))) := .inl ⟨rfl, rfl, H8, fun q => by rw [hmore] at q; cases q⟩
              clear J8 H8 z8
              go_wp2_with fail
              go_roundw
              case rel => exact ⟨k + 1, d8, l ++ fewL yl, [], false, hlt, hlt8, by go_num, hJ8.out, hS8.out, hR8.out, by rw [List.append_nil]; exact hR8.out, hL8.out⟩
              case measure => simp [intOf]; omega
            · have hJ8 := Lib.hid J8; have hS8 : Hid (SurvSt n d8 l [] false (decide (k + 1 < len1) && decide (k + 1 < 8))) := .inl ⟨rfl, rfl, H8, fun q => by rw [hmore] at q; cases q⟩
              clear J8 H8 z8
              go_wp2_with fail
              go_roundw
              case rel => exact ⟨k + 1, d8, l, [], false, hlt, hlt8, by go_num, hJ8.out, hS8.out, hR8a.out, by rw [List.append_nil]; exact hR8a.out, hL8.out⟩
              case measure => simp [intOf]; omega
            · have hJ8 := Lib.hid J8; have hS8 : Hid (SurvSt n d8 l (fewL yl) true (decide (k + 1 < len1) && decide (k + 1 < 8))) := .inr ⟨rfl, hmore, H8⟩
              clear J8 H8
              go_wp2_with fail
              go_roundw
              case rel => exact ⟨k + 1, d8, l, fewL yl, true, hlt, hlt8, by go_num, hJ8.out, hS8.out, hR8a.out, hR8.out, hL8.out⟩
              case measure => simp [intOf]; omega
          · have t1 : ((k : Int) == (len1 : Int) - 1) = false := beq_eq_false_iff_ne.2 hla
            have t2 : ((k : Int) == 7) = false := beq_eq_false_iff_ne.2 hlb
            have hmore : k + 1 < len1 ∧ k + 1 < 8 := by omega
            clear hla hlb hone
            go_wp2_with fail
            refine (few_any ((HST.out.all hL6.out.1).at_) HST.out.len HST.out.small).mono ?_
            rintro e v7 ⟨fv, rfl, R7, b7⟩
            have hR7 := Lib.hid R7; have hB7 := Lib.hid b7; clear R7 b7
            go_wp2_with fail
            refine (JL.appAny (hJ6.out.below hB7.out) HH.out hR7.out.strs (fun r hr => by have := fewL_small yl r hr; omega) (by have := fewL_length yl; omega)).mono ?_
            rintro e v8 ⟨c, d8, rfl, L8, hcase⟩
            have hL8 := Lib.hid ((hL6.out.trans (Left.of hJ6.out.jw.size hB7.out)).trans L8)
            have hR8 := Lib.hid (HR6.out.keep ((Keep.of hB7.out).trans L8.2))
            have hR8a := Lib.hid (hR6a.out.keep ((Keep.of hB7.out).trans L8.2))
            clear L8
            rcases hcase with ⟨rfl, J8, H8, z8⟩ | ⟨rfl, J8, H8, z8⟩ | ⟨rfl, q, _⟩
            · have hJ8 := Lib.hid J8; have hS8 : Hid (SurvSt n d8 (l ++ fewL yl) [] false (decide (k + 1 < len1) && decide (k + 1 < 8))) := .inl ⟨rfl, rfl, H8, fun _ => z8 HZ.out⟩
              clear J8 H8 z8
              go_wp2_with fail
              go_roundw
              case rel => exact ⟨k + 1, d8, l ++ fewL yl, [], false, hlt, hlt8, by go_num, hJ8.out, hS8.out, hR8.out, by rw [List.append_nil]; exact hR8.out, hL8.out⟩
              case measure => simp [intOf]; omega
            · have hJ8 := Lib.hid J8; have hS8 : Hid (SurvSt n d8 l [] false (decide (k + 1 < len1) && decide (k + 1 < 8))) := .inl ⟨rfl, rfl, H8, fun _ => z8 HZ.out⟩
              clear J8 H8 z8
              go_wp2_with fail
              go_roundw
              case rel => exact ⟨k + 1, d8, l, [], false, hlt, hlt8, by go_num, hJ8.out, hS8.out, hR8a.out, by rw [List.append_nil]; exact hR8a.out, hL8.out⟩
              case measure => simp [intOf]; omega
            · have := HZ.out
              omega
    · have hT : Two n d l m ∧ d.pend.length ≤ 1 := by
        rcases hSS with ⟨_, h2, h3, _⟩ | ⟨_, _, h3⟩
        · subst h2
          exact ⟨two_held h3, by rw [h3.pend]; exact Nat.zero_le _⟩
        · exact ⟨h3.crash, h3.pend⟩
      have HT := Lib.hid hT
      clear hSS
      have hm3 : (min (len3 : Int) 20).toNat = min len3 20 := by omega
      have hmn : (0 : Int) ≤ min (len3 : Int) 20 := by omega
      have hml : min (len3 : Int) 20 ≤ (cap3 : Int) := by omega
      have hc2 : ¬ k < len1 ∨ (k < len1 ∧ ¬ k < 8) := by omega
      clear hgo hT
      rcases hc2 with h1 | ⟨h1, h2⟩
      case' inl => have d1 : decide ((k : Int) < len1) = false := decide_eq_false (by omega)
      case' inr =>
        have d1 : decide ((k : Int) < len1) = true := decide_eq_true (by omega)
        have d2 : decide ((k : Int) < 8) = false := decide_eq_false (by omega)
      all_goals
        go_wp2_with fail
        have hI := Ints.cut (HK3.out.all HL.out.1).ints HK3.out.hlen (min len3 20) (by omega)
        refine (HJ.out.dj.crash a3 (min len3 20) cap3 (x3.take (min len3 20)) hI (by rw [List.length_take]; omega) a4 (by omega)).mono ?_
        rintro e v5 ⟨rfl, D5, L5⟩
        have hD5 := Lib.hid D5; have hL5 := Lib.hid (HL.out.trans L5.left); have hR5 := Lib.hid (HR1.out.keep L5.left.2); have hR5b := Lib.hid (HR2.out.keep L5.left.2)
        clear D5 L5 hI
        rcases HT.out.1 (x3.take (min len3 20)) a4 with hr | hr
        · have HRc := Lib.hid hr
          clear hr
          go_wp2_with fail
          refine (hD5.out.openRec HRc.out).mono ?_
          rintro e v6 ⟨b6, d6, rfl, J6, H6, k6, hb6, L6⟩
          have hJ6 := Lib.hid J6; have hL6 := Lib.hid (hL5.out.trans L6.left); have hR6 := Lib.hid (hR5.out.keep L6.left.2)
          clear J6 H6 k6 hb6 L6
          go_wp2_with fail
          refine hJ6.out.records.mono ?_
          rintro e v7 ⟨r7, rfl, R7, J7, L7⟩
          rw [tp_recs] at R7
          have hR7 := Lib.hid R7; have hR7a := Lib.hid (hR6.out.keep L7.left.2); have hL7 := Lib.hid (hL6.out.trans L7.left); have hJ7 := Lib.hid J7
          clear R7 J7 L7
          go_wp2_with fail
          refine (same_any hR7.out.strs hR7a.out.strs hR7.out.len hR7.out.len).mono ?_
          rintro e v8 ⟨rfl, b8⟩
          rw [sameB_true.2 rfl]
          have hL8 := Lib.hid (hL7.out.trans (Left.of hJ7.out.jw.size b8))
          clear b8
          go_wp2_with fail
          go_ret
          exact ⟨rfl, hL8.out.1⟩
        · have HRc := Lib.hid hr
          clear hr
          go_wp2_with fail
          refine (hD5.out.openRec HRc.out).mono ?_
          rintro e v6 ⟨b6, d6, rfl, J6, H6, k6, hb6, L6⟩
          have hJ6 := Lib.hid J6; have hL6 := Lib.hid (hL5.out.trans L6.left); have hR6 := Lib.hid (hR5.out.keep L6.left.2); have hR6b := Lib.hid (hR5b.out.keep L6.left.2)
          clear J6 H6 k6 hb6 L6
          go_wp2_with fail
          refine hJ6.out.records.mono ?_
          rintro e v7 ⟨r7, rfl, R7, J7, L7⟩
          rw [tp_recs] at R7
          have hR7 := Lib.hid R7; have hR7a := Lib.hid (hR6.out.keep L7.left.2); have hR7b := Lib.hid (hR6b.out.keep L7.left.2); have hL7 := Lib.hid (hL6.out.trans L7.left); have hJ7 := Lib.hid J7
          clear R7 J7 L7
          go_wp2_with fail
          refine (same_any hR7.out.strs hR7a.out.strs hR7.out.len hR7a.out.len).mono ?_
          rintro e v8 ⟨rfl, b8⟩
          have hL8 := Lib.hid (hL7.out.trans (Left.of hJ7.out.jw.size b8)); have hJ8 := Lib.hid (hJ7.out.below b8); have hR8b := Lib.hid (hR7b.out.keep (Keep.of b8))
          clear b8
          obtain ⟨bb, hbb⟩ : ∃ bb, bb = sameB (l ++ m) l := ⟨_, rfl⟩
          rw [← hbb]
          clear hbb
          cases bb with
          | true =>
            go_wp2_with fail
            go_ret
            exact ⟨rfl, hL8.out.1⟩
          | false =>
            go_wp2_with fail
            refine hJ8.out.records.mono ?_
            rintro e v9 ⟨r9, rfl, R9, J9, L9⟩
            rw [tp_recs] at R9
            have hR9 := Lib.hid R9; have hR9b := Lib.hid (hR8b.out.keep L9.left.2); have hL9 := Lib.hid (hL8.out.trans L9.left); have hJ9 := Lib.hid J9
            clear R9 J9 L9
            go_wp2_with fail
            refine (same_any hR9.out.strs hR9b.out.strs hR9.out.len hR9.out.len).mono ?_
            rintro e v10 ⟨rfl, b10⟩
            rw [sameB_true.2 rfl]
            have hL10 := Lib.hid (hL9.out.trans (Left.of hJ9.out.jw.size b10))
            clear b10
            go_wp2_with fail
            go_ret
            exact ⟨rfl, hL10.out.1⟩
end Go.Proofs.YtjlgkjhociaeiaaGreatDoor
