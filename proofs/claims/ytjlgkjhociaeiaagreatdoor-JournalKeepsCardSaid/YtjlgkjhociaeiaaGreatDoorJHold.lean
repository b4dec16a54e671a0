/-
  JournalKeeps, walked.
-/
import Derived.Test.YtjlgkjhociaeiaaGreatDoorJOps
import Derived.Test.YtjlgkjhociaeiaaGreatDoorJSurv
namespace Go.Proofs.YtjlgkjhociaeiaaGreatDoor
open Go.RowKit
set_option linter.unusedVariables false

def KSt (n : Nat) (d : DSt) (l : List ByteArray) (br : Bool) : Prop := (br = false ∧ Held n d l) ∨ (br = true ∧ ∃ m, Fail n d l m)
/-- The loop's state. -/
def KRel (w : World) (a : Addr) (n p : Nat) (wr : World) (jp sv : Value) : Prop :=
  ∃ (d : DSt) (l : List ByteArray) (br : Bool) (bj : Nat), jp = .pointer (some ⟨bj, 0, none⟩) ∧ JL w.heap.size a wr bj p d (tp l) br ∧ KSt n d l br ∧ Row wr sv l ∧ Left w.heap.size w wr
theorem fail_cut {n : Nat} {d : DSt} {l m : List ByteArray} (h : Fail n d l m) (c : Int) : d.cut c = (251, d) := by
  unfold DSt.cut
  rw [if_pos h.off]
/-- sure = append(append([]string{}, was...), few(..)...): what the first nine operations give. -/
def catK (u gv i q0 q1 yv : Value) (l f : List ByteArray) (B : Nat) (k : Nat) (vals : Nat → Value) (v : Value) (w : World) : Prop :=
  if k = 0 then ∃ g, v = .slice (some ⟨g, 0, none⟩) 0 0 ∧ w.ownsRow B 9 1 v 0 []
  else if k = 2 then w.ownsRow B 9 1 v l.length (l.map Value.string)
  else if k = 8 then Row w v f
  else v = ([undef, u, undef, gv, i, q0, q1, yv] : List Value)[k]?.getD undef
section
variable {u gv i q0 q1 yv : Value} {l f : List ByteArray} {B : Nat} {vals : Nat → Value} {v : Value} {w : World}
theorem catK_0 : catK u gv i q0 q1 yv l f B 0 vals v w ↔ ∃ g, v = .slice (some ⟨g, 0, none⟩) 0 0 ∧ w.ownsRow B 9 1 v 0 [] := by unfold catK; rw [if_pos rfl]
theorem catK_2 : catK u gv i q0 q1 yv l f B 2 vals v w ↔ w.ownsRow B 9 1 v l.length (l.map Value.string) := by unfold catK; rw [if_neg (by decide), if_pos rfl]
theorem catK_8 : catK u gv i q0 q1 yv l f B 8 vals v w ↔ Row w v f := by unfold catK; rw [if_neg (by decide), if_neg (by decide), if_pos rfl]
theorem catK_get (k : Nat) (h : catK u gv i q0 q1 yv l f B k vals v w) (hk : (k != 0 && k != 2 && k != 8) = true) : v = ([undef, u, undef, gv, i, q0, q1, yv] : List Value)[k]?.getD undef := by
  simp only [Bool.and_eq_true, bne_iff_ne, ne_eq] at hk
  unfold catK at h
  rw [if_neg hk.1.1, if_neg hk.1.2, if_neg hk.2] at h
  exact h
theorem catK_put (k : Nat) (hk : (k != 0 && k != 2 && k != 8) = true) (h : v = ([undef, u, undef, gv, i, q0, q1, yv] : List Value)[k]?.getD undef) : catK u gv i q0 q1 yv l f B k vals v w := by
  simp only [Bool.and_eq_true, bne_iff_ne, ne_eq] at hk
  unfold catK
  rw [if_neg hk.1.1, if_neg hk.1.2, if_neg hk.2]
  exact h
theorem catK_stable (k : Nat) {vals' : Nat → Value} {w' : World} (hG : Only (fun _ => False) w w') (h : catK u gv i q0 q1 yv l f B k vals v w) : catK u gv i q0 q1 yv l f B k vals' v w' := by
  by_cases h0 : k = 0
  · subst h0
    obtain ⟨g, h1, h2⟩ := catK_0.1 h
    exact catK_0.2 ⟨g, h1, ownsRow_only h2 hG (fun _ _ e => e)⟩
  · by_cases h2 : k = 2
    · subst h2
      exact catK_2.2 (ownsRow_only (catK_2.1 h) hG (fun _ _ e => e))
    · by_cases h8 : k = 8
      · subst h8
        exact catK_8.2 (ownsRow_only (catK_8.1 h) hG (fun _ _ e => e))
      · have hne : (k != 0 && k != 2 && k != 8) = true := by simp [h0, h2, h8]
        exact catK_put k hne (catK_get k h hne)
end
set_option maxRecDepth 100000 in
set_option maxHeartbeats 40000000 in
theorem journalKeeps_any (a0 : Int) (a1 : Option Addr) (len1 cap1 : Nat) (x1 : List OpP) {w : World} {a : Addr} (g : Gl w a) (w0 : -9223372036854775808 ≤ a0 ∧ a0 ≤ 9223372036854775807) (w1 : Ops w a1 len1 cap1 x1) :
    Calls Tryz.prog 6 #[.int .i64 a0, .slice a1 len1 cap1] w fun e w' => e = .returned (.bool true) ∧ Below w.heap.size w w' := by
  have hcap := w1.hcap
  have hmax := w1.hmax
  unfold maxLen at hmax
  have HW := Lib.hid w1
  have hw := JW.start g
  obtain ⟨n, hn⟩ : ∃ n, n = sizeN a0 := ⟨_, rfl⟩
  have hnl := sizeN_le a0
  rw [← hn] at hnl
  have HN := Lib.hid hn.symm
  have mixed : Tryz.prog.follows Departure.mixedOrders = true := by kernel_rfl
  clear w1 hn
  go_enter Tryz.func6, Tryz.ntmps6
  go_wp2_with fail
  refine (sane_any g).mono ?_
  rintro e v1 ⟨rfl, b1⟩
  have hw1 := Lib.hid (hw.below b1)
  have hL1 := Lib.hid (LeftO.of (B := w.heap.size) (Nat.le_refl _) b1)
  clear b1 hw g
  go_wp2_with fail
  refine (size_any a0 v1 w0).mono ?_
  rintro e v1' ⟨rfl, rfl⟩
  rw [HN.out]
  go_wp2_with fail
  refine (DJ.new n hw1.out (by omega) (by omega)).mono ?_
  rintro e v2 ⟨p, rfl, D2, L2⟩
  have hD2 := Lib.hid D2; have hL2 := Lib.hid (hL1.out.trans L2); clear D2 L2 hw1 hL1
  go_wp2_with fail
  refine (hD2.out.openRec ((held_new n).toRec rfl)).mono ?_
  rintro e v3 ⟨b, d3, rfl, J3, H3, k3, hb3, L3⟩
  have hK3 : Hid (KRel w a n p v3 (.pointer (some ⟨b, 0, none⟩)) (.slice none 0 0)) := ⟨d3, [], false, b, rfl, J3, .inl ⟨rfl, H3⟩, Row.nil _, (hL2.out.trans L3).left⟩
  clear J3 H3 k3 L3 hb3 hD2 hL2
  go_wp2_with fail
  go_loopw [8, 10, 11] (fun jp sv i wr => ∃ (k : Nat), k ≤ len1 ∧ k ≤ 20 ∧ i = .int .i64 k ∧ KRel w a n p wr jp sv) (fun _ _ i _ => 20 - (intOf i).toNat)
  case atStart => exact ⟨0, Nat.zero_le _, Nat.zero_le _, rfl, hK3.out⟩
  case round =>
    obtain ⟨k, hk, hk20, rfl, d, l, br, bj, rfl, hJ, hS, hR, hL⟩ := hrel
    obtain ⟨sa, sc, hsv⟩ := hR.form
    subst hsv
    have HJ := Lib.hid hJ; have HS := Lib.hid hS; have HR := Lib.hid hR; have HL := Lib.hid hL
    clear hJ hS hR hL hK3
    by_cases hgo : k < len1 ∧ k < 20
    · obtain ⟨hlt, hlt20⟩ := hgo
      have hxl : k < x1.length := by rw [HW.out.hlen]; exact hlt
      obtain ⟨hok, ab, ao, hab, hal, g0, g1, g2, g3⟩ := HW.out.all HL.out.1 k hxl
      subst hab
      obtain ⟨y, hy⟩ : ∃ y, y = x1[k] := ⟨_, rfl⟩
      rw [← hy] at hok g0 g1 g2 g3
      have HOK := Lib.hid hok
      have G1 := Lib.hid g1; have G2 := Lib.hid g2; have G3 := Lib.hid g3
      have hk0 := hok.hkind
      have hn0 := hok.hn
      obtain ⟨yk, yla, ylc, yl, yn, yka, yklen, ykcap, ykeep⟩ := y
      simp only at hk0 hn0 g0 g1 g2 g3
      have p80 := pickI_nonneg yk 8 (by omega)
      have p81 := pickI_lt yk 8 (by omega)
      obtain ⟨κ, hκ⟩ : ∃ κ, κ = pickI yk 8 := ⟨_, rfl⟩
      rw [← hκ] at p80 p81
      have HKp := Lib.hid hκ.symm
      have p50 := pickI_nonneg yn 5 (by omega)
      have p51 := pickI_lt yn 5 (by omega)
      obtain ⟨ct, hct⟩ : ∃ ct, ct = pickI yn 5 := ⟨_, rfl⟩
      rw [← hct] at p50 p51
      have HCT := Lib.hid hct.symm
      have d1 : decide ((k : Int) < len1) = true := decide_eq_true (by omega)
      have d2 : decide ((k : Int) < 20) = true := decide_eq_true (by omega)
      have i1 : (k : Int) < (len1 : Int) := by omega
      have HY := Lib.hid hy
      clear hy hok hκ hct
      go_wp2_with fail
      refine (pick_any yk 8 wr hk0.1 hk0.2 (by omega) (by omega)).mono ?_
      rintro e v4 ⟨rfl, rfl⟩
      rw [HKp.out]

      by_cases h5 : κ = 5
      · subst h5
        go_wp2_with fail
        refine (pick_any yn 5 wr hn0.1 hn0.2 (by omega) (by omega)).mono ?_
        rintro e v5 ⟨rfl, rfl⟩
        rw [HCT.out]
        go_wp2_with fail
        refine (HJ.out.cut (1 + ct) (by omega)).mono ?_
        rintro e v6 ⟨rfl, J6, L6⟩
        have hJ6 := Lib.hid J6; have hL6 := Lib.hid (HL.out.trans L6.left); have hR6 := Lib.hid (HR.out.keep L6.left.2)
        have hS6 : Hid (KSt n (d.cut (1 + ct)).2 l br) := by
          rcases HS.out with ⟨h1, h2⟩ | ⟨h1, m, h2⟩
          · exact .inl ⟨h1, (h2.cut (1 + ct) (by omega)).1⟩
          · exact .inr ⟨h1, m, by rw [fail_cut h2]; exact h2⟩
        clear J6 L6 HJ HL HR HS g0 g1 g2 g3
        go_wp2_with fail
        refine hJ6.out.records.mono ?_
        rintro e y1a ⟨r1a, rfl, R1, J1, L1⟩
        rw [tp_recs] at R1
        obtain ⟨raa, rca, hra⟩ := R1.form
        subst hra
        have tR := Lib.hid R1; have tJ := Lib.hid J1; have tL := Lib.hid (hL6.out.trans L1.left); have tS := Lib.hid (hR6.out.keep L1.left.2)
        have hcp := R1.cap
        have hcpI : ((l).length : Int) ≤ (rca : Int) := by omega
        clear R1 J1 L1
        go_wp2_with fail
        refine (same_any (by have := tR.out.strs.take _ (Nat.le_refl _); rw [List.take_length] at this; exact this) tS.out.strs tS.out.len tS.out.len).mono ?_
        rintro e y2a ⟨rfl, b2⟩
        rw [sameB_true.2 rfl]
        have uK : Hid (KRel w a n p y2a _ _) := ⟨(d.cut (1 + ct)).2, l, br, _, rfl, tJ.out.below b2, hS6.out, tS.out.keep (Keep.of b2), tL.out.trans (Left.of tJ.out.jw.size b2)⟩
        clear b2 hcp hcpI
        go_wp2_with fail
        go_roundw
        case rel => exact ⟨k + 1, hlt, hlt20, by go_num, uK.out⟩
        case measure => simp [intOf]; omega
      · by_cases h67 : κ = 6 ∨ κ = 7
        · have hr : ∃ l', Rec n (d.crash (ykeep.take (min yklen 20)) yn) l' ∧ l.length ≤ l'.length ∧ l'.take l.length = l := by
            rcases HS.out with ⟨_, h2⟩ | ⟨_, m, h2⟩
            · exact ⟨l, (h2.crash _ _).1.toRec (h2.crash _ _).2, Nat.le_refl _, List.take_length⟩
            · rcases h2.crash (ykeep.take (min yklen 20)) yn with h | h
              · exact ⟨l, h, Nat.le_refl _, List.take_length⟩
              · exact ⟨l ++ m, h, by simp, List.take_left⟩
          obtain ⟨l', hr, hle, htk⟩ := hr
          have HRc := Lib.hid hr; have HTK := Lib.hid htk
          have hpd : d.pend.length ≤ 1 := by
            rcases HS.out with ⟨_, h2⟩ | ⟨_, m, h2⟩
            · rw [h2.pend]; exact Nat.zero_le _
            · exact h2.pend
          have hm3 : (min (yklen : Int) 20).toNat = min yklen 20 := by omega
          have hkc := HOK.out.hk.hcap
          simp only at hkc
          have hmn : (0 : Int) ≤ min (yklen : Int) 20 := by omega
          have hml : min (yklen : Int) 20 ≤ (ykcap : Int) := by omega
          have hkl : ykeep.length ≤ 9223372036854775807 := by have h1 := HOK.out.hk.hlen; have h2 := HOK.out.hk.hmax; unfold maxLen at h2; simp only at h1 h2; omega
          clear hr htk
          have g3 : wr.cell? ⟨ab, ao + k * 4 + 3, none⟩ = some (.slice yka yklen ykcap) := G3.out
          have g2 : wr.cell? ⟨ab, ao + k * 4 + 2, none⟩ = some (.int .i64 yn) := G2.out
          rcases h67 with rfl | rfl
          all_goals
            go_wp2_with fail
            go_still_tail 19, (by kernel_rfl)
            change wpList _ _ _ _ _ wr.drew
            have bd : Below wr.heap.size wr wr.drew := (Below.refl _ wr).drew
            have hJd := Lib.hid (HJ.out.below bd); have hRd := Lib.hid (HR.out.keep (Keep.of bd)); have hLd := Lib.hid (HL.out.trans (Left.of HJ.out.jw.size bd))
            have hI := Ints.cut (HOK.out.hk.all bd).ints HOK.out.hk.hlen (min yklen 20) (by show min yklen 20 ≤ yklen; omega)
            go_wp2_with fail
            refine (hJd.out.dj.crash yka (min yklen 20) ykcap (ykeep.take (min yklen 20)) hI (by rw [List.length_take]; omega) yn (by omega)).mono ?_
            rintro e v5 ⟨rfl, D5, L5⟩
            have hD5 := Lib.hid D5; have hL5 := Lib.hid (hLd.out.trans L5.left); have hR5 := Lib.hid (hRd.out.keep L5.left.2)
            clear D5 L5 hI bd hJd hRd hLd HJ HR HL g0 g1 g2 g3
            go_wp2_with fail
            refine (hD5.out.openRec HRc.out).mono ?_
            rintro e v6 ⟨b6, d6, rfl, J6, H6, k6, hb6, L6⟩
            have hJ6 := Lib.hid J6; have hH6 := Lib.hid H6; have hL6 := Lib.hid (hL5.out.trans L6.left); have hR6 := Lib.hid (hR5.out.keep L6.left.2)
            clear J6 H6 k6 hb6 L6 hD5 hL5 hR5
            go_wp2_with fail
            refine hJ6.out.records.mono ?_
            rintro e v7 ⟨r7, rfl, R7, J7, L7⟩
            rw [tp_recs] at R7
            obtain ⟨ra7, rc7, hra⟩ := R7.form
            subst hra
            have hJ7 := Lib.hid J7; have hL7 := Lib.hid (hL6.out.trans L7.left); have hR7 := Lib.hid (hR6.out.keep L7.left.2)
            have t7 : decide ((l'.length : Int) < l.length) = false := decide_eq_false (by omega)
            clear R7 J7 L7 hJ6 hL6 hR6
            go_wp2_with fail
            refine hJ7.out.records.mono ?_
            rintro e v8 ⟨r8, rfl, R8, J8, L8⟩
            rw [tp_recs] at R8
            obtain ⟨ra8, rc8, hra⟩ := R8.form
            subst hra
            have hcp := R8.cap
            have hcpI : (l.length : Int) ≤ (rc8 : Int) := by omega
            have hR8r := Lib.hid R8; have hJ8 := Lib.hid J8; have hL8 := Lib.hid (hL7.out.trans L8.left); have hR8 := Lib.hid (hR7.out.keep L8.left.2)
            clear R8 J8 L8 hJ7 hL7 hR7
            go_wp2_with fail
            refine (same_any (by have := hR8r.out.strs.take l.length hle; rw [HTK.out] at this; exact this) hR8.out.strs hR8.out.len hR8.out.len).mono ?_
            rintro e v9 ⟨rfl, b9⟩
            rw [sameB_true.2 rfl]
            have hJ9 := Lib.hid (hJ8.out.below b9); have hL9 := Lib.hid (hL8.out.trans (Left.of hJ8.out.jw.size b9))
            clear b9 hcp hcpI hR8r hJ8 hL8 hR8
            go_wp2_with fail
            refine hJ9.out.records.mono ?_
            rintro e v10 ⟨r10, rfl, R10, J10, L10⟩
            rw [tp_recs] at R10
            obtain ⟨ra10, rc10, hra⟩ := R10.form
            subst hra
            have hR10 := Lib.hid R10; have hJ10 := Lib.hid J10; have hL10 := Lib.hid (hL9.out.trans L10.left)
            have hS10 : Hid (KSt n d6 l' false) := .inl ⟨rfl, hH6.out⟩
            clear R10 J10 L10 hJ9 hL9
            go_wp2_with fail
            refine hJ10.out.records.mono ?_
            rintro e y1b ⟨r1b, rfl, R1, J1, L1⟩
            rw [tp_recs] at R1
            obtain ⟨rab, rcb, hra⟩ := R1.form
            subst hra
            have tR := Lib.hid R1; have tJ := Lib.hid J1; have tL := Lib.hid (hL10.out.trans L1.left); have tS := Lib.hid (hR10.out.keep L1.left.2)
            have hcp := R1.cap
            have hcpI : ((l').length : Int) ≤ (rcb : Int) := by omega
            clear R1 J1 L1
            go_wp2_with fail
            refine (same_any (by have := tR.out.strs.take _ (Nat.le_refl _); rw [List.take_length] at this; exact this) tS.out.strs tS.out.len tS.out.len).mono ?_
            rintro e y2b ⟨rfl, b2⟩
            rw [sameB_true.2 rfl]
            have uK : Hid (KRel w a n p y2b _ _) := ⟨d6, l', false, _, rfl, tJ.out.below b2, hS10.out, tS.out.keep (Keep.of b2), tL.out.trans (Left.of tJ.out.jw.size b2)⟩
            clear b2 hcp hcpI
            go_wp2_with fail
            go_roundw
            case rel => exact ⟨k + 1, hlt, hlt20, by go_num, uK.out⟩
            case measure => simp [intOf]; omega
        · have n5 : (κ == 5) = false := beq_eq_false_iff_ne.2 h5
          have n6 : (κ == 6) = false := beq_eq_false_iff_ne.2 (fun e => h67 (.inl e))
          have n7 : (κ == 7) = false := beq_eq_false_iff_ne.2 (fun e => h67 (.inr e))
          clear h5 h67
          have hll : l.length ≤ 1500 := by
            have h1 := HJ.out.lens
            have h2 : (tp l).recs.length = l.length := by rw [tp_recs]
            have h3 : d.dur.length = n := by
              rcases HS.out with ⟨_, h2⟩ | ⟨_, m, h2⟩
              · exact h2.durlen
              · exact h2.dur
            omega
          go_wp2_with fail
          refine HJ.out.records.mono ?_
          rintro e v5 ⟨r5, rfl, R5, J5, L5⟩
          rw [tp_recs] at R5
          obtain ⟨ra5, rc5, hra⟩ := R5.form
          subst hra
          have hR5 := Lib.hid R5; have hJ5 := Lib.hid J5; have hL5 := Lib.hid (HL.out.trans L5.left); have hS5 := Lib.hid (HR.out.keep L5.left.2); have hB5 := Lib.hid (hJ5.out.jw)
          have hW5 := Lib.hid (HW.out.all hL5.out.1 k hxl)
          clear R5 J5 L5 HJ HL HR g0 g1 g2 g3
          have HO5 : Hid (OpOk v5 ⟨yk, yla, ylc, yl, yn, yka, yklen, ykcap, ykeep⟩ ∧ v5.cell? ⟨ab, ao + k * 4 + 1, none⟩ = some (.slice yla yl.length ylc) ∧ ab < v5.heap.size) := by
            obtain ⟨ho, b', o', e', hlt', q0, q1, q2, q3⟩ := hW5.out
            injection e' with e'
            injection e' with e1 e2 _
            subst e1 e2
            rw [← HY.out] at ho q1
            exact ⟨ho, q1, hlt'⟩
          have g1 : v5.cell? ⟨ab, ao + k * 4 + 1, none⟩ = some (.slice yla yl.length ylc) := HO5.out.2.1
          go_wp2_with fail
          refine (few_any HO5.out.1.hl.at_ HO5.out.1.hl.len HO5.out.1.hl.small).mono ?_
          rintro e v6 ⟨fv, rfl, R6, b6⟩
          have hR6 := Lib.hid R6; have hJ6 := Lib.hid (hJ5.out.below b6); have hL6 := Lib.hid (hL5.out.trans (Left.of hJ5.out.jw.size b6)); have hS6 := Lib.hid (hS5.out.keep (Keep.of b6)); have hW6 := Lib.hid (hR5.out.keep (Keep.of b6)); have hb6 := Lib.hid b6
          clear R6 b6 hJ5 hL5 hS5 hR5
          go_wp2_with fail
          rcases HS.out with ⟨rfl, hH⟩ | ⟨rfl, m, hF⟩
          · have HH := Lib.hid hH
            clear hH
            refine (JL.appAny hJ6.out HH.out hR6.out.strs (fun r hr => by have := fewL_small yl r hr; omega) (by have := fewL_length yl; omega)).mono ?_
            rintro e v7 ⟨c, d7, rfl, L7, hcase⟩
            have hL7 := Lib.hid (hL6.out.trans L7); have hS7 := Lib.hid (hS6.out.keep L7.2); have hW7 := Lib.hid (hW6.out.keep L7.2)
            clear L7
            clear hJ6 hL6 hS6 hW6 hR6
            rcases hcase with ⟨rfl, J7, H7, _⟩ | ⟨rfl, J7, H7, _⟩ | ⟨rfl, _, J7, H7⟩
            · have hJ7 := Lib.hid J7; have hH7 := Lib.hid H7
              clear J7 H7 HS
              have hQ7 : Hid (OpOk v7 ⟨yk, yla, ylc, yl, yn, yka, yklen, ykcap, ykeep⟩ ∧ v7.cell? ⟨ab, ao + k * 4 + 1, none⟩ = some (.slice yla yl.length ylc) ∧ ab < v7.heap.size) := by
                obtain ⟨ho, b', o', e', hlt', q0, q1, q2, q3⟩ := HW.out.all hL7.out.1 k hxl
                injection e' with e'
                injection e' with e1 e2 _
                subst e1 e2
                rw [← HY.out] at ho q1
                exact ⟨ho, q1, hlt'⟩
              clear g1
              go_wp2_with fail
              refine wp_region_local (fun w' => Only (fun _ => False) v7 w') (Only (fun _ => False)) (catK (.slice ra5 l.length rc5) (.slice (some ⟨ab, ao, none⟩) len1 cap1) (.int .i64 k) (.pointer (some ⟨ab, ao + k * 4, none⟩)) (.pointer (some ⟨ab, ao + k * 4 + 1, none⟩)) (.slice yla yl.length ylc) l (fewL yl) v7.heap.size) 9 [(9, false), (10, false)] _ _ [some 57, some 58, some 59, some 60, some 61, some 62, some 63, some 64, some 65] mixed rfl rfl (by kernel_rfl) (by kernel_rfl) ((Only.refl _ _).drew) (fun _ => Only.refl _ _) (fun k hk vals vals' v wa wb hv hG hw => catK_stable k hG hw) ?hstep ?hend
              case hstep =>
                refine ⟨fun vals w' hI hd => ?_, ?_⟩
                · have HI := Lib.hid hI
                  clear hI hd
                  unfold nVal
                  simp only [putL]
                  go_simp
                  exact ⟨HI.out.alloc _, (Only.refl _ _).alloc _, catK_0.2 ⟨w'.heap.size, rfl, ownsRow_base (World.ownsRow_lit w' #[] 0 (Nat.le_refl _) (by unfold maxLen; omega) (by simp)) (fun k hk => by simp [Value.ownBlock] at hk; subst hk; exact HI.out.size)⟩⟩
                refine ⟨fun vals w' hI hd => ?_, ?_⟩
                · have HI := Lib.hid hI
                  clear hI hd
                  unfold nVal
                  simp only [putL]
                  go_simp
                  exact ⟨HI.out, Only.refl _ _, catK_put 1 (by decide) rfl⟩
                refine ⟨fun vals w' hI hd => ?_, ?_⟩
                · obtain ⟨g2, q0, ho⟩ := catK_0.1 (hd 0 (by kernel_rfl))
                  have q1 : vals 1 = .slice ra5 l.length rc5 := catK_get 1 (hd 1 (by kernel_rfl)) (by decide)
                  rw [q0] at ho
                  obtain ⟨v', w2, hr, h1, h2⟩ := run_append_lit ho (ownsRow_only hW7.out hI (fun _ _ e => e)) hI.size (by omega) 22
                  refine nVal_append rfl (.tmp 57) (.tmp 58) rfl ?_ ?_ hr ⟨hI.trans' h2, h2, catK_2.2 h1⟩
                  · rw [← q0]; simp only [putL]; simp [Act.eval, Act.put]
                  · rw [← q1]; simp only [putL]; simp [Act.eval, Act.put]
                refine ⟨fun vals w' hI hd => ?_, ?_⟩
                · have HI := Lib.hid hI
                  clear hI hd
                  unfold nVal
                  simp only [putL]
                  go_simp
                  exact ⟨HI.out, Only.refl _ _, catK_put 3 (by decide) rfl⟩
                refine ⟨fun vals w' hI hd => ?_, ?_⟩
                · have HI := Lib.hid hI
                  clear hI hd
                  unfold nVal
                  simp only [putL]
                  go_simp
                  exact ⟨HI.out, Only.refl _ _, catK_put 4 (by decide) rfl⟩
                refine ⟨fun vals w' hI hd => ?_, ?_⟩
                · have q3 : vals 3 = .slice (some ⟨ab, ao, none⟩) len1 cap1 := catK_get 3 (hd 3 (by kernel_rfl)) (by decide)
                  have q4 : vals 4 = .int .i64 k := catK_get 4 (hd 4 (by kernel_rfl)) (by decide)
                  have HI := Lib.hid hI
                  clear hI hd
                  unfold nVal
                  simp only [putL]
                  go_simp
                  exact ⟨HI.out, Only.refl _ _, catK_put 5 (by decide) rfl⟩
                refine ⟨fun vals w' hI hd => ?_, ?_⟩
                · have q5 : vals 5 = .pointer (some ⟨ab, ao + k * 4, none⟩) := catK_get 5 (hd 5 (by kernel_rfl)) (by decide)
                  have HI := Lib.hid hI
                  clear hI hd
                  unfold nVal
                  simp only [putL]
                  go_simp
                  exact ⟨HI.out, Only.refl _ _, catK_put 6 (by decide) rfl⟩
                refine ⟨fun vals w' hI hd => ?_, ?_⟩
                · have q6 : vals 6 = .pointer (some ⟨ab, ao + k * 4 + 1, none⟩) := catK_get 6 (hd 6 (by kernel_rfl)) (by decide)
                  have HI := Lib.hid hI
                  have c1 := (hI.cell (p := ⟨ab, ao + k * 4 + 1, none⟩) hQ7.out.2.2 (fun e => e)).trans hQ7.out.2.1
                  clear hI hd
                  unfold nVal
                  simp only [putL]
                  go_simp
                  exact ⟨HI.out, Only.refl _ _, catK_put 7 (by decide) rfl⟩
                refine ⟨fun vals w' hI hd => ?_, ?_⟩
                · have q7 : vals 7 = .slice yla yl.length ylc := catK_get 7 (hd 7 (by kernel_rfl)) (by decide)
                  have HI := Lib.hid hI
                  have hst := hQ7.out.1.hl.all (hI.below (Nat.le_refl _) (fun _ e => e.elim))
                  have HSt := Lib.hid hst
                  clear hI hd hst
                  unfold nVal
                  simp only [putL]
                  go_simp
                  refine (few_any HSt.out.at_ HSt.out.len HSt.out.small).mono ?_
                  rintro e w2 ⟨fv, rfl, hF, hb⟩
                  exact ⟨_, rfl, HI.out.trans' (Only.of_below hb _), Only.of_below hb _, catK_8.2 hF⟩
                exact trivial
              case hend =>
                intro vals w5 hI hk5
                have h2 := catK_2.1 (hk5 2 (by omega))
                have h8 := catK_8.1 (hk5 8 (by omega))
                obtain ⟨v', w6, hr, h6, hgr⟩ := run_append_rows h2 h8 hI.size (by have := fewL_length yl; omega) 22
                have o6 := only_grown h2 hgr
                have b8 : Below v7.heap.size v7 w6 := (hI.below (Nat.le_refl _) (fun _ e => e.elim)).trans (o6.below hI.size (fun k e => e.1))
                have HB8 := Lib.hid b8
                have HR8 := Lib.hid (Row.of h6)
                clear hk5 h2 h8 hI hgr o6 b8 h6
                refine nList_step (fun K hK => ?_)
                refine nOp_append rfl (.tmp 59) (.tmp 65) rfl (by simp only [putL]; simp [Act.eval, Act.put]) (by simp only [putL]; simp [Act.eval, Act.put]) hr (hK _ _ trivial ?_)
                clear hK K hr
                refine nList_step (fun K hK => ?_)
                unfold nOp nUpon
                simp only [putL]
                go_simp
                refine hK _ _ trivial ?_
                clear hK K
                refine nList_nil ?_
                have hJ8 := Lib.hid (hJ7.out.below HB8.out); have hL8 := Lib.hid (hL7.out.trans (Left.of hJ7.out.jw.size HB8.out))
                obtain ⟨l2, hl2⟩ : ∃ l2, l2 = l ++ fewL yl := ⟨_, rfl⟩
                rw [← hl2] at hJ8 HR8 hH7
                obtain ⟨wa, wc, hwa⟩ := HR8.out.form
                subst hwa
                have hS8 : Hid (KSt n d7 l2 false) := .inl ⟨rfl, hH7.out⟩
                clear hl2 HB8 hJ7 hL7 hS7 hW7 hH7
                go_wp2_with fail
                refine hJ8.out.records.mono ?_
                rintro e y1c ⟨r1c, rfl, R1, J1, L1⟩
                rw [tp_recs] at R1
                obtain ⟨rac, rcc, hra⟩ := R1.form
                subst hra
                have tR := Lib.hid R1; have tJ := Lib.hid J1; have tL := Lib.hid (hL8.out.trans L1.left); have tS := Lib.hid (HR8.out.keep L1.left.2)
                have hcp := R1.cap
                have hcpI : ((l2).length : Int) ≤ (rcc : Int) := by omega
                clear R1 J1 L1
                go_wp2_with fail
                refine (same_any (by have := tR.out.strs.take _ (Nat.le_refl _); rw [List.take_length] at this; exact this) tS.out.strs tS.out.len tS.out.len).mono ?_
                rintro e y2c ⟨rfl, b2⟩
                rw [sameB_true.2 rfl]
                have uK : Hid (KRel w a n p y2c _ _) := ⟨d7, l2, false, _, rfl, tJ.out.below b2, hS8.out, tS.out.keep (Keep.of b2), tL.out.trans (Left.of tJ.out.jw.size b2)⟩
                clear b2 hcp hcpI
                go_wp2_with fail
                go_roundw
                case rel => exact ⟨k + 1, hlt, hlt20, by go_num, uK.out⟩
                case measure => simp [intOf]; omega
            · have hJ7 := Lib.hid J7; have hK7 : Hid (KSt n d7 l false) := .inl ⟨rfl, H7⟩
              clear J7 H7 HS g1
              go_wp2_with fail
              refine hJ7.out.records.mono ?_
              rintro e y1d ⟨r1d, rfl, R1, J1, L1⟩
              rw [tp_recs] at R1
              obtain ⟨rad, rcd, hra⟩ := R1.form
              subst hra
              have tR := Lib.hid R1; have tJ := Lib.hid J1; have tL := Lib.hid (hL7.out.trans L1.left); have tS := Lib.hid (hS7.out.keep L1.left.2)
              have hcp := R1.cap
              have hcpI : ((l).length : Int) ≤ (rcd : Int) := by omega
              clear R1 J1 L1
              go_wp2_with fail
              refine (same_any (by have := tR.out.strs.take _ (Nat.le_refl _); rw [List.take_length] at this; exact this) tS.out.strs tS.out.len tS.out.len).mono ?_
              rintro e y2d ⟨rfl, b2⟩
              rw [sameB_true.2 rfl]
              have uK : Hid (KRel w a n p y2d _ _) := ⟨d7, l, false, _, rfl, tJ.out.below b2, hK7.out, tS.out.keep (Keep.of b2), tL.out.trans (Left.of tJ.out.jw.size b2)⟩
              clear b2 hcp hcpI
              go_wp2_with fail
              go_roundw
              case rel => exact ⟨k + 1, hlt, hlt20, by go_num, uK.out⟩
              case measure => simp [intOf]; omega
            · have hJ7 := Lib.hid J7; have hK7 : Hid (KSt n d7 l true) := .inr ⟨rfl, _, H7⟩
              clear J7 H7 HS g1
              go_wp2_with fail
              refine hJ7.out.records.mono ?_
              rintro e y1e ⟨r1e, rfl, R1, J1, L1⟩
              rw [tp_recs] at R1
              obtain ⟨rae, rce, hra⟩ := R1.form
              subst hra
              have tR := Lib.hid R1; have tJ := Lib.hid J1; have tL := Lib.hid (hL7.out.trans L1.left); have tS := Lib.hid (hS7.out.keep L1.left.2)
              have hcp := R1.cap
              have hcpI : ((l).length : Int) ≤ (rce : Int) := by omega
              clear R1 J1 L1
              go_wp2_with fail
              refine (same_any (by have := tR.out.strs.take _ (Nat.le_refl _); rw [List.take_length] at this; exact this) tS.out.strs tS.out.len tS.out.len).mono ?_
              rintro e y2e ⟨rfl, b2⟩
              rw [sameB_true.2 rfl]
              have uK : Hid (KRel w a n p y2e _ _) := ⟨d7, l, true, _, rfl, tJ.out.below b2, hK7.out, tS.out.keep (Keep.of b2), tL.out.trans (Left.of tJ.out.jw.size b2)⟩
              clear b2 hcp hcpI
              go_wp2_with fail
              go_roundw
              case rel => exact ⟨k + 1, hlt, hlt20, by go_num, uK.out⟩
              case measure => simp [intOf]; omega
          · have hFp := hF.pend
            refine (JL.append hJ6.out hR6.out.strs (by have := fewL_length yl; omega) (by omega)).mono ?_
            rw [show app (tp l) true d (fewL yl) = (260, tp l, true, d) from if_pos (.inl rfl)]
            rintro e v7 ⟨rfl, J7, L7⟩
            have hJ7 := Lib.hid J7; have hL7 := Lib.hid (hL6.out.trans L7); have hS7 := Lib.hid (hS6.out.keep L7.2); have hK7 : Hid (KSt n d l true) := .inr ⟨rfl, _, hF⟩
            clear J7 L7 hJ6 hL6 hS6 hW6 hR6 g1 HS hF hFp
            go_wp2_with fail
            refine hJ7.out.records.mono ?_
            rintro e y1f ⟨r1f, rfl, R1, J1, L1⟩
            rw [tp_recs] at R1
            obtain ⟨raf, rcf, hra⟩ := R1.form
            subst hra
            have tR := Lib.hid R1; have tJ := Lib.hid J1; have tL := Lib.hid (hL7.out.trans L1.left); have tS := Lib.hid (hS7.out.keep L1.left.2)
            have hcp := R1.cap
            have hcpI : ((l).length : Int) ≤ (rcf : Int) := by omega
            clear R1 J1 L1
            go_wp2_with fail
            refine (same_any (by have := tR.out.strs.take _ (Nat.le_refl _); rw [List.take_length] at this; exact this) tS.out.strs tS.out.len tS.out.len).mono ?_
            rintro e y2f ⟨rfl, b2⟩
            rw [sameB_true.2 rfl]
            have uK : Hid (KRel w a n p y2f _ _) := ⟨d, l, true, _, rfl, tJ.out.below b2, hK7.out, tS.out.keep (Keep.of b2), tL.out.trans (Left.of tJ.out.jw.size b2)⟩
            clear b2 hcp hcpI
            go_wp2_with fail
            go_roundw
            case rel => exact ⟨k + 1, hlt, hlt20, by go_num, uK.out⟩
            case measure => simp [intOf]; omega
    · have hc2 : ¬ k < len1 ∨ (k < len1 ∧ ¬ k < 20) := by omega
      clear hgo
      rcases hc2 with h1 | ⟨h1, h2⟩
      case' inl => have d1 : decide ((k : Int) < len1) = false := decide_eq_false (by omega)
      case' inr =>
        have d1 : decide ((k : Int) < len1) = true := decide_eq_true (by omega)
        have d2 : decide ((k : Int) < 20) = false := decide_eq_false (by omega)
      all_goals
        go_wp2_with fail
        go_ret
        exact ⟨rfl, HL.out.1⟩
end Go.Proofs.YtjlgkjhociaeiaaGreatDoor
