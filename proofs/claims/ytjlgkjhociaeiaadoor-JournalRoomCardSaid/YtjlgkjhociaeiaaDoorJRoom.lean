/-
  JournalRoom, walked.
-/
import Derived.Test.YtjlgkjhociaeiaaDoorRWire
namespace Go.Proofs.YtjlgkjhociaeiaaDoor
open Go.RowKit
set_option linter.unusedVariables false

theorem putS_len (r : ByteArray) : (putS r).size + 33 = recLen r := by
  unfold putS recLen
  rw [ByteArray.size_append]
  have e : ByteArray.size ⟨(putI (r.size : Int)).toArray⟩ = (putI (r.size : Int)).length := by show (putI _).toArray.size = _; rw [List.size_toArray]
  rw [e]
  omega
theorem outLen_take (l : List ByteArray) (k : Nat) (h : k < l.length) : outLen (l.take (k + 1)) = outLen (l.take k) + recLen l[k] := by
  rw [List.take_succ_eq_append_getElem h, outLen_append]
  simp [outLen]
theorem recLen_small (r : ByteArray) (h : r.size ≤ 65536) : recLen r ≤ 65600 := by
  have := (putI_length (r.size : Int)).2
  unfold recLen
  omega
theorem outLen_small : ∀ (l : List ByteArray), (∀ r ∈ l, r.size ≤ 65536) → outLen l ≤ 65600 * l.length
  | [], _ => Nat.le_refl _
  | r :: l, h => by
    have h1 := outLen_small l (fun x hx => h x (by simp [hx]))
    have h2 := recLen_small r (h r (by simp))
    have e : outLen (r :: l) = recLen r + outLen l := by simp [outLen]
    rw [e, List.length_cons]
    omega
/-- One string that is typed out. -/
theorem row_one (w : World) (s : ByteArray) : Row (w.alloc (.cells #[.string s] 9)) (.slice (some ⟨w.heap.size, 0, none⟩) 1 1) [s] :=
  ownsRow_base (World.ownsRow_lit w #[.string s] 1 (Nat.le_refl _) (by unfold maxLen; omega) (by simp)) (fun _ _ => Nat.zero_le _)
/-- The power is off. -/
theorem app_off {n : Nat} {d : DSt} {l m : List ByteArray} (h : Held n d l) (hs : ∀ r ∈ m, r.size ≤ 65536) (hm : m ≠ []) :
    app (tp l) false (d.cut 0).2 m = if n < outLen l + outLen m then (261, tp l, false, (d.cut 0).2) else (251, tp l, true, (d.cut 0).2) := by
  have hc : (d.cut 0).2 = { d with off := true, left := 0 } := by
    unfold DSt.cut
    rw [if_neg (by rw [h.off]; simp), if_neg (by omega)]
    rfl
  have hdl : (d.cut 0).2.dur.length = n := by rw [hc]; exact h.durlen
  have hput : (putAll (tp l) (d.cut 0).2 m) = (251, (d.cut 0).2) := by
    unfold putAll DSt.put2 DSt.put DSt.write
    rw [hc]
    simp
  unfold app
  rw [if_neg (by rw [long_no hs]; simp), hdl, tp_size, enc_len, out_len, hput]
  by_cases hf : n < outLen l + outLen m
  · rw [if_pos hf, if_pos hf]
  · rw [if_neg hf, if_neg hf, if_neg hm, if_neg (by simp)]
theorem app_none {t : Tape} {d : DSt} (h : t.size ≤ d.dur.length) : app t false d [] = (0, t, false, d) := by
  unfold app
  rw [if_neg (by simp), if_neg (by simp [Tape.out]; omega), if_pos rfl]
theorem app_broken {t : Tape} {d : DSt} {m : List ByteArray} : app t true d m = (260, t, true, d) := if_pos (.inl rfl)
theorem app_long {t : Tape} {br : Bool} {d : DSt} {m : List ByteArray} (h : m.any long = true) : app t br d m = (260, t, br, d) := if_pos (.inr h)
theorem run_append_one {w1 : World} {B : Nat} {u1 : Value} {fl : List ByteArray} (s : ByteArray) (o : Obj) (hO : w1.ownsRow B 9 1 u1 fl.length (fl.map Value.string)) (hB : B ≤ w1.heap.size) (hl : fl.length ≤ 1000) (ty : TypeId) :
    ∃ v' w', (Builtin.append_ #[22, 22] ty #[u1, .slice (some ⟨w1.heap.size + 1, 0, none⟩) 1 1]).run Tryd.prog ((w1.alloc o).alloc (.cells #[.string s] 9)) = .ok v' w' ∧ Row w' v' (fl ++ [s]) ∧ Below B w1 w' := by
  have ho := ownsRow_only hO (((Only.refl (fun _ => False) w1).alloc o).alloc (.cells #[.string s] 9)) (fun _ _ e => e)
  have hu := row_one (w1.alloc o) s
  rw [World.size_alloc] at hu
  obtain ⟨v', w', hr, h1, h2⟩ := run_append_rows ho hu (by simp; omega) (by simp; omega) ty
  refine ⟨v', w', hr, Row.of h1, ?_⟩
  have b1 : Below B w1 ((w1.alloc o).alloc (.cells #[.string s] 9)) := (((Only.refl (fun _ => False) w1).alloc o).alloc (.cells #[.string s] 9)).below hB (fun _ e => e.elim)
  exact b1.trans ((only_grown ho h2).below (Nat.le_trans hB b1.size) (fun k e => e.1))
theorem x_len : outLen [⟨#[120]⟩] = 35 := by kernel_rfl
theorem x_small : ∀ r ∈ ([⟨#[120]⟩] : List ByteArray), r.size ≤ 65536 := by
  intro r hr
  simp only [List.mem_cons, List.not_mem_nil, or_false] at hr
  subst hr
  show 1 ≤ 65536
  omega
theorem long_last (l : List ByteArray) (q : Nat) (h : 65536 < q) : (l ++ [zeros q]).any long = true := by
  rw [List.any_append]
  have : long (zeros q) = true := by
    have e : (zeros q).size = q := Js.z q
    simp [long, e, h]
  simp [this]
set_option maxRecDepth 100000 in
set_option maxHeartbeats 8000000 in
theorem journalRoom_any (a0 : Int) (a1 : Option Addr) (len1 cap1 : Nat) (x1 : List ByteArray) (a2 : Int) {w : World} {a : Addr} (g : Gl w a) (w0 : -9223372036854775808 ≤ a0 ∧ a0 ≤ 9223372036854775807) (w1 : Strs w (.slice a1 len1 cap1) x1) (w2 : -9223372036854775808 ≤ a2 ∧ a2 ≤ 9223372036854775807) :
    Calls Tryd.prog 3 #[.int .i64 a0, .slice a1 len1 cap1, .int .i64 a2] w fun e w' => e = .returned (.bool true) ∧ Below w.heap.size w w' := by
  have HW := Lib.hid w1
  have hw := JW.start g
  have c20 := pickI_nonneg a2 100 (by omega)
  have c21 := pickI_lt a2 100 (by omega)
  obtain ⟨ct, hct⟩ : ∃ ct : Nat, pickI a2 100 = (ct : Int) := ⟨(pickI a2 100).toNat, by omega⟩
  rw [hct] at c20 c21
  have HCT := Lib.hid hct
  obtain ⟨n, hn⟩ : ∃ n, n = sizeN a0 := ⟨_, rfl⟩
  have hnl := sizeN_le a0
  rw [← hn] at hnl
  have HN := Lib.hid hn.symm
  obtain ⟨q, hq⟩ : ∃ q : Nat, q = 65537 + ct := ⟨_, rfl⟩
  have hqs : q ≤ 65637 := by omega
  have HQ := Lib.hid hq
  have hmk : ∀ w : World, (Instr.makeSlice 38 (.int .i64 (q : Int)) (.int .i64 (q : Int))).run Tryd.prog w = .ok (.slice (some ⟨w.heap.size, 0, none⟩) q q) (w.alloc (.cells (madeCells #[Value.int .u8 0] q) 5)) := run_make_row' (P := Tryd.prog) 38 5 (.int .u8 0) 1 Tryd.underlying38 info8 rfl .i64 .i64 q (by omega) (by omega)
  have cvq := zeros_back q
  obtain ⟨fl, hfl⟩ : ∃ fl, fl = fewL x1 := ⟨_, rfl⟩
  have hfs : ∀ r ∈ fl, r.size ≤ 65536 := fun r hr => by rw [hfl] at hr; have := fewL_small x1 r hr; omega
  have hfn : fl.length ≤ 6 := by rw [hfl]; exact fewL_length x1
  have HF := Lib.hid hfl.symm
  have HFS := Lib.hid hfs
  have hol := outLen_small fl hfs
  have hfn2 : fl.length ≤ 1000 := by omega
  have hq1 : IntKind.i64.wrap ((65537 : Int) + ct) = (q : Int) := by rw [IntWalk.i64_in _ (by omega)]; omega
  clear w1 hn hct hfl hfs hq
  go_enter Tryd.func3, Tryd.ntmps3
  go_wp2_with fail
  refine (sane_any g).mono ?_
  rintro e v1 ⟨rfl, b1⟩
  have hw1 := Lib.hid (hw.below b1)
  have hL1 := Lib.hid (LeftO.of (B := w.heap.size) (Nat.le_refl _) b1)
  clear b1 hw g
  go_wp2_with fail
  refine (size_any a0 v1 w0).mono ?_
  rintro e v1' ⟨rfl, rfl⟩
  rw [HN.out]
  go_wp2_with fail
  refine (DJ.new n hw1.out (by omega) (by omega)).mono ?_
  rintro e v2 ⟨p, rfl, D2, L2⟩
  have hD2 := Lib.hid D2; have hL2 := Lib.hid (hL1.out.trans L2); clear D2 L2 hw1 hL1
  go_wp2_with fail
  refine (hD2.out.openRec ((held_new n).toRec rfl)).mono ?_
  rintro e v3 ⟨b, d3, rfl, J3, H3, k3, hb3, L3⟩
  have hJ3 := Lib.hid J3; have hH3 := Lib.hid H3; have hK3 := Lib.hid k3; have hL3 := Lib.hid (hL2.out.trans L3).left
  clear J3 H3 k3 L3 hb3 hD2 hL2
  go_wp2_with fail
  refine (few_any (HW.out.all hL3.out.1).at_ HW.out.len HW.out.small).mono ?_
  rw [HF.out]
  rintro e v4 ⟨fv, rfl, R4, b4⟩
  obtain ⟨fa, fc, hfv⟩ := R4.form
  subst hfv
  have hR4 := Lib.hid R4; have hJ4 := Lib.hid (hJ3.out.below b4); have hL4 := Lib.hid (hL3.out.trans (Left.of hJ3.out.jw.size b4))
  clear R4 b4 hJ3 hL3
  go_wp2_with fail
  go_loopw [12, 13] (fun u i wr => ∃ k : Nat, k ≤ fl.length ∧ i = .int .i64 k ∧ u = .int .i64 (outLen (fl.take k) : Int) ∧ Below v4.heap.size v4 wr) (fun _ i _ => fl.length - (intOf i).toNat)
  case atStart => exact ⟨0, Nat.zero_le _, rfl, rfl, Below.refl _ _⟩
  case round =>
    obtain ⟨k, hk, rfl, rfl, hB⟩ := hrel
    have HB := Lib.hid hB
    clear hB
    by_cases hlt : k < fl.length
    · obtain ⟨ga, go_, rfl, hga, g0⟩ := hR4.out.strs.get k hlt
      have c1 := (HB.out.cell (p := ⟨ga, go_ + k, none⟩) hga).trans g0
      obtain ⟨r, hr⟩ : ∃ r, r = fl[k] := ⟨_, rfl⟩
      have hrs : r.size ≤ 65536 := hr ▸ HFS.out _ (List.getElem_mem hlt)
      rw [← hr] at c1
      have HT := Lib.hid (show outLen (fl.take (k + 1)) = outLen (fl.take k) + recLen r by rw [hr]; exact outLen_take fl k hlt)
      have hps := putS_len r
      have hrl := recLen_small r hrs
      obtain ⟨ps, hpp⟩ : ∃ ps, ps = putS r := ⟨_, rfl⟩
      rw [← hpp] at hps
      have HPS := Lib.hid hpp.symm
      have ho2 : outLen (fl.take k) ≤ 65600 * 6 := by
        have := outLen_small (fl.take k) (fun x hx => HFS.out x (List.mem_of_mem_take hx))
        rw [List.length_take] at this
        omega
      have HPL := Lib.hid hps
      have hps2 : ps.size ≤ 65600 := by omega
      have i1 : (k : Int) < (fl.length : Int) := by omega
      clear g0 hr hpp hps
      go_wp2_with fail
      refine (RPutString_any r wr hrs).mono ?_
      rw [HPS.out]
      rintro e v5 ⟨rfl, b5⟩
      have HB5 := Lib.hid (HB.out.trans (b5.mono HB.out.size))
      clear b5
      go_wp2_with fail
      go_roundw
      case rel => exact ⟨k + 1, hlt, by go_num, by rw [HT.out, ← HPL.out]; push_cast; congr 1; omega, HB5.out⟩
      case measure => simp [intOf]; omega
    · obtain rfl : k = fl.length := by omega
      rw [List.take_length]
      by_cases hf : outLen fl ≤ n
      · have hol2 : outLen (fl) ≤ n := hf
        go_wp2_with fail
        refine (JL.appFine (hJ4.out.below HB.out) hH3.out hK3.out (hR4.out.keep (Keep.of HB.out)).strs HFS.out (by omega) (by show 0 + outLen fl ≤ n; omega)).mono ?_
        rintro e v6 ⟨rfl, d6, J6, H6, k6, L6⟩
        rw [List.nil_append] at J6 H6
        have hJ6 := Lib.hid J6; have hH6 := Lib.hid H6; have hK6 := Lib.hid k6; have hL6 := Lib.hid ((hL4.out.trans (Left.of hJ4.out.jw.size HB.out)).trans L6); have hF6 := Lib.hid (hR4.out.keep ((Keep.of HB.out).trans L6.2))
        clear J6 H6 k6 L6 hJ4 hL4 hR4 hH3 hK3
        have hrm : Hid ((d6.dur.length : Int) - (tp (fl)).size = (n : Int) - outLen (fl)) := by show _ = _; rw [hH6.out.durlen, tp_size, enc_len]
        go_wp2_with fail
        refine (size_any a0 v6 w0).mono ?_
        rintro e v6' ⟨rfl, rfl⟩
        rw [HN.out]
        have t1 : decide ((outLen fl : Int) ≤ (n : Int)) = true := decide_eq_true (by omega)
        have hsb : IntKind.i64.wrap ((n : Int) - outLen fl) = (n : Int) - outLen fl := IntWalk.i64_in _ (by omega)
        go_wp2_with fail
        refine hJ6.out.room.mono ?_
        rintro e v7 ⟨rfl, J7, L7⟩
        have hJ7 := Lib.hid J7; have hL7 := Lib.hid (hL6.out.trans L7.left); have hF7 := Lib.hid (hF6.out.keep L7.left.2); clear J7 L7 hJ6 hL6 hF6
        rw [hrm.out]
        go_wp2_with fail
        refine (size_any a0 v7 w0).mono ?_
        rintro e v7' ⟨rfl, rfl⟩
        rw [HN.out]
        go_wp2_with fail
        refine hJ7.out.records.mono ?_
        rintro e v8 ⟨r8, rfl, R8, J8, L8⟩
        rw [tp_recs] at R8
        obtain ⟨ra, rc, hra⟩ := R8.form
        subst hra
        have hR8 := Lib.hid R8; have hJ8 := Lib.hid J8; have hL8 := Lib.hid (hL7.out.trans L8.left); have hF8 := Lib.hid (hF7.out.keep L8.left.2); clear R8 J8 L8 hJ7 hL7 hF7
        go_wp2_with (first | (at_builtin; refine wpList_append_row rfl (.tmp 106) (.tmp 107) rfl rfl rfl ?_; obtain ⟨u1, w1', hr1, ho1, hO1⟩ := run_append_lit (w := v8.alloc (.cells #[] 9)) (B := v8.heap.size) (World.ownsRow_lit v8 #[] 0 (Nat.le_refl _) (by unfold maxLen; omega) (by simp)) (hF8.out.keep (Keep.of (below_alloc v8 _))) (by simp) (by omega) 22; refine ⟨u1, w1', hr1, ?_⟩; obtain ⟨ua1, uc1, hu1⟩ := ownsRow_form ho1; subst hu1; have hO1' := Lib.hid ho1; have hB1' := Lib.hid ((below_alloc v8 (.cells #[] 9)).trans (hO1.below (by simp) (fun _ e => e.elim))); clear hr1 ho1 hO1) | (go_at_call 14; refine (pick_any a2 100 _ w2.1 w2.2 (by omega) (by omega)).mono ?_; rintro e w2' ⟨rfl, rfl⟩; rw [HCT.out]) | (at_builtin; refine wpList_append_row rfl (.tmp 108) (.tmp 114) rfl rfl rfl ?_; obtain ⟨u2, w2', hr2, hR2, hb2⟩ := run_append_one (zeros q) (.cells (madeCells #[Value.int .u8 0] q) 5) hO1'.out hB1'.out.size hfn2 22; refine ⟨u2, w2', hr2, ?_⟩; obtain ⟨ua2, uc2, hu2⟩ := hR2.form; rw [List.length_append] at hu2; subst hu2; have hO2' := Lib.hid hR2; have hB3' := Lib.hid (hB1'.out.trans hb2); clear hr2 hR2 hb2))
        have hJ9 := Lib.hid (hJ8.out.below hB3'.out); have hR9 := Lib.hid (hR8.out.keep (Keep.of hB3'.out)); have hF9 := Lib.hid (hF8.out.keep (Keep.of hB3'.out)); have hL9 := Lib.hid (hL8.out.trans (Left.of hJ8.out.jw.size hB3'.out))
        clear hJ8 hL8 hR8 hF8 hB1' hO1' hB3'
        have hp6 : d6.pend.length ≤ 999999 := by rw [hH6.out.pend]; exact Nat.zero_le _
        refine (JL.append hJ9.out hO2'.out.strs (by simp; omega) hp6).mono ?_
        rw [app_long (long_last _ q (by have := HQ.out; omega))]
        rintro e v10 ⟨rfl, J10, L10⟩
        have hJ10 := Lib.hid J10; have hL10 := Lib.hid (hL9.out.trans L10); have hR10 := Lib.hid (hR9.out.keep L10.2); have hF10 := Lib.hid (hF9.out.keep L10.2)
        clear J10 L10 hJ9 hL9 hR9 hF9 hO2'
        go_wp2_with fail
        refine (JL.append hJ10.out (v := .slice none 0 0) (l := []) (.inl ⟨none, 0, rfl, rfl⟩) (by simp) hp6).mono ?_
        rw [app_none hJ10.out.lens.2.2.1]
        rintro e v11 ⟨rfl, J11, L11⟩
        have hJ11 := Lib.hid J11; have hL11 := Lib.hid (hL10.out.trans L11); have hR11 := Lib.hid (hR10.out.keep L11.2); have hF11 := Lib.hid (hF10.out.keep L11.2)
        clear J11 L11 hJ10 hL10 hR10 hF10
        go_wp2_with fail
        refine (hJ11.out.cut 0 (by omega)).mono ?_
        rintro e v12 ⟨rfl, J12, L12⟩
        have hJ12 := Lib.hid J12; have hL12 := Lib.hid (hL11.out.trans L12.left); have hR12 := Lib.hid (hR11.out.keep L12.left.2); have hF12 := Lib.hid (hF11.out.keep L12.left.2)
        clear J12 L12 hJ11 hL11 hR11 hF11
        have hAO := Lib.hid (app_off hH6.out x_small (by simp))
        have hc6 := d6.cut_dur 0
        obtain ⟨d7, hd7⟩ : ∃ d7, d7 = (d6.cut 0).2 := ⟨_, rfl⟩
        rw [← hd7] at hJ12 hAO hc6
        have hp7 : d7.pend.length ≤ 999999 := by rw [hc6.2.1]; exact hp6
        have hrm7 : Hid ((d7.dur.length : Int) - (tp (fl)).size = (n : Int) - outLen (fl)) := by show _ = _; rw [hc6.1]; exact hrm.out
        clear hd7 hc6
        go_wp2_with fail
        refine (JL.append (hJ12.out.below (below_alloc v12 (.cells #[.string ⟨#[120]⟩] 9))) (strs_lit v12 [⟨#[120]⟩] 1 rfl) (by simp) hp7).mono ?_
        rw [hAO.out, x_len]
        by_cases hsm : n < outLen (fl) + 35
        · rw [if_pos hsm]
          rintro e v13 ⟨rfl, J13, L13⟩
          have hJ13 := Lib.hid J13; have hL13 := Lib.hid ((hL12.out.trans (left_alloc hJ12.out.jw.size _).left).trans L13); have hR13 := Lib.hid (hR12.out.keep ((Keep.of (below_alloc v12 _)).trans L13.2)); have hF13 := Lib.hid (hF12.out.keep ((Keep.of (below_alloc v12 _)).trans L13.2))
          clear J13 L13 hJ12 hL12 hR12 hF12 hAO
          have t5 : decide ((n : Int) - outLen (fl) < 35) = true := decide_eq_true (by omega)
          go_wp2_with fail
          refine hJ13.out.room.mono ?_
          rintro e v14 ⟨rfl, J14, L14⟩
          have hJ14 := Lib.hid J14; have hL14 := Lib.hid (hL13.out.trans L14.left); have hR14 := Lib.hid (hR13.out.keep L14.left.2); have hF14 := Lib.hid (hF13.out.keep L14.left.2)
          clear J14 L14 hJ13 hL13 hR13 hF13
          rw [hrm7.out]
          go_wp2_with fail
          refine (JL.append hJ14.out (v := .slice none 0 0) (l := []) (.inl ⟨none, 0, rfl, rfl⟩) (by simp) hp7).mono ?_
          rw [app_none hJ14.out.lens.2.2.1]
          rintro e v15 ⟨rfl, J15, L15⟩
          have hJ15 := Lib.hid J15; have hL15 := Lib.hid (hL14.out.trans L15); have hR15 := Lib.hid (hR14.out.keep L15.2); have hF15 := Lib.hid (hF14.out.keep L15.2)
          clear J15 L15 hJ14 hL14 hR14 hF14
          go_wp2_with fail
          refine hJ15.out.records.mono ?_
          rintro e v16 ⟨r16, rfl, R16, J16, L16⟩
          rw [tp_recs] at R16
          have hR16 := Lib.hid R16; have hJ16 := Lib.hid J16; have hL16 := Lib.hid (hL15.out.trans L16.left); have hR16a := Lib.hid (hR15.out.keep L16.left.2); have hF16 := Lib.hid (hF15.out.keep L16.left.2)
          clear R16 J16 L16 hJ15 hL15 hR15 hF15
          go_wp2_with fail
          refine (same_any hR16.out.strs hR16a.out.strs (by first | omega | simp) (by first | omega | simp)).mono ?_
          rintro e v17 ⟨rfl, b17⟩
          rw [sameB_true.2 rfl]
          have hL17 := Lib.hid (hL16.out.trans (Left.of hJ16.out.jw.size b17))
          clear b17
          go_wp2_with fail
          refine (Append_nil v17 _).mono ?_
          rintro e v17' ⟨rfl, rfl⟩
          go_wp2_with fail
          refine (Records_nil v17).mono ?_
          rintro e v17' ⟨rfl, rfl⟩
          go_wp2_with fail
          refine (Room_nil v17).mono ?_
          rintro e v17' ⟨rfl, rfl⟩
          go_wp2_with fail
          go_ret
          exact ⟨rfl, hL17.out.1⟩
        · rw [if_neg hsm]
          rintro e v13 ⟨rfl, J13, L13⟩
          have hJ13 := Lib.hid J13; have hL13 := Lib.hid ((hL12.out.trans (left_alloc hJ12.out.jw.size _).left).trans L13); have hR13 := Lib.hid (hR12.out.keep ((Keep.of (below_alloc v12 _)).trans L13.2)); have hF13 := Lib.hid (hF12.out.keep ((Keep.of (below_alloc v12 _)).trans L13.2))
          clear J13 L13 hJ12 hL12 hR12 hF12 hAO
          have t5 : decide ((n : Int) - outLen (fl) < 35) = false := decide_eq_false (by omega)
          go_wp2_with fail
          refine hJ13.out.room.mono ?_
          rintro e v14 ⟨rfl, J14, L14⟩
          have hJ14 := Lib.hid J14; have hL14 := Lib.hid (hL13.out.trans L14.left); have hR14 := Lib.hid (hR13.out.keep L14.left.2); have hF14 := Lib.hid (hF13.out.keep L14.left.2)
          clear J14 L14 hJ13 hL13 hR13 hF13
          rw [hrm7.out]
          go_wp2_with fail
          refine (JL.append hJ14.out (v := .slice none 0 0) (l := []) (.inl ⟨none, 0, rfl, rfl⟩) (by simp) hp7).mono ?_
          rw [app_broken]
          rintro e v15 ⟨rfl, J15, L15⟩
          have hJ15 := Lib.hid J15; have hL15 := Lib.hid (hL14.out.trans L15); have hR15 := Lib.hid (hR14.out.keep L15.2); have hF15 := Lib.hid (hF14.out.keep L15.2)
          clear J15 L15 hJ14 hL14 hR14 hF14
          go_wp2_with fail
          refine hJ15.out.records.mono ?_
          rintro e v16 ⟨r16, rfl, R16, J16, L16⟩
          rw [tp_recs] at R16
          have hR16 := Lib.hid R16; have hJ16 := Lib.hid J16; have hL16 := Lib.hid (hL15.out.trans L16.left); have hR16a := Lib.hid (hR15.out.keep L16.left.2); have hF16 := Lib.hid (hF15.out.keep L16.left.2)
          clear R16 J16 L16 hJ15 hL15 hR15 hF15
          go_wp2_with fail
          refine (same_any hR16.out.strs hR16a.out.strs (by first | omega | simp) (by first | omega | simp)).mono ?_
          rintro e v17 ⟨rfl, b17⟩
          rw [sameB_true.2 rfl]
          have hL17 := Lib.hid (hL16.out.trans (Left.of hJ16.out.jw.size b17))
          clear b17
          go_wp2_with fail
          refine (Append_nil v17 _).mono ?_
          rintro e v17' ⟨rfl, rfl⟩
          go_wp2_with fail
          refine (Records_nil v17).mono ?_
          rintro e v17' ⟨rfl, rfl⟩
          go_wp2_with fail
          refine (Room_nil v17).mono ?_
          rintro e v17' ⟨rfl, rfl⟩
          go_wp2_with fail
          go_ret
          exact ⟨rfl, hL17.out.1⟩
      · have hol2 : outLen ([]) ≤ n := Nat.zero_le _
        go_wp2_with fail
        refine (JL.appFull (hJ4.out.below HB.out) hH3.out (hR4.out.keep (Keep.of HB.out)).strs HFS.out (by omega) (by show n < 0 + outLen fl; omega)).mono ?_
        rintro e v6 ⟨rfl, J6, L6⟩
        obtain ⟨d6, hd6⟩ : ∃ d6, d6 = d3 := ⟨_, rfl⟩
        have H6 : Held n d6 [] := hd6 ▸ hH3.out
        have k6 : d6.left = 0 := hd6 ▸ hK3.out
        rw [← hd6] at J6
        clear hd6
        have hJ6 := Lib.hid J6; have hH6 := Lib.hid H6; have hK6 := Lib.hid k6; have hL6 := Lib.hid ((hL4.out.trans (Left.of hJ4.out.jw.size HB.out)).trans L6); have hF6 := Lib.hid (hR4.out.keep ((Keep.of HB.out).trans L6.2))
        clear J6 H6 k6 L6 hJ4 hL4 hR4 hH3 hK3
        have hrm : Hid ((d6.dur.length : Int) - (tp ([])).size = (n : Int) - outLen ([])) := by show _ = _; rw [hH6.out.durlen, tp_size, enc_len]
        go_wp2_with fail
        refine (size_any a0 v6 w0).mono ?_
        rintro e v6' ⟨rfl, rfl⟩
        rw [HN.out]
        have t1 : decide ((outLen fl : Int) ≤ (n : Int)) = false := decide_eq_false (by omega)
        go_wp2_with fail
        refine hJ6.out.room.mono ?_
        rintro e v7 ⟨rfl, J7, L7⟩
        have hJ7 := Lib.hid J7; have hL7 := Lib.hid (hL6.out.trans L7.left); have hF7 := Lib.hid (hF6.out.keep L7.left.2); clear J7 L7 hJ6 hL6 hF6
        rw [hrm.out]
        rw [show ((outLen ([] : List ByteArray) : Nat) : Int) = 0 from rfl, Int.sub_zero]
        go_wp2_with fail
        refine (size_any a0 v7 w0).mono ?_
        rintro e v7' ⟨rfl, rfl⟩
        rw [HN.out]
        go_wp2_with fail
        refine hJ7.out.records.mono ?_
        rintro e v8 ⟨r8, rfl, R8, J8, L8⟩
        rw [tp_recs] at R8
        obtain ⟨ra, rc, hra⟩ := R8.form
        subst hra
        have hR8 := Lib.hid R8; have hJ8 := Lib.hid J8; have hL8 := Lib.hid (hL7.out.trans L8.left); have hF8 := Lib.hid (hF7.out.keep L8.left.2); clear R8 J8 L8 hJ7 hL7 hF7
        go_wp2_with (first | (at_builtin; refine wpList_append_row rfl (.tmp 106) (.tmp 107) rfl rfl rfl ?_; obtain ⟨u1, w1', hr1, ho1, hO1⟩ := run_append_lit (w := v8.alloc (.cells #[] 9)) (B := v8.heap.size) (World.ownsRow_lit v8 #[] 0 (Nat.le_refl _) (by unfold maxLen; omega) (by simp)) (hF8.out.keep (Keep.of (below_alloc v8 _))) (by simp) (by omega) 22; refine ⟨u1, w1', hr1, ?_⟩; obtain ⟨ua1, uc1, hu1⟩ := ownsRow_form ho1; subst hu1; have hO1' := Lib.hid ho1; have hB1' := Lib.hid ((below_alloc v8 (.cells #[] 9)).trans (hO1.below (by simp) (fun _ e => e.elim))); clear hr1 ho1 hO1) | (go_at_call 14; refine (pick_any a2 100 _ w2.1 w2.2 (by omega) (by omega)).mono ?_; rintro e w2' ⟨rfl, rfl⟩; rw [HCT.out]) | (at_builtin; refine wpList_append_row rfl (.tmp 108) (.tmp 114) rfl rfl rfl ?_; obtain ⟨u2, w2', hr2, hR2, hb2⟩ := run_append_one (zeros q) (.cells (madeCells #[Value.int .u8 0] q) 5) hO1'.out hB1'.out.size hfn2 22; refine ⟨u2, w2', hr2, ?_⟩; obtain ⟨ua2, uc2, hu2⟩ := hR2.form; rw [List.length_append] at hu2; subst hu2; have hO2' := Lib.hid hR2; have hB3' := Lib.hid (hB1'.out.trans hb2); clear hr2 hR2 hb2))
        have hJ9 := Lib.hid (hJ8.out.below hB3'.out); have hR9 := Lib.hid (hR8.out.keep (Keep.of hB3'.out)); have hF9 := Lib.hid (hF8.out.keep (Keep.of hB3'.out)); have hL9 := Lib.hid (hL8.out.trans (Left.of hJ8.out.jw.size hB3'.out))
        clear hJ8 hL8 hR8 hF8 hB1' hO1' hB3'
        have hp6 : d6.pend.length ≤ 999999 := by rw [hH6.out.pend]; exact Nat.zero_le _
        refine (JL.append hJ9.out hO2'.out.strs (by simp; omega) hp6).mono ?_
        rw [app_long (long_last _ q (by have := HQ.out; omega))]
        rintro e v10 ⟨rfl, J10, L10⟩
        have hJ10 := Lib.hid J10; have hL10 := Lib.hid (hL9.out.trans L10); have hR10 := Lib.hid (hR9.out.keep L10.2); have hF10 := Lib.hid (hF9.out.keep L10.2)
        clear J10 L10 hJ9 hL9 hR9 hF9 hO2'
        go_wp2_with fail
        refine (JL.append hJ10.out (v := .slice none 0 0) (l := []) (.inl ⟨none, 0, rfl, rfl⟩) (by simp) hp6).mono ?_
        rw [app_none hJ10.out.lens.2.2.1]
        rintro e v11 ⟨rfl, J11, L11⟩
        have hJ11 := Lib.hid J11; have hL11 := Lib.hid (hL10.out.trans L11); have hR11 := Lib.hid (hR10.out.keep L11.2); have hF11 := Lib.hid (hF10.out.keep L11.2)
        clear J11 L11 hJ10 hL10 hR10 hF10
        go_wp2_with fail
        refine (hJ11.out.cut 0 (by omega)).mono ?_
        rintro e v12 ⟨rfl, J12, L12⟩
        have hJ12 := Lib.hid J12; have hL12 := Lib.hid (hL11.out.trans L12.left); have hR12 := Lib.hid (hR11.out.keep L12.left.2); have hF12 := Lib.hid (hF11.out.keep L12.left.2)
        clear J12 L12 hJ11 hL11 hR11 hF11
        have hAO := Lib.hid (app_off hH6.out x_small (by simp))
        have hc6 := d6.cut_dur 0
        obtain ⟨d7, hd7⟩ : ∃ d7, d7 = (d6.cut 0).2 := ⟨_, rfl⟩
        rw [← hd7] at hJ12 hAO hc6
        have hp7 : d7.pend.length ≤ 999999 := by rw [hc6.2.1]; exact hp6
        have hrm7 : Hid ((d7.dur.length : Int) - (tp ([])).size = (n : Int) - outLen ([])) := by show _ = _; rw [hc6.1]; exact hrm.out
        clear hd7 hc6
        go_wp2_with fail
        refine (JL.append (hJ12.out.below (below_alloc v12 (.cells #[.string ⟨#[120]⟩] 9))) (strs_lit v12 [⟨#[120]⟩] 1 rfl) (by simp) hp7).mono ?_
        rw [hAO.out, x_len]
        by_cases hsm : n < outLen ([]) + 35
        · rw [if_pos hsm]
          rintro e v13 ⟨rfl, J13, L13⟩
          have hJ13 := Lib.hid J13; have hL13 := Lib.hid ((hL12.out.trans (left_alloc hJ12.out.jw.size _).left).trans L13); have hR13 := Lib.hid (hR12.out.keep ((Keep.of (below_alloc v12 _)).trans L13.2)); have hF13 := Lib.hid (hF12.out.keep ((Keep.of (below_alloc v12 _)).trans L13.2))
          clear J13 L13 hJ12 hL12 hR12 hF12 hAO
          have t5 : decide ((n : Int) - outLen ([]) < 35) = true := decide_eq_true (by omega)
          rw [show ((outLen ([] : List ByteArray) : Nat) : Int) = 0 from rfl, Int.sub_zero] at t5
          go_wp2_with fail
          refine hJ13.out.room.mono ?_
          rintro e v14 ⟨rfl, J14, L14⟩
          have hJ14 := Lib.hid J14; have hL14 := Lib.hid (hL13.out.trans L14.left); have hR14 := Lib.hid (hR13.out.keep L14.left.2); have hF14 := Lib.hid (hF13.out.keep L14.left.2)
          clear J14 L14 hJ13 hL13 hR13 hF13
          rw [hrm7.out]
          rw [show ((outLen ([] : List ByteArray) : Nat) : Int) = 0 from rfl, Int.sub_zero]
          go_wp2_with fail
          refine (JL.append hJ14.out (v := .slice none 0 0) (l := []) (.inl ⟨none, 0, rfl, rfl⟩) (by simp) hp7).mono ?_
          rw [app_none hJ14.out.lens.2.2.1]
          rintro e v15 ⟨rfl, J15, L15⟩
          have hJ15 := Lib.hid J15; have hL15 := Lib.hid (hL14.out.trans L15); have hR15 := Lib.hid (hR14.out.keep L15.2); have hF15 := Lib.hid (hF14.out.keep L15.2)
          clear J15 L15 hJ14 hL14 hR14 hF14
          go_wp2_with fail
          refine hJ15.out.records.mono ?_
          rintro e v16 ⟨r16, rfl, R16, J16, L16⟩
          rw [tp_recs] at R16
          have hR16 := Lib.hid R16; have hJ16 := Lib.hid J16; have hL16 := Lib.hid (hL15.out.trans L16.left); have hR16a := Lib.hid (hR15.out.keep L16.left.2); have hF16 := Lib.hid (hF15.out.keep L16.left.2)
          clear R16 J16 L16 hJ15 hL15 hR15 hF15
          go_wp2_with fail
          refine (same_any hR16.out.strs hR16a.out.strs (by first | omega | simp) (by first | omega | simp)).mono ?_
          rintro e v17 ⟨rfl, b17⟩
          rw [sameB_true.2 rfl]
          have hL17 := Lib.hid (hL16.out.trans (Left.of hJ16.out.jw.size b17))
          clear b17
          go_wp2_with fail
          refine (Append_nil v17 _).mono ?_
          rintro e v17' ⟨rfl, rfl⟩
          go_wp2_with fail
          refine (Records_nil v17).mono ?_
          rintro e v17' ⟨rfl, rfl⟩
          go_wp2_with fail
          refine (Room_nil v17).mono ?_
          rintro e v17' ⟨rfl, rfl⟩
          go_wp2_with fail
          go_ret
          exact ⟨rfl, hL17.out.1⟩
        · rw [if_neg hsm]
          rintro e v13 ⟨rfl, J13, L13⟩
          have hJ13 := Lib.hid J13; have hL13 := Lib.hid ((hL12.out.trans (left_alloc hJ12.out.jw.size _).left).trans L13); have hR13 := Lib.hid (hR12.out.keep ((Keep.of (below_alloc v12 _)).trans L13.2)); have hF13 := Lib.hid (hF12.out.keep ((Keep.of (below_alloc v12 _)).trans L13.2))
          clear J13 L13 hJ12 hL12 hR12 hF12 hAO
          have t5 : decide ((n : Int) - outLen ([]) < 35) = false := decide_eq_false (by omega)
          rw [show ((outLen ([] : List ByteArray) : Nat) : Int) = 0 from rfl, Int.sub_zero] at t5
          go_wp2_with fail
          refine hJ13.out.room.mono ?_
          rintro e v14 ⟨rfl, J14, L14⟩
          have hJ14 := Lib.hid J14; have hL14 := Lib.hid (hL13.out.trans L14.left); have hR14 := Lib.hid (hR13.out.keep L14.left.2); have hF14 := Lib.hid (hF13.out.keep L14.left.2)
          clear J14 L14 hJ13 hL13 hR13 hF13
          rw [hrm7.out]
          rw [show ((outLen ([] : List ByteArray) : Nat) : Int) = 0 from rfl, Int.sub_zero]
          go_wp2_with fail
          refine (JL.append hJ14.out (v := .slice none 0 0) (l := []) (.inl ⟨none, 0, rfl, rfl⟩) (by simp) hp7).mono ?_
          rw [app_broken]
          rintro e v15 ⟨rfl, J15, L15⟩
          have hJ15 := Lib.hid J15; have hL15 := Lib.hid (hL14.out.trans L15); have hR15 := Lib.hid (hR14.out.keep L15.2); have hF15 := Lib.hid (hF14.out.keep L15.2)
          clear J15 L15 hJ14 hL14 hR14 hF14
          go_wp2_with fail
          refine hJ15.out.records.mono ?_
          rintro e v16 ⟨r16, rfl, R16, J16, L16⟩
          rw [tp_recs] at R16
          have hR16 := Lib.hid R16; have hJ16 := Lib.hid J16; have hL16 := Lib.hid (hL15.out.trans L16.left); have hR16a := Lib.hid (hR15.out.keep L16.left.2); have hF16 := Lib.hid (hF15.out.keep L16.left.2)
          clear R16 J16 L16 hJ15 hL15 hR15 hF15
          go_wp2_with fail
          refine (same_any hR16.out.strs hR16a.out.strs (by first | omega | simp) (by first | omega | simp)).mono ?_
          rintro e v17 ⟨rfl, b17⟩
          rw [sameB_true.2 rfl]
          have hL17 := Lib.hid (hL16.out.trans (Left.of hJ16.out.jw.size b17))
          clear b17
          go_wp2_with fail
          refine (Append_nil v17 _).mono ?_
          rintro e v17' ⟨rfl, rfl⟩
          go_wp2_with fail
          refine (Records_nil v17).mono ?_
          rintro e v17' ⟨rfl, rfl⟩
          go_wp2_with fail
          refine (Room_nil v17).mono ?_
          rintro e v17' ⟨rfl, rfl⟩
          go_wp2_with fail
          go_ret
          exact ⟨rfl, hL17.out.1⟩
end Go.Proofs.YtjlgkjhociaeiaaDoor
