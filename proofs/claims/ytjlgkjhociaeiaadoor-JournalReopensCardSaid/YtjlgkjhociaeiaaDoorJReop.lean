/-
  JournalReopens, walked.
-/
import Derived.Test.YtjlgkjhociaeiaaDoorGn
namespace Go.Proofs.YtjlgkjhociaeiaaDoor
open Go.RowKit
set_option linter.unusedVariables false

theorem DJ.openHeld {B : Nat} {a : Addr} {w : World} {p n : Nat} {d : DSt} {l : List ByteArray} (h : DJ B a w p d) (hr : Held n d l) :
    Calls Tryd.prog 8 #[.pointer (some ⟨p, 0, none⟩)] w fun e w' => ∃ b, e = .returned (.tuple #[.pointer (some ⟨b, 0, none⟩), .int .i64 0]) ∧ JL B a w' b p d (tp l) false ∧ w.heap.size ≤ b ∧ LeftO B w w' := by
  refine (h.open (by rw [hr.pend]; exact Nat.zero_le _)).mono ?_
  rintro e w' ⟨hL, hm⟩
  rw [hr.open] at hm
  obtain ⟨_, b, rfl, hj, hb⟩ := hm
  exact ⟨b, rfl, hj, hb, hL⟩
theorem contB_size {n : Nat} {d : DSt} {l : List ByteArray} (h : Held n d l) : (contB d).size = n := by
  unfold contB
  rw [h.read]
  show d.vis.toArray.size = n
  rw [List.size_toArray, h.len]
/-- A group more. -/
theorem group_step {B : Nat} {a : Addr} {w : World} {b p n : Nat} {d : DSt} {l m : List ByteArray} {v : Value} (h : JL B a w b p d (tp l) false) (hh : Held n d l) (h0 : d.left = 0) (hv : StrsAt w v m) (hs : ∀ r ∈ m, r.size ≤ 65536) (hl : m.length ≤ 1000) :
    Calls Tryd.prog 11 #[.pointer (some ⟨b, 0, none⟩), v] w fun e w' => ∃ (c : Int) (d' : DSt) (l' : List ByteArray), e = .returned (.int .i64 c) ∧ JL B a w' b p d' (tp l') false ∧ Held n d' l' ∧ d'.left = 0 ∧ Left B w w' := by
  by_cases hf : outLen l + outLen m ≤ n
  · exact (h.appFine hh h0 hv hs hl hf).mono fun e w' ⟨he, d', h1, h2, h3, h4⟩ => ⟨0, d', l ++ m, he, h1, h2, h3, h4⟩
  · exact (h.appFull hh hv hs hl (by omega)).mono fun e w' ⟨he, h1, h4⟩ => ⟨261, d, l, he, h1, hh, h0, h4⟩
set_option maxRecDepth 100000 in
set_option maxHeartbeats 4000000 in
theorem journalReopens_any (a0 : Int) (a1 : Option Addr) (len1 cap1 : Nat) (x1 : List (Value × List ByteArray)) {w : World} {a : Addr} (g : Gl w a) (w0 : -9223372036854775808 ≤ a0 ∧ a0 ≤ 9223372036854775807) (w1 : Groups w a1 len1 cap1 x1) :
    Calls Tryd.prog 4 #[.int .i64 a0, .slice a1 len1 cap1] w fun e w' => e = .returned (.bool true) ∧ Below w.heap.size w w' := by
  have hcap := w1.hcap
  have hmax := w1.hmax
  unfold maxLen at hmax
  have HW := Lib.hid w1
  have hw := JW.start g
  obtain ⟨n, hn⟩ : ∃ n, n = sizeN a0 := ⟨_, rfl⟩
  have hnl := sizeN_le a0
  rw [← hn] at hnl
  have HN := Lib.hid hn.symm
  clear w1 hn
  go_enter Tryd.func4, Tryd.ntmps4
  go_wp2_with fail
  refine (sane_any g).mono ?_
  rintro e v1 ⟨rfl, b1⟩
  have hw1 := Lib.hid (hw.below b1)
  have hL1 := Lib.hid (LeftO.of (B := w.heap.size) (Nat.le_refl _) b1)
  clear b1 hw g
  go_wp2_with fail
  refine (size_any a0 v1 w0).mono ?_
  rintro e v1' ⟨rfl, rfl⟩
  rw [HN.out]
  go_wp2_with fail
  refine (DJ.new n hw1.out (by omega) (by omega)).mono ?_
  rintro e v2 ⟨p, rfl, D2, L2⟩
  have hD2 := Lib.hid D2; have hL2 := Lib.hid (hL1.out.trans L2); clear D2 L2 hw1 hL1
  go_wp2_with fail
  refine (hD2.out.openRec ((held_new n).toRec rfl)).mono ?_
  rintro e v3 ⟨b, d3, rfl, J3, H3, k3, hb3, L3⟩
  have hJ3 := Lib.hid J3; have hH3 := Lib.hid H3; have hK3 := Lib.hid k3; have hL3 := Lib.hid (hL2.out.trans L3).left
  clear J3 H3 k3 L3 hb3 hD2 hL2
  go_wp2_with fail
  go_loopw [10] (fun i wr => ∃ (k : Nat) (d : DSt) (l : List ByteArray), k ≤ len1 ∧ k ≤ 8 ∧ i = .int .i64 k ∧ JL w.heap.size a wr b p d (tp l) false ∧ Held n d l ∧ d.left = 0 ∧ Left w.heap.size w wr) (fun i _ => 8 - (intOf i).toNat)
  case atStart => exact ⟨0, d3, [], Nat.zero_le _, Nat.zero_le _, rfl, hJ3.out, hH3.out, hK3.out, hL3.out⟩
  case round =>
    obtain ⟨k, d, l, hk, hk8, rfl, hJ, hH, hK, hL⟩ := hrel
    have HJ := Lib.hid hJ; have HH := Lib.hid hH; have HK := Lib.hid hK; have HL := Lib.hid hL
    clear hJ hH hK hL hJ3 hH3 hK3 hL3
    by_cases hgo : k < len1 ∧ k < 8
    · obtain ⟨hlt, hlt8⟩ := hgo
      have hxl : k < x1.length := by rw [HW.out.hlen]; exact hlt
      obtain ⟨ab, ao, rfl, hal, g0⟩ := HW.out.get k hxl
      have hst := HW.out.ok _ (List.getElem_mem hxl)
      obtain ⟨y, hy⟩ : ∃ y, y = x1[k] := ⟨_, rfl⟩
      rw [← hy] at g0 hst
      obtain ⟨yv, yl⟩ := y
      simp only at g0 hst
      have c1 := (HL.out.1.cell (p := ⟨ab, ao + k, none⟩) hal).trans g0
      have HS := Lib.hid (hst.all HL.out.1)
      clear hy g0 hst
      have d1 : decide ((k : Int) < len1) = true := decide_eq_true (by omega)
      have d2 : decide ((k : Int) < 8) = true := decide_eq_true (by omega)
      go_wp2_with fail
      refine (few_any HS.out.at_ HS.out.len HS.out.small).mono ?_
      rintro e v4 ⟨fv, rfl, R4, b4⟩
      have hR4 := Lib.hid R4; have hB4 := Lib.hid b4; clear R4 b4
      go_wp2_with fail
      refine (group_step (HJ.out.below hB4.out) HH.out HK.out hR4.out.strs (fun r hr => by have := fewL_small yl r hr; omega) (by have := fewL_length yl; omega)).mono ?_
      rintro e v5 ⟨c, d5, l5, rfl, J5, H5, k5, L5⟩
      have hJ5 := Lib.hid J5; have hH5 := Lib.hid H5; have hK5 := Lib.hid k5; have hL5 := Lib.hid ((HL.out.trans (Left.of HJ.out.jw.size hB4.out)).trans L5)
      clear J5 H5 k5 L5
      go_wp2_with fail
      go_roundw
      case rel => exact ⟨k + 1, d5, l5, hlt, hlt8, by go_num, hJ5.out, hH5.out, hK5.out, hL5.out⟩
      case measure => simp [intOf]; omega
    · have hc2 : ¬ k < len1 ∨ (k < len1 ∧ ¬ k < 8) := by omega
      clear hgo
      have HC := Lib.hid (HH.out.cut 1 (by omega))
      have hsz : Hid (((contB (d.cut 1).2).size : Int) = n) := by show _ = _; rw [contB_size HC.out.1]
      have hrm : Hid ((((d.cut 1).2.dur.length : Int) - (tp l).size) = (n : Int) - outLen l) := by show _ = _; rw [HC.out.1.durlen, tp_size, enc_len]
      have hpd : Hid ((((d.cut 1).2.pend.length : Nat) : Int) = 0) := by show _ = _; rw [HC.out.1.pend]; rfl
      obtain ⟨dd, hdd⟩ : ∃ dd, dd = (d.cut 1).2 := ⟨_, rfl⟩
      rw [← hdd] at HC hsz hrm hpd
      have HDD := Lib.hid hdd
      clear hdd
      have hll : Hid (l.length ≤ 9223372036854775807) := by
        have h1 := HH.out.fits
        have h2 := out_ge Tape.none l
        have h3 : (enc l).length = (Tape.none.out l).length := rfl
        show _ ≤ _
        omega
      rcases hc2 with h1 | ⟨h1, h2⟩
      case' inl => have d1 : decide ((k : Int) < len1) = false := decide_eq_false (by omega)
      case' inr =>
        have d1 : decide ((k : Int) < len1) = true := decide_eq_true (by omega)
        have d2 : decide ((k : Int) < 8) = false := decide_eq_false (by omega)
      all_goals
        go_wp2_with fail
        refine (HJ.out.cut 1 (by omega)).mono ?_
        rintro e v6 ⟨rfl, J6, L6⟩
        rw [← HDD.out] at J6
        have hJ6 := Lib.hid J6; have hR6 := Lib.hid J6.jr; have hL6 := Lib.hid (HL.out.trans L6.left)
        clear J6 L6
        go_wp2_with fail
        refine (hJ6.out.dj.openHeld HC.out.1).mono ?_
        rintro e v7 ⟨b7, rfl, J7, hb7, L7⟩
        have hJ7 := Lib.hid J7; have hR7 := Lib.hid (hR6.out.keep L7.2); have hL7 := Lib.hid (hL6.out.trans L7.left)
        clear J7 L7 hb7
        go_wp2_with fail
        refine hR7.out.records.mono ?_
        rintro e v8 ⟨r8, rfl, R8, b8⟩
        rw [tp_recs] at R8
        have hR8 := Lib.hid R8; have hj8 := Lib.hid (hR7.out.keep (KeepO.of b8)); have hJ8 := Lib.hid (hJ7.out.below b8); have hL8 := Lib.hid (hL7.out.trans (Left.of hJ7.out.jw.size b8))
        clear R8 b8
        go_wp2_with fail
        refine hJ8.out.records.mono ?_
        rintro e v9 ⟨r9, rfl, R9, J9, L9⟩
        rw [tp_recs] at R9
        have hR9 := Lib.hid R9; have hR9a := Lib.hid (hR8.out.keep L9.left.2); have hj9 := Lib.hid (hj8.out.keep L9.2); have hJ9 := Lib.hid J9; have hL9 := Lib.hid (hL8.out.trans L9.left)
        clear R9 J9 L9
        go_wp2_with fail
        refine (same_any hR9a.out.strs hR9.out.strs hll.out hll.out).mono ?_
        rintro e v10 ⟨rfl, b10⟩
        rw [sameB_true.2 rfl]
        have hj10 := Lib.hid (hj9.out.keep (KeepO.of b10)); have hJ10 := Lib.hid (hJ9.out.below b10); have hL10 := Lib.hid (hL9.out.trans (Left.of hJ9.out.jw.size b10))
        clear b10
        go_wp2_with fail
        refine (hj10.out.room hJ10.out.dj).mono ?_
        rintro e v11 ⟨rfl, b11⟩
        have hJ11 := Lib.hid (hJ10.out.below b11); have hL11 := Lib.hid (hL10.out.trans (Left.of hJ10.out.jw.size b11))
        clear b11
        rw [hrm.out]
        go_wp2_with fail
        refine hJ11.out.room.mono ?_
        rintro e v12 ⟨rfl, J12, L12⟩
        have hJ12 := Lib.hid J12; have hL12 := Lib.hid (hL11.out.trans L12.left)
        clear J12 L12
        rw [hrm.out]
        go_wp2_with fail
        refine hJ12.out.dj.pending.mono ?_
        rintro e v12' ⟨rfl, rfl⟩
        rw [hpd.out]
        go_wp2_with fail
        refine (content_any hJ12.out.dj).mono ?_
        rintro e v12' ⟨rfl, rfl⟩
        have sz : ((contB dd).size : Int) = n := hsz.out
        go_wp2_with fail
        refine (size_any a0 v12 w0).mono ?_
        rintro e v12' ⟨rfl, rfl⟩
        rw [HN.out]
        go_wp2_with fail
        go_ret
        exact ⟨rfl, hL12.out.1⟩
end Go.Proofs.YtjlgkjhociaeiaaDoor
