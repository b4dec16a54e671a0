/-
  Joined by program out of: JSane, JHelp, JArgs.
-/
import Derived.Test.YtjlgkjhociaeiaaGreatDoorGm
import Derived.Maps.AppendAt
import Derived.StillTailTactics
import Derived.ProofKit
import Derived.Deep.Slices
import Derived.SliceStrings
import Derived.OpenShut
namespace Go.Proofs.YtjlgkjhociaeiaaGreatDoor
open Go.RowKit
set_option linter.unusedVariables false

/-- How many bytes a record takes, a group. -/
def recLen (r : ByteArray) : Nat := 33 + (putI r.size).length + r.size
def outLen (m : List ByteArray) : Nat := (m.map recLen).sum
theorem out_len : ∀ (m : List ByteArray) (t : Tape), (t.out m).length = outLen m
  | [], t => rfl
  | r :: m, t => by
    have h := out_len m (t.add r)
    have hc := chain_size t.head r
    have e : (stored r (chain t.head r)).data.toList.length = recLen r := by
      rw [stored_data]
      simp only [List.length_cons, List.length_append, data_len, hc, recLen]
      omega
    show ((stored r (chain t.head r)).data.toList ++ (t.add r).out m).length = _
    rw [List.length_append, h, e]
    simp [outLen]
theorem enc_len (l : List ByteArray) : (enc l).length = outLen l := out_len l _
theorem outLen_append (a b : List ByteArray) : outLen (a ++ b) = outLen a + outLen b := by simp [outLen]
theorem opn_bad {d : DSt} {c : UInt8} (ho : d.off = false) (h : d.vis[0]? = some c) (h0 : c.toNat ≠ 0) (h1 : c.toNat ≠ 1) : opn d = (262, .none, d) := by
  have hl : Tape.none.load ⟨d.vis.toArray⟩ = Option.none := by
    rw [Tape.load]
    obtain ⟨hlt, e⟩ := List.getElem?_eq_some_iff.1 h
    have hs : Tape.none.size < (⟨d.vis.toArray⟩ : ByteArray).size := by show 0 < d.vis.toArray.size; rw [List.size_toArray]; exact hlt
    rw [dif_pos hs]
    have e2 : (⟨d.vis.toArray⟩ : ByteArray)[Tape.none.size] = c := e
    rw [e2, if_neg h0, if_neg h1]
  unfold opn
  rw [if_neg (by rw [ho]; simp), hl]

/-- A list of strings that is typed out. -/
theorem strs_lit (w : World) (zs : List ByteArray) (n : Nat) (hn : zs.length = n) : StrsAt (w.alloc (.cells (zs.map Value.string).toArray 9)) (.slice (some ⟨w.heap.size, 0, none⟩) n n) zs := by
  subst hn
  refine .inr ⟨w.heap.size, 0, _, rfl, by simp, fun j hj => ?_⟩
  rw [Nat.zero_add, (Blk.new w 9 (zs.map Value.string).toArray).cell j]
  simp [hj]
theorem left_alloc {B : Nat} {w : World} (hB : B ≤ w.heap.size) (o : Obj) : LeftO B w (w.alloc o) := LeftO.of hB ((Below.refl _ _).alloc (Nat.le_refl _) o)
theorem below_alloc (w : World) (o : Obj) : Below w.heap.size w (w.alloc o) := (Below.refl _ _).alloc (Nat.le_refl _) o

section
variable {B : Nat} {a : Addr} {w w' : World} {b p n : Nat} {d : DSt} {l m : List ByteArray} {v : Value}
theorem DJ.openRec (h : DJ B a w p d) (hr : Rec n d l) :
    Calls Tryz.prog 25 #[.pointer (some ⟨p, 0, none⟩)] w fun e w' => ∃ b d', e = .returned (.tuple #[.pointer (some ⟨b, 0, none⟩), .int .i64 0]) ∧ JL B a w' b p d' (tp l) false ∧ Held n d' l ∧ d'.left = 0 ∧ w.heap.size ≤ b ∧ LeftO B w w' := by
  refine (h.open (by rw [hr.pend]; exact Nat.zero_le _)).mono ?_
  rintro e w' ⟨hL, hm⟩
  obtain ⟨d', e1, h1, h2⟩ := hr.open
  rw [e1] at hm
  obtain ⟨_, b, rfl, hj, hb⟩ := hm
  exact ⟨b, d', rfl, hj, h1, h2, hb, hL⟩
theorem JL.appFine (h : JL B a w b p d (tp l) false) (hh : Held n d l) (h0 : d.left = 0) (hv : StrsAt w v m) (hs : ∀ r ∈ m, r.size ≤ 65536) (hl : m.length ≤ 1000) (hf : outLen l + outLen m ≤ n) :
    Calls Tryz.prog 10 #[.pointer (some ⟨b, 0, none⟩), v] w fun e w' => e = .returned (.int .i64 0) ∧ ∃ d', JL B a w' b p d' (tp (l ++ m)) false ∧ Held n d' (l ++ m) ∧ d'.left = 0 ∧ Left B w w' := by
  refine (h.append hv hl (by rw [hh.pend]; exact Nat.zero_le _)).mono ?_
  rintro e w' ⟨rfl, hj, hL⟩
  by_cases hm : m = []
  · subst hm
    rw [hh.app_nil] at hj ⊢
    rw [List.append_nil]
    exact ⟨rfl, d, hj, hh, h0, hL⟩
  · rcases hh.app_some hs hm (by rw [enc_len, out_len]; exact hf) with ⟨_, _, d', e1, h1, h2⟩ | ⟨q, _⟩
    · rw [e1] at hj ⊢
      exact ⟨rfl, d', hj, h1, by rw [h2, h0], hL⟩
    · omega
theorem JL.appFull (h : JL B a w b p d (tp l) false) (hh : Held n d l) (hv : StrsAt w v m) (hs : ∀ r ∈ m, r.size ≤ 65536) (hl : m.length ≤ 1000) (hf : n < outLen l + outLen m) :
    Calls Tryz.prog 10 #[.pointer (some ⟨b, 0, none⟩), v] w fun e w' => e = .returned (.int .i64 261) ∧ JL B a w' b p d (tp l) false ∧ Left B w w' := by
  refine (h.append hv hl (by rw [hh.pend]; exact Nat.zero_le _)).mono ?_
  rintro e w' ⟨rfl, hj, hL⟩
  rw [hh.app_full hs (by rw [enc_len, out_len]; exact hf)] at hj ⊢
  exact ⟨rfl, hj, hL⟩
end

namespace Js
def g1 : List ByteArray := [⟨#[97, 98]⟩, ⟨#[]⟩]
def g2 : List ByteArray := [zeros 96]
def g3 : List ByteArray := [zeros 95]
theorem z (n : Nat) : (zeros n).size = n := by show (List.replicate n (0 : UInt8)).toArray.size = n; simp
theorem l1 : outLen g1 = 70 := by kernel_rfl
theorem l2 : outLen g2 = 131 := by
  have e : recLen (zeros 96) = 131 := by unfold recLen; rw [z]; kernel_rfl
  simp [outLen, g2, e]
theorem l3 : outLen g3 = 130 := by
  have e : recLen (zeros 95) = 130 := by unfold recLen; rw [z]; kernel_rfl
  simp [outLen, g3, e]
theorem s1 : ∀ r ∈ g1, r.size ≤ 65536 := by
  intro r hr
  simp only [g1, List.mem_cons, List.not_mem_nil, or_false] at hr
  rcases hr with rfl | rfl
  · show 2 ≤ 65536; omega
  · show 0 ≤ 65536; omega
theorem s2 : ∀ r ∈ g2, r.size ≤ 65536 := by
  intro r hr
  simp only [g2, List.mem_cons, List.not_mem_nil, or_false] at hr
  subst hr
  rw [z]; omega
theorem s3 : ∀ r ∈ g3, r.size ≤ 65536 := by
  intro r hr
  simp only [g3, List.mem_cons, List.not_mem_nil, or_false] at hr
  subst hr
  rw [z]; omega
end Js
set_option maxRecDepth 100000 in
set_option maxHeartbeats 4000000 in
theorem sane_any {w : World} {a : Addr} (g : Gl w a) : Calls Tryz.prog 8 #[] w fun e w' => e = .returned (.bool true) ∧ Below w.heap.size w w' := by
  have hw := JW.start g
  have mk96 : ∀ w : World, (Instr.makeSlice 39 (.int .i64 96) (.int .i64 96)).run Tryz.prog w = .ok (.slice (some ⟨w.heap.size, 0, none⟩) 96 96) (w.alloc (.cells (madeCells #[Value.int .u8 0] 96) 5)) := run_make_row' (P := Tryz.prog) 39 5 (.int .u8 0) 1 Tryz.underlying39 info8 rfl .i64 .i64 96 (by omega) (by omega)
  have mk95 : ∀ w : World, (Instr.makeSlice 39 (.int .i64 95) (.int .i64 95)).run Tryz.prog w = .ok (.slice (some ⟨w.heap.size, 0, none⟩) 95 95) (w.alloc (.cells (madeCells #[Value.int .u8 0] 95) 5)) := run_make_row' (P := Tryz.prog) 39 5 (.int .u8 0) 1 Tryz.underlying39 info8 rfl .i64 .i64 95 (by omega) (by omega)
  have cv96 := zeros_back 96
  have cv95 := zeros_back 95
  go_enter Tryz.func8, Tryz.ntmps8
  go_wp2_with fail
  refine (DJ.new 200 hw (by omega) (by omega)).mono ?_
  rintro e w1 ⟨p, rfl, D1, L1⟩
  have hD1 := Lib.hid D1; have hL1 := Lib.hid L1; clear D1 L1 hw
  go_wp2_with fail
  refine (hD1.out.openRec ((held_new 200).toRec rfl)).mono ?_
  rintro e w2 ⟨b, d2, rfl, J2, H2, k2, hb2, L2⟩
  have hJ2 := Lib.hid J2; have hH2 := Lib.hid H2; have hK2 := Lib.hid k2; have hL2 := Lib.hid (hL1.out.trans L2)
  have hdl2 : Hid (d2.dur.length = 200) := H2.durlen
  clear J2 H2 L2 hb2 k2 hD1 hL1
  go_wp2_with fail
  refine hJ2.out.records.mono ?_
  rintro e w3 ⟨v3, rfl, R3, J3, L3⟩
  obtain ⟨xa, xc, rfl⟩ := R3.form
  have hJ3 := Lib.hid J3; have hL3 := Lib.hid (hL2.out.trans L3); clear J3 L3 R3 hJ2 hL2
  go_wp2_with fail
  refine hJ3.out.room.mono ?_
  rintro e w4 ⟨rfl, J4, L4⟩
  rw [hdl2.out, show ((tp []).size : Int) = 0 from rfl]
  have hJ4 := Lib.hid J4; have hL4 := Lib.hid (hL3.out.trans L4); clear J4 L4 hJ3 hL3
  go_wp2_with fail
  refine ((hJ4.out.below (below_alloc w4 (.cells #[.string ⟨#[97, 98]⟩, .string ⟨#[]⟩] 9))).appFine (m := Js.g1) hH2.out hK2.out (strs_lit w4 Js.g1 2 rfl) Js.s1 (by show 2 ≤ 1000; omega) (by rw [Js.l1]; show 0 + 70 ≤ 200; omega)).mono ?_
  rintro e w5 ⟨rfl, d5, J5, H5, k5, L5⟩
  have hJ5 := Lib.hid J5; have hH5 := Lib.hid H5; have hK5 := Lib.hid k5; have hL5 := Lib.hid ((hL4.out.left.trans (left_alloc hJ4.out.jw.size _).left).trans L5)
  have hdl5 : Hid (d5.dur.length = 200) := H5.durlen
  clear J5 H5 L5 k5 hJ4 hL4 hH2 hK2 hdl2
  rw [List.nil_append] at hJ5 hH5
  go_wp2_with fail
  have P5 := (Left.of hJ5.out.jw.size (((below_alloc w5 (.cells (madeCells #[Value.int .u8 0] 96) 5))).trans (((below_alloc _ (.cells #[.string (zeros 96)] 9))).mono (by simp))))
  refine ((hJ5.out.below (((below_alloc w5 (.cells (madeCells #[Value.int .u8 0] 96) 5))).trans (((below_alloc _ (.cells #[.string (zeros 96)] 9))).mono (by simp)))).appFull (m := Js.g2) hH5.out (by have := strs_lit (w5.alloc (.cells (madeCells #[Value.int .u8 0] 96) 5)) Js.g2 1 rfl; rw [World.size_alloc] at this; exact this) Js.s2 (by show 1 ≤ 1000; omega) (by rw [Js.l1, Js.l2]; omega)).mono ?_
  rintro e w6 ⟨rfl, J6, L6⟩
  have hJ6 := Lib.hid J6; have hL6 := Lib.hid ((hL5.out.trans P5).trans L6)
  clear J6 L6 hJ5 hL5 P5
  go_wp2_with fail
  refine hJ6.out.room.mono ?_
  rintro e w7 ⟨rfl, J7, L7⟩
  have hr7 : (d5.dur.length : Int) - (tp Js.g1).size = 130 := by rw [hdl5.out, tp_size, enc_len, Js.l1]; rfl
  rw [hr7]
  have hJ7 := Lib.hid J7; have hL7 := Lib.hid (hL6.out.trans L7.left)
  clear J7 L7 hJ6 hL6 hr7
  go_wp2_with fail
  have P7 := (Left.of hJ7.out.jw.size (((below_alloc w7 (.cells (madeCells #[Value.int .u8 0] 95) 5))).trans (((below_alloc _ (.cells #[.string (zeros 95)] 9))).mono (by simp))))
  refine ((hJ7.out.below (((below_alloc w7 (.cells (madeCells #[Value.int .u8 0] 95) 5))).trans (((below_alloc _ (.cells #[.string (zeros 95)] 9))).mono (by simp)))).appFine (m := Js.g3) hH5.out hK5.out (by have := strs_lit (w7.alloc (.cells (madeCells #[Value.int .u8 0] 95) 5)) Js.g3 1 rfl; rw [World.size_alloc] at this; exact this) Js.s3 (by show 1 ≤ 1000; omega) (by rw [Js.l1, Js.l3]; omega)).mono ?_
  rintro e w8 ⟨rfl, d8, J8, H8, k8, L8⟩
  have hJ8 := Lib.hid J8; have hH8 := Lib.hid H8; have hK8 := Lib.hid k8; have hL8 := Lib.hid ((hL7.out.trans P7).trans L8)
  have hdl8 : Hid (d8.dur.length = 200) := H8.durlen
  clear J8 H8 k8 L8 hJ7 hL7 P7 hH5 hK5 hdl5
  have hR8 := Lib.hid hJ8.out.jr
  go_wp2_with fail
  refine (hJ8.out.dj.openRec (hH8.out.toRec hK8.out)).mono ?_
  rintro e w9 ⟨b9, d9, rfl, J9, H9, k9, hb9, L9⟩
  have hJ9 := Lib.hid J9; have hH9 := Lib.hid H9; have hR9 := Lib.hid (hR8.out.keep L9.2); have hL9 := Lib.hid (hL8.out.trans L9.left)
  have hdl9 : Hid (d9.dur.length = 200) := H9.durlen
  have hK9 := Lib.hid k9
  clear J9 H9 k9 L9 hb9 hJ8 hL8 hR8 hH8 hK8 hdl8
  go_wp2_with fail
  refine (hJ9.out.write 0 ⟨#[2]⟩ (by rw [hH9.out.pend]; exact Nat.zero_le _)).mono ?_
  rintro e w10 ⟨rfl, J10, L10⟩
  have hR10 := Lib.hid (hR9.out.keep L10.2); have hL10 := Lib.hid (hL9.out.trans L10.left); have hJ10 := Lib.hid J10
  have hw10 : d9.write 0 ⟨#[2]⟩ = (0, d9.wrote 0 ⟨#[2]⟩) := by
    unfold DSt.write
    rw [if_neg (by rw [hH9.out.off]; simp), if_pos (by rw [DSt.inside_iff, hdl9.out]; show (0:Int) ≤ 0 ∧ (0 : Int) ≤ 1 ∧ (0 : Int) ≤ 200 ∧ (1 : Int) ≤ 200 - 0; omega)]
  rw [hw10] at hJ10 ⊢
  obtain ⟨d10, hd10⟩ : ∃ d10, d10 = d9.wrote 0 ⟨#[2]⟩ := ⟨_, rfl⟩
  have hbad : opn d10 = (262, .none, d10) := by
    refine opn_bad (c := 2) ?_ ?_ (by decide) (by decide)
    · rw [hd10]; show decide (d9.left = 1) = false; rw [hK9.out]; rfl
    · rw [hd10]
      show (lay d9.vis (0, ⟨#[2]⟩))[0]? = some 2
      rfl
  have hp10 : d10.pend.length ≤ 1000000 := by rw [hd10]; show (d9.pend ++ [_]).length ≤ _; rw [hH9.out.pend]; show 1 ≤ 1000000; omega
  have hdl10 : Hid (d10.dur.length = 200) := by rw [hd10]; exact hdl9.out
  rw [← hd10] at hJ10 ⊢
  have HB := Lib.hid hbad
  clear J10 L10 hw10 hd10 hbad hJ9 hH9 hR9 hL9 hdl9
  go_wp2_with fail
  refine (hJ10.out.dj.open hp10).mono ?_
  rw [HB.out]
  rintro e w11 ⟨L11, h0, rfl, D11⟩
  simp only at D11 ⊢
  have hD11 := Lib.hid D11
  have hj11 := Lib.hid (hR10.out.keep L11.2); have hk11 := Lib.hid (hJ10.out.jr.keep L11.2); have hB11 := Lib.hid (hL10.out.1.trans L11.1)
  clear D11 L11 h0 hJ10 hR10 hL10 HB hp10 hK9
  go_wp2_with fail
  refine (Open_nil w11).mono ?_
  rintro e w11' ⟨rfl, rfl⟩
  go_wp2_with fail
  refine (hj11.out.room hD11.out).mono ?_
  rintro e w12 ⟨rfl, b12⟩
  have hr12 : (d10.dur.length : Int) - (tp (Js.g1 ++ Js.g3)).size = 0 := by rw [hdl10.out, tp_size, enc_len, outLen_append, Js.l1, Js.l3]; rfl
  rw [hr12]
  have hk12 := Lib.hid (hk11.out.keep (KeepO.of b12)); have hB12 := Lib.hid (hB11.out.trans (b12.mono hB11.out.size))
  clear hr12 b12 hj11 hk11 hB11
  go_wp2_with fail
  refine hk12.out.records.mono ?_
  rintro e w13 ⟨v13, rfl, R13, b13⟩
  have hrec : (tp (Js.g1 ++ Js.g3)).recs = [⟨#[97, 98]⟩, ⟨#[]⟩, zeros 95] := tp_recs _
  rw [hrec] at R13
  obtain ⟨xa13, xc13, rfl⟩ := R13.form
  have hk13 := Lib.hid (hk12.out.keep (KeepO.of b13)); have hB13 := Lib.hid (hB12.out.trans (b13.mono hB12.out.size))
  clear b13 hk12 hB12 R13
  go_wp2_with fail
  refine hk13.out.records.mono ?_
  rintro e w14 ⟨v14, rfl, R14, b14⟩
  rw [hrec] at R14
  obtain ⟨xa14, xc14, rfl⟩ := R14.form
  have hB14 := Lib.hid (hB13.out.trans (b14.mono hB13.out.size))
  obtain ⟨gg, oo, rfl, hgg, hcc⟩ := R14.strs.get 0 (by show 0 < 3; omega)
  simp only [List.getElem_cons_zero, Nat.add_zero] at hcc
  clear b14 hk13 hB13 R14 hrec
  go_wp2_with fail
  go_ret
  exact ⟨rfl, hB14.out⟩
end Go.Proofs.YtjlgkjhociaeiaaGreatDoor
namespace Go.Proofs.YtjlgkjhociaeiaaGreatDoor
open Go.RowKit
set_option linter.unusedVariables false

/-- The index that pick maps an integer to. -/
def pickI (c n : Int) : Int := (if c < 0 then -(c + 1) else c) % n
theorem pickI_nonneg (c n : Int) (h : 1 ≤ n) : 0 ≤ pickI c n := Int.emod_nonneg _ (by omega)
theorem pickI_lt (c n : Int) (h : 1 ≤ n) : pickI c n < n := Int.emod_lt_of_pos _ (by omega)
set_option maxHeartbeats 400000 in
theorem pick_any (c n : Int) (w : World) (h0 : -9223372036854775808 ≤ c) (h1 : c ≤ 9223372036854775807) (hn : 1 ≤ n) (hn2 : n ≤ 9223372036854775807) :
    Calls Tryz.prog 14 #[.int .i64 c, .int .i64 n] w fun e w' => e = .returned (.int .i64 (pickI c n)) ∧ w = w' := by
  have HP : Hid (pickI c n = (if c < 0 then -(c + 1) else c) % n) := rfl
  by_cases h : c < 0
  · go_enter Tryz.func14, Tryz.ntmps14
    go_wp2
    go_ret
    rw [HP.out, if_pos h, ← Int.tmod_eq_emod_of_nonneg (by omega), Int.neg_tmod]
    exact ⟨rfl, rfl⟩
  · go_enter Tryz.func14, Tryz.ntmps14
    go_wp2
    go_ret
    rw [HP.out, if_neg (by omega)]
    exact ⟨rfl, rfl⟩
/-- A size of a disk. -/
def sizeN (c : Int) : Nat := (1 + pickI c 1500).toNat
theorem sizeN_le (c : Int) : 1 ≤ sizeN c ∧ sizeN c ≤ 1500 := by
  have h1 := pickI_nonneg c 1500 (by omega)
  have h2 := pickI_lt c 1500 (by omega)
  unfold sizeN
  omega
theorem size_any (c : Int) (w : World) (h : -9223372036854775808 ≤ c ∧ c ≤ 9223372036854775807) :
    Calls Tryz.prog 15 #[.int .i64 c] w fun e w' => e = .returned (.int .i64 (sizeN c : Int)) ∧ w = w' := by
  have h1 := pickI_nonneg c 1500 (by omega)
  have h2 := pickI_lt c 1500 (by omega)
  have HS : Hid ((sizeN c : Int) = 1 + pickI c 1500) := by show _ = _; unfold sizeN; omega
  go_enter Tryz.func15, Tryz.ntmps15
  go_wp2_with (go_at_call 14; refine (pick_any c 1500 w h.1 h.2 (by omega) (by omega)).mono ?_; rintro e w' ⟨rfl, rfl⟩)
  go_ret
  rw [HS.out]
  exact ⟨rfl, rfl⟩

theorem below_drewN (w : World) (n : Nat) : Below w.heap.size w (w.drewN n) := ((Only.refl (fun _ => False) w).drewN n).below (Nat.le_refl _) (fun _ e => e.elim)
def sameB (a b : List ByteArray) : Bool := decide (a = b)
theorem sameB_true {a b : List ByteArray} : sameB a b = true ↔ a = b := by simp [sameB]
theorem ret_bool {a b : Bool} (h : a = b) : Ending.returned (.bool a) = .returned (.bool b) := by rw [h]
theorem list_ext {a b : List ByteArray} (hl : a.length = b.length) (h : ∀ j, j < a.length → a[j]? = b[j]?) : a = b := by
  apply List.ext_getElem? 
  intro j
  rcases Nat.lt_or_ge j a.length with q | q
  · exact h j q
  · rw [List.getElem?_eq_none q, List.getElem?_eq_none (by omega)]
set_option maxRecDepth 100000 in
set_option maxHeartbeats 1000000 in
theorem same_any {w : World} {va vb : Value} {a b : List ByteArray} (ha : StrsAt w va a) (hb : StrsAt w vb b) (hl : a.length ≤ 9223372036854775807) (hl2 : b.length ≤ 9223372036854775807) :
    Calls Tryz.prog 18 #[va, vb] w fun e w' => e = .returned (.bool (sameB a b)) ∧ Below w.heap.size w w' := by
  obtain ⟨xa, ca, rfl⟩ := ha.form
  obtain ⟨xb, cb, rfl⟩ := hb.form
  have HA := Lib.hid ha
  have HB := Lib.hid hb
  clear ha hb
  by_cases hlen : a.length = b.length
  · have q1 : ((a.length : Int) != (b.length : Int)) = false := by simp [hlen]
    have q2 : ((a.length : Int) == (b.length : Int)) = true := by simp [hlen]
    have HL := Lib.hid hlen
    clear hlen
    go_enter Tryz.func18, Tryz.ntmps18
    go_wp2
    go_loopw [5] (fun i wr => ∃ k : Nat, k ≤ a.length ∧ i = .int .i64 k ∧ (∀ j, j < k → a[j]? = b[j]?) ∧ Below w.heap.size w wr) (fun i _ => a.length - (intOf i).toNat)
    case atStart => exact ⟨0, Nat.zero_le _, rfl, fun j h => absurd h (by omega), Below.refl _ _⟩
    case round =>
      obtain ⟨k, hk, rfl, hj, hB⟩ := hrel
      have HJ := Lib.hid hj
      have HBl := Lib.hid hB
      clear hj hB
      by_cases hlt : k < a.length
      · have hlt2 : k < b.length := by have := HL.out; omega
        have d1 : decide ((k : Int) < a.length) = true := decide_eq_true (by omega)
        obtain ⟨g, o, rfl, hg, hc⟩ := HA.out.get k hlt
        obtain ⟨g', o', rfl, hg', hc'⟩ := HB.out.get k hlt2
        have c1 := (HBl.out.cell (p := ⟨g, o + k, none⟩) hg).trans hc
        have c2 := (HBl.out.cell (p := ⟨g', o' + k, none⟩) hg').trans hc'
        have i1 : (k : Int) < (a.length : Int) := by omega
        have i2 : (k : Int) < (b.length : Int) := by omega
        clear hc hc'
        by_cases he : a[k] = b[k]
        · have q3 : (a[k].toList == b[k].toList) = true := str_beq he
          have q4 : (a[k].toList != b[k].toList) = false := by simp [bne, q3]
          have HE := Lib.hid he
          clear he
          go_wp2
          go_quiet (fail)
          go_wp2
          go_roundw
          case rel =>
            refine ⟨k + 1, by omega, by go_num, fun j hj => ?_, HBl.out.trans ((below_drewN _ _).mono HBl.out.size)⟩
            rcases Nat.lt_or_ge j k with q | q
            · exact HJ.out j q
            · obtain rfl : j = k := by omega
              rw [List.getElem?_eq_getElem hlt, List.getElem?_eq_getElem hlt2, HE.out]
          case measure => simp [intOf]; omega
        · have q3 : (a[k].toList == b[k].toList) = false := str_bne he
          have q4 : (a[k].toList != b[k].toList) = true := by simp [bne, q3]
          have HN : Hid (a ≠ b) := fun e => he (by subst e; rfl)
          clear he
          go_wp2
          go_quiet (fail)
          go_wp2
          go_ret
          exact ⟨ret_bool (by have := HN.out; simp [sameB, this]), HBl.out.trans ((below_drewN _ _).mono HBl.out.size)⟩
      · have d1 : decide ((k : Int) < a.length) = false := decide_eq_false (by omega)
        go_wp2
        go_ret
        exact ⟨ret_bool (by have := list_ext HL.out (fun j hj => HJ.out j (by omega)); simp [sameB, this]), HBl.out⟩
  · have q1 : ((a.length : Int) != (b.length : Int)) = true := by simp; omega
    have q2 : ((a.length : Int) == (b.length : Int)) = false := by simp; omega
    have HN : Hid (a ≠ b) := fun e => hlen (by rw [e])
    clear hlen
    go_enter Tryz.func18, Tryz.ntmps18
    go_wp2
    go_ret
    exact ⟨ret_bool (by have := HN.out; simp [sameB, this]), Below.refl _ _⟩
/-- A record as the laws take it. -/
def cut100 (s : ByteArray) : ByteArray := s.extract 0 (min s.size 100)
def fewL (l : List ByteArray) : List ByteArray := (l.take 6).map cut100
theorem cut100_size (s : ByteArray) : (cut100 s).size ≤ 100 := by unfold cut100; rw [ByteArray.size_extract]; omega
theorem fewL_length (l : List ByteArray) : (fewL l).length ≤ 6 := by unfold fewL; rw [List.length_map, List.length_take]; omega
theorem fewL_small (l : List ByteArray) : ∀ r ∈ fewL l, r.size ≤ 100 := by
  intro r hr
  obtain ⟨s, _, rfl⟩ := List.mem_map.1 hr
  exact cut100_size s
theorem fewL_long (l : List ByteArray) : (fewL l).any long = false := by
  rw [List.any_eq_false]
  intro r hr
  have := fewL_small l r hr
  simp [long]
  omega
theorem fewTo_succ (l : List ByteArray) (k : Nat) (h : k < l.length) : (l.take (k + 1)).map cut100 = (l.take k).map cut100 ++ [cut100 l[k]] := by
  rw [List.take_succ_eq_append_getElem h, List.map_append]
  rfl
set_option maxRecDepth 100000 in
set_option maxHeartbeats 2000000 in
theorem few_any {w : World} {v : Value} {l : List ByteArray} (h : StrsAt w v l) (hl : l.length ≤ 9223372036854775807) (hs : ∀ r ∈ l, r.size ≤ 9223372036854775807) :
    Calls Tryz.prog 11 #[v] w fun e w' => ∃ v', e = .returned v' ∧ Row w' v' (fewL l) ∧ Below w.heap.size w w' := by
  obtain ⟨xa, ca, rfl⟩ := h.form
  have H := Lib.hid h
  have HS := Lib.hid hs
  obtain ⟨iS, hiS, z0, z1, z2⟩ := info_parts infoStr
  have Z := Lib.hid (And.intro hiS (And.intro z0 (And.intro z1 z2)))
  have mixed : Tryz.prog.follows Departure.mixedOrders = true := by kernel_rfl
  clear h hs hiS z0 z1 z2
  go_enter Tryz.func11, Tryz.ntmps11
  go_wp2
  go_loopw [3, 4] (fun u i wr => ∃ k : Nat, k ≤ l.length ∧ k ≤ 6 ∧ i = .int .i64 k ∧ wr.ownsRow w.heap.size 9 1 u k (((l.take k).map cut100).map Value.string) ∧ Below w.heap.size w wr) (fun _ i _ => 6 - (intOf i).toNat)
  case atStart => exact ⟨0, Nat.zero_le _, Nat.zero_le _, rfl, ⟨rfl, .inl ⟨rfl, rfl⟩⟩, Below.refl _ _⟩
  case round =>
    obtain ⟨k, hk, hk6, rfl, hO, hB⟩ := hrel
    obtain ⟨ua, uc, hu⟩ := ownsRow_form hO
    subst hu
    have HO := Lib.hid hO
    have HBl := Lib.hid hB
    clear hO hB
    by_cases hgo : k < l.length ∧ k < 6
    · obtain ⟨hlt, hlt6⟩ := hgo
      obtain ⟨g, o, rfl, hg, hc⟩ := H.out.get k hlt
      have c1 := (HBl.out.cell (p := ⟨g, o + k, none⟩) hg).trans hc
      obtain ⟨r, hr⟩ : ∃ r, r = l[k] := ⟨_, rfl⟩
      have hrs := HS.out _ (List.getElem_mem hlt)
      rw [← hr] at hrs c1
      have HT : Hid ((l.take (k + 1)).map cut100 = (l.take k).map cut100 ++ [cut100 r]) := by show _ = _; rw [hr]; exact fewTo_succ l k hlt
      have HC : Hid (cut100 r = r.extract 0 (min r.size 100)) := rfl
      have d1 : decide ((k : Int) < l.length) = true := decide_eq_true (by omega)
      have i1 : (k : Int) < (l.length : Int) := by omega
      clear hc hr
      have d2 : decide ((k : Int) < 6) = true := decide_eq_true (by omega)
      go_wp2
      have hm : (min (r.size : Int) 100).toNat = min r.size 100 := by omega
      have hmn : (0 : Int) ≤ min (r.size : Int) 100 := by omega
      have hml : min (r.size : Int) 100 ≤ (r.size : Int) := by omega
      go_region_law (refine step_append_at rfl (.tmp 15) (.tmp 27) 22 rfl w.heap.size 9 iS _ 1 16 Tryz.underlying22 Z.out.1 Z.out.2.1 Z.out.2.2.1 Z.out.2.2.2 rfl (by decide) (.slice ua k uc) k _ (by simp [Act.eval]) ((HO.out.alloc _).drew) ⟨wr.heap.size, 0, none⟩ 1 1 [.string (r.extract 0 (min r.size 100))] (by simp [Act.eval]) rfl (fun j u hj => cell_one_new wr (.string (r.extract 0 (min r.size 100))) 9 j u hj) (by simp [Value.oneCell']) (by unfold maxLen; omega) (by omega) (by simp; exact Nat.le_succ_of_le HBl.out.size) ?_; intro v' w1 hown hgr hbk; have O1 := Lib.hid hown; have G1 := Lib.hid hgr; clear hown hgr hbk)
      all_goals
        obtain ⟨xa, xc, hx⟩ := ownsRow_form O1.out
        subst hx
        go_wp2
        go_roundw
        case rel =>
          refine ⟨k + 1, hlt, hlt6, by go_num, ?_, ?_⟩
          · rw [HT.out, List.map_append]
            exact O1.out
          · exact ((HBl.out.alloc HBl.out.size _).drew).grown G1.out (by simp; exact Nat.le_succ_of_le HBl.out.size) (fun g hg => (HO.out.lt g hg).1)
        case measure => simp [intOf]; omega
    · have hend : l.take k = l.take 6 := by
        rcases Nat.lt_or_ge k l.length with q | q
        · obtain rfl : k = 6 := by omega
          rfl
        · rw [List.take_of_length_le q, List.take_of_length_le (by omega)]
      have HR : Hid (Row wr (.slice ua k uc) (fewL l)) := by
        show Row _ _ _
        unfold Row fewL
        rw [← hend]
        have e : ((l.take k).map cut100).length = k := by rw [List.length_map, List.length_take]; omega
        rw [e]
        exact ownsRow_base HO.out (fun _ _ => Nat.zero_le _)
      clear hend
      have hc2 : ¬ k < l.length ∨ (k < l.length ∧ ¬ k < 6) := by omega
      clear hgo
      rcases hc2 with h1 | ⟨h1, h2⟩
      · have d1 : decide ((k : Int) < l.length) = false := decide_eq_false (by omega)
        go_wp2
        go_ret
        exact ⟨_, rfl, HR.out, HBl.out⟩
      · have d1 : decide ((k : Int) < l.length) = true := decide_eq_true (by omega)
        have d2 : decide ((k : Int) < 6) = false := decide_eq_false (by omega)
        go_wp2
        go_ret
        exact ⟨_, rfl, HR.out, HBl.out⟩
/-- What content reads. -/
def contB (d : DSt) : ByteArray := ⟨(d.read 0 (d.dur.length : Int)).1.toArray⟩
theorem content_any {B : Nat} {a : Addr} {w : World} {p : Nat} {d : DSt} (h : DJ B a w p d) : Calls Tryz.prog 22 #[.pointer (some ⟨p, 0, none⟩)] w fun e w' => e = .returned (.string (contB d)) ∧ w = w' := by
  have H := Lib.hid h
  clear h
  go_enter Tryz.func22, Tryz.ntmps22
  go_wp2_with (first | (go_at_call 51; refine H.out.size.mono ?_; rintro e w1 ⟨rfl, rfl⟩) | (go_at_call 52; refine (H.out.read 0 _).mono ?_; rintro e w1 ⟨rfl, rfl⟩))
  go_ret
  exact ⟨rfl, rfl⟩
end Go.Proofs.YtjlgkjhociaeiaaGreatDoor
namespace Go.Proofs.YtjlgkjhociaeiaaGreatDoor
open Go.RowKit Go.ChangeShapes Go.WideShapes Go.Deep
set_option linter.unusedVariables false

theorem addr_form {w : World} {a : Addr} {v : Value} (h : w.cell? a = some v) : a = ⟨a.block, a.off, none⟩ := by
  have := World.cell?_spot h
  cases a
  simp_all
theorem add_none (b o j : Nat) : (⟨b, o, none⟩ : Addr).add j = ⟨b, o + j, none⟩ := by unfold Addr.add; split <;> simp_all
/-- A list of strings that came in. -/
structure Strs (w : World) (v : Value) (zs : List ByteArray) : Prop where
  at_ : StrsAt w v zs
  len : zs.length ≤ 9223372036854775807
  small : ∀ r ∈ zs, r.size ≤ 9223372036854775807
theorem Strs.all {w w' : World} {v : Value} {zs : List ByteArray} (h : Strs w v zs) (hb : Below w.heap.size w w') : Strs w' v zs := ⟨h.at_.all hb, h.len, h.small⟩
structure Groups (w : World) (a : Option Addr) (len cap : Nat) (gs : List (Value × List ByteArray)) : Prop where
  hlen : gs.length = len
  hcap : len ≤ cap
  hmax : cap ≤ maxLen
  get : ∀ i (h : i < gs.length), ∃ b o, a = some ⟨b, o, none⟩ ∧ b < w.heap.size ∧ w.cell? ⟨b, o + i, none⟩ = some gs[i].1
  ok : ∀ x ∈ gs, Strs w x.1 x.2
section
variable {H : Type} {enc : TypeId × Value → H} {W : World}
theorem open_strs {fuel : Nat} {v : Value} {x : DataW H × List MemPlace} (h : DataW.trod enc Tryz.prog W 0 (fun _ => true) true fuel 22 [v] = some x) : ∃ zs, Strs W v zs := by
  rcases open_strings Tryz.underlying22 Tryz.underlying9 (by kernel_rfl) h with ⟨hcs, _⟩ | ⟨b, l, c, ss, hcs, _, hl, hm, hss, _, hcell, hsm⟩
  · simp at hcs
    subst hcs
    exact ⟨[], .inl ⟨none, 0, rfl, rfl⟩, by simp, by simp⟩
  · simp at hcs
    subst hcs
    simp at hss
    have hlen : (ss.take l).length = l := by simp; omega
    unfold maxLen at hm
    refine ⟨ss.take l, ?_, by rw [hlen]; omega, fun r hr => ?_⟩
    · by_cases h0 : l = 0
      · subst h0
        exact .inl ⟨some b, c, rfl, by simp⟩
      · have h1 := hcell 0 (by omega)
        have h1' : W.cell? b = some (.string (ss.getD 0 ByteArray.empty)) := by simpa [Addr.add] using h1
        have hb := addr_form h1'
        rw [hb]
        refine .inr ⟨b.block, b.off, c, by rw [hlen], block_lt_of_cell h1', fun j hj => ?_⟩
        rw [hlen] at hj
        have h2 := hcell j (by omega)
        rw [hb, add_none] at h2
        rw [h2]
        have : j < ss.length := by omega
        simp [List.getD, List.getElem_take, this]
    · have := hsm r (List.mem_of_mem_take hr)
      unfold maxLen at this
      omega
theorem open_groups {fuel len cap : Nat} {a : Option Addr} {x : DataW H × List MemPlace} (h : DataW.trod enc Tryz.prog W 0 (fun _ => true) true fuel 48 [.slice a len cap] = some x) :
    ∃ gs, Groups W a len cap gs := by
  rcases open_slice1 Tryz.underlying48 (by kernel_rfl) h with ⟨hcs, _⟩ | ⟨b, l, c, m, n, V, D, Pl, hcs, _, hl, hm, hmm, _, hel⟩
  · simp at hcs
    obtain ⟨rfl, rfl, rfl⟩ := hcs
    exact ⟨[], rfl, Nat.le_refl _, by unfold maxLen; omega, fun i hi => absurd hi (Nat.not_lt_zero _), by simp⟩
  · simp at hcs
    obtain ⟨rfl, rfl, rfl⟩ := hcs
    simp at hmm
    have one : ∀ i, i < len → ∃ zs, Strs W (V i) zs := fun i hi => open_strs (hel i (by omega)).2
    obtain ⟨f, hf⟩ : ∃ f : Nat → List ByteArray, ∀ i, i < len → Strs W (V i) (f i) := by
      refine ⟨fun i => if h : i < len then Classical.choose (one i h) else [], fun i hi => ?_⟩
      simp only [hi, dif_pos]
      exact Classical.choose_spec (one i hi)
    refine ⟨(List.range len).map fun i => (V i, f i), by simp, hl, hm, fun i hi => ?_, fun y hy => ?_⟩
    · have hi' : i < len := by simpa using hi
      have h1 := (hel 0 (by omega)).1
      have h1' : W.cell? b = some (V 0) := by simpa [Addr.add] using h1
      have hb := addr_form h1'
      have h2 := (hel i (by omega)).1
      rw [hb, add_none] at h2
      have eg : ((List.range len).map fun i => (V i, f i))[i] = (V i, f i) := by simp
      rw [eg]
      exact ⟨b.block, b.off, by rw [← hb], block_lt_of_cell h1', h2⟩
    · simp only [List.mem_map, List.mem_range] at hy
      obtain ⟨i, hi, rfl⟩ := hy
      exact hf i hi
end
end Go.Proofs.YtjlgkjhociaeiaaGreatDoor
