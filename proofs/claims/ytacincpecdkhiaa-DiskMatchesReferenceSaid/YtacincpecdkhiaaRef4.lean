/-
  The reference disk: has, Crash.
-/
import Derived.Test.YtacincpecdkhiaaRef3
import Derived.Test.YtacincpecdkhiaaDCrashB
namespace Go.Proofs.Ytacincpecdkhiaa
open Go.RowKit
set_option linter.unusedVariables false

theorem ints_mono {n n' : Nat} {w : World} {sv : Value} {zs : List Int} (h : Ints n w sv zs) (hn : n ≤ n') : Ints n' w sv zs := by
  rcases h with h | ⟨b, off, cap, he, hb, hc⟩
  · exact .inl h
  · exact .inr ⟨b, off, cap, he, Nat.lt_of_lt_of_le hb hn, hc⟩

set_option maxHeartbeats 1000000 in
/-- has(l, n): whether the list contains the number. -/
theorem has_any (w : World) (a : Option Addr) (len cap : Nat) (zs : List Int) (hI : Ints w.heap.size w (.slice a len cap) zs) (hz : zs.length = len) (hm : len ≤ 4611686018427387904) (n : Int) :
    Calls Try.prog 43 #[.slice a len cap, .int .i64 n] w fun e w' => e = .returned (.bool (decide (n ∈ zs))) ∧ w = w' := by
  have HI := Lib.hid hI
  have HZ := Lib.hid hz
  clear hI hz
  go_enter Try.func43, Try.ntmps43
  go_wp2
  go_loopw [5] (fun i wr => ∃ k : Nat, k ≤ len ∧ i = .int .i64 k ∧ n ∉ zs.take k ∧ w = wr) (fun i _ => len - (intOf i).toNat)
  case atStart => exact ⟨0, Nat.zero_le _, rfl, by simp, rfl⟩
  case round =>
    obtain ⟨k, hk, rfl, hn, rfl⟩ := hrel
    have HN := Lib.hid hn
    clear hn
    by_cases hlt : k < len
    · obtain ⟨b, off, rfl, hb, hc⟩ : ∃ b off, a = some ⟨b, off, none⟩ ∧ b < w.heap.size ∧ ∀ j, j < len → w.cell? ⟨b, off + j, none⟩ = some (.int .i64 (zs[j]?.getD 0)) := by
        rcases HI.out with ⟨⟨a', c', he⟩, h0⟩ | ⟨b, off, c, he, hb, hc⟩
        · have := HZ.out; rw [h0] at this; simp at this; omega
        · injection he with h1 h2 h3
          refine ⟨b, off, h1, hb, fun j hj => hc j (by rw [HZ.out]; exact hj)⟩
      have hkz : k < zs.length := by rw [HZ.out]; exact hlt
      have d := hc k hlt
      rw [List.getElem?_eq_getElem hkz] at d
      simp only [Option.getD_some] at d
      clear hc
      by_cases he : zs[k] = n
      · have hin : Hid (n ∈ zs) := he ▸ List.getElem_mem hkz
        rw [he] at d
        go_wp2
        go_ret
        exact ⟨by simp [hin.out], rfl⟩
      · have hni : Hid (n ∉ zs.take (k + 1)) := by
          show _ ∉ _
          rw [List.take_succ_eq_append_getElem hkz, List.mem_append, List.mem_singleton]
          rintro (h | h)
          · exact HN.out h
          · exact he h.symm
        go_wp2
        go_roundw
        case rel => exact ⟨k + 1, hlt, by go_num, hni.out, trivial⟩
        case measure => simp [intOf]; omega
    · obtain rfl : k = len := by omega
      have hni : Hid (n ∉ zs) := by
        have := HN.out
        rwa [List.take_of_length_le (by rw [HZ.out]; exact Nat.le_refl _)] at this
      go_wp2
      go_ret
      exact ⟨by simp [hni.out], rfl⟩

/-- The writes of the given numbers. -/
def picked (s : DSt) (l : List Nat) : List (Nat × ByteArray) := l.map fun i => s.pend[i]?.getD (0, ByteArray.empty)

theorem cutB_all (s : ByteArray) (n : Nat) (h : s.size ≤ n) : cutB s n = s := by
  unfold cutB
  rw [Nat.min_eq_left h, ByteArray.extract_zero_size]

set_option maxRecDepth 100000 in
set_option maxHeartbeats 2000000 in
theorem RCrash_any {w : World} {r : RRep} {s : DSt} (h : RefAt w r s) (a : Option Addr) (len cap : Nat) (zs : List Int) (hI : Ints w.heap.size w (.slice a len cap) zs) (hz : zs.length = len) (hm : len ≤ 4611686018427387904) (torn : Int) (ht : torn ≤ 9223372036854775807) (hl : s.pend.length ≤ 1000000) :
    Calls Try.prog 33 #[r.ptr, .slice a len cap, .int .i64 torn] w fun e w' => e = .returned (.tuple #[]) ∧ ∃ r', RefAt w' r' (s.crash zs torn) ∧ RTurned r r' w w' := by
  have c1 := h.c1
  have hq := h.blk.lt
  have HH := Lib.hid h
  have HI := Lib.hid hI
  obtain ⟨kb, hkb⟩ : ∃ kb : Nat → Bool, kb = fun i : Nat => decide ((i : Int) ∈ zs) := ⟨_, rfl⟩
  have HKB := Lib.hid hkb
  obtain ⟨A, cc, hlv⟩ := h.lvform
  have HLV := Lib.hid hlv
  obtain ⟨iW, hiW, z0, z1, z2⟩ := info_parts infoC
  have Z := Lib.hid (And.intro hiW (And.intro z0 (And.intro z1 z2)))
  unfold RRep.ptr
  rw [hlv] at c1
  clear h hI hkb hlv hiW z0 z1 z2
  go_enter Try.func33, Try.ntmps33
  go_wp2_with fail
  go_loopw [6, 7] (fun u i wr => ∃ (U : Value) (k : Nat), U = u ∧ k ≤ s.pend.length ∧ i = .int .i64 k ∧ wr.ownsRow w.heap.size 80 2 U (keptTo kb k).length (wcells (picked s (keptTo kb k))) ∧ Below w.heap.size w wr) (fun _ i _ => s.pend.length - (intOf i).toNat)
  case atStart => exact ⟨_, 0, rfl, Nat.zero_le _, rfl, World.ownsRow_nil _ _ _ _, Below.refl _ _⟩
  case round =>
    obtain ⟨u, k, rfl, hk, rfl, hown, hb⟩ := hrel
    have hR := HH.out.only (Only.of_below hb (fun _ => False)) (fun _ _ e => e)
    have HR := Lib.hid hR
    have c1' := hR.c1
    rw [HLV.out] at c1'
    have hq' := hR.blk.lt
    have HB := Lib.hid hb
    have HO := Lib.hid hown
    have HI2 := Lib.hid (HI.out.below hb)
    clear hR hb hown
    by_cases hlt : k < s.pend.length
    · go_wp2_with fail
      refine (has_any wr a len cap zs (ints_mono HI2.out HB.out.size) hz hm (k : Int)).mono ?_
      rintro e w2 ⟨rfl, rfl⟩
      rw [show decide ((k : Int) ∈ zs) = kb k from by rw [HKB.out]]
      cases hy : kb k
      · have HKs : Hid (keptTo kb (k + 1) = keptTo kb k) := by show _ = _; rw [keptTo_succ, hy]; simp
        go_wp2_with fail
        go_roundw
        case rel => exact ⟨u, k + 1, rfl, hlt, by go_num, by rw [HKs.out]; exact HO.out, HB.out⟩
        case measure => simp [intOf]; omega
      · have HKs : Hid (keptTo kb (k + 1) = keptTo kb k ++ [k]) := by show _ = _; rw [keptTo_succ, hy]; simp
        have HPk : Hid (picked s (keptTo kb k ++ [k]) = picked s (keptTo kb k) ++ [s.pend[k]]) := by
          show _ = _
          unfold picked
          rw [List.map_append]
          simp [hlt]
        have hll := HR.out.l
        rw [HLV.out] at hll
        have hwc := wcells_get s.pend k hlt
        obtain ⟨gl, hgl⟩ : ∃ gl, A = some ⟨gl, 0, none⟩ := by
          rcases hll.2 with ⟨_, h0⟩ | ⟨g', cap, cur, h1, _⟩
          · omega
          · injection h1 with h1; exact ⟨g', h1⟩
        subst hgl
        have d0 := (hll.cellAt (k * 2) (by omega)).trans hwc.1
        have d1 := (hll.cellAt (k * 2 + 1) (by omega)).trans hwc.2
        have hkl := keptTo_length kb k
        have hglt := block_lt_of_cell d0
        clear hll hwc
        go_wp2_with (at_builtin
                     go_must (refine wpList_append_own _ rfl _ _ 41 rfl w.heap.size 80 iW _ 2 24 Try.underlying41 Z.out.1 Z.out.2.1 Z.out.2.2.1 Z.out.2.2.2 rfl (by decide) u (keptTo kb k).length (wcells (picked s (keptTo kb k))) rfl (HO.out.alloc _) ⟨wr.heap.size, 0, none⟩ 1 1 (wcell s.pend[k]) rfl rfl (box_cells wr _ _ _) (by simp [wcell, Value.oneCell']) (by unfold maxLen; omega) (by omega) (by have := HB.out.size; simp; omega) ?_)
                     intro v' w1 hown hgr _
                     obtain ⟨g', cap', rfl⟩ := ownsRow_val hown)
        go_roundw
        case rel =>
          refine ⟨_, k + 1, rfl, hlt, by go_num, ?_, (HB.out.alloc HB.out.size _).grown hgr (by have := HB.out.size; simp; omega) (fun j hj => (HO.out.lt j hj).1)⟩
          rw [HKs.out, HPk.out, List.length_append, wcells_snoc]
          exact hown
        case measure => simp [intOf]; omega
    · obtain rfl : k = s.pend.length := by omega
      obtain ⟨ks, hks⟩ : ∃ ks, ks = keptTo kb s.pend.length := ⟨_, rfl⟩
      have hkb2 : ∀ i ∈ ks, i < s.pend.length := by rw [hks]; exact keptTo_lt kb _
      have hkl : ks.length ≤ s.pend.length := by rw [hks]; exact keptTo_length kb _
      have HKK : Hid (s.kept zs = ks) := by
        show _ = _
        rw [hks, DSt.kept, keptTo, HKB.out]
      have hO2 := HO.out
      rw [← hks] at hO2
      have HO2 := Lib.hid hO2
      obtain ⟨A2, c2, hu, hA2⟩ : ∃ A2 c2, u = .slice A2 ks.length c2 ∧ (0 < ks.length → ∃ g, A2 = some ⟨g, 0, none⟩) := by
        rcases hO2.2 with ⟨h1, h2⟩ | ⟨g, cap, cur, h1, _⟩
        · exact ⟨none, 0, by rw [h1, h2], fun h => by omega⟩
        · exact ⟨_, _, h1, fun _ => ⟨g, rfl⟩⟩
      subst hu
      have hb2 := Lib.hid hkb2
      have HFT := Lib.hid HH.out.fits
      have hsm := HH.out.small
      clear HO hO2 hks hkb2 c1 HI HI2 HKB HLV
      obtain ⟨wo, rfl⟩ : ∃ wo : World, wo = wr := ⟨_, rfl⟩
      go_wp2_with fail
      clear c1'
      go_loopw [8] (fun i wr => ∃ (k : Nat) (D : List UInt8), k ≤ ks.length ∧ i = .int .i64 k ∧ Blk wr r.g 5 (cells8 D ++ r.rest).toArray ∧ D.length = s.dur.length ∧ DSt.layAll s.pend torn (ks.drop k) D = DSt.layAll s.pend torn ks s.dur ∧ Only (fun b => b = r.g) wo wr) (fun i _ => ks.length - (intOf i).toNat)
      case atStart => exact ⟨0, s.dur, Nat.zero_le _, rfl, HR.out.sure, rfl, rfl, Only.refl _ _⟩
      case round =>
        obtain ⟨k, D, hk, rfl, hbk, hD, hLay, ho⟩ := hrel
        have hq2 : Blk wr r.q _ _ := HR.out.blk.only ho (fun e => HR.out.sure.ne_ HR.out.blk (by decide) e.symm)
        have c0 := hq2.cell 0
        simp only [List.getElem?_toArray, List.getElem?_cons_zero] at c0
        have hqlt := hq2.lt
        have HQ2 := Lib.hid hq2
        have HO := Lib.hid ho
        have HBK := Lib.hid hbk
        have HLay := Lib.hid hLay
        have HD := Lib.hid hD
        clear hbk hLay ho hD hq2
        by_cases hlt : k < ks.length
        · obtain ⟨gl2, rfl⟩ := hA2 (by omega)
          have hik : ks[k] < s.pend.length := hb2.out _ (List.getElem_mem hlt)
          obtain ⟨x, hx⟩ : ∃ x, x = s.pend[ks[k]] := ⟨_, rfl⟩
          have hO3 := ownsRow_only HO2.out HO.out (fun j hj e => own_blk_ne HO2.out HR.out.sure (by decide) (by rw [hj, e]))
          have hpk : (picked s ks)[k]? = some x := by
            unfold picked
            rw [List.getElem?_map, List.getElem?_eq_getElem hlt]
            simp [hik, hx]
          have hpl : (picked s ks).length = ks.length := by simp [picked]
          have hwc := wcells_get (picked s ks) k (by omega)
          have hpk2 : (picked s ks)[k]'(by omega) = x := by
            have := List.getElem?_eq_getElem (l := picked s ks) (i := k) (by omega)
            rw [hpk] at this
            injection this with this
            exact this.symm
          rw [hpk2] at hwc
          have d0 := (hO3.cellAt (k * 2) (by omega)).trans hwc.1
          have d1 := (hO3.cellAt (k * 2 + 1) (by omega)).trans hwc.2
          have hgl2 := block_lt_of_cell d0
          have hfx : x.1 + x.2.size ≤ s.dur.length := by rw [hx]; exact HFT.out _ (List.getElem_mem _)
          have HStep := Lib.hid (layAll_step s.pend torn ks k hlt D)
          have HX : Hid (s.pend[ks[k]]?.getD (0, ByteArray.empty) = x) := by show _ = _; rw [hx]; simp [hik]
          have hxs : x.2.size ≤ 4194304 := by omega
          clear hO3 hpk hpl hwc hpk2 hx
          obtain ⟨xo, xs⟩ := x
          simp only at d0 d1 hfx hxs HX
          have hcase : (k + 1 = ks.length ∧ 0 ≤ torn ∧ torn < (xs.size : Int)) ∨ (k + 1 = ks.length ∧ 0 ≤ torn ∧ ¬ torn < (xs.size : Int)) ∨ (k + 1 = ks.length ∧ ¬ 0 ≤ torn) ∨ ¬ k + 1 = ks.length := by omega
          rcases hcase with ⟨h1, h2, h3⟩ | ⟨h1, h2, h3⟩ | ⟨h1, h2⟩ | h1
          · obtain ⟨t, rfl⟩ := Int.eq_ofNat_of_zero_le h2
            have hfy : xo + (cutB xs t).size ≤ s.dur.length := by rw [cutB_size]; omega
            have HY : Hid ((if k + 1 = ks.length then DSt.tear t (xo, xs) else (xo, xs)) = (xo, cutB xs t)) := by
              show _ = _
              rw [if_pos h1, tear_cut _ _ _ h2, Int.toNat_natCast]
            have e1 : ((k : Int) == (ks.length : Int) - 1) = true := by simp; omega
            have hcb : Hid (xs.extract 0 t = cutB xs t) := by
              show _ = _
              unfold cutB; rw [Nat.min_eq_right (by omega)]
            go_wp2_with fail
            go_still_tail 10, (by kernel_rfl)
            change wpList _ _ _ _ _ wr.drew
            go_wp2_with fail
            rw [hcb.out]
            refine (apply_any wr.drew r.g s.dur.length _ xo D r.rest (cutB xs t) HBK.out.drew HD.out hfy hsm).mono ?_
            rintro e w2 ⟨rfl, hb2', o2⟩
            have HK2 := Lib.hid hb2'
            have HO3 := Lib.hid o2
            clear hb2' o2
            go_wp2_with fail
            go_roundw
            case rel => exact ⟨k + 1, lay D (xo, cutB xs t), hlt, by go_num, HK2.out, by rw [lay_length (by rw [HD.out]; exact hfy), HD.out], by rw [← HLay.out, HStep.out, HX.out, HY.out], (HO.out.drew).trans' HO3.out⟩
            case measure => simp [intOf]; omega
          · have hfy : xo + xs.size ≤ s.dur.length := hfx
            have HY : Hid ((if k + 1 = ks.length then DSt.tear torn (xo, xs) else (xo, xs)) = (xo, xs)) := by
              show _ = _
              rw [if_pos h1, tear_cut _ _ _ h2, cutB_all _ _ (by omega)]
            have e1 : ((k : Int) == (ks.length : Int) - 1) = true := by simp; omega
            go_wp2_with fail
            go_still_tail 10, (by kernel_rfl)
            change wpList _ _ _ _ _ wr.drew
            go_wp2_with fail
            refine (apply_any wr.drew r.g s.dur.length _ xo D r.rest (xs) HBK.out.drew HD.out hfy hsm).mono ?_
            rintro e w2 ⟨rfl, hb2', o2⟩
            have HK2 := Lib.hid hb2'
            have HO3 := Lib.hid o2
            clear hb2' o2
            go_wp2_with fail
            go_roundw
            case rel => exact ⟨k + 1, lay D (xo, xs), hlt, by go_num, HK2.out, by rw [lay_length (by rw [HD.out]; exact hfy), HD.out], by rw [← HLay.out, HStep.out, HX.out, HY.out], (HO.out.drew).trans' HO3.out⟩
            case measure => simp [intOf]; omega
          · have hfy : xo + xs.size ≤ s.dur.length := hfx
            have HY : Hid ((if k + 1 = ks.length then DSt.tear torn (xo, xs) else (xo, xs)) = (xo, xs)) := by
              show _ = _
              rw [if_pos h1, DSt.tear, if_neg h2]
            have e1 : ((k : Int) == (ks.length : Int) - 1) = true := by simp; omega
            go_wp2_with fail
            go_still_tail 10, (by kernel_rfl)
            change wpList _ _ _ _ _ wr.drew
            go_wp2_with fail
            refine (apply_any wr.drew r.g s.dur.length _ xo D r.rest (xs) HBK.out.drew HD.out hfy hsm).mono ?_
            rintro e w2 ⟨rfl, hb2', o2⟩
            have HK2 := Lib.hid hb2'
            have HO3 := Lib.hid o2
            clear hb2' o2
            go_wp2_with fail
            go_roundw
            case rel => exact ⟨k + 1, lay D (xo, xs), hlt, by go_num, HK2.out, by rw [lay_length (by rw [HD.out]; exact hfy), HD.out], by rw [← HLay.out, HStep.out, HX.out, HY.out], (HO.out.drew).trans' HO3.out⟩
            case measure => simp [intOf]; omega
          · have hfy : xo + xs.size ≤ s.dur.length := hfx
            have HY : Hid ((if k + 1 = ks.length then DSt.tear torn (xo, xs) else (xo, xs)) = (xo, xs)) := by
              show _ = _
              rw [if_neg h1]
            have e1 : ((k : Int) == (ks.length : Int) - 1) = false := by simp; omega
            go_wp2_with fail
            go_still_tail 10, (by kernel_rfl)
            change wpList _ _ _ _ _ wr.drew
            go_wp2_with fail
            refine (apply_any wr.drew r.g s.dur.length _ xo D r.rest (xs) HBK.out.drew HD.out hfy hsm).mono ?_
            rintro e w2 ⟨rfl, hb2', o2⟩
            have HK2 := Lib.hid hb2'
            have HO3 := Lib.hid o2
            clear hb2' o2
            go_wp2_with fail
            go_roundw
            case rel => exact ⟨k + 1, lay D (xo, xs), hlt, by go_num, HK2.out, by rw [lay_length (by rw [HD.out]; exact hfy), HD.out], by rw [← HLay.out, HStep.out, HX.out, HY.out], (HO.out.drew).trans' HO3.out⟩
            case measure => simp [intOf]; omega
        · obtain rfl : k = ks.length := by omega
          have c1 := HQ2.out.cell 1
          have c2' := HQ2.out.cell 2
          have c3 := HQ2.out.cell 3
          have f1 := HQ2.out.frozen 1
          have f2 := HQ2.out.frozen 2
          have f3 := HQ2.out.frozen 3
          simp only [List.getElem?_toArray, List.getElem?_cons_succ, List.getElem?_cons_zero] at c1 c2' c3
          go_wp2_with fail
          go_end0
          have hX : D = DSt.layAll s.pend torn (s.kept zs) s.dur := by
            rw [HKK.out, ← HLay.out, List.drop_length]; rfl
          have hc : s.crash zs torn = { off := false, left := 0, dur := D, vis := D, pend := [] } := by unfold DSt.crash; rw [← hX]
          have o : Only (fun j => j = r.q) wr (((wr.setCell ⟨r.q, 1, none⟩ (.slice none 0 0)).setCell ⟨r.q, 2, none⟩ (.bool false)).setCell ⟨r.q, 3, none⟩ (.int .i64 0)) := (((Only.refl (fun j => j = r.q) wr).setCell (p := ⟨r.q, 1, none⟩) (.inl rfl) _).setCell (p := ⟨r.q, 2, none⟩) (.inl rfl) _).setCell (p := ⟨r.q, 3, none⟩) (.inl rfl) _
          rw [hc]
          refine ⟨rfl, { r with lv := .slice none 0 0 }, { blk := ?_, sure := ?_, cap := ?_, l := World.ownsRow_nil _ _ _ _, small := ?_, left := ?_, fits := ?_, fresh := rfl }, rfl, ?_, ?_⟩
          · show Blk _ r.q _ #[.slice (some ⟨r.g, 0, none⟩) D.length (D.length + r.rest.length), _, _, _]
            rw [HD.out]
            exact (((HQ2.out.set_ 1 _).set_ 2 _).set_ 3 _)
          · exact HBK.out.only o (HBK.out.ne_ HQ2.out (by decide))
          · show D.length + _ ≤ _; rw [HD.out]; exact HR.out.cap
          · show D.length ≤ _; rw [HD.out]; exact hsm
          · show 0 ≤ _; omega
          · intro y hy; simp at hy
          · exact ((Only.of_below HB.out r.foot).trans (HO.out.mono fun j _ e => .inr (.inl e)) fun j hj e => e).trans (o.mono fun j _ e => .inl e) fun j hj e => e
          · rintro j (e | e | e)
            · exact .inl (.inl e)
            · exact .inl (.inr (.inl e))
            · cases e
end Go.Proofs.Ytacincpecdkhiaa
