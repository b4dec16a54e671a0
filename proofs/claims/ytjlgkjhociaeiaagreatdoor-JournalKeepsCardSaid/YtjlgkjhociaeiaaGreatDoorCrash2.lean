/-
  Crash.
-/
import Derived.Test.YtjlgkjhociaeiaaGreatDoorCrash1
import Derived.Deep.CutRange
namespace Go.Proofs.YtjlgkjhociaeiaaGreatDoor
open Go.RowKit Go.Shelf Go.Sort
set_option linter.unusedVariables false

theorem ownInts_form {B : Nat} {w : World} {v : Value} {zs : List Int} (h : OwnInts B w v zs) : ∃ A c, v = .slice A zs.length c ∧ (0 < zs.length → ∃ g, A = some ⟨g, 0, none⟩) ∧ zs.length ≤ maxLen := by
  rcases ownInts_cases h with ⟨rfl, p, c, rfl⟩ | ⟨g, cap, cur, rfl, _, _, h1, h2, _⟩
  · exact ⟨p, c, rfl, fun h => by simp at h, by simp [maxLen]⟩
  · exact ⟨_, _, rfl, fun _ => ⟨g, rfl⟩, by omega⟩

/-- The same of numbers that are counts. -/
theorem ownNats_form {B : Nat} {w : World} {v : Value} {ks : List Nat} (h : OwnInts B w v (ks.map fun i : Nat => (i : Int))) : ∃ A c, v = .slice A ks.length c ∧ (0 < ks.length → ∃ g, A = some ⟨g, 0, none⟩) ∧ ks.length ≤ maxLen := by
  have := ownInts_form h
  simpa only [List.length_map] using this
theorem ownNats_cell {B : Nat} {w : World} {g c : Nat} {ks : List Nat} (h : OwnInts B w (.slice (some ⟨g, 0, none⟩) ks.length c) (ks.map fun i : Nat => (i : Int))) (k : Nat) (hk : k < ks.length) : w.cell? ⟨g, k, none⟩ = some (.int .i64 (ks[k] : Int)) := by
  unfold OwnInts at h
  rw [List.length_map] at h
  rw [h.cellAt k (by omega)]
  simp [hk]

theorem wcells_get (l : List (Nat × ByteArray)) (i : Nat) (h : i < l.length) : (wcells l)[i * 2]? = some (.int .i64 (l[i].1 : Int)) ∧ (wcells l)[i * 2 + 1]? = some (.string l[i].2) := by
  induction l generalizing i with
  | nil => simp at h
  | cons x l ih =>
    cases i with
    | zero => simp [wcells, wcell]
    | succ i =>
      have := ih i (by simpa using h)
      have e : wcells (x :: l) = wcell x ++ wcells l := by simp [wcells]
      rw [e]
      constructor
      · rw [List.getElem?_append_right (by simp [wcell]; omega)]
        have e2 : (i + 1) * 2 - (wcell x).length = i * 2 := by simp [wcell]; omega
        rw [e2]; simpa using this.1
      · rw [List.getElem?_append_right (by simp [wcell]; omega)]
        have e2 : (i + 1) * 2 + 1 - (wcell x).length = i * 2 + 1 := by simp [wcell]; omega
        rw [e2]; simpa using this.2

/-- A surviving write laid over the durable content. -/
theorem laid_dur {B : Nat} {w w' : World} {r : DRep} {s : DSt} (h : DiskAt B w r s) (x : Nat × ByteArray) (hx : x.1 + x.2.size ≤ s.dur.length) (hb : Blk w' r.bd 5 (cells8 (lay s.dur x)).toArray) (o : Only (fun k => k = r.bd) w w') :
    DiskAt B w' r { s with dur := lay s.dur x } := by
  have hl : (lay s.dur x).length = s.dur.length := lay_length hx
  refine { h with blk := ?_, dur := hb, vis := h.vis.only o h.ne.symm, pend := ownsRow_only h.pend o (fun k hk e => own_blk_ne h.pend h.dur (by decide) (by rw [hk, e])), len := ?_, small := ?_, fits := ?_ }
  · show Blk w' r.p _ #[_, _, .slice (some ⟨r.bd, 0, none⟩) (lay s.dur x).length (lay s.dur x).length, .slice (some ⟨r.bv, 0, none⟩) (lay s.dur x).length (lay s.dur x).length, _]
    rw [hl]
    exact h.blk.only o (h.blk.ne_ h.dur (by decide))
  · show s.vis.length = (lay s.dur x).length
    rw [hl]; exact h.len
  · show (lay s.dur x).length ≤ _
    rw [hl]; exact h.small
  · intro y hy
    show _ ≤ (lay s.dur x).length
    rw [hl]; exact h.fits y hy

theorem settled_crash {B : Nat} {w w' w2 : World} {r : DRep} {s : DSt} (h : DiskAt B w r s) (hw2 : w2 = (w'.setCell ⟨r.p, 0, none⟩ (.bool false)).setCell ⟨r.p, 1, none⟩ (.int .i64 0))
    (hb : Blk w' r.p 97 #[.bool s.off, .int .i64 (s.left : Int), .slice (some ⟨r.bd, 0, none⟩) s.dur.length s.dur.length, .slice (some ⟨r.bv, 0, none⟩) s.dur.length s.dur.length, cutPv r.pv])
    (h1 : Blk w' r.bd 5 (cells8 s.dur).toArray) (h2 : Blk w' r.bv 5 (cells8 s.dur).toArray) (ho : w'.ownsRow B 92 2 (cutPv r.pv) 0 []) (o : Only (fun k => k = r.p ∨ k = r.bv ∨ r.pv.ownBlock = some k) w w') :
    DiskAt B w2 { r with pv := cutPv r.pv } { off := false, left := 0, dur := s.dur, vis := s.dur, pend := [] } ∧ Turned r { r with pv := cutPv r.pv } w w2 := by
  subst hw2
  have o2 : Only (fun k => k = r.p) w' ((w'.setCell ⟨r.p, 0, none⟩ (.bool false)).setCell ⟨r.p, 1, none⟩ (.int .i64 0)) := ((Only.refl (fun k => k = r.p) w').setCell (p := ⟨r.p, 0, none⟩) (.inl rfl) _).setCell (p := ⟨r.p, 1, none⟩) (.inl rfl) _
  refine ⟨{ h with blk := ?_, dur := h1.only o2 (h1.ne_ hb (by decide)), vis := h2.only o2 (h2.ne_ hb (by decide)), pend := ownsRow_only ho o2 (fun k hk e => own_blk_ne ho hb (by decide) (by rw [hk, e])), len := rfl, left := by show 0 ≤ _; omega, fits := by intro x hx; simp at hx }, rfl, ?_, ?_⟩
  · exact (hb.set_ 0 _).set_ 1 _
  · refine (o.mono fun k _ e => ?_).trans (o2.mono fun k _ e => .inl e) fun _ _ e => e
    exact e.elim .inl fun e => e.elim (fun x => .inr (.inr (.inl x))) fun x => .inr (.inr (.inr x))
  · rintro k (e | e | e | e)
    · exact .inl (.inl e)
    · exact .inl (.inr (.inl e))
    · exact .inl (.inr (.inr (.inl e)))
    · exact .inl (.inr (.inr (.inr (by rw [← cutPv_block]; exact e))))

/-- One more survivor is laid; the last one torn. -/
theorem layAll_step (p : List (Nat × ByteArray)) (torn : Int) (l : List Nat) (k : Nat) (hk : k < l.length) (D : List UInt8) :
    DSt.layAll p torn (l.drop k) D = DSt.layAll p torn (l.drop (k + 1)) (lay D (if k + 1 = l.length then DSt.tear torn (p[l[k]]?.getD (0, ByteArray.empty)) else p[l[k]]?.getD (0, ByteArray.empty))) := by
  have e : l.drop k = l[k] :: l.drop (k + 1) := List.drop_eq_getElem_cons hk
  rw [e]
  by_cases h : k + 1 = l.length
  · have e2 : l.drop (k + 1) = [] := List.drop_eq_nil_of_le (by omega)
    rw [e2, if_pos h]
    rfl
  · rw [if_neg h]
    have e2 : l.drop (k + 1) = l[k + 1] :: l.drop (k + 1 + 1) := List.drop_eq_getElem_cons (by omega)
    rw [e2]
    rfl

/-- The world behind Crash's box and that of slices.Values. -/
def crashW (w : World) (p : Nat) (a : Option Addr) (len cap : Nat) : World := (w.alloc (.cells #[.pointer (some ⟨p, 0, none⟩)] 27)).alloc (.cells #[.slice a len cap] 56)
theorem crashW_size (w : World) (p : Nat) (a : Option Addr) (len cap : Nat) : (crashW w p a len cap).heap.size = w.heap.size + 2 := by simp [crashW]
theorem crashW_below (w : World) (p : Nat) (a : Option Addr) (len cap : Nat) : Below w.heap.size w (crashW w p a len cap) := ((Below.refl _ w).alloc (Nat.le_refl _) _).alloc (by simp) _
theorem crashW_box (w : World) (p : Nat) (a : Option Addr) (len cap : Nat) : (crashW w p a len cap).cell? ⟨w.heap.size, 0, none⟩ = some (.pointer (some ⟨p, 0, none⟩)) :=
  ((Blk.new w 27 #[.pointer (some ⟨p, 0, none⟩)]).alloc _).cell 0
theorem crashW_sl (w : World) (p : Nat) (a : Option Addr) (len cap : Nat) : (crashW w p a len cap).cell? ⟨w.heap.size + 1, 0, none⟩ = some (.slice a len cap) := by
  have := (Blk.new (w.alloc (.cells #[.pointer (some ⟨p, 0, none⟩)] 27)) 56 #[.slice a len cap]).cell 0
  rw [World.size_alloc] at this
  exact this

theorem crash_sees {B : Nat} {w W3 : World} {r : DRep} {s : DSt} (h : DiskAt B w r s) (a : Option Addr) (len cap : Nat) (hb : Below (crashW w r.p a len cap).heap.size (crashW w r.p a len cap) W3) : Sees W3 w.heap.size r.p s.pend.length := by
  obtain ⟨A, c, hpv⟩ := h.pv
  have hlt := h.blk.lt
  have hz := crashW_size w r.p a len cap
  refine ⟨(hb.cell (p := ⟨w.heap.size, 0, none⟩) (by simp; omega)).trans (crashW_box _ _ _ _ _), A, c, ?_⟩
  rw [hb.cell (p := ⟨r.p, 4, none⟩) (by simp; omega), (crashW_below w r.p a len cap).cell (p := ⟨r.p, 4, none⟩) hlt, h.c4, hpv]

theorem crash_disk {B : Nat} {w W3 : World} {r : DRep} {s : DSt} (h : DiskAt B w r s) (a : Option Addr) (len cap : Nat) (hb : Below (crashW w r.p a len cap).heap.size (crashW w r.p a len cap) W3) : DiskAt B W3 r s ∧ Only (fun _ => False) w W3 := by
  have hz := crashW_size w r.p a len cap
  have o : Only (fun _ => False) w W3 := Only.of_below ((crashW_below w r.p a len cap).trans (hb.mono (by omega))) _
  exact ⟨h.only o fun _ _ => id, o⟩

/-- What one round leaves. -/
theorem crash_round {B : Nat} {wo wr w' : World} {r : DRep} {s : DSt} {D : List UInt8} {torn : Int} {ks : List Nat} {k : Nat} (hlt : k < ks.length) (hik : ks[k] < s.pend.length) (HD : DiskAt B wr r { s with dur := D }) (hDl : D.length = s.dur.length) (hO : Only (fun b => b = r.bd) wo wr)
    (hLay : DSt.layAll s.pend torn (ks.drop k) D = DSt.layAll s.pend torn ks s.dur) (x : Nat × ByteArray) (hx : x = if k + 1 = ks.length then DSt.tear torn s.pend[ks[k]] else s.pend[ks[k]]) (hfit : x.1 + x.2.size ≤ s.dur.length)
    (O : Obj) (hb : Blk w' r.bd 5 (cells8 (lay D x)).toArray) (o : Only (fun k => k = r.bd) ((wr.alloc O).drew) w') :
    DiskAt B w' r { s with dur := lay D x } ∧ (lay D x).length = s.dur.length ∧ Only (fun b => b = r.bd) wo w' ∧ DSt.layAll s.pend torn (ks.drop (k + 1)) (lay D x) = DSt.layAll s.pend torn ks s.dur := by
  have o1 : Only (fun k => k = r.bd) wr w' := ((Only.refl _ wr).alloc O).drew.trans' o
  refine ⟨laid_dur HD x (by show _ ≤ D.length; omega) hb o1, by rw [lay_length (by omega), hDl], hO.trans' o1, ?_⟩
  rw [← hLay, layAll_step s.pend torn ks k hlt D, hx]
  simp [hik]

theorem min_toNat (t : Int) (n : Nat) (h : 0 ≤ t) : (min t (n : Int)).toNat = min t.toNat n := by omega

set_option maxRecDepth 100000 in
set_option maxHeartbeats 4000000 in
theorem Crash_any {B : Nat} {w : World} {r : DRep} {s : DSt} (h : DiskAt B w r s) (hB : B ≤ w.heap.size) (a : Option Addr) (len cap : Nat) (keep : List Int) (hI : Ints w.heap.size w (.slice a len cap) keep) (hreach : keep.length * 8 ≤ 140737488351232) (torn : Int) (ht : torn ≤ 9223372036854775807) :
    Calls Tryz.prog 30 #[r.ptr, .slice a len cap, .int .i64 torn] w fun e w' => e = .returned (.int .i64 0) ∧ ∃ r', DiskAt B w' r' (s.crash keep torn) ∧ Turned r r' w w' := by
  have HH := Lib.hid h
  have hz := crashW_size w r.p a len cap
  have KV := Lib.hid (callsIn_wide.1 (values_in Fence.wide 0 trivial rfl a len cap (w.alloc (.cells #[.pointer (some ⟨r.p, 0, none⟩)] 27))))
  have KS := Lib.hid (sorted_any (w.heap.size + 1) (.slice a len cap) keep hreach (crashW w r.p a len cap) (by omega) (crashW_sl _ _ _ _ _) (by
    rcases hI.below (crashW_below w r.p a len cap) with h | ⟨b, off, cc, h1, h2, h3⟩
    · exact .inl h
    · exact .inr ⟨b, off, cc, h1, by omega, h3⟩))
  unfold DRep.ptr
  have HZ := Lib.hid hz
  have hlt := h.blk.lt
  clear h hI hz
  go_enter Tryz.func30, Tryz.ntmps30
  go_wp2_with (first | (go_at_call 62; refine KV.out.mono ?_; rintro e w' ⟨rfl, rfl⟩) | (go_at_call 61; refine KS.out.mono ?_; rintro e w2 ⟨v2, rfl, hown2, hbl2⟩; have HO2 := Lib.hid hown2; have HL2 := Lib.hid hbl2; clear hown2 hbl2) | (go_at_call 60; refine (compact_own HO2.out).mono ?_; rintro e w3 ⟨v3, rfl, hown3, hg3, hv3⟩; have HO3 := Lib.hid hown3; have HL3 := Lib.hid (HL2.out.grown hg3 HL2.out.size fun k hk => (HO2.out.lt k hk).1); clear hown3 hg3 hv3))
  have D3 := Lib.hid (crash_disk HH.out a len cap HL3.out)
  have KD := Lib.hid (delete_own HO3.out w.heap.size r.p s.pend.length (crash_sees HH.out a len cap HL3.out)
    (fun e => by have := (HO3.out.lt _ e).1; have := HZ.out; omega) (fun e => by have := (HO3.out.lt _ e).1; have := HZ.out; omega) (by have := HL3.out.size; have := HZ.out; omega) (by have := HL3.out.size; have := HZ.out; omega))
  rw [order_eq] at KD
  obtain ⟨ks, hks⟩ : ∃ ks, ks = s.kept keep := ⟨_, rfl⟩
  have hks' : ((List.range s.pend.length).filter fun i : Nat => decide ((i : Int) ∈ keep)) = ks := hks.symm
  rw [hks'] at KD
  have HKS := Lib.hid hks
  clear hks hks'
  go_wp2_with (go_at_call 63; refine KD.out.mono ?_; rintro e w4 ⟨v4, rfl, hown4, hg4, hv4⟩; have HO4 := Lib.hid hown4; have HL4 := Lib.hid (HL3.out.grown hg4 HL3.out.size fun k hk => (HO3.out.lt k hk).1); obtain ⟨A4, cc4, rfl, hA4, hm4⟩ := ownNats_form hown4; have HA4 := Lib.hid hA4; clear hown4 hg4 hv4 hA4)
  have D4 := Lib.hid (crash_disk HH.out a len cap HL4.out)
  have B4 := Lib.hid (crash_sees HH.out a len cap HL4.out).1
  have KL := Lib.hid (show ∀ i ∈ ks, i < s.pend.length from by rw [HKS.out]; intro i hi; simp only [DSt.kept, List.mem_filter, List.mem_range] at hi; exact hi.1)
  clear KV KS KD D3
  obtain ⟨wo, hwo⟩ : ∃ wo, wo = w4 := ⟨_, rfl⟩
  have HWO := Lib.hid hwo
  clear hwo
  unfold maxLen at hm4
  go_loopw [22] (fun i wr => ∃ (k : Nat) (D : List UInt8), k ≤ ks.length ∧ i = .int .i64 k ∧ DiskAt B wr r { s with dur := D } ∧ D.length = s.dur.length ∧ Only (fun b => b = r.bd) wo wr ∧ DSt.layAll s.pend torn (ks.drop k) D = DSt.layAll s.pend torn ks s.dur) (fun i _ => ks.length - (intOf i).toNat)
  case atStart => exact ⟨0, s.dur, Nat.zero_le _, rfl, D4.out.1, rfl, by rw [HWO.out]; exact Only.refl _ _, rfl⟩
  case round =>
    obtain ⟨k, D, hk, rfl, hD, hDl, hO, hLay⟩ := hrel
    have hbv : r.bv < w.heap.size := HH.out.vis.lt
    have hbd : r.bd < w.heap.size := HH.out.dur.lt
    have h4 := Lib.hid HL4.out.size
    have cb : wr.cell? ⟨w.heap.size, 0, none⟩ = some (.pointer (some ⟨r.p, 0, none⟩)) := (hO.cell (p := ⟨w.heap.size, 0, none⟩) (by rw [HWO.out]; have := HZ.out; have := h4.out; simp only; omega) (by simp only; omega)).trans (by rw [HWO.out]; exact B4.out)
    have c2 : wr.cell? ⟨r.p, 2, none⟩ = some (.slice (some ⟨r.bd, 0, none⟩) D.length D.length) := hD.c2
    have c3 : wr.cell? ⟨r.p, 3, none⟩ = some (.slice (some ⟨r.bv, 0, none⟩) D.length D.length) := hD.c3
    have HD := Lib.hid hD
    have HDl := Lib.hid hDl
    have HLay := Lib.hid hLay
    have HOO := Lib.hid hO
    have hsm : D.length ≤ 4194304 := hD.small
    by_cases hlt : k < ks.length
    · obtain ⟨g4, rfl⟩ := HA4.out (by omega)
      have hik : ks[k] < s.pend.length := KL.out _ (List.getElem_mem hlt)
      obtain ⟨Ap, cp, hpv⟩ := HH.out.pv
      have hpo : wr.ownsRow B 92 2 r.pv s.pend.length (wcells s.pend) := hD.pend
      have c4 : wr.cell? ⟨r.p, 4, none⟩ = some r.pv := hD.c4
      obtain ⟨gp, rfl⟩ : ∃ gp, Ap = some ⟨gp, 0, none⟩ := by
        rcases hpo.2 with ⟨_, h0⟩ | ⟨gp, _, _, h1, _⟩
        · omega
        · rw [hpv] at h1; injection h1 with h1; exact ⟨gp, h1⟩
      rw [hpv] at hpo c4
      have g0 := (hpo.cellAt (ks[k] * 2) (by omega)).trans (wcells_get s.pend ks[k] hik).1
      have g1 := (hpo.cellAt (ks[k] * 2 + 1) (by omega)).trans (wcells_get s.pend ks[k] hik).2
      have o4 : OwnInts (crashW w r.p a len cap).heap.size wr (.slice (some ⟨g4, 0, none⟩) ks.length cc4) (ks.map fun i : Nat => (i : Int)) := ownsRow_only HO4.out (by rw [← HWO.out]; exact hO) (fun k hk e => by have := (HO4.out.lt k hk).1; have := HZ.out; omega)
      have ck := ownNats_cell o4 k hlt
      have hpk := HH.out.fits _ (List.getElem_mem hik)
      clear hD hDl hLay hO hpo o4
      have hks : k + 1 ≤ ks.length := hlt
      by_cases h1 : k + 1 = ks.length
      · have e1 : ((k : Int) == (ks.length : Int) - 1) = true := by simp; omega
        by_cases h2 : 0 ≤ torn
        · have hd : decide (0 ≤ torn) = true := by simp [h2]
          have hX := Lib.hid (show (s.pend[ks[k]].1, s.pend[ks[k]].2.extract 0 (min torn (s.pend[ks[k]].2.size : Int)).toNat) = if k + 1 = ks.length then DSt.tear torn s.pend[ks[k]] else s.pend[ks[k]] from by rw [if_pos h1, DSt.tear, if_pos h2, min_toNat _ _ h2])
          have hsz : (s.pend[ks[k]].2.extract 0 (min torn (s.pend[ks[k]].2.size : Int)).toNat).size ≤ s.pend[ks[k]].2.size := by rw [ByteArray.size_extract]; omega
          obtain ⟨W, hW⟩ : ∃ W, W = wr.alloc (.cells #[.int .i64 (s.pend[ks[k]].1 : Int), .string (s.pend[ks[k]].2.extract 0 (min torn (s.pend[ks[k]].2.size : Int)).toNat)] 92) := ⟨_, rfl⟩
          have nb := Blk.new wr 92 #[.int .i64 (s.pend[ks[k]].1 : Int), .string (s.pend[ks[k]].2.extract 0 (min torn (s.pend[ks[k]].2.size : Int)).toNat)]
          rw [← hW] at nb
          have n0 := nb.cell 0
          have n1 := nb.cell 1
          simp only [List.getElem?_toArray, List.getElem?_cons_succ, List.getElem?_cons_zero] at n0 n1
          have hlw : w.heap.size < wr.heap.size := block_lt_of_cell cb
          have cbW : W.cell? ⟨w.heap.size, 0, none⟩ = some (.pointer (some ⟨r.p, 0, none⟩)) := by rw [hW, World.cell?_alloc_lt _ _ _ (by exact hlw)]; exact cb
          have c2W : W.cell? ⟨r.p, 2, none⟩ = some (.slice (some ⟨r.bd, 0, none⟩) D.length D.length) := by rw [hW, World.cell?_alloc_lt _ _ _ (by simp only; omega)]; exact c2
          have KO := Lib.hid (onto_any W.drew r.bd D.length D (s.pend[ks[k]].1, s.pend[ks[k]].2.extract 0 (min torn (s.pend[ks[k]].2.size : Int)).toNat) ((by rw [hW]; exact (HD.out.dur.alloc _).drew : Blk W.drew r.bd 5 (cells8 D).toArray)) rfl (by have := HDl.out; simp only; omega) hsm)
          have H1 := Lib.hid h1
          have HW := Lib.hid hW
          clear h1 hW nb
          have n0' := Lib.hid n0
          have n1' := Lib.hid n1
          have cbW' := Lib.hid cbW
          have c2W' := Lib.hid c2W
          clear n0 n1 cbW c2W
          go_wp2
          rw [← HW.out]
          have n0 := n0'.out
          have n1 := n1'.out
          have cbW := cbW'.out
          have c2W := c2W'.out
          clear n0' n1' cbW' c2W' ck g0 g1 cb c2 c3 c4
          go_still_tail 5, (by kernel_rfl)
          change wpList _ _ _ _ _ W.drew
          go_wp2_with (go_at_call 48; refine KO.out.mono ?_; rintro e w6 ⟨rfl, hb6, o6⟩)
          have R := crash_round hlt hik HD.out HDl.out HOO.out HLay.out _ hX.out (by simp only; omega) _ hb6 (by rw [HW.out] at o6; exact o6)
          clear hb6 o6
          go_roundw
          case rel => exact ⟨k + 1, _, hks, by go_num, R.1, R.2.1, R.2.2.1, R.2.2.2⟩
          case measure => simp [intOf]; omega
        · have hd : decide (0 ≤ torn) = false := by simp; omega
          have hX := Lib.hid (show (s.pend[ks[k]].1, s.pend[ks[k]].2) = if k + 1 = ks.length then DSt.tear torn s.pend[ks[k]] else s.pend[ks[k]] from by rw [if_pos h1, DSt.tear, if_neg h2])
          have hsz : (s.pend[ks[k]].2).size ≤ s.pend[ks[k]].2.size := Nat.le_refl _
          obtain ⟨W, hW⟩ : ∃ W, W = wr.alloc (.cells #[.int .i64 (s.pend[ks[k]].1 : Int), .string (s.pend[ks[k]].2)] 92) := ⟨_, rfl⟩
          have nb := Blk.new wr 92 #[.int .i64 (s.pend[ks[k]].1 : Int), .string (s.pend[ks[k]].2)]
          rw [← hW] at nb
          have n0 := nb.cell 0
          have n1 := nb.cell 1
          simp only [List.getElem?_toArray, List.getElem?_cons_succ, List.getElem?_cons_zero] at n0 n1
          have hlw : w.heap.size < wr.heap.size := block_lt_of_cell cb
          have cbW : W.cell? ⟨w.heap.size, 0, none⟩ = some (.pointer (some ⟨r.p, 0, none⟩)) := by rw [hW, World.cell?_alloc_lt _ _ _ (by exact hlw)]; exact cb
          have c2W : W.cell? ⟨r.p, 2, none⟩ = some (.slice (some ⟨r.bd, 0, none⟩) D.length D.length) := by rw [hW, World.cell?_alloc_lt _ _ _ (by simp only; omega)]; exact c2
          have KO := Lib.hid (onto_any W.drew r.bd D.length D (s.pend[ks[k]].1, s.pend[ks[k]].2) ((by rw [hW]; exact (HD.out.dur.alloc _).drew : Blk W.drew r.bd 5 (cells8 D).toArray)) rfl (by have := HDl.out; simp only; omega) hsm)
          have H1 := Lib.hid h1
          have HW := Lib.hid hW
          clear h1 hW nb
          have n0' := Lib.hid n0
          have n1' := Lib.hid n1
          have cbW' := Lib.hid cbW
          have c2W' := Lib.hid c2W
          clear n0 n1 cbW c2W
          go_wp2
          rw [← HW.out]
          have n0 := n0'.out
          have n1 := n1'.out
          have cbW := cbW'.out
          have c2W := c2W'.out
          clear n0' n1' cbW' c2W' ck g0 g1 cb c2 c3 c4
          go_still_tail 5, (by kernel_rfl)
          change wpList _ _ _ _ _ W.drew
          go_wp2_with (go_at_call 48; refine KO.out.mono ?_; rintro e w6 ⟨rfl, hb6, o6⟩)
          have R := crash_round hlt hik HD.out HDl.out HOO.out HLay.out _ hX.out (by simp only; omega) _ hb6 (by rw [HW.out] at o6; exact o6)
          clear hb6 o6
          go_roundw
          case rel => exact ⟨k + 1, _, hks, by go_num, R.1, R.2.1, R.2.2.1, R.2.2.2⟩
          case measure => simp [intOf]; omega
      · have e1 : ((k : Int) == (ks.length : Int) - 1) = false := by simp; omega
        have hX := Lib.hid (show (s.pend[ks[k]].1, s.pend[ks[k]].2) = if k + 1 = ks.length then DSt.tear torn s.pend[ks[k]] else s.pend[ks[k]] from by rw [if_neg h1])
        have hsz : (s.pend[ks[k]].2).size ≤ s.pend[ks[k]].2.size := Nat.le_refl _
        obtain ⟨W, hW⟩ : ∃ W, W = wr.alloc (.cells #[.int .i64 (s.pend[ks[k]].1 : Int), .string (s.pend[ks[k]].2)] 92) := ⟨_, rfl⟩
        have nb := Blk.new wr 92 #[.int .i64 (s.pend[ks[k]].1 : Int), .string (s.pend[ks[k]].2)]
        rw [← hW] at nb
        have n0 := nb.cell 0
        have n1 := nb.cell 1
        simp only [List.getElem?_toArray, List.getElem?_cons_succ, List.getElem?_cons_zero] at n0 n1
        have hlw : w.heap.size < wr.heap.size := block_lt_of_cell cb
        have cbW : W.cell? ⟨w.heap.size, 0, none⟩ = some (.pointer (some ⟨r.p, 0, none⟩)) := by rw [hW, World.cell?_alloc_lt _ _ _ (by exact hlw)]; exact cb
        have c2W : W.cell? ⟨r.p, 2, none⟩ = some (.slice (some ⟨r.bd, 0, none⟩) D.length D.length) := by rw [hW, World.cell?_alloc_lt _ _ _ (by simp only; omega)]; exact c2
        have KO := Lib.hid (onto_any W.drew r.bd D.length D (s.pend[ks[k]].1, s.pend[ks[k]].2) ((by rw [hW]; exact (HD.out.dur.alloc _).drew : Blk W.drew r.bd 5 (cells8 D).toArray)) rfl (by have := HDl.out; simp only; omega) hsm)
        have H1 := Lib.hid h1
        have HW := Lib.hid hW
        clear h1 hW nb
        have n0' := Lib.hid n0
        have n1' := Lib.hid n1
        have cbW' := Lib.hid cbW
        have c2W' := Lib.hid c2W
        clear n0 n1 cbW c2W
        go_wp2
        rw [← HW.out]
        have n0 := n0'.out
        have n1 := n1'.out
        have cbW := cbW'.out
        have c2W := c2W'.out
        clear n0' n1' cbW' c2W' ck g0 g1 cb c2 c3 c4
        go_still_tail 5, (by kernel_rfl)
        change wpList _ _ _ _ _ W.drew
        go_wp2_with (go_at_call 48; refine KO.out.mono ?_; rintro e w6 ⟨rfl, hb6, o6⟩)
        have R := crash_round hlt hik HD.out HDl.out HOO.out HLay.out _ hX.out (by simp only; omega) _ hb6 (by rw [HW.out] at o6; exact o6)
        clear hb6 o6
        go_roundw
        case rel => exact ⟨k + 1, _, hks, by go_num, R.1, R.2.1, R.2.2.1, R.2.2.2⟩
        case measure => simp [intOf]; omega
    · obtain rfl : k = ks.length := by omega
      have KS := Lib.hid (settle_raw wr.drew B r.p r.bd r.bv D.length _ _ _ _ _ D s.vis _ _ hD.blk.drew hD.dur.drew hD.vis.drew (ownsRow_only hD.pend ((Only.refl (fun _ => False) wr).drew) fun _ _ e => e) hD.ne rfl hD.len hD.small)
      have HC5 : Hid (∀ w5, Only (fun k => k = r.p ∨ k = r.bv ∨ r.pv.ownBlock = some k) wr.drew w5 → w5.cell? ⟨w.heap.size, 0, none⟩ = some (.pointer (some ⟨r.p, 0, none⟩))) := by
        intro w5 o5
        have hpb : ∀ g, r.pv.ownBlock = some g → g < w.heap.size := fun g e => (HH.out.pend.lt g e).2
        have hsz : w.heap.size < wr.heap.size := block_lt_of_cell cb
        refine (o5.cell (p := ⟨w.heap.size, 0, none⟩) hsz ?_).trans cb
        rintro (e | e | e)
        · simp only at e; omega
        · simp only at e; omega
        · have := hpb _ e; simp only at this; omega
      clear hD hDl hLay hO
      go_wp2
      go_still_tail 9, (by kernel_rfl)
      change wpList _ _ _ _ _ wr.drew
      go_wp2_with (go_at_call 65; refine KS.out.mono ?_; rintro e w5 ⟨rfl, hb5, h15, h25, ho5, o5⟩; have cb5 := HC5.out _ o5; have c05 := hb5.cell 0; have c15 := hb5.cell 1; have f05 := hb5.frozen 0; have f15 := hb5.frozen 1; simp only [List.getElem?_toArray, List.getElem?_cons_succ, List.getElem?_cons_zero] at c05 c15; have Q5 := Lib.hid (And.intro hb5 (And.intro h15 (And.intro h25 (And.intro ho5 o5)))); clear hb5 h15 h25 ho5 o5)
      go_ret
      obtain ⟨hb5, h15, h25, ho5, o5⟩ := Q5.out
      have hfin : D = DSt.layAll s.pend torn (s.kept keep) s.dur := by
        have e := HLay.out
        rw [List.drop_of_length_le (Nat.le_refl _)] at e
        rw [← HKS.out, ← e]
        rfl
      have S := settled_crash HD.out rfl hb5 h15 h25 ho5 ⟨o5.os, o5.tape, o5.output, o5.size, o5.block⟩
      have hc : s.crash keep torn = { off := false, left := 0, dur := D, vis := D, pend := [] } := by rw [hfin]; rfl
      have o14 := D4.out.2
      rw [← HWO.out] at o14
      have o1 : Only (fun b => b = r.bd) w wr := (o14.mono fun _ _ e => e.elim).trans' HOO.out
      have T1 : Turned r r w wr := ⟨rfl, o1.mono fun k _ e => .inr (.inl e), fun k e => .inl e⟩
      rw [hc]
      exact ⟨rfl, _, S.1, T1.trans S.2⟩
end Go.Proofs.YtjlgkjhociaeiaaGreatDoor
