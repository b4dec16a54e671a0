/-
  The reference disk: Write.
-/
import Derived.Test.YtacincpecdkhiaaRef2
import Derived.Deep.RegionLawGrows
namespace Go.Proofs.Ytacincpecdkhiaa
open Go.RowKit
set_option linter.unusedVariables false

theorem box_cells (w : World) (a b : Value) (t : TypeId) : ∀ j u, [a, b][j]? = some u → ((w.alloc (.cells #[a, b] t)).cell? ((⟨w.heap.size, 0, none⟩ : Addr).add j) = some u) := by
  intro j u hu
  have hb := Blk.new w t #[a, b]
  rw [add_none, Nat.zero_add]
  exact (hb.cell j).trans (by simpa using hu)

/-- The reference disk behind 'd.L = append(d.L, ..)'. -/
theorem rpushed {w W w1 : World} {r : RRep} {s : DSt} (h : RefAt w r s) (x : Nat × ByteArray) (hx : x.1 + x.2.size ≤ s.dur.length) (hW : Only (fun _ => False) w W) (v' : Value)
    (hown : w1.ownsRow 0 80 2 v' (s.pend.length + 1) (wcells s.pend ++ wcell x)) (hgr : W.grownBy w1 r.lv.ownBlock) (hbk : v'.ownBlock = r.lv.ownBlock ∨ v'.ownBlock = some W.heap.size) :
    Blk w1 r.q 43 #[.slice (some ⟨r.g, 0, none⟩) s.dur.length (s.dur.length + r.rest.length), r.lv, .bool s.off, .int .i64 (s.left : Int)] ∧
    RefAt (w1.setCell ⟨r.q, 1, none⟩ v') { r with lv := v' } { s with pend := s.pend ++ [x], vis := lay s.vis x } ∧ RTurned r { r with lv := v' } w (w1.setCell ⟨r.q, 1, none⟩ v') := by
  have hp1 : Blk w1 r.q 43 _ := (h.blk.only hW id).grown hgr (fun e => own_blk_ne h.l h.blk (by decide) e.symm)
  have hd1 : Blk w1 r.g 5 _ := (h.sure.only hW id).grown hgr (fun e => own_blk_ne h.l h.sure (by decide) e.symm)
  have o1 : Only (fun k => r.lv.ownBlock = some k) w w1 := (hW.mono fun _ _ e => e.elim).trans' ⟨hgr.os, hgr.tape, hgr.output, hgr.size, fun k hk hn => hgr.block k hk fun e => hn e.symm⟩
  have o2 : Only (fun k => k = r.q) w1 (w1.setCell ⟨r.q, 1, none⟩ v') := (Only.refl (fun k => k = r.q) w1).setCell (.inl rfl) _
  have hnp : ∀ k, v'.ownBlock = some k → k ≠ r.q := by
    rintro k hk rfl
    exact own_blk_ne hown hp1 (by decide) hk
  refine ⟨hp1, { h with blk := hp1.set_ 1 _, sure := hd1.only o2 (hd1.ne_ hp1 (by decide)), l := ?_, fits := ?_, fresh := ?_ }, ⟨rfl, ?_, ?_⟩⟩
  · show World.ownsRow _ 0 _ 2 v' (s.pend ++ [x]).length (wcells (s.pend ++ [x]))
    rw [wcells_snoc, List.length_append]
    exact ownsRow_only hown o2 fun k hk e => hnp k hk e
  · intro y hy
    rcases List.mem_append.1 hy with hy | hy
    · exact h.fits y hy
    · obtain rfl := List.mem_singleton.1 hy
      exact hx
  · show lay s.vis x = (s.pend ++ [x]).foldl lay s.dur
    rw [List.foldl_append, ← h.fresh]; rfl
  · exact (o1.mono fun _ _ e => .inr (.inr e)).trans (o2.mono fun _ _ e => .inl e) fun _ _ e => e
  · rintro k (e | e | e)
    · exact .inl (.inl e)
    · exact .inl (.inr (.inl e))
    · rcases hbk with hb | hb
      · exact .inl (.inr (.inr (by rw [← hb]; exact e)))
      · rw [hb] at e
        injection e with e
        exact .inr (by rw [← e]; exact hW.size)
theorem RTurned.then_own {r r' : RRep} {a b c : World} (h : RTurned r r' a b) (o : Only (fun k => k = r'.q) b c) : RTurned r r' a c :=
  ⟨h.q, h.only.trans o fun i hi e => .inl (by rw [e, h.q]), h.foot⟩

set_option maxRecDepth 100000 in
set_option maxHeartbeats 1000000 in
theorem RWrite_good {w : World} {r : RRep} {s : DSt} (h : RefAt w r s) (o : Int) (t : ByteArray) (ho : s.off = false) (hi : s.inside o t.size = true) (hl : s.pend.length ≤ 1000000) :
    Calls Try.prog 30 #[r.ptr, .int .i64 o, .string t] w fun e w' => e = .returned (.int .i64 0) ∧ ∃ r', RefAt w' r' (s.wrote o t) ∧ RTurned r r' w w' := by
  have c0 := h.c0
  have c1 := h.c1
  have c2 := h.c2
  have c3 := h.c3
  have f1 := h.blk.frozen 1
  have hs := h.small
  have HH := Lib.hid h
  obtain ⟨i1, i2, i3, i4⟩ := (s.inside_iff o t.size).1 hi
  obtain ⟨k, rfl⟩ := Int.eq_ofNat_of_zero_le i1
  rw [ho] at c2
  unfold RRep.ptr at *
  have HO := Lib.hid ho
  have hx : k + t.size ≤ s.dur.length := by omega
  clear ho i1 i2 hi
  obtain ⟨A, cc, hpv⟩ := h.lvform
  have HPV := Lib.hid hpv
  have hp := Lib.hid h.l
  have hplt := h.blk.lt
  clear h hpv
  obtain ⟨iW, hiW, z0, z1, z2⟩ := info_parts infoC
  have Z := Lib.hid (And.intro hiW (And.intro z0 (And.intro z1 z2)))
  clear hiW z0 z1 z2
  have hL : s.left = 0 ∨ s.left = 1 ∨ 2 ≤ s.left := by omega
  have hlm := HH.out.left
  have HW : Hid (∀ L : Nat, s.left = L → s.wrote k t = { ({ s with pend := s.pend ++ [(k, t)], vis := lay s.vis (k, t) } : DSt) with off := decide (L = 1), left := L - 1 }) := by
    rintro L rfl; simp [DSt.wrote]
  rcases hL with hL | hL | hL
  all_goals
    go_enter Try.func30, Try.ntmps30
    go_wp2_with (at_builtin
                 go_must (refine wpList_append_own_at _ rfl _ _ 41 rfl 0 80 iW _ 2 24 Try.underlying41 Z.out.1 Z.out.2.1 Z.out.2.2.1 Z.out.2.2.2 rfl (by decide) r.lv s.pend.length (wcells s.pend) rfl (hp.out.alloc _) ⟨w.heap.size, 0, none⟩ 1 1 (wcell (k, t)) rfl rfl (box_cells w _ _ _) (by simp [wcell, Value.oneCell']) (by unfold maxLen; omega) (by omega) (by simp) ?_)
                 intro v' w1 hown hgr _ hbk
                 obtain ⟨g', cap', rfl⟩ := ownsRow_val hown
                 have hq := rpushed HH.out (k, t) hx ((Only.refl (fun _ => False) w).alloc _) _ hown hgr hbk
                 have q1 := hq.1.cell 1
                 have q2 := hq.1.cell 2
                 have q3 := hq.1.cell 3
                 have g1 := hq.1.frozen 1
                 have g2 := hq.1.frozen 2
                 have g3 := hq.1.frozen 3
                 simp only [List.getElem?_toArray, List.getElem?_cons_succ, List.getElem?_cons_zero] at q1 q2 q3
                 have HQ := Lib.hid hq
                 clear hq hown hgr hbk c0 c1 c2 c3 f1)
  · go_ret
    have hR := HQ.out.2.1
    have e := HW.out 0 hL
    have e2 : ({ ({ s with pend := s.pend ++ [(k, t)], vis := lay s.vis (k, t) } : DSt) with off := decide (0 = 1), left := 0 - 1 } : DSt) = { s with pend := s.pend ++ [(k, t)], vis := lay s.vis (k, t) } := by
      have h1 : decide ((0 : Nat) = 1) = s.off := by rw [HO.out]; rfl
      have h2 : 0 - 1 = s.left := by rw [hL]
      rw [h1, h2]
    rw [e2] at e
    rw [e]
    exact ⟨rfl, _, hR, HQ.out.2.2⟩
  · go_ret
    have hR := HQ.out.2.1
    have e := HW.out 1 hL
    have o : Only (fun j => j = r.q) (w1.setCell ⟨r.q, 1, none⟩ (.slice (some ⟨g', 0, none⟩) (s.pend.length + 1) cap')) (((w1.setCell ⟨r.q, 1, none⟩ (.slice (some ⟨g', 0, none⟩) (s.pend.length + 1) cap')).setCell ⟨r.q, 3, none⟩ (.int .i64 0)).setCell ⟨r.q, 2, none⟩ (.bool true)) := ((Only.refl (fun j => j = r.q) _).setCell (p := ⟨r.q, 3, none⟩) (.inl rfl) _).setCell (p := ⟨r.q, 2, none⟩) (.inl rfl) _
    have hf := hR.store o true 0 (by omega) ((hR.blk.set_ 3 _).set_ 2 _)
    rw [e]
    exact ⟨rfl, _, hf, HQ.out.2.2.then_own o⟩
  · go_ret
    have hR := HQ.out.2.1
    have e := HW.out s.left rfl
    have el : ((s.left : Int) - 1) = ((s.left - 1 : Nat) : Int) := by omega
    rw [el]
    have o : Only (fun j => j = r.q) (w1.setCell ⟨r.q, 1, none⟩ (.slice (some ⟨g', 0, none⟩) (s.pend.length + 1) cap')) ((w1.setCell ⟨r.q, 1, none⟩ (.slice (some ⟨g', 0, none⟩) (s.pend.length + 1) cap')).setCell ⟨r.q, 3, none⟩ (.int .i64 ((s.left - 1 : Nat) : Int))) := (Only.refl (fun j => j = r.q) _).setCell (p := ⟨r.q, 3, none⟩) (.inl rfl) _
    have hf := hR.store o s.off (s.left - 1) (by omega) (hR.blk.set_ 3 _)
    have ed : decide (s.left = 1) = s.off := by rw [HO.out, decide_eq_false_iff_not]; omega
    rw [e, ed]
    exact ⟨rfl, _, hf, HQ.out.2.2.then_own o⟩

set_option maxRecDepth 100000 in
set_option maxHeartbeats 1000000 in
theorem RWrite_any {w : World} {r : RRep} {s : DSt} (h : RefAt w r s) (o : Int) (t : ByteArray) (hl : s.pend.length ≤ 1000000) :
    Calls Try.prog 30 #[r.ptr, .int .i64 o, .string t] w fun e w' => e = .returned (.int .i64 (s.write o t).1) ∧ ∃ r', RefAt w' r' (s.write o t).2 ∧ RTurned r r' w w' := by
  cases ho : s.off
  · cases hi : s.inside o t.size
    · have c0 := h.c0
      have c2 := h.c2
      have HH := Lib.hid h
      have hs := h.small
      unfold RRep.ptr
      have HF : Hid (s.write o t = (250, s)) := by show _ = _; simp [DSt.write, ho, hi]
      have hin : ¬ (0 ≤ o ∧ 0 ≤ (t.size : Int) ∧ o ≤ (s.dur.length : Int) ∧ (t.size : Int) ≤ (s.dur.length : Int) - o) := by rw [← DSt.inside_iff, hi]; simp
      have hcs : o < 0 ∨ (¬ o < 0 ∧ (s.dur.length : Int) < o) ∨ (¬ o < 0 ∧ ¬ (s.dur.length : Int) < o ∧ (s.dur.length : Int) - o < (t.size : Int)) := by omega
      rw [ho] at c2
      clear h ho hi hin
      rcases hcs with h1 | ⟨h1, h2⟩ | ⟨h1, h2, h3⟩
      all_goals
        go_enter Try.func30, Try.ntmps30
        go_wp2
        try go_region
        all_goals try go_wp2
        all_goals
          go_ret
          rw [HF.out]
          exact ⟨rfl, r, HH.out, RTurned.refl _ _⟩
    · have e : s.write o t = (0, s.wrote o t) := by simp [DSt.write, ho, hi]
      rw [e]
      exact RWrite_good h o t ho hi hl
  · have c2 := h.c2
    have HH := Lib.hid h
    unfold RRep.ptr
    have HF : Hid (s.write o t = (251, s)) := by show _ = _; simp [DSt.write, ho]
    rw [ho] at c2
    clear h ho
    go_enter Try.func30, Try.ntmps30
    go_wp2
    go_ret
    rw [HF.out]
    exact ⟨rfl, r, HH.out, RTurned.refl _ _⟩
end Go.Proofs.Ytacincpecdkhiaa
