/-
  Sync and Write.
-/
import Derived.Test.YtacincpecdkhiaaDWalk3
import Derived.Deep.RegionLawGrows
import Derived.Maps.AppendAt
namespace Go.Proofs.Ytacincpecdkhiaa
open Go.RowKit
set_option linter.unusedVariables false

/-- What settling leaves, as a disk. -/
theorem settled_sync {B : Nat} {w w' : World} {r : DRep} {s : DSt} (h : DiskAt B w r s)
    (hb : Blk w' r.p 65 #[.bool s.off, .int .i64 (s.left : Int), .slice (some ⟨r.bd, 0, none⟩) s.dur.length s.dur.length, .slice (some ⟨r.bv, 0, none⟩) s.dur.length s.dur.length, cutPv r.pv])
    (h1 : Blk w' r.bv 5 (cells8 s.vis).toArray) (h2 : Blk w' r.bd 5 (cells8 s.vis).toArray) (ho : w'.ownsRow B 69 2 (cutPv r.pv) 0 []) (o : Only (fun k => k = r.p ∨ k = r.bd ∨ r.pv.ownBlock = some k) w w') :
    DiskAt B w' { r with pv := cutPv r.pv } s.synced ∧ Turned r { r with pv := cutPv r.pv } w w' := by
  refine ⟨{ h with blk := ?_, dur := h2, vis := h1, pend := ho, len := rfl, small := ?_, fits := by intro x hx; simp [DSt.synced] at hx }, rfl, ?_, ?_⟩
  · show Blk w' r.p _ #[.bool s.off, .int .i64 (s.left : Int), .slice (some ⟨r.bd, 0, none⟩) s.vis.length s.vis.length, .slice (some ⟨r.bv, 0, none⟩) s.vis.length s.vis.length, cutPv r.pv]
    rw [h.len]; exact hb
  · show s.vis.length ≤ _; rw [h.len]; exact h.small
  · exact o.mono fun k _ e => e.elim .inl fun e => e.elim (fun x => .inr (.inl x)) fun x => .inr (.inr (.inr x))
  · rintro k (e | e | e | e)
    · exact .inl (.inl e)
    · exact .inl (.inr (.inl e))
    · exact .inl (.inr (.inr (.inl e)))
    · exact .inl (.inr (.inr (.inr (by rw [← cutPv_block]; exact e))))

set_option maxHeartbeats 1000000 in
theorem Sync_any {B : Nat} {w : World} {r : DRep} {s : DSt} (h : DiskAt B w r s) :
    Calls Try.prog 23 #[r.ptr] w fun e w' => e = .returned (.int .i64 s.sync.1) ∧ ∃ r', DiskAt B w' r' s.sync.2 ∧ Turned r r' w w' := by
  have c2 := h.c2
  have c3 := h.c3
  have hs := h.small
  have K := Lib.hid (check_any h)
  have HH : Hid (DiskAt B w r s) := h
  unfold DRep.ptr at *
  cases ho : s.off
  · have HP : Hid (s.power = 0) := by show s.power = 0; simp [DSt.power, ho]
    have HF : Hid (s.sync = (0, s.synced)) := by show s.sync = _; simp [DSt.sync, ho]
    rw [HP.out] at K
    have S := settle_raw w.drew B r.p r.bv r.bd s.dur.length _ _ _ _ _ s.vis s.dur _ _ h.blk.drew h.vis.drew h.dur.drew (ownsRow_only h.pend ((Only.refl (fun _ => False) w).drew) fun _ _ e => e) h.ne.symm h.len rfl hs
    have KS := Lib.hid S
    clear S h ho
    go_enter Try.func23, Try.ntmps23
    go_wp2_with (go_at_call 28; refine K.out.mono ?_; rintro e w' ⟨rfl, rfl⟩)
    go_region_with (go_at_call 37; refine KS.out.mono ?_; rintro e w1 ⟨rfl, hb, h1, h2, hp, ho⟩)
    all_goals
      go_wp2
      go_ret
      rw [HF.out]
      exact ⟨rfl, _, settled_sync HH.out hb h1 h2 hp ⟨ho.os, ho.tape, ho.output, ho.size, ho.block⟩⟩
  · have HP : Hid (s.power = 251) := by show s.power = 251; simp [DSt.power, ho]
    have HF : Hid (s.sync = (251, s)) := by show s.sync = _; simp [DSt.sync, ho]
    rw [HP.out] at K
    clear h ho
    go_enter Try.func23, Try.ntmps23
    go_wp2_with (go_at_call 28; refine K.out.mono ?_; rintro e w' ⟨rfl, rfl⟩)
    go_ret
    rw [HF.out]
    exact ⟨rfl, r, HH.out, Turned.refl _ _⟩

theorem wcells_length (l : List (Nat × ByteArray)) : (wcells l).length = l.length * 2 := by
  induction l with
  | nil => rfl
  | cons x l ih => simp only [wcells, List.flatMap_cons, List.length_append, List.length_cons] at ih ⊢; rw [ih]; simp [wcell]; omega
theorem wcells_snoc (l : List (Nat × ByteArray)) (x : Nat × ByteArray) : wcells (l ++ [x]) = wcells l ++ wcell x := by simp [wcells]

/-- append onto a row of the disk's own, as one step of a region that draws. -/
theorem step_append_at {P : Program} {ops : Array Oper} {o : Oper} {a : Act} {w : World} {K : Act → World → Prop} {Q : Exit → Act → World → Prop} {E : Prop}
    (hg : o.guard = none) (s x : Operand) (t : TypeId) (hop : o.op = Op.call { callee := Callee.builtin Builtin.append, args := #[s, x], argTypes := #[t, t] })
    (base : Nat) (e : TypeId) (i : TypeInfo) (z : Value) (size bytes : Nat) (h1 : P.underlying t = some (.slice e)) (h2 : P.info? e = some i) (h3 : i.zero = some z) (h4 : i.size = size) (h5 : i.bytes = bytes) (h6 : z.cells.size = size) (h7 : 0 < size)
    (v : Value) (n : Nat) (xs : List Value) (hs : a.eval s = v) (hown : w.ownsRow base e size v n xs)
    (ad : Addr) (m c : Nat) (news : List Value) (hx : a.eval x = .slice (some ad) m c) (hn : news.length = m * size) (hc : ∀ j u, news[j]? = some u → w.cell? (ad.add j) = some u) (h1c : ∀ u ∈ news, u.oneCell' = true)
    (b1 : n + m ≤ maxLen) (b2 : (n + m) * bytes ≤ 140737488355328) (hbase : base ≤ w.heap.size)
    (hK : ∀ v' w', w'.ownsRow base e size v' (n + m) (xs ++ news) → w.grownBy w' v.ownBlock → (v'.ownBlock = v.ownBlock ∨ v'.ownBlock = some w.heap.size) → K (a.put o.dst v') w') :
    if Region.wanted o (yielded ops a.tmps) = true then Oper.wp P o a w K Q else E := by
  have hw : Region.wanted o (yielded ops a.tmps) = true := by simp [Region.wanted, hg]
  rw [if_pos hw]
  obtain ⟨v', w', hrun, r1, r2, _, r3⟩ := run_append_own_at (P := P) w base t o.type e i z size bytes h1 h2 h3 h4 h5 h6 h7 v n xs hown ad m c news hn hc h1c b1 b2 hbase
  unfold Oper.wp
  simp [execOp, hop, resolve, invoke, builtin, hs, hx, hrun, Result.andThen]
  exact hK v' w' r1 r2 r3

theorem ownsRow_val {w : World} {base : Nat} {e : TypeId} {size n : Nat} {v : Value} {xs : List Value} (h : w.ownsRow base e size v (n + 1) xs) : ∃ g cap, v = .slice (some ⟨g, 0, none⟩) (n + 1) cap := by
  rcases h.2 with ⟨_, h0⟩ | ⟨g, cap, _, rfl, _⟩
  · omega
  · exact ⟨g, cap, rfl⟩

/-- The disk behind 'd.pending = append(d.pending, w)'. -/
theorem pushed {B : Nat} {w W w1 : World} {r : DRep} {s : DSt} (h : DiskAt B w r s) (hB : B ≤ w.heap.size) (x : Nat × ByteArray) (hx : x.1 + x.2.size ≤ s.dur.length) (hW : Only (fun _ => False) w W) (v' : Value)
    (hown : w1.ownsRow B 69 2 v' (s.pend.length + 1) (wcells s.pend ++ wcell x)) (hgr : W.grownBy w1 r.pv.ownBlock) (hbk : v'.ownBlock = r.pv.ownBlock ∨ v'.ownBlock = some W.heap.size) :
    Blk w1 r.p 65 #[.bool s.off, .int .i64 (s.left : Int), .slice (some ⟨r.bd, 0, none⟩) s.dur.length s.dur.length, .slice (some ⟨r.bv, 0, none⟩) s.dur.length s.dur.length, r.pv] ∧
    DiskAt B (w1.setCell ⟨r.p, 4, none⟩ v') { r with pv := v' } { s with pend := s.pend ++ [x] } ∧ Turned r { r with pv := v' } w (w1.setCell ⟨r.p, 4, none⟩ v') ∧
    (∀ g, w.heap.size ≤ g → g < W.heap.size → ∀ i, (w1.setCell ⟨r.p, 4, none⟩ v').cell? ⟨g, i, none⟩ = W.cell? ⟨g, i, none⟩) := by
  have hp1 : Blk w1 r.p 65 _ := (h.blk.only hW id).grown hgr (fun e => own_blk_ne h.pend h.blk (by decide) e.symm)
  have hd1 : Blk w1 r.bd 5 _ := (h.dur.only hW id).grown hgr (fun e => own_blk_ne h.pend h.dur (by decide) e.symm)
  have hv1 : Blk w1 r.bv 5 _ := (h.vis.only hW id).grown hgr (fun e => own_blk_ne h.pend h.vis (by decide) e.symm)
  have o1 : Only (fun k => r.pv.ownBlock = some k) w w1 := (hW.mono fun _ _ e => e.elim).trans' ⟨hgr.os, hgr.tape, hgr.output, hgr.size, fun k hk hn => hgr.block k hk fun e => hn e.symm⟩
  have o2 : Only (fun k => k = r.p) w1 (w1.setCell ⟨r.p, 4, none⟩ v') := (Only.refl (fun k => k = r.p) w1).setCell (.inl rfl) _
  have hnp : ∀ k, v'.ownBlock = some k → k ≠ r.p := by
    rintro k hk rfl
    exact own_blk_ne hown hp1 (by decide) hk
  refine ⟨hp1, { h with blk := ?_, dur := hd1.only o2 (hd1.ne_ hp1 (by decide)), vis := hv1.only o2 (hv1.ne_ hp1 (by decide)), pend := ?_, fits := ?_ }, ⟨rfl, ?_, ?_⟩, ?_⟩
  · exact hp1.set_ 4 _
  · show World.ownsRow _ B _ 2 v' (s.pend ++ [x]).length (wcells (s.pend ++ [x]))
    rw [wcells_snoc, List.length_append]
    exact ownsRow_only hown o2 fun k hk e => hnp k hk e
  · intro y hy
    rcases List.mem_append.1 hy with hy | hy
    · exact h.fits y hy
    · obtain rfl := List.mem_singleton.1 hy
      exact hx
  · exact (o1.mono fun _ _ e => .inr (.inr (.inr e))).trans (o2.mono fun _ _ e => .inl e) fun _ _ e => e
  · rintro k (e | e | e | e)
    · exact .inl (.inl e)
    · exact .inl (.inr (.inl e))
    · exact .inl (.inr (.inr (.inl e)))
    · rcases hbk with hb | hb
      · exact .inl (.inr (.inr (.inr (by rw [← hb]; exact e))))
      · rw [hb] at e
        injection e with e
        exact .inr (by rw [← e]; exact hW.size)
  · intro g hg hg2 i
    have hlt := h.blk.lt
    rw [World.cell?_setCell_other _ _ _ _ (by intro e; have : r.p = g := congrArg Addr.block e; omega)]
    exact World.cell?_of_block (hgr.block g hg2 fun e => by have := (h.pend.lt g e.symm).2; omega)
end Go.Proofs.Ytacincpecdkhiaa
