/-
  A write laid over a content (onto); settling; Sync.
-/
import Derived.Test.YtacincpecdkhiaaDWalk2
import Derived.Lib.LazyBuf
import Derived.StillTailTactics
namespace Go.Proofs.Ytacincpecdkhiaa
open Go.RowKit
set_option linter.unusedVariables false

theorem splice_nil {α : Type} (L : List α) (off : Nat) : splice L off [] = L := by simp [splice]

/-- 'copy(b[off:], s)' of a string that fits, as one step of a region that draws: what lies behind is told by 'Blk' and 'Only'. -/
theorem step_copy_lay {P : Program} {ops : Array Oper} {o : Oper} {a : Act} {w : World} {K : Act → World → Prop} {Q : Exit → Act → World → Prop} {E : Prop}
    (hgd : o.guard = none) (d x : Operand) (dT sT : TypeId) (hop : o.op = Op.call { callee := Callee.builtin Builtin.copy, args := #[d, x], argTypes := #[dT, sT] })
    (elem : TypeId) (hu : P.underlying dT = some (.slice elem)) (hs : (P.info? elem).map (·.size) = some 1)
    (dp : Option Addr) (dLen dCap : Nat) (hd : a.eval d = .slice dp dLen dCap) (s : ByteArray) (hx : a.eval x = .string s)
    (g off : Nat) (cur : List UInt8) (t : TypeId) (hb : Blk w g t (cells8 cur).toArray) (hle : s.size ≤ dLen) (hpos : 0 < s.size → dp = some ⟨g, off, none⟩) (hfit : off + s.size ≤ cur.length)
    (hK : ∀ w', Hid (Blk w' g t (cells8 (splice cur off s.data.toList)).toArray) → Hid (Only (fun k => k = g) w w') → K (a.put o.dst (goInt s.size)) w') :
    if Region.wanted o (yielded ops a.tmps) = true then Oper.wp P o a w K Q else E := by
  have hw : Region.wanted o (yielded ops a.tmps) = true := by simp [Region.wanted, hgd]
  rw [if_pos hw]
  by_cases h0 : s.size = 0
  · have hrun := Lib.run_copy_empty_string (P := P) w dT sT o.type elem dp dLen dCap s hu (by cases h : P.info? elem <;> simp [h] at hs ⊢) h0
    have hn : s.data.toList = [] := List.eq_nil_of_length_eq_zero (by rw [size_list]; exact h0)
    have hz : goInt (s.size : Int) = goInt 0 := by rw [h0]; rfl
    unfold Oper.wp
    simp [execOp, hop, resolve, invoke, builtin, hd, hx, hrun, Result.andThen]
    rw [hn, splice_nil] at hK
    have := hK w (show _ from hb) (show _ from Only.refl _ _)
    rw [hz] at this
    exact this
  · obtain rfl := hpos (by omega)
    have hrun := Lib.run_copy_row_string (P := P) w dT sT o.type elem g off dLen dCap s (cells8 cur).toArray t hu hs hb hle (by simpa [cells8] using hfit)
    unfold Oper.wp
    simp [execOp, hop, resolve, invoke, builtin, hd, hx, hrun, Result.andThen]
    refine hK _ ?_ ?_
    · show Blk _ g t _
      have e : (cells8 (splice cur off s.data.toList)) = (cells8 cur).take off ++ (Lib.byteCells s.data.toList ++ (cells8 cur).drop (off + s.size)) := by
        simp [splice, cells8, Lib.byteCells, b8]
      rw [e]
      have := hb.row (((cells8 cur).take off ++ (Lib.byteCells s.data.toList ++ (cells8 cur).drop (off + s.size))).toArray)
      simpa using this
    · exact (Only.refl (fun k => k = g) w).setRow (.inl rfl) _

set_option maxHeartbeats 400000 in
/-- 'w.onto(b)'. -/
theorem onto_any (w : World) (g n : Nat) (cur : List UInt8) (x : Nat × ByteArray) (hb : Blk w g 5 (cells8 cur).toArray) (hn : cur.length = n) (hfit : x.1 + x.2.size ≤ n) (hm : n ≤ 4194304) :
    Calls Try.prog 35 #[.agg #[.int .i64 (x.1 : Int), .string x.2], .slice (some ⟨g, 0, none⟩) n n] w fun e w' => e = .returned (.tuple #[]) ∧ Blk w' g 5 (cells8 (lay cur x)).toArray ∧ Only (fun k => k = g) w w' := by
  obtain ⟨k, s⟩ := x
  simp only at hfit ⊢
  have HL : Hid (lay cur (k, s) = splice cur k s.data.toList) := rfl
  have HB : Hid (Blk w g 5 (cells8 cur).toArray) := hb
  have HN : Hid (cur.length = n) := hn
  have hk : (k : Int) ≤ (n : Int) := by omega
  clear hb hn
  by_cases h : n = k
  · subst h
    have h0 : s.size = 0 := by omega
    go_enter Try.func35, Try.ntmps35
    go_wp2
    go_region_law (refine step_copy_lay rfl (.tmp 7) (.tmp 9) 40 9 rfl 5 Try.underlying40 (by kernel_rfl) (some ⟨g, 0, none⟩) 0 0 (by simp [Act.eval, Act.put]) s (by simp [Act.eval, Act.put]) g n cur 5 ((HB.out.alloc _).drew) (by omega) (fun e => by omega) (by have := HN.out; omega) ?_; intro w' H1 H2)
    all_goals
      go_wp2
      go_end0
      rw [HL.out]
      exact ⟨rfl, H1.out, ((Only.refl _ w).alloc _).drew.trans' H2.out⟩
  · have hk2 : k < n := by omega
    go_enter Try.func35, Try.ntmps35
    go_wp2
    go_region_law (refine step_copy_lay rfl (.tmp 7) (.tmp 9) 40 9 rfl 5 Try.underlying40 (by kernel_rfl) (some ⟨g, k, none⟩) (n - k) (n - k) (by simp [Act.eval, Act.put]) s (by simp [Act.eval, Act.put]) g k cur 5 ((HB.out.alloc _).drew) (by omega) (fun e => rfl) (by have := HN.out; omega) ?_; intro w' H1 H2)
    all_goals
      go_wp2
      go_end0
      rw [HL.out]
      exact ⟨rfl, H1.out, ((Only.refl _ w).alloc _).drew.trans' H2.out⟩

theorem run_copy_whole {P : Program} (w : World) (dT sT ty elem : TypeId) (n g1 g2 : Nat) (X Y : List UInt8) (t : TypeId) (hu : P.underlying dT = some (.slice elem)) (hs : (P.info? elem).map (·.size) = some 1)
    (h1 : Blk w g1 t (cells8 X).toArray) (h2 : Blk w g2 t (cells8 Y).toArray) (hX : X.length = n) (hY : Y.length = n) :
    (Builtin.copy_ #[dT, sT] ty #[.slice (some ⟨g2, 0, none⟩) n n, .slice (some ⟨g1, 0, none⟩) n n]).run P w = .ok (goInt n) (w.setRow g2 (cells8 X).toArray) := by
  have := Go.run_copy_row (P := P) w dT sT ty elem g2 0 n n ⟨g1, 0, none⟩ n n (cells8 Y).toArray t (cells8 X) hu hs h2 (by simp [cells8, hX]) (fun j v hv => by
    have e : (⟨g1, 0, none⟩ : Addr).add j = ⟨g1, j, none⟩ := by unfold Addr.add; split <;> simp_all
    rw [e, h1.cell j]
    simpa using hv) (by simp [cells8, hX, hY]) (cells8_one X)
  rw [this]
  have e1 : (cells8 X).length = n := by rw [cells8_length, hX]
  have e2 : (cells8 Y).drop n = [] := List.drop_eq_nil_of_le (by rw [cells8_length, hY]; exact Nat.le_refl _)
  simp [e1, e2]

theorem zeroW (w : World) : (zeroValue 69).run Try.prog w = .ok (.agg #[.int .i64 0, .string ByteArray.empty]) w := by kernel_rfl

/-- 'clear(d.pending)': the pending row behind it still belongs to the disk. -/
theorem run_clear_pend (w : World) (B : Nat) (v : Value) (n : Nat) (xs : List Value) (hown : w.ownsRow B 69 2 v n xs) :
    ∃ w', (∀ ty, (Builtin.clear_ #[63] ty #[v]).run Try.prog w = .ok (.tuple #[]) w') ∧ Only (fun k => v.ownBlock = some k) w w' ∧ ∃ ys, w'.ownsRow B 69 2 v n ys := by
  have hu := Try.underlying63
  rcases hown.2 with ⟨rfl, rfl⟩ | ⟨g, cap, cur, rfl, hb, hg, hnc, hcm, hcs, hx⟩
  · refine ⟨w, fun ty => ?_, Only.refl _ _, _, hown⟩
    simp [Builtin.clear_, run_underlying hu]
  · by_cases h0 : n = 0
    · subst h0
      refine ⟨w, fun ty => ?_, Only.refl _ _, _, hown⟩
      simp [Builtin.clear_, run_underlying hu]
    · have hlen : (Builtin.zeroCells #[Value.int .i64 0, .string ByteArray.empty] n).toList.length = n * 2 := by simp [Builtin.zeroCells]
      have hone : ∀ v ∈ (Builtin.zeroCells #[Value.int .i64 0, .string ByteArray.empty] n).toList, v.oneCell' = true := by
        intro v hv
        simp only [Builtin.zeroCells, Array.toList_map, List.mem_map] at hv
        obtain ⟨i, _, rfl⟩ := hv
        have : i % 2 = 0 ∨ i % 2 = 1 := by omega
        rcases this with e | e <;> simp [e, Value.oneCell']
      have hzr : ∀ ty, (Builtin.clear_ #[63] ty #[Value.slice (some ⟨g, 0, none⟩) n cap]).run Try.prog w = ((storeCells ⟨g, 0, none⟩ (Builtin.zeroCells #[Value.int .i64 0, .string ByteArray.empty] n).toList).run Try.prog w).andThen fun _ w' => .ok (.tuple #[]) w' := by
        intro ty
        obtain ⟨m, rfl⟩ : ∃ m, n = m + 1 := ⟨n - 1, by omega⟩
        simp [Builtin.clear_, run_underlying hu, Value.cells]
        rfl
      generalize (Builtin.zeroCells #[Value.int .i64 0, .string ByteArray.empty] n).toList = zl at *
      have hst := run_storeCells_at Try.prog g 0 69 zl 0 cur w hg (by rw [hlen, hcs]; omega) hone
      refine ⟨w.setRow g (zl ++ cur.toList.drop (n * 2)).toArray, fun ty => ?_, (Only.refl (fun k => (Value.slice (some ⟨g, 0, none⟩) n cap).ownBlock = some k) w).setRow (.inl rfl) _, zl, hlen, .inr ⟨g, cap, _, rfl, hb, setRow_heap w g cur _ _ _ hg, hnc, hcm, ?_, ?_⟩⟩
      · rw [hzr, hst, hlen]
        simp
      · simp [hlen]; omega
      · simp [hlen]

/-- The pending value cut to length 0. -/
def cutPv : Value → Value
  | .slice a _ c => .slice a 0 c
  | v => v
theorem cutPv_block (v : Value) : (cutPv v).ownBlock = v.ownBlock := by
  unfold cutPv
  split
  · rename_i a n c; cases a <;> rfl
  · rfl
theorem cutPv_own {w : World} {B : Nat} {e : TypeId} {size n : Nat} {v : Value} {xs : List Value} (h : w.ownsRow B e size v n xs) : w.ownsRow B e size (cutPv v) 0 [] := by
  refine ⟨by simp, ?_⟩
  rcases h.2 with ⟨rfl, _⟩ | ⟨g, cap, cur, rfl, hb, hg, hn, hm, hs, _⟩
  · exact .inl ⟨rfl, rfl⟩
  · exact .inr ⟨g, cap, cur, rfl, hb, hg, Nat.zero_le _, hm, hs, by simp⟩

set_option maxHeartbeats 1000000 in
/-- 'd.settle(from, to)': the contents X (block g1) go over to block g2; no pending writes are left. -/
theorem settle_raw (w : World) (B p g1 g2 n : Nat) (v0 v1 v2 v3 pv : Value) (X Y : List UInt8) (m : Nat) (xs : List Value)
    (hp : Blk w p 65 #[v0, v1, v2, v3, pv]) (h1 : Blk w g1 5 (cells8 X).toArray) (h2 : Blk w g2 5 (cells8 Y).toArray) (hown : w.ownsRow B 69 2 pv m xs) (hne : g1 ≠ g2)
    (hX : X.length = n) (hY : Y.length = n) (hm : n ≤ 4194304) :
    Calls Try.prog 37 #[.pointer (some ⟨p, 0, none⟩), .slice (some ⟨g1, 0, none⟩) n n, .slice (some ⟨g2, 0, none⟩) n n] w fun e w' => e = .returned (.tuple #[]) ∧
      Blk w' p 65 #[v0, v1, v2, v3, cutPv pv] ∧ Blk w' g1 5 (cells8 X).toArray ∧ Blk w' g2 5 (cells8 X).toArray ∧ w'.ownsRow B 69 2 (cutPv pv) 0 [] ∧ Only (fun k => k = p ∨ k = g2 ∨ pv.ownBlock = some k) w w' := by
  have hcp := fun ty => run_copy_whole (P := Try.prog) w 40 40 ty 5 n g1 g2 X Y 5 Try.underlying40 (by kernel_rfl) h1 h2 hX hY
  have o1 : Only (fun k => k = g2) w (w.setRow g2 (cells8 X).toArray) := (Only.refl (fun k => k = g2) w).setRow (.inl rfl) _
  have p1 : Blk (w.setRow g2 (cells8 X).toArray) p 65 #[v0, v1, v2, v3, pv] := hp.only o1 (hp.ne_ h2 (by decide))
  have own1 : (w.setRow g2 (cells8 X).toArray).ownsRow B 69 2 pv m xs := ownsRow_only hown o1 fun k hk e => own_blk_ne hown h2 (by decide) (by rw [hk, e])
  have x1 : Blk (w.setRow g2 (cells8 X).toArray) g1 5 (cells8 X).toArray := h1.only o1 hne
  have x2 : Blk (w.setRow g2 (cells8 X).toArray) g2 5 (cells8 X).toArray := h2.row _
  have n1 := fun k (hk : pv.ownBlock = some k) (e : k = p) => own_blk_ne hown hp (by decide) (by rw [hk, e])
  have n2 := fun k (hk : pv.ownBlock = some k) (e : k = g1) => own_blk_ne hown h1 (by decide) (by rw [hk, e])
  have n3 := fun k (hk : pv.ownBlock = some k) (e : k = g2) => own_blk_ne hown h2 (by decide) (by rw [hk, e])
  have np : p ≠ g1 := hp.ne_ h1 (by decide)
  have np2 : p ≠ g2 := hp.ne_ h2 (by decide)
  clear hp h1 h2 hown
  generalize hW : w.setRow g2 (cells8 X).toArray = W at *
  have HW := Lib.hid hW
  clear hW
  obtain ⟨w2, hcl, o2, ys, hown2⟩ := run_clear_pend W B pv m xs own1
  have p2 : Blk w2 p 65 #[v0, v1, v2, v3, pv] := p1.only o2 fun e => n1 _ e rfl
  have y1 : Blk w2 g1 5 (cells8 X).toArray := x1.only o2 fun e => n2 _ e rfl
  have y2 : Blk w2 g2 5 (cells8 X).toArray := x2.only o2 fun e => n3 _ e rfl
  have cw := p1.cell 4
  have c2 := p2.cell 4
  have f2 := p2.frozen 4
  simp only [List.getElem?_toArray, List.getElem?_cons_succ, List.getElem?_cons_zero] at cw c2
  have fin : ∀ u, u = cutPv pv → Blk (w2.setCell ⟨p, 4, none⟩ u) p 65 #[v0, v1, v2, v3, cutPv pv] ∧ Blk (w2.setCell ⟨p, 4, none⟩ u) g1 5 (cells8 X).toArray ∧ Blk (w2.setCell ⟨p, 4, none⟩ u) g2 5 (cells8 X).toArray ∧ (w2.setCell ⟨p, 4, none⟩ u).ownsRow B 69 2 (cutPv pv) 0 [] ∧ Only (fun k => k = p ∨ k = g2 ∨ pv.ownBlock = some k) w (w2.setCell ⟨p, 4, none⟩ u) := by
    rintro u rfl
    have o3 : Only (fun k => k = p) w2 (w2.setCell ⟨p, 4, none⟩ (cutPv pv)) := (Only.refl (fun k => k = p) w2).setCell (.inl rfl) _
    refine ⟨p2.set_ 4 _, y1.only o3 np.symm, y2.only o3 np2.symm, ownsRow_only (cutPv_own hown2) o3 fun k hk e => n1 k (by rw [← cutPv_block]; exact hk) e, ?_⟩
    exact ((o1.mono fun _ _ e => .inr (.inl e)).trans' ((o2.mono fun _ _ e => .inr (.inr e)))).trans' (o3.mono fun _ _ e => .inl e)
  have FIN := Lib.hid fin
  clear fin p1 p2 x1 x2 y1 y2 o1 o2 n1 n2 n3 np np2 hown2
  rcases own1.2 with ⟨rfl, rfl⟩ | ⟨g, cap, cur, rfl, _, _, hnc, hcm, _⟩
  · clear own1
    go_enter Try.func37, Try.ntmps37
    go_wp2
    go_end0
    exact ⟨rfl, FIN.out _ rfl⟩
  · clear own1
    unfold maxLen at hcm
    go_enter Try.func37, Try.ntmps37
    go_wp2
    go_end0
    exact ⟨rfl, FIN.out _ rfl⟩
end Go.Proofs.Ytacincpecdkhiaa
