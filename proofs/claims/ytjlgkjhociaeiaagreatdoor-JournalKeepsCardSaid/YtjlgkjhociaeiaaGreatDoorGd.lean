/-
  Joined by program out of: BRow, Chunk, Chunk2.
-/
import Derived.Test.YtjlgkjhociaeiaaGreatDoorGa
import Derived.Test.YtjlgkjhociaeiaaGreatDoorGc
import Derived.ArgAppend
import Derived.Lib.ConvBytes
import Derived.OwnWalkIn
import Derived.Lib.Hide
import Derived.RangeFuncBox
import Derived.RangeFuncLeaves
import Derived.RangeFuncNested
import Derived.Shelf.Abstract
import Derived.WalkKit
import Derived.TacticsInMore
import Derived.LoopNIn
import Derived.LoopIn
import Derived.RegionIn
import Derived.Maps.AppendAt
import Derived.RangeFuncBound
namespace Go.Proofs.YtjlgkjhociaeiaaGreatDoor
open Go.RowKit
set_option linter.unusedVariables false

/-- v is a slice, from its row's head on, of the bytes l, in a block from B on. (A mark of the conversion lies behind the row's end.) -/
def BRow (B : Nat) (w : World) (v : Value) (l : List UInt8) : Prop :=
  ∃ g cap, v = .slice (some ⟨g, 0, none⟩) l.length cap ∧ B ≤ g ∧ l.length ≤ cap ∧ cap ≤ maxLen ∧ ∃ cur t fz, w.heap[g]? = some (.cells cur t fz) ∧ cur.size = cap ∧ (fz = (0, 0) ∨ cap ≤ fz.1) ∧ ∀ j (h : j < l.length), cur[j]? = some (b8 l[j])

section
variable {B : Nat} {w w' : World} {v : Value} {l : List UInt8}
theorem BRow.below {B' : Nat} (h : BRow B w v l) (hb : Below B' w w') (hl : ∀ k, v.ownBlock = some k → k < B') : BRow B w' v l := by
  obtain ⟨g, cap, rfl, h1, h2, h3, cur, t, fz, hh, r⟩ := h
  exact ⟨g, cap, rfl, h1, h2, h3, cur, t, fz, (hb.block g (hl g rfl)).trans hh, r⟩
theorem BRow.lt (h : BRow B w v l) : ∀ k, v.ownBlock = some k → k < w.heap.size := by
  obtain ⟨g, cap, rfl, h1, h2, h3, cur, t, fz, hh, r⟩ := h
  rintro k hk
  obtain rfl : g = k := by simpa [Value.ownBlock] using hk
  exact (Array.getElem?_eq_some_iff.1 hh).1
theorem BRow.form (h : BRow B w v l) : ∃ g cap, v = .slice (some ⟨g, 0, none⟩) l.length cap ∧ B ≤ g ∧ l.length ≤ cap ∧ g < w.heap.size ∧ ∀ j (h : j < l.length), w.cell? ⟨g, j, none⟩ = some (b8 l[j]) := by
  obtain ⟨g, cap, rfl, h1, h2, h3, cur, t, fz, hh, h4, h5, h6⟩ := h
  refine ⟨g, cap, rfl, h1, h2, (Array.getElem?_eq_some_iff.1 hh).1, fun j hj => ?_⟩
  rw [World.cell?]
  simp [hh, h6 j hj]
theorem BRow.of_owns {n : Nat} (h : w.ownsRow B 5 1 v n (cells8 l)) (hn : n = l.length) (h0 : 0 < n) : BRow B w v l := by
  rcases h.2 with ⟨_, h1⟩ | ⟨g, cap, cur, rfl, hb, hh, h1, h2, h3, h4⟩
  · omega
  · subst hn
    refine ⟨g, cap, rfl, hb, h1, h2, cur, _, (0, 0), hh, by omega, .inl rfl, fun j hj => ?_⟩
    have : (cur.toList.take (l.length * 1))[j]? = (cells8 l)[j]? := by rw [h4]
    rw [List.getElem?_take_of_lt (by omega), cells8_get _ _ hj] at this
    simpa using this
end

theorem below_bytesWorld (w : World) (e : TypeId) (s : ByteArray) (B : Nat) (hB : B ≤ w.heap.size) : Below B w (Lib.bytesWorld w e s) :=
  ⟨rfl, rfl, rfl, by rw [Lib.bytesWorld_size]; omega, fun k hk => Lib.bytesWorld_at_old w e s k (by omega)⟩
theorem BRow.start (w : World) (s : ByteArray) (B : Nat) (hB : B ≤ w.heap.size) (hs : s.size ≤ 9223372036854775807) : BRow B (Lib.bytesWorld w 5 s) (.slice (some ⟨w.heap.size, 0, none⟩) s.size (grownCap w s.size 0 5)) s.data.toList := by
  have h1 := grownCap_ge w s.size 0 5
  have h2 := grownCap_le_maxLen w s.size 0 5 (by unfold maxLen; omega)
  have hsz : (Lib.bytesCells w 5 s).size = grownCap w s.size 0 5 := by
    unfold Lib.bytesCells
    simp only [Array.size_append, Array.size_map, Array.size_replicate]
    show s.size + _ = _
    omega
  refine ⟨w.heap.size, grownCap w s.size 0 5, by rw [size_list], hB, by rw [size_list]; exact h1, h2, _, _, _, Lib.bytesWorld_at_new w _ s, hsz, .inr (by rw [hsz]; exact Nat.le_refl _), fun j hj => ?_⟩
  have hj' : j < s.data.size := by simpa using hj
  unfold Lib.bytesCells
  rw [Array.getElem?_append_left (by simpa using hj')]
  rw [Array.getElem?_map, Array.getElem?_eq_getElem hj']
  rfl

theorem info8' : (Tryz.prog.info? 5).map (fun i => (i.zero, i.size, i.bytes)) = some (some (.int .u8 0), 1, 1) := by kernel_rfl
/-- 'append(v, c)': one byte more. -/
theorem run_append_byte {w : World} {B : Nat} {v : Value} {l : List UInt8} (hb : BRow B w v l) (ad : Addr) (m : Nat) (c : UInt8) (ty : TypeId) (hc : w.cell? ad = some (b8 c)) (hB : B ≤ w.heap.size) (hl : l.length ≤ 70368744177664) :
    ∃ v' w', (Builtin.append_ #[39, 39] ty #[v, .slice (some ad) 1 m]).run Tryz.prog w = .ok v' w' ∧ BRow B w' v' (l ++ [c]) ∧ Below B w w' := by
  obtain ⟨g, cap, rfl, h1, h2, h3, cur, t, fz, hh, h4, h5, h6⟩ := hb
  obtain ⟨i0, hi, hz0, hz1, hz2⟩ := info_parts info8'
  have hcell : ∀ j, w.cell? ⟨g, j, none⟩ = cur[j]? := fun j => by simp [World.cell?, hh]
  have hfree : ∀ j, j < cap → w.frozen? ⟨g, j, none⟩ = false := fun j hj => by
    simp only [World.frozen?, hh]
    rcases h5 with rfl | h5
    · simp
    · simp; omega
  have e0 : ad.add 0 = ad := rfl
  have hnews : ∀ j u, [b8 c][j]? = some u → w.cell? (ad.add j) = some u := fun j u hu => by
    match j, hu with
    | 0, hu => rw [e0, hc]; simpa using hu
  by_cases hr : l.length + 1 ≤ cap
  · have hrun := run_append_room_cells (P := Tryz.prog) w 39 ty 5 i0 Tryz.underlying39 hi g 0 l.length cap ad 1 m [b8 c] (by rw [hz1]; rfl) hnews (fun u hu => by simp at hu; subst hu; rfl) hr
      (fun j hj => by
        have hj0 : j = 0 := by simpa using hj
        subst hj0
        rw [hz1, hcell]
        simp
        omega) (fun j hj => by
        have hj0 : j = 0 := by simpa using hj
        subst hj0
        rw [hz1]
        exact hfree _ (by omega))
    rw [hz1] at hrun
    refine ⟨_, _, hrun, ⟨g, cap, by simp, h1, by simpa using hr, h3, cur.setIfInBounds l.length (b8 c), t, fz, ?_, by simpa using h4, h5, fun j hj => ?_⟩, ?_⟩
    · show (w.setCell ⟨g, 0 + l.length * 1, none⟩ (b8 c)).heap[g]? = _
      rw [Nat.zero_add, Nat.mul_one]
      simp [World.setCell, Array.getElem?_modify, hh]
    · rw [Array.getElem?_setIfInBounds]
      by_cases e : l.length = j
      · subst e
        rw [if_pos rfl, if_pos (by omega)]
        simp
      · have hj' : j < l.length := by simp at hj; omega
        rw [if_neg e, h6 j hj', List.getElem_append_left hj']
    · exact (Below.refl B w).setCell (p := ⟨g, 0 + l.length * 1, none⟩) h1 _
  · obtain ⟨v', w', hrun, ho, hgr⟩ := run_append_arg_grows (P := Tryz.prog) w 39 ty 5 i0 (.int .u8 0) 1 1 Tryz.underlying39 hi hz0 hz1 hz2 rfl (by decide) ⟨g, 0, none⟩ l.length cap (cells8 l) (by simp [cells8])
      (fun j u hu => by
        have hj : j < l.length := by
          rcases Nat.lt_or_ge j l.length with e | e
          · exact e
          · rw [List.getElem?_eq_none (by simpa [cells8] using e)] at hu; cases hu
        rw [cells8_get _ _ hj] at hu
        rw [show (⟨g, 0, none⟩ : Addr).add j = ⟨g, 0 + j, none⟩ from Addr.add_lit _ _ _, Nat.zero_add, hcell, h6 j hj, hu]) ad 1 m [b8 c] rfl hnews (by omega) (by unfold maxLen; omega) (by omega)
    have ho' : w'.ownsRow w.heap.size 5 1 v' (l.length + 1) (cells8 (l ++ [c])) := by simpa [cells8] using ho
    exact ⟨v', w', hrun, BRow.of_owns (ownsRow_base ho' fun k hk => Nat.le_trans hB (ho.lt k hk).1) (by simp) (by omega), (Below.refl B w).grown hgr hB (fun k e => by cases e)⟩
theorem wpList_append_byte {ops : Array Oper} {rest : List Oper} {o : Oper} {a : Act} {w : World} {Q : Exit → Act → World → Prop} (hg : o.guard = none) (s x : Operand)
    (hop : o.op = Op.call { callee := Callee.builtin Builtin.append, args := #[s, x], argTypes := #[39, 39] }) {B : Nat} {v : Value} {l : List UInt8} (hb : BRow B w v l) (hs : a.eval s = v)
    (ad : Addr) (m : Nat) (c : UInt8) (hx : a.eval x = .slice (some ad) 1 m) (hc : w.cell? ad = some (b8 c)) (hB : B ≤ w.heap.size) (hl : l.length ≤ 70368744177664)
    (h : ∀ v' w', BRow B w' v' (l ++ [c]) → Below B w w' → wpList Tryz.prog ops Q rest (a.put o.dst v') w') : wpList Tryz.prog ops Q (o :: rest) a w := by
  refine wpList_plain hg fun K hK' => ?_
  obtain ⟨v', w', hrun, r1, r2⟩ := run_append_byte hb ad m c o.type hc hB hl
  unfold Oper.wp
  simp [execOp, hop, resolve, invoke, builtin, hs, hx, hrun, Result.andThen]
  exact hK' _ _ (h v' w' r1 r2)
theorem wpListIn_add_byte {F : Fence} {n : Nat} {ops : Array Oper} {rest : List Oper} {o : Oper} {a : Act} {w : World} {Q : Exit → Act → World → Prop} (hg : o.guard = none) (s x : Operand)
    (hop : o.op = Op.call { callee := Callee.builtin Builtin.append, args := #[s, x], argTypes := #[39, 39] }) {B : Nat} {v : Value} {l : List UInt8} (hb : BRow B w v l) (hs : a.eval s = v)
    (ad : Addr) (m : Nat) (c : UInt8) (hx : a.eval x = .slice (some ad) 1 m) (hc : w.cell? ad = some (b8 c)) (hB : B ≤ w.heap.size) (hl : l.length ≤ 70368744177664)
    (h : ∀ v' w', BRow B w' v' (l ++ [c]) → Below B w w' → wpListIn F n Tryz.prog ops Q rest (a.put o.dst v') w') : wpListIn F n Tryz.prog ops Q (o :: rest) a w := by
  refine wpListIn_plain hg fun K hK' => ?_
  obtain ⟨v', w', hrun, r1, r2⟩ := run_append_byte hb ad m c o.type hc hB hl
  unfold Oper.wpIn
  refine ⟨?_, ?_⟩
  · simp [Oper.about, hop, resolve, Target.leads, Sem.run_pure]
  · rw [Oper.semAt_plain F _ _ (by rw [hop]; intro c hc'; cases hc')]
    simp [execOp, hop, resolve, invoke, builtin, hs, hx, hrun, Result.andThen]
    exact hK' _ _ (h v' w' r1 r2)
theorem BRow.alloc {B : Nat} {w : World} {v : Value} {l : List UInt8} (h : BRow B w v l) (o : Obj) : BRow B (w.alloc o) v l :=
  h.below (B' := w.heap.size) ((Below.refl _ w).alloc (Nat.le_refl _) o) h.lt
theorem BRow.drew {B : Nat} {w : World} {v : Value} {l : List UInt8} (h : BRow B w v l) : BRow B w.drew v l := h
/-- '[]byte(s)'. -/
theorem wpListIn_bytes {F : Fence} {n : Nat} {ops : Array Oper} {rest : List Oper} {o : Oper} {a : Act} {w : World} {Q : Exit → Act → World → Prop} (hg : o.guard = none) (x : Operand)
    (hop : o.op = Op.convert 9 39 x) (s : ByteArray) (hx : a.eval x = .string s) (B : Nat) (hB : B ≤ w.heap.size) (hs : s.size ≤ 9223372036854775807)
    (h : ∀ v' w', BRow B w' v' s.data.toList → Below B w w' → wpListIn F n Tryz.prog ops Q rest (a.put o.dst v') w') : wpListIn F n Tryz.prog ops Q (o :: rest) a w := by
  refine wpListIn_plain hg fun K hK' => ?_
  have hrun := Lib.run_convert_string_bytes (P := Tryz.prog) w 9 39 5 s Tryz.underlying9 Tryz.underlying39 Tryz.underlying5
  unfold Oper.wpIn
  refine ⟨?_, ?_⟩
  · simp [Oper.about, hop]
  · rw [Oper.semAt_plain F _ _ (by rw [hop]; intro c hc'; cases hc')]
    simp [execOp, hop, hx, hrun, Result.andThen]
    exact hK' _ _ (h _ _ (BRow.start w s B hB hs) (below_bytesWorld w _ s B hB))
end Go.Proofs.YtjlgkjhociaeiaaGreatDoor
namespace Go.Proofs.YtjlgkjhociaeiaaGreatDoor
open Go.RowKit Go.Shelf Go.Sort
set_option linter.unusedVariables false

attribute [local go_sem] Oper.semAt_some

def offs (k : Nat) : List Nat := (List.range k).map (64 * ·)
theorem offs_succ (k : Nat) : offs (k + 1) = offs k ++ [64 * k] := by simp [offs, List.range_succ]
theorem offs_length (k : Nat) : (offs k).length = k := by simp [offs]

set_option maxRecDepth 100000 in
set_option maxHeartbeats 4000000 in
theorem chunk1_in (F : Fence) (n : Nat) (hF : F.fn 143) (hro : F.round = none) (hn : 1 ≤ n) (l Bs Bn Bh n₀ g M N cap : Nat) (hM : M = 64 * N) (hcap : M ≤ cap) (hmax : M ≤ 70368744177700) (hs1 : Bs < n₀) (hs2 : Bn < n₀) (hs3 : Bs ≠ Bh) (hs4 : Bn ≠ Bh) (J Jx : List Nat → World → Prop) (Wz : Nat) (hJ : AbidesFrom Wz J)
    (hY : ∀ pre x W, J pre W → pre.length < N → x + 64 ≤ M → YieldAt F (n - 1) Tryz.prog l #[.slice (some ⟨g, x, none⟩) 64 64] W fun e W' =>
      (e = .returned (.bool true) ∧ J (pre ++ [x]) W' ∧ Only (fun k => k = Bh ∨ n₀ ≤ k) W W') ∨ (e = .returned (.bool false) ∧ Jx (pre ++ [x]) W'))
    (W : World) (hl1 : n₀ ≤ W.heap.size) (hBs : W.cell? ⟨Bs, 0, none⟩ = some (.slice (some ⟨g, 0, none⟩) M cap)) (hBn : W.cell? ⟨Bn, 0, none⟩ = some (.int .i64 64)) (h0 : J [] W) :
    CallsIn F n Tryz.prog 143 #[.func (.yield l) #[] #[], .pointer (some ⟨Bs, 0, none⟩), .pointer (some ⟨Bn, 0, none⟩)] W fun e W' => (∃ v, e = .returned v) ∧
      ((∃ ys, ys = offs N ∧ J ys W') ∨ (∃ pre, (∃ k, k ≤ N ∧ pre = offs k) ∧ Jx pre W')) := by
  refine callsIn_of_wp Tryz.func143 rfl hF ?_ hro
  simp only [Tryz.ntmps143, List.size_toArray, List.length_cons, List.length_nil, Nat.reduceAdd, Nat.reduceSub, Array.replicate_succ, Array.replicate_zero, List.push_toArray, List.append_toArray, List.nil_append, List.cons_append]
  have HM := Lib.hid hM
  clear hM
  gi_wp2
  gi_loopw [4] (fun i wr => ∃ k : Nat, k ≤ N ∧ i = .int .i64 ((64 * k : Nat) : Int) ∧ J (offs k) wr ∧ Only (fun k => k = Bh ∨ n₀ ≤ k) W wr)
    (fun i _ => M - (intOf i).toNat)
  case atStart => exact ⟨0, Nat.zero_le _, rfl, h0, Only.refl _ _⟩
  case round =>
    obtain ⟨k, hk, rfl, hJs, hO⟩ := hrel
    obtain ⟨o, ho⟩ : ∃ o, o = 64 * k := ⟨_, rfl⟩
    rw [← ho]
    have c1 : wr.cell? ⟨Bs, 0, none⟩ = some (.slice (some ⟨g, 0, none⟩) M cap) := (hO.cell (p := ⟨Bs, 0, none⟩) (by simp only; omega) (by simp only; omega)).trans hBs
    have c2 : wr.cell? ⟨Bn, 0, none⟩ = some (.int .i64 64) := (hO.cell (p := ⟨Bn, 0, none⟩) (by simp only; omega) (by simp only; omega)).trans hBn
    have HO := Lib.hid hO
    clear hO hBs hBn
    by_cases hlt : k < N
    · have hom : o + 64 ≤ M := by have := HM.out; omega
      have hlo : o < M := by omega
      obtain ⟨fn, tmps, assign, body, hy, hR⟩ := hY _ o wr.drew (hJ _ _ _ none hJs ⟨rfl, rfl, rfl, Nat.le_refl _, fun _ _ _ => rfl⟩ (fun r e => by cases e)) (by rw [offs_length]; exact hlt) hom
      have hoI := Lib.hid ho
      clear ho hJs
      have hD := Lib.hid (HO.out.drew)
      have hb1 : Bs < wr.heap.size := block_lt_of_cell c1
      have hb2 : Bn < wr.heap.size := block_lt_of_cell c2
      gi_wp2
      gi_region
      all_goals
        gi_wp2
        refine hR.mono ?_
        rintro e W' (⟨rfl, hJ', hk'⟩ | ⟨rfl, hJx'⟩)
        · have c2' : W'.cell? ⟨Bn, 0, none⟩ = some (.int .i64 64) := (hk'.cell (p := ⟨Bn, 0, none⟩) (show Bn < wr.drew.heap.size from hb2) (show ¬ (Bn = Bh ∨ n₀ ≤ Bn) by omega)).trans c2
          have HK' := Lib.hid hk'
          have HJ' := Lib.hid hJ'
          clear hk' hJ' hR hy
          gi_wp2
          go_roundw
          case rel => exact ⟨k + 1, by omega, by rw [show ((64 * (k + 1) : Nat) : Int) = (o : Int) + 64 by have := hoI.out; omega], by rw [offs_succ, ← hoI.out]; exact HJ'.out, hD.out.trans' HK'.out⟩
          case measure => simp [intOf]; omega
        · have HJx := Lib.hid hJx'
          clear hJx' hR hy
          gi_wp2
          refine bodyPost_ret (results_none rfl _ _ _) rfl ?_
          exact ⟨⟨_, rfl⟩, .inr ⟨offs (k + 1), ⟨k + 1, by omega, rfl⟩, by rw [offs_succ, ← hoI.out]; exact HJx.out⟩⟩
    · have hkN : k = N := by omega
      have hom : ¬ o < M := by have := HM.out; omega
      have HKN := Lib.hid hkN
      have HJ2 := Lib.hid hJs
      clear hkN hJs ho
      gi_wp2
      go_end0
      exact ⟨⟨_, rfl⟩, .inl ⟨_, rfl, by rw [← HKN.out]; exact HJ2.out⟩⟩
end Go.Proofs.YtjlgkjhociaeiaaGreatDoor
namespace Go.Proofs.YtjlgkjhociaeiaaGreatDoor
open Go.RowKit Go.Shelf Go.Sort
set_option linter.unusedVariables false

attribute [local go_sem] Oper.semAt_some

/-- Where a chunk begins. -/
abbrev Off (M : Nat) := { x : Nat // x + 64 ≤ M }
theorem chunk_stops (F : Fence) (n : Nat) (hF : F.fn 143) (hro : F.round = none) (hn : 1 ≤ n) (Bs Bn Bh n₀ g M N cap : Nat) (hM : M = 64 * N) (hcap : M ≤ cap) (hmax : M ≤ 70368744177700) (hs1 : Bs < n₀) (hs2 : Bn < n₀) (hs3 : Bs ≠ Bh) (hs4 : Bn ≠ Bh) (w : World) (hl1 : n₀ ≤ w.heap.size)
    (hBs : w.cell? ⟨Bs, 0, none⟩ = some (.slice (some ⟨g, 0, none⟩) M cap)) (hBn : w.cell? ⟨Bn, 0, none⟩ = some (.int .i64 64)) :
    SeqStopsK F n Tryz.prog 143 #[.pointer (some ⟨Bs, 0, none⟩), .pointer (some ⟨Bn, 0, none⟩)] (fun x : Off M => #[Value.slice (some ⟨g, x.1, none⟩) 64 64]) (Only (fun k => k = Bh ∨ n₀ ≤ k)) (fun xs => xs.map (·.1) = offs N) (fun _ => True) N w :=
  fun l J Jx W hW hJ hJx hY h0 => by
    refine (chunk1_in F n hF hro hn l Bs Bn Bh n₀ g M N cap hM hcap hmax hs1 hs2 hs3 hs4 (fun p W => ∃ q : List (Off M), q.map (·.1) = p ∧ J q W) (fun p W => ∃ q : List (Off M), q.map (·.1) = p ∧ Jx q W) W.heap.size (fun s A B row hs hg hr => by
      obtain ⟨q, hq, hj⟩ := hs
      exact ⟨q, hq, hJ q A B row hj hg hr⟩) (fun p x W1 hp hlen hx => ?_) W (Nat.le_trans hl1 hW.size) ((hW.cell (p := ⟨Bs, 0, none⟩) (by simp only; omega)).trans hBs) ((hW.cell (p := ⟨Bn, 0, none⟩) (by simp only; omega)).trans hBn) ⟨[], rfl, h0⟩).mono ?_
    · obtain ⟨q, rfl, hj⟩ := hp
      refine YieldAt.mono (hY q ⟨x, hx⟩ W1 hj (by simpa using hlen)) ?_
      rintro e W' (⟨he, hj', hk⟩ | ⟨he, hj'⟩)
      · exact .inl ⟨he, ⟨_, by simp, hj'⟩, hk⟩
      · exact .inr ⟨he, ⟨_, by simp, hj'⟩⟩
    · rintro e W' ⟨he, ⟨ys, rfl, q, hq, hj⟩ | ⟨p, _, q, hq, hj⟩⟩
      · exact ⟨he, .inl ⟨q, hq, hj⟩⟩
      · exact ⟨he, .inr ⟨q, trivial, hj⟩⟩

set_option maxHeartbeats 1000000 in
theorem chunk_in (F : Fence) (n : Nat) (hF : F.fn 128) (hro : F.round = none) (v : Value) (w : World) (a : Option Addr) (len cap : Nat) (hv : v = .slice a len cap) :
    CallsIn F n Tryz.prog 128 #[v, .int .i64 64] w fun e w' => e = .returned (.func (.func 143) #[] #[.pointer (some ⟨w.heap.size, 0, none⟩), .pointer (some ⟨w.heap.size + 1, 0, none⟩)]) ∧ w' = (w.alloc (.cells #[v] 39)).alloc (.cells #[.int .i64 64] 3) := by
  subst hv
  refine callsIn_of_wp Tryz.func128 rfl hF ?_ hro
  simp only [Tryz.ntmps128, List.size_toArray, List.length_cons, List.length_nil, Nat.reduceAdd, Nat.reduceSub, Array.replicate_succ, Array.replicate_zero, List.push_toArray, List.append_toArray, List.nil_append, List.cons_append]
  gi_wp2
  go_ret
  exact ⟨rfl, rfl⟩
end Go.Proofs.YtjlgkjhociaeiaaGreatDoor
