/-
  append of one list of strings to another.
-/
import Derived.Test.YtjlgkjhociaeiaaGreatDoorGn
import Derived.Test.YtjlgkjhociaeiaaGreatDoorGk
import Derived.Laws.AppendOwnNone
import Derived.Deep.Upon
namespace Go.Proofs.YtjlgkjhociaeiaaGreatDoor
open Go.RowKit Go.Deep
set_option linter.unusedVariables false

theorem row_vals_one (l : List ByteArray) : ∀ u ∈ l.map Value.string, u.oneCell' = true := by
  intro u hu
  obtain ⟨s, _, rfl⟩ := List.mem_map.1 hu
  rfl
theorem row_cells {w : World} {base : Nat} {g n c : Nat} {xs : List Value} (h : w.ownsRow base 9 1 (.slice (some ⟨g, 0, none⟩) n c) n xs) : ∀ j u, xs[j]? = some u → w.cell? ((⟨g, 0, none⟩ : Addr).add j) = some u := by
  intro j u hj
  obtain ⟨hj', _⟩ := List.getElem?_eq_some_iff.1 hj
  have hl := h.1
  rw [add_none, Nat.zero_add, h.cellAt j (by omega), hj]
/-- append of a row to an empty literal: nothing old turns. -/
theorem run_append_lit {w : World} {B g : Nat} {u : Value} {l : List ByteArray} (hg : w.ownsRow B 9 1 (.slice (some ⟨g, 0, none⟩) 0 0) 0 []) (hu : Row w u l) (hB : B ≤ w.heap.size) (hl : l.length ≤ 8388608) (ty : TypeId) :
    ∃ v' w', (Builtin.append_ #[22, 22] ty #[.slice (some ⟨g, 0, none⟩) 0 0, u]).run Tryz.prog w = .ok v' w' ∧ w'.ownsRow B 9 1 v' l.length (l.map Value.string) ∧ Only (fun _ => False) w w' := by
  obtain ⟨iS, hiS, z0, z1, z2⟩ := info_parts infoStr
  cases l with
  | nil =>
    have hrun : (Builtin.append_ #[22, 22] ty #[.slice (some ⟨g, 0, none⟩) 0 0, u]).run Tryz.prog w = .ok (.slice (some ⟨g, 0, none⟩) 0 0) w := by
      obtain ⟨ua, uc, rfl⟩ := hu.form
      cases ua with
      | none => exact run_append_nothing w _ _ _ _ iS Tryz.underlying22 hiS _ 0 0 (Nat.le_refl _) _ (Src.ofNil w Tryz.underlying22 uc)
      | some ad => exact run_append_nothing w _ _ _ _ iS Tryz.underlying22 hiS _ 0 0 (Nat.le_refl _) _ (Src.ofSlice w Tryz.underlying22 ad 0 uc [] (by simp) (by simp) (by simp))
    exact ⟨_, w, hrun, hg, Only.refl _ _⟩
  | cons r l =>
    unfold Row at hu
    rcases hu.2 with ⟨_, h0⟩ | ⟨gu, cap, cur, rfl, _⟩
    · simp at h0
    · obtain ⟨v', w', hrun, ho, hgr⟩ := run_append_arg_grows (P := Tryz.prog) w 22 ty 9 iS (.string ByteArray.empty) 1 16 Tryz.underlying22 hiS z0 z1 z2 rfl (by decide) ⟨g, 0, none⟩ 0 0 [] rfl (by simp) ⟨gu, 0, none⟩ (r :: l).length cap ((r :: l).map Value.string) (by simp) (row_cells hu) (by simp) (by unfold maxLen; omega) (by omega)
      rw [Nat.zero_add, List.nil_append] at ho
      exact ⟨v', w', hrun, ownsRow_base ho (fun k hk => Nat.le_trans hB (ho.lt k hk).1), ⟨hgr.os, hgr.tape, hgr.output, hgr.size, fun k hk hn => hgr.block k hk (by simp)⟩⟩
/-- append of a row to a row of the law's own. -/
theorem run_append_rows {w : World} {B : Nat} {v u : Value} {k l : List ByteArray} (hv : w.ownsRow B 9 1 v k.length (k.map Value.string)) (hu : Row w u l) (hB : B ≤ w.heap.size) (hl : k.length + l.length ≤ 8388608) (ty : TypeId) :
    ∃ v' w', (Builtin.append_ #[22, 22] ty #[v, u]).run Tryz.prog w = .ok v' w' ∧ w'.ownsRow B 9 1 v' (k ++ l).length ((k ++ l).map Value.string) ∧ w.grownBy w' v.ownBlock := by
  obtain ⟨iS, hiS, z0, z1, z2⟩ := info_parts infoStr
  rw [List.length_append, List.map_append]
  unfold Row at hu
  rcases hu.2 with ⟨rfl, h0⟩ | ⟨gu, cap, cur, rfl, _⟩
  · have : l = [] := List.length_eq_zero_iff.1 h0
    subst this
    obtain ⟨va, vc, rfl⟩ := ownsRow_form hv
    have hle : k.length ≤ vc := by
      rcases hv.2 with ⟨q, h0⟩ | ⟨g', cap', cur', q, _, _, h3, _⟩
      · omega
      · injection q with _ _ q
        rw [q]; exact h3
    have hrun : (Builtin.append_ #[22, 22] ty #[.slice va k.length vc, .slice none 0 0]).run Tryz.prog w = .ok (.slice va k.length vc) w := by
      exact run_append_nothing w _ _ _ _ iS Tryz.underlying22 hiS _ _ _ hle _ (Src.ofNil w Tryz.underlying22 0)
    exact ⟨_, w, hrun, by simpa using hv, World.grownBy.refl _ _⟩
  · obtain ⟨v', w', hrun, h2, h3, _⟩ := run_append_own_at (P := Tryz.prog) w B 22 ty 9 iS (.string ByteArray.empty) 1 16 Tryz.underlying22 hiS z0 z1 z2 rfl (by decide) v k.length _ hv ⟨gu, 0, none⟩ l.length cap (l.map Value.string) (by simp) (row_cells hu) (row_vals_one l) (by unfold maxLen; omega) (by omega) hB
    exact ⟨v', w', hrun, h2, h3⟩
theorem only_grown {B : Nat} {w w' : World} {v : Value} {n : Nat} {xs : List Value} {e : TypeId} (hv : w.ownsRow B e 1 v n xs) (hg : w.grownBy w' v.ownBlock) : Only (fun k => B ≤ k ∧ k < w.heap.size ∧ v.ownBlock = some k) w w' :=
  ⟨hg.os, hg.tape, hg.output, hg.size, fun k hk hn => hg.block k hk fun e => hn ⟨(hv.lt k e.symm).1, hk, e.symm⟩⟩
section
variable {ops : Array Oper} {o : Oper} {a : Act} {w : World}
theorem nVal_append {K : Value → World → Prop} (hgd : o.guard = none) (s x : Operand) (ho : o.op = .call { callee := .builtin .append, args := #[s, x], argTypes := #[22, 22] }) {v u : Value} (hs : a.eval s = v) (hx : a.eval x = u) {v' : Value} {w' : World}
    (hr : (Builtin.append_ #[22, 22] o.type #[v, u]).run Tryz.prog w = .ok v' w') (h : K v' w') : nVal Tryz.prog ops o K a w := by
  unfold nVal
  have hw : Region.wanted o (yielded ops a.tmps) = true := by simp [Region.wanted, hgd]
  rw [if_pos hw]
  simp [execOp, ho, resolve, invoke, builtin, hs, hx, hr, Result.andThen]
  exact h
theorem nOp_append {K : Act → World → Prop} (hgd : o.guard = none) (s x : Operand) (ho : o.op = .call { callee := .builtin .append, args := #[s, x], argTypes := #[22, 22] }) {v u : Value} (hs : a.eval s = v) (hx : a.eval x = u) {v' : Value} {w' : World}
    (hr : (Builtin.append_ #[22, 22] o.type #[v, u]).run Tryz.prog w = .ok v' w') (h : K (a.put o.dst v') w') : nOp Tryz.prog ops o K a w :=
  nVal_op (nVal_append hgd s x ho hs hx hr h)
theorem wpList_append_row {Q : Exit → Act → World → Prop} {rest : List Oper} (hgd : o.guard = none) (s x : Operand) (ho : o.op = .call { callee := .builtin .append, args := #[s, x], argTypes := #[22, 22] }) {v u : Value} (hs : a.eval s = v) (hx : a.eval x = u)
    (hr : ∃ v' w', (Builtin.append_ #[22, 22] o.type #[v, u]).run Tryz.prog w = .ok v' w' ∧ wpList Tryz.prog ops Q rest (a.put o.dst v') w') : wpList Tryz.prog ops Q (o :: rest) a w := by
  obtain ⟨v', w', hr, h⟩ := hr
  refine wpList_plain hgd fun K hK => ?_
  unfold Oper.wp execOp
  simp only [ho, resolve, invoke, builtin, Sem.run_bind, Sem.run_pure, Result.andThen_ok, List.map_toArray, List.map_cons, List.map_nil, hs, hx, hr]
  exact hK _ _ h
end
theorem DJ.openHeld {B : Nat} {a : Addr} {w : World} {p n : Nat} {d : DSt} {l : List ByteArray} (h : DJ B a w p d) (hr : Held n d l) :
    Calls Tryz.prog 25 #[.pointer (some ⟨p, 0, none⟩)] w fun e w' => ∃ b, e = .returned (.tuple #[.pointer (some ⟨b, 0, none⟩), .int .i64 0]) ∧ JL B a w' b p d (tp l) false ∧ w.heap.size ≤ b ∧ LeftO B w w' := by
  refine (h.open (by rw [hr.pend]; exact Nat.zero_le _)).mono ?_
  rintro e w' ⟨hL, hm⟩
  rw [hr.open] at hm
  obtain ⟨_, b, rfl, hj, hb⟩ := hm
  exact ⟨b, rfl, hj, hb, hL⟩
theorem contB_size {n : Nat} {d : DSt} {l : List ByteArray} (h : Held n d l) : (contB d).size = n := by
  unfold contB
  rw [h.read]
  show d.vis.toArray.size = n
  rw [List.size_toArray, h.len]
/-- A group more. -/
theorem group_step {B : Nat} {a : Addr} {w : World} {b p n : Nat} {d : DSt} {l m : List ByteArray} {v : Value} (h : JL B a w b p d (tp l) false) (hh : Held n d l) (h0 : d.left = 0) (hv : StrsAt w v m) (hs : ∀ r ∈ m, r.size ≤ 65536) (hl : m.length ≤ 1000) :
    Calls Tryz.prog 10 #[.pointer (some ⟨b, 0, none⟩), v] w fun e w' => ∃ (c : Int) (d' : DSt) (l' : List ByteArray), e = .returned (.int .i64 c) ∧ JL B a w' b p d' (tp l') false ∧ Held n d' l' ∧ d'.left = 0 ∧ Left B w w' := by
  by_cases hf : outLen l + outLen m ≤ n
  · exact (h.appFine hh h0 hv hs hl hf).mono fun e w' ⟨he, d', h1, h2, h3, h4⟩ => ⟨0, d', l ++ m, he, h1, h2, h3, h4⟩
  · exact (h.appFull hh hv hs hl (by omega)).mono fun e w' ⟨he, h1, h4⟩ => ⟨261, d, l, he, h1, hh, h0, h4⟩
end Go.Proofs.YtjlgkjhociaeiaaGreatDoor
