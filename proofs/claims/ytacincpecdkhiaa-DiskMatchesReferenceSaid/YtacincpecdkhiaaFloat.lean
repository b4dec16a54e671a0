/-
  A region that draws its order, some of whose operations give the same value in every world that keeps a fact I: these may be taken first.
-/
import Derived.Test.YtacincpecdkhiaaBase
import Derived.Still
namespace Go.Proofs.Ytacincpecdkhiaa
open Go.RowKit
set_option linter.unusedVariables false

section
variable {P : Program} {ops : Array Oper} {md : Region.Mode} {I : World → Prop} {Q : Exit → Act → World → Prop}

def nUpon (P : Program) (o : Oper) (a : Act) (K : Act → World → Prop) : Result Next → Prop
  | .ok (.value v) w' => K (a.put o.dst v) w'
  | .ok .skip w' => K (a.put o.dst undef) w'
  | .ok (.enter f args) w' => Calls P f args w' (fun e w'' => ∃ v, e = .returned v ∧ K (a.put o.dst v) w'')
  | _ => False
/-- The operation runs to its end with a value, and K holds behind it. -/
def nOp (P : Program) (ops : Array Oper) (o : Oper) (K : Act → World → Prop) (a : Act) (w : World) : Prop :=
  if Region.wanted o (yielded ops a.tmps) then nUpon P o a K ((execOp a.eval o).run P w) else K (a.put o.dst undef) w

theorem nOp_mono {o : Oper} {a : Act} {w : World} {K K' : Act → World → Prop} (h : ∀ a w, K a w → K' a w) (hh : nOp P ops o K a w) : nOp P ops o K' a w := by
  unfold nOp at *
  split
  · rename_i hw
    rw [if_pos hw] at hh
    generalize (execOp a.eval o).run P w = r at *
    cases r with
    | ok n w' =>
      cases n <;> simp only [nUpon] at hh ⊢
      case enter f args => exact hh.mono fun e w'' ⟨v, he, hk⟩ => ⟨v, he, h _ _ hk⟩
      all_goals exact h _ _ hh
    | halt x w' => simp only [nUpon] at hh
  · rename_i hw
    rw [if_neg hw] at hh
    exact h _ _ hh

theorem nOp_wp {i : Nat} {o : Oper} {a : Act} {w : World} {K : Act → World → Prop} (ho : ops[i]? = some o) (hh : nOp P ops o K a w) : wpOp P ops Q i K a w := by
  unfold nOp at hh
  unfold wpOp
  simp only [ho]
  split
  · rename_i hw
    rw [if_pos hw] at hh
    refine .inl ?_
    unfold Oper.wp
    generalize (execOp a.eval o).run P w = r at *
    cases r with
    | ok n w' =>
      cases n <;> simp only [nUpon] at hh <;> simp only [Oper.upon]
      case enter f args => exact hh.mono fun e w'' ⟨v, he, hk⟩ => by subst he; exact hk
      all_goals exact hh
    | halt x w' => simp only [nUpon] at hh
  · rename_i hw
    rw [if_neg hw] at hh
    exact hh

theorem nOp_yields {o : Oper} {a : Act} {w : World} {v : Value} {K : Act → World → Prop} (hy : YieldsAt P ops w o v a) (hk : K (a.put o.dst v) w) : nOp P ops o K a w := by
  unfold nOp
  rcases hy with ⟨hw, hv | ⟨hv, rfl⟩ | ⟨f, args, hv, hc⟩⟩ | ⟨hw, rfl⟩
  · rw [if_pos hw, hv]; exact hk
  · rw [if_pos hw, hv]; exact hk
  · rw [if_pos hw, hv]
    exact hc.mono fun e w'' ⟨he, hw''⟩ => ⟨v, he, by subst hw''; exact hk⟩
  · rw [if_neg (by simp [hw])]; exact hk

theorem nOp_put {oi oj : Oper} {v : Value} (hap : oi.apart ops oj = true) (hsi : ∀ cs b, oi.op ≠ .select cs b) (hsj : ∀ cs b, oj.op ≠ .select cs b) {K : Act → World → Prop} {a : Act} {w : World}
    (hy : ∀ w', I w' → YieldsAt P ops w' oi v a) (h : nOp P ops oj K (a.put oi.dst v) w) :
    nOp P ops oj (fun a' w' => (∀ w'', I w'' → YieldsAt P ops w'' oi v a') ∧ K (a'.put oi.dst v) w') a w := by
  obtain ⟨h1, h2, h3⟩ := Oper.apart_spec hap
  have keep : ∀ u w', I w' → YieldsAt P ops w' oi v (a.put oj.dst u) := fun u w' hi =>
    (hy w' hi).of_same (execOp_put oi hsi a oj.dst u h3) (wanted_put oi a oj.dst u h3)
  unfold nOp at *
  rw [wanted_put oj a oi.dst v h1] at h
  split
  · rename_i hw
    rw [if_pos hw, execOp_put oj hsj a oi.dst v h1] at h
    generalize (execOp a.eval oj).run P w = r at *
    cases r with
    | ok n w' =>
      cases n <;> simp only [nUpon] at h ⊢
      case value u => exact ⟨keep u, by rw [← Act.put_comm a v u h2]; exact h⟩
      case skip => exact ⟨keep _, by rw [← Act.put_comm a v undef h2]; exact h⟩
      case enter f args => exact h.mono fun e w'' ⟨u, he, hk⟩ => ⟨u, he, keep u, by rw [← Act.put_comm a v u h2]; exact hk⟩
    | halt x w' => simp only [nUpon] at h
  · rename_i hw
    rw [if_neg hw] at h
    exact ⟨keep _, by rw [← Act.put_comm a v undef h2]; exact h⟩

/-- Whatever order is drawn, each operation runs to its end, I is kept, and Q holds at the end. -/
def nAny (P : Program) (md : Region.Mode) (ops : Array Oper) (I : World → Prop) (Q : Exit → Act → World → Prop) : Nat → Array Bool → Act → World → Prop
  | 0, listed, a, w => Region.ready md ops listed = [] ∧ Q .normal a w
  | f + 1, listed, a, w => (Region.ready md ops listed = [] → Q .normal a w) ∧ ∀ i ∈ Region.ready md ops listed, ∀ o, ops[i]? = some o → nOp P ops o (fun a' w' => I w' ∧ nAny P md ops I Q f (listed.setIfInBounds i true) a' w') a w

theorem nAny_wp : ∀ (f : Nat) (listed : Array Bool) (a : Act) (w : World), nAny P md ops I Q f listed a w → wpAny P md ops Q f listed a w
  | 0, _, _, _, h => h
  | f + 1, listed, a, w, h => ⟨h.1, fun i hi => by
    obtain ⟨_, o, ho, _⟩ := mem_ready.1 hi
    exact nOp_wp ho (nOp_mono (fun a' w' hk => nAny_wp f _ a' w' hk.2) (h.2 i hi o ho))⟩

theorem nAny_first {i : Nat} {oi : Oper} {v : Value} (hi : ops[i]? = some oi) (hsel : ∀ (j : Nat) (o : Oper) cs b, ops[j]? = some o → o.op ≠ .select cs b) :
    ∀ (f : Nat) (listed : Array Bool) (a : Act) (w : World), I w →
      (∀ j oj, ops[j]? = some oj → j ≠ i → listed.getD j true = false → (∀ e ∈ oj.after, Region.binds md e = true → e.on ≠ i) → oi.apart ops oj = true) →
      i ∈ Region.ready md ops listed → (∀ w', I w' → YieldsAt P ops w' oi v a) →
      nAny P md ops I Q f (listed.setIfInBounds i true) (a.put oi.dst v) w → nAny P md ops I Q (f + 1) listed a w := by
  intro f
  induction f with
  | zero =>
    intro listed a w hI _ hr hy H
    refine ⟨fun h => (by rw [h] at hr; cases hr), fun j hj o ho => ?_⟩
    by_cases hji : j = i
    · subst hji
      obtain rfl : oi = o := Option.some.inj (hi.symm.trans ho)
      exact nOp_yields (hy w hI) ⟨hI, H⟩
    · have := ready_mono hj hji
      rw [H.1] at this
      cases this
  | succ f ih =>
    intro listed a w hI hfree hr hy H
    refine ⟨fun h => (by rw [h] at hr; cases hr), fun j hj oj hoj => ?_⟩
    by_cases hji : j = i
    · subst hji
      obtain rfl : oi = oj := Option.some.inj (hi.symm.trans hoj)
      exact nOp_yields (hy w hI) ⟨hI, H⟩
    · have h1 := H.2 j (ready_mono hj hji) oj hoj
      obtain ⟨hjun, oj', hoj', hall⟩ := mem_ready.1 hj
      obtain rfl : oj = oj' := Option.some.inj (hoj.symm.trans hoj')
      have hnot : ∀ e ∈ oj.after, Region.binds md e = true → e.on ≠ i := fun e he hb heq => by
        have h1 := hall e he hb
        have h0 := (mem_ready.1 hr).1
        rw [heq] at h1
        rcases Nat.lt_or_ge i listed.size with h' | h'
        · simp [h'] at h0 h1; rw [h0] at h1; cases h1
        · simp [Array.getElem?_eq_none h'] at h1
      have h2 := nOp_put (hfree j oj hoj hji hjun hnot) (fun cs b => hsel i oi cs b hi) (fun cs b => hsel j oj cs b hoj) hy h1
      have hfree' : ∀ k ok, ops[k]? = some ok → k ≠ i → (listed.setIfInBounds j true).getD k true = false →
          (∀ e ∈ ok.after, Region.binds md e = true → e.on ≠ i) → oi.apart ops ok = true := fun k ok hk hki hun hno => by
        refine hfree k ok hk hki ?_ hno
        by_cases hjk : j = k
        · subst hjk; exact hjun
        · rw [getD_set_ne true hjk] at hun; exact hun
      refine nOp_mono (fun a' w' h3 => ⟨h3.2.1, ih (listed.setIfInBounds j true) a' w' h3.2.1 hfree' (ready_mono hr (Ne.symm hji)) h3.1 ?_⟩) h2
      rw [Array.setIfInBounds_comm _ _ hji]
      exact h3.2.2

/-- The operations one by one in an order of the prover's own: those marked true give one value in every world that keeps I. -/
def nList (P : Program) (ops : Array Oper) (I : World → Prop) (Q : Exit → Act → World → Prop) : List (Oper × Bool) → Act → World → Prop
  | [], a, w => Q .normal a w
  | (o, true) :: rest, a, w => ∃ v, (∀ w', I w' → YieldsAt P ops w' o v a) ∧ nList P ops I Q rest (a.put o.dst v) w
  | (o, false) :: rest, a, w => nOp P ops o (fun a' w' => ∃ I' : World → Prop, I' w' ∧ (∀ w, I' w → I w) ∧ nList P ops I' Q rest a' w') a w
theorem nAny_strong {I' : World → Prop} (hI : ∀ w, I' w → I w) : ∀ (f : Nat) (listed : Array Bool) (a : Act) (w : World), nAny P md ops I' Q f listed a w → nAny P md ops I Q f listed a w
  | 0, _, _, _, h => h
  | f + 1, listed, a, w, h => ⟨h.1, fun i hi o ho => nOp_mono (fun a' w' hk => ⟨hI _ hk.1, nAny_strong hI f _ a' w' hk.2⟩) (h.2 i hi o ho)⟩
def permB (md : Region.Mode) (ops : Array Oper) : List (Nat × Bool) → Array Bool → Bool
  | [], listed => (Region.ready md ops listed).isEmpty
  | (k, fl) :: rest, listed => (if fl then (Region.ready md ops listed).contains k && Region.free md ops listed k else decide (Region.ready md ops listed = [k])) && permB md ops rest (listed.setIfInBounds k true)
def permOps (ops : Array Oper) : List (Nat × Bool) → Option (List (Oper × Bool))
  | [] => some []
  | (k, fl) :: rest => match ops[k]?, permOps ops rest with
    | some o, some l => some ((o, fl) :: l)
    | _, _ => none

theorem nAny_perm (hsel : Region.noSelect ops = true) : ∀ (I : World → Prop) (perm : List (Nat × Bool)) (l : List (Oper × Bool)) (listed : Array Bool) (a : Act) (w : World), permOps ops perm = some l → permB md ops perm listed = true → I w →
    nList P ops I Q l a w → nAny P md ops I Q perm.length listed a w
  | I, [], l, listed, a, w, hl, hB, hI, h => by
    simp only [permOps, Option.some.injEq] at hl
    subst hl
    exact ⟨by simpa [permB] using hB, h⟩
  | I, (k, fl) :: rest, l, listed, a, w, hl, hB, hI, h => by
    unfold permOps at hl
    cases hk : ops[k]? with
    | none => rw [hk] at hl; cases hl
    | some o =>
      cases hp : permOps ops rest with
      | none => rw [hk, hp] at hl; cases hl
      | some l' =>
        rw [hk, hp] at hl
        simp only [Option.some.injEq] at hl
        subst hl
        unfold permB at hB
        rw [Bool.and_eq_true] at hB
        obtain ⟨hB1, hB2⟩ := hB
        cases fl with
        | true =>
          rw [if_pos rfl, Bool.and_eq_true] at hB1
          obtain ⟨v, hy, hr⟩ := h
          exact nAny_first hk (Region.noSelect_spec hsel) rest.length listed a w hI (Region.free_spec hk hB1.2) (by simpa using hB1.1) hy (nAny_perm hsel I rest l' _ _ _ hp hB2 hI hr)
        | false =>
          rw [if_neg (by simp), decide_eq_true_eq] at hB1
          refine ⟨fun h0 => (by rw [hB1] at h0; cases h0), fun i hi oi hoi => ?_⟩
          rw [hB1] at hi
          obtain rfl : i = k := by simpa using hi
          obtain rfl : o = oi := Option.some.inj (hk.symm.trans hoi)
          exact nOp_mono (fun a' w' ⟨I', h1, h2, h3⟩ => ⟨h2 _ h1, nAny_strong h2 _ _ _ _ (nAny_perm hsel I' rest l' _ _ _ hp hB2 h1 h3)⟩) h

theorem wp_region_perm {id : Nat} {a : Act} {w : World} (I : World → Prop) (perm : List (Nat × Bool)) (l : List (Oper × Bool)) (hm : P.follows .mixedOrders = true) (hl : permOps ops perm = some l)
    (hB : (Region.noSelect ops && decide (perm.length = ops.size) && permB .any ops perm (Array.replicate ops.size false)) = true) (hI : I { w with drawn := w.drawn + 1 })
    (h : nList P ops I Q l a { w with drawn := w.drawn + 1 }) : (Code.region id ops true).wp P Q a w := by
  simp only [Bool.and_eq_true, decide_eq_true_eq] at hB
  refine wp_region_any hm ?_
  rw [← hB.1.2]
  have := nAny_wp (Q := Q) _ _ _ _ (nAny_perm hB.1.1 I perm l (Array.replicate ops.size false) a _ hl (by rw [hB.1.2] at *; exact hB.2) hI h)
  rw [hB.1.2] at this ⊢
  exact this

theorem nList_nil {a : Act} {w : World} (h : Q .normal a w) : nList P ops I Q [] a w := h
theorem nList_float {o : Oper} {rest : List (Oper × Bool)} {a : Act} {w : World} (v : Value) (hy : ∀ w', I w' → YieldsAt P ops w' o v a) (h : nList P ops I Q rest (a.put o.dst v) w) : nList P ops I Q ((o, true) :: rest) a w := ⟨v, hy, h⟩
theorem nList_step {o : Oper} {rest : List (Oper × Bool)} {a : Act} {w : World} (h : ∀ K : Act → World → Prop, (∀ a' w', I w' → nList P ops I Q rest a' w' → K a' w') → nOp P ops o K a w) : nList P ops I Q ((o, false) :: rest) a w :=
  h _ fun _ _ h1 h2 => ⟨I, h1, fun _ e => e, h2⟩
/-- A forced step behind which a stronger fact is kept. -/
theorem nList_strong {o : Oper} {rest : List (Oper × Bool)} {a : Act} {w : World} (h : ∀ K : Act → World → Prop, (∀ (I' : World → Prop) a' w', I' w' → (∀ w, I' w → I w) → nList P ops I' Q rest a' w' → K a' w') → nOp P ops o K a w) : nList P ops I Q ((o, false) :: rest) a w :=
  h _ fun I' _ _ h1 h2 h3 => ⟨I', h1, h2, h3⟩
end
end Go.Proofs.Ytacincpecdkhiaa
