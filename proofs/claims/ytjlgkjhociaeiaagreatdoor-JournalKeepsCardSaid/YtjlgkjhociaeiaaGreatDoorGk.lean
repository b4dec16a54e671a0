/-
  Joined by program out of: Float, Local.
-/
import Derived.Test.YtjlgkjhociaeiaaGreatDoorBase
import Derived.Still
namespace Go.Proofs.YtjlgkjhociaeiaaGreatDoor
open Go.RowKit
set_option linter.unusedVariables false

section
variable {P : Program} {ops : Array Oper} {md : Region.Mode} {I : World → Prop} {Q : Exit → Act → World → Prop}

def nUpon (P : Program) (o : Oper) (a : Act) (K : Act → World → Prop) : Result Next → Prop
  | .ok (.value v) w' => K (a.put o.dst v) w'
  | .ok .skip w' => K (a.put o.dst undef) w'
  | .ok (.enter f args) w' => Calls P f args w' (fun e w'' => ∃ v, e = .returned v ∧ K (a.put o.dst v) w'')
  | _ => False
/-- The operation runs to its end with a value, and K holds behind it. -/
def nOp (P : Program) (ops : Array Oper) (o : Oper) (K : Act → World → Prop) (a : Act) (w : World) : Prop :=
  if Region.wanted o (yielded ops a.tmps) then nUpon P o a K ((execOp a.eval o).run P w) else K (a.put o.dst undef) w

theorem nOp_mono {o : Oper} {a : Act} {w : World} {K K' : Act → World → Prop} (h : ∀ a w, K a w → K' a w) (hh : nOp P ops o K a w) : nOp P ops o K' a w := by
  unfold nOp at *
  split
  · rename_i hw
    rw [if_pos hw] at hh
    generalize (execOp a.eval o).run P w = r at *
    cases r with
    | ok n w' =>
      cases n <;> simp only [nUpon] at hh ⊢
      case enter f args => exact hh.mono fun e w'' ⟨v, he, hk⟩ => ⟨v, he, h _ _ hk⟩
      all_goals exact h _ _ hh
    | halt x w' => simp only [nUpon] at hh
  · rename_i hw
    rw [if_neg hw] at hh
    exact h _ _ hh

theorem nOp_wp {i : Nat} {o : Oper} {a : Act} {w : World} {K : Act → World → Prop} (ho : ops[i]? = some o) (hh : nOp P ops o K a w) : wpOp P ops Q i K a w := by
  unfold nOp at hh
  unfold wpOp
  simp only [ho]
  split
  · rename_i hw
    rw [if_pos hw] at hh
    refine .inl ?_
    unfold Oper.wp
    generalize (execOp a.eval o).run P w = r at *
    cases r with
    | ok n w' =>
      cases n <;> simp only [nUpon] at hh <;> simp only [Oper.upon]
      case enter f args => exact hh.mono fun e w'' ⟨v, he, hk⟩ => by subst he; exact hk
      all_goals exact hh
    | halt x w' => simp only [nUpon] at hh
  · rename_i hw
    rw [if_neg hw] at hh
    exact hh

theorem nOp_yields {o : Oper} {a : Act} {w : World} {v : Value} {K : Act → World → Prop} (hy : YieldsAt P ops w o v a) (hk : K (a.put o.dst v) w) : nOp P ops o K a w := by
  unfold nOp
  rcases hy with ⟨hw, hv | ⟨hv, rfl⟩ | ⟨f, args, hv, hc⟩⟩ | ⟨hw, rfl⟩
  · rw [if_pos hw, hv]; exact hk
  · rw [if_pos hw, hv]; exact hk
  · rw [if_pos hw, hv]
    exact hc.mono fun e w'' ⟨he, hw''⟩ => ⟨v, he, by subst hw''; exact hk⟩
  · rw [if_neg (by simp [hw])]; exact hk

theorem nOp_put {oi oj : Oper} {v : Value} (hap : oi.apart ops oj = true) (hsi : ∀ cs b, oi.op ≠ .select cs b) (hsj : ∀ cs b, oj.op ≠ .select cs b) {K : Act → World → Prop} {a : Act} {w : World}
    (hy : ∀ w', I w' → YieldsAt P ops w' oi v a) (h : nOp P ops oj K (a.put oi.dst v) w) :
    nOp P ops oj (fun a' w' => (∀ w'', I w'' → YieldsAt P ops w'' oi v a') ∧ K (a'.put oi.dst v) w') a w := by
  obtain ⟨h1, h2, h3⟩ := Oper.apart_spec hap
  have keep : ∀ u w', I w' → YieldsAt P ops w' oi v (a.put oj.dst u) := fun u w' hi =>
    (hy w' hi).of_same (execOp_put oi hsi a oj.dst u h3) (wanted_put oi a oj.dst u h3)
  unfold nOp at *
  rw [wanted_put oj a oi.dst v h1] at h
  split
  · rename_i hw
    rw [if_pos hw, execOp_put oj hsj a oi.dst v h1] at h
    generalize (execOp a.eval oj).run P w = r at *
    cases r with
    | ok n w' =>
      cases n <;> simp only [nUpon] at h ⊢
      case value u => exact ⟨keep u, by rw [← Act.put_comm a v u h2]; exact h⟩
      case skip => exact ⟨keep _, by rw [← Act.put_comm a v undef h2]; exact h⟩
      case enter f args => exact h.mono fun e w'' ⟨u, he, hk⟩ => ⟨u, he, keep u, by rw [← Act.put_comm a v u h2]; exact hk⟩
    | halt x w' => simp only [nUpon] at h
  · rename_i hw
    rw [if_neg hw] at h
    exact ⟨keep _, by rw [← Act.put_comm a v undef h2]; exact h⟩

/-- Whatever order is drawn, each operation runs to its end, I is kept, and Q holds at the end. -/
def nAny (P : Program) (md : Region.Mode) (ops : Array Oper) (I : World → Prop) (Q : Exit → Act → World → Prop) : Nat → Array Bool → Act → World → Prop
  | 0, listed, a, w => Region.ready md ops listed = [] ∧ Q .normal a w
  | f + 1, listed, a, w => (Region.ready md ops listed = [] → Q .normal a w) ∧ ∀ i ∈ Region.ready md ops listed, ∀ o, ops[i]? = some o → nOp P ops o (fun a' w' => I w' ∧ nAny P md ops I Q f (listed.setIfInBounds i true) a' w') a w

theorem nAny_wp : ∀ (f : Nat) (listed : Array Bool) (a : Act) (w : World), nAny P md ops I Q f listed a w → wpAny P md ops Q f listed a w
  | 0, _, _, _, h => h
  | f + 1, listed, a, w, h => ⟨h.1, fun i hi => by
    obtain ⟨_, o, ho, _⟩ := mem_ready.1 hi
    exact nOp_wp ho (nOp_mono (fun a' w' hk => nAny_wp f _ a' w' hk.2) (h.2 i hi o ho))⟩

theorem nAny_first {i : Nat} {oi : Oper} {v : Value} (hi : ops[i]? = some oi) (hsel : ∀ (j : Nat) (o : Oper) cs b, ops[j]? = some o → o.op ≠ .select cs b) :
    ∀ (f : Nat) (listed : Array Bool) (a : Act) (w : World), I w →
      (∀ j oj, ops[j]? = some oj → j ≠ i → listed.getD j true = false → (∀ e ∈ oj.after, Region.binds md e = true → e.on ≠ i) → oi.apart ops oj = true) →
      i ∈ Region.ready md ops listed → (∀ w', I w' → YieldsAt P ops w' oi v a) →
      nAny P md ops I Q f (listed.setIfInBounds i true) (a.put oi.dst v) w → nAny P md ops I Q (f + 1) listed a w := by
  intro f
  induction f with
  | zero =>
    intro listed a w hI _ hr hy H
    refine ⟨fun h => (by rw [h] at hr; cases hr), fun j hj o ho => ?_⟩
    by_cases hji : j = i
    · subst hji
      obtain rfl : oi = o := Option.some.inj (hi.symm.trans ho)
      exact nOp_yields (hy w hI) ⟨hI, H⟩
    · have := ready_mono hj hji
      rw [H.1] at this
      cases this
  | succ f ih =>
    intro listed a w hI hfree hr hy H
    refine ⟨fun h => (by rw [h] at hr; cases hr), fun j hj oj hoj => ?_⟩
    by_cases hji : j = i
    · subst hji
      obtain rfl : oi = oj := Option.some.inj (hi.symm.trans hoj)
      exact nOp_yields (hy w hI) ⟨hI, H⟩
    · have h1 := H.2 j (ready_mono hj hji) oj hoj
      obtain ⟨hjun, oj', hoj', hall⟩ := mem_ready.1 hj
      obtain rfl : oj = oj' := Option.some.inj (hoj.symm.trans hoj')
      have hnot : ∀ e ∈ oj.after, Region.binds md e = true → e.on ≠ i := fun e he hb heq => by
        have h1 := hall e he hb
        have h0 := (mem_ready.1 hr).1
        rw [heq] at h1
        rcases Nat.lt_or_ge i listed.size with h' | h'
        · simp [h'] at h0 h1; rw [h0] at h1; cases h1
        · simp [Array.getElem?_eq_none h'] at h1
      have h2 := nOp_put (hfree j oj hoj hji hjun hnot) (fun cs b => hsel i oi cs b hi) (fun cs b => hsel j oj cs b hoj) hy h1
      have hfree' : ∀ k ok, ops[k]? = some ok → k ≠ i → (listed.setIfInBounds j true).getD k true = false →
          (∀ e ∈ ok.after, Region.binds md e = true → e.on ≠ i) → oi.apart ops ok = true := fun k ok hk hki hun hno => by
        refine hfree k ok hk hki ?_ hno
        by_cases hjk : j = k
        · subst hjk; exact hjun
        · rw [getD_set_ne true hjk] at hun; exact hun
      refine nOp_mono (fun a' w' h3 => ⟨h3.2.1, ih (listed.setIfInBounds j true) a' w' h3.2.1 hfree' (ready_mono hr (Ne.symm hji)) h3.1 ?_⟩) h2
      rw [Array.setIfInBounds_comm _ _ hji]
      exact h3.2.2

/-- The operations one by one in an order of the prover's own: those marked true give one value in every world that keeps I. -/
def nList (P : Program) (ops : Array Oper) (I : World → Prop) (Q : Exit → Act → World → Prop) : List (Oper × Bool) → Act → World → Prop
  | [], a, w => Q .normal a w
  | (o, true) :: rest, a, w => ∃ v, (∀ w', I w' → YieldsAt P ops w' o v a) ∧ nList P ops I Q rest (a.put o.dst v) w
  | (o, false) :: rest, a, w => nOp P ops o (fun a' w' => ∃ I' : World → Prop, I' w' ∧ (∀ w, I' w → I w) ∧ nList P ops I' Q rest a' w') a w
theorem nAny_strong {I' : World → Prop} (hI : ∀ w, I' w → I w) : ∀ (f : Nat) (listed : Array Bool) (a : Act) (w : World), nAny P md ops I' Q f listed a w → nAny P md ops I Q f listed a w
  | 0, _, _, _, h => h
  | f + 1, listed, a, w, h => ⟨h.1, fun i hi o ho => nOp_mono (fun a' w' hk => ⟨hI _ hk.1, nAny_strong hI f _ a' w' hk.2⟩) (h.2 i hi o ho)⟩
def permB (md : Region.Mode) (ops : Array Oper) : List (Nat × Bool) → Array Bool → Bool
  | [], listed => (Region.ready md ops listed).isEmpty
  | (k, fl) :: rest, listed => (if fl then (Region.ready md ops listed).contains k && Region.free md ops listed k else decide (Region.ready md ops listed = [k])) && permB md ops rest (listed.setIfInBounds k true)
def permOps (ops : Array Oper) : List (Nat × Bool) → Option (List (Oper × Bool))
  | [] => some []
  | (k, fl) :: rest => match ops[k]?, permOps ops rest with
    | some o, some l => some ((o, fl) :: l)
    | _, _ => none

theorem nAny_perm (hsel : Region.noSelect ops = true) : ∀ (I : World → Prop) (perm : List (Nat × Bool)) (l : List (Oper × Bool)) (listed : Array Bool) (a : Act) (w : World), permOps ops perm = some l → permB md ops perm listed = true → I w →
    nList P ops I Q l a w → nAny P md ops I Q perm.length listed a w
  | I, [], l, listed, a, w, hl, hB, hI, h => by
    simp only [permOps, Option.some.injEq] at hl
    subst hl
    exact ⟨by simpa [permB] using hB, h⟩
  | I, (k, fl) :: rest, l, listed, a, w, hl, hB, hI, h => by
    unfold permOps at hl
    cases hk : ops[k]? with
    | none => rw [hk] at hl; cases hl
    | some o =>
      cases hp : permOps ops rest with
      | none => rw [hk, hp] at hl; cases hl
      | some l' =>
        rw [hk, hp] at hl
        simp only [Option.some.injEq] at hl
        subst hl
        unfold permB at hB
        rw [Bool.and_eq_true] at hB
        obtain ⟨hB1, hB2⟩ := hB
        cases fl with
        | true =>
          rw [if_pos rfl, Bool.and_eq_true] at hB1
          obtain ⟨v, hy, hr⟩ := h
          exact nAny_first hk (Region.noSelect_spec hsel) rest.length listed a w hI (Region.free_spec hk hB1.2) (by simpa using hB1.1) hy (nAny_perm hsel I rest l' _ _ _ hp hB2 hI hr)
        | false =>
          rw [if_neg (by simp), decide_eq_true_eq] at hB1
          refine ⟨fun h0 => (by rw [hB1] at h0; cases h0), fun i hi oi hoi => ?_⟩
          rw [hB1] at hi
          obtain rfl : i = k := by simpa using hi
          obtain rfl : o = oi := Option.some.inj (hk.symm.trans hoi)
          exact nOp_mono (fun a' w' ⟨I', h1, h2, h3⟩ => ⟨h2 _ h1, nAny_strong h2 _ _ _ _ (nAny_perm hsel I' rest l' _ _ _ hp hB2 h1 h3)⟩) h

theorem wp_region_perm {id : Nat} {a : Act} {w : World} (I : World → Prop) (perm : List (Nat × Bool)) (l : List (Oper × Bool)) (hm : P.follows .mixedOrders = true) (hl : permOps ops perm = some l)
    (hB : (Region.noSelect ops && decide (perm.length = ops.size) && permB .any ops perm (Array.replicate ops.size false)) = true) (hI : I { w with drawn := w.drawn + 1 })
    (h : nList P ops I Q l a { w with drawn := w.drawn + 1 }) : (Code.region id ops true).wp P Q a w := by
  simp only [Bool.and_eq_true, decide_eq_true_eq] at hB
  refine wp_region_any hm ?_
  rw [← hB.1.2]
  have := nAny_wp (Q := Q) _ _ _ _ (nAny_perm hB.1.1 I perm l (Array.replicate ops.size false) a _ hl (by rw [hB.1.2] at *; exact hB.2) hI h)
  rw [hB.1.2] at this ⊢
  exact this

theorem nList_nil {a : Act} {w : World} (h : Q .normal a w) : nList P ops I Q [] a w := h
theorem nList_float {o : Oper} {rest : List (Oper × Bool)} {a : Act} {w : World} (v : Value) (hy : ∀ w', I w' → YieldsAt P ops w' o v a) (h : nList P ops I Q rest (a.put o.dst v) w) : nList P ops I Q ((o, true) :: rest) a w := ⟨v, hy, h⟩
theorem nList_step {o : Oper} {rest : List (Oper × Bool)} {a : Act} {w : World} (h : ∀ K : Act → World → Prop, (∀ a' w', I w' → nList P ops I Q rest a' w' → K a' w') → nOp P ops o K a w) : nList P ops I Q ((o, false) :: rest) a w :=
  h _ fun _ _ h1 h2 => ⟨I, h1, fun _ e => e, h2⟩
/-- A forced step behind which a stronger fact is kept. -/
theorem nList_strong {o : Oper} {rest : List (Oper × Bool)} {a : Act} {w : World} (h : ∀ K : Act → World → Prop, (∀ (I' : World → Prop) a' w', I' w' → (∀ w, I' w → I w) → nList P ops I' Q rest a' w' → K a' w') → nOp P ops o K a w) : nList P ops I Q ((o, false) :: rest) a w :=
  h _ fun I' _ _ h1 h2 h3 => ⟨I', h1, h2, h3⟩
end
end Go.Proofs.YtjlgkjhociaeiaaGreatDoor
namespace Go.Proofs.YtjlgkjhociaeiaaGreatDoor
open Go.RowKit
set_option linter.unusedVariables false

section
variable {P : Program} {ops : Array Oper} {I : World → Prop} {Q : Exit → Act → World → Prop}

def dstOf (ops : Array Oper) (k : Nat) : Option Tmp := (ops[k]?).bind (·.dst)
def depsOf (ops : Array Oper) (k : Nat) : List Nat := match ops[k]? with
  | some o => (o.after.toList.filter (Region.binds .any)).map (·.on)
  | none => []
/-- The values that operations have given, laid into the frame. -/
def puts (ops : Array Oper) (listed : Nat → Bool) (vals : Nat → Value) (a : Act) : Nat → Act
  | 0 => a
  | n + 1 => if listed n then (puts ops listed vals a n).put (dstOf ops n) (vals n) else puts ops listed vals a n
def nVal (P : Program) (ops : Array Oper) (o : Oper) (K : Value → World → Prop) (a : Act) (w : World) : Prop :=
  if Region.wanted o (yielded ops a.tmps) then
    (match (execOp a.eval o).run P w with
      | .ok (.value v) w' => K v w'
      | .ok .skip w' => K undef w'
      | .ok (.enter f args) w' => Calls P f args w' (fun e w'' => ∃ v, e = .returned v ∧ K v w'')
      | _ => False)
  else K undef w
theorem nVal_op {o : Oper} {a : Act} {w : World} {K : Act → World → Prop} (h : nVal P ops o (fun v w' => K (a.put o.dst v) w') a w) : nOp P ops o K a w := by
  unfold nVal at h
  unfold nOp
  split
  · rename_i hw
    rw [if_pos hw] at h
    generalize (execOp a.eval o).run P w = r at *
    cases r with
    | ok n w' => cases n <;> simp only [nUpon] at h ⊢ <;> exact h
    | halt x w' => exact h
  · rename_i hw
    rw [if_neg hw] at h
    exact h
theorem nVal_mono {o : Oper} {a : Act} {w : World} {K K' : Value → World → Prop} (hk : ∀ v w, K v w → K' v w) (h : nVal P ops o K a w) : nVal P ops o K' a w := by
  unfold nVal at *
  split
  · rename_i hw
    rw [if_pos hw] at h
    generalize (execOp a.eval o).run P w = r at *
    cases r with
    | ok n w' =>
      cases n <;> simp only at h ⊢
      case enter f args => exact h.mono fun e w'' ⟨v, he, hq⟩ => ⟨v, he, hk _ _ hq⟩
      all_goals (first | exact hk _ _ h | exact h)
    | halt x w' => exact h
  · rename_i hw
    rw [if_neg hw] at h
    exact hk _ _ h

/-- Two frames look alike to an operation. -/
def Alike' (ops : Array Oper) (o : Oper) (a b : Act) : Prop := ∀ t ∈ o.looksAt ops, a.tmps[t]? = b.tmps[t]?
theorem Alike'.put {o : Oper} {a b : Act} (h : Alike' ops o a b) (hs : a.tmps.size = b.tmps.size) (d : Option Tmp) (v : Value) : Alike' ops o (a.put d v) (b.put d v) := by
  intro t ht
  cases d with
  | none => exact h t ht
  | some d =>
    simp only [Act.put]
    by_cases e : d = t
    · subst e
      rw [Array.getElem?_setIfInBounds, Array.getElem?_setIfInBounds, if_pos rfl, if_pos rfl, hs]
    · rw [Array.getElem?_setIfInBounds_ne e, Array.getElem?_setIfInBounds_ne e]
      exact h t ht
theorem Alike'.put1 {o : Oper} {a b : Act} (h : Alike' ops o a b) (d : Option Tmp) (v : Value) (hd : ∀ x, d = some x → x ∉ o.looksAt ops) : Alike' ops o a (b.put d v) := by
  intro t ht
  cases d with
  | none => exact h t ht
  | some d =>
    simp only [Act.put]
    rw [Array.getElem?_setIfInBounds_ne (fun e => by subst e; exact hd _ rfl ht)]
    exact h t ht
theorem Alike'.exec {o : Oper} {a b : Act} (hs : ∀ cs q, o.op ≠ .select cs q) (h : Alike' ops o a b) : execOp a.eval o = execOp b.eval o ∧ Region.wanted o (yielded ops a.tmps) = Region.wanted o (yielded ops b.tmps) := by
  constructor
  · refine execOp_congr o hs fun x hx => ?_
    cases x with
    | tmp t =>
      have : t ∈ o.looksAt ops := List.mem_append_left _ (List.mem_filterMap.2 ⟨.tmp t, by simpa using hx, rfl⟩)
      simp only [Act.eval, Array.getD_eq_getD_getElem?, h t this]
    | _ => rfl
  · unfold Region.wanted
    cases hg : o.guard with
    | none => rfl
    | some gw =>
      obtain ⟨g, want⟩ := gw
      have : yielded ops a.tmps g = yielded ops b.tmps g := by
        unfold yielded
        cases ht : (ops[g]?).bind (·.dst) with
        | none => rfl
        | some t =>
          have h2 := h t (by simp [Oper.looksAt, hg, ht])
          simp only [Option.bind_eq_bind, Option.bind_some]
          rw [h2]
      simp only [this]
theorem nVal_alike {o : Oper} {a b : Act} {w : World} {K : Value → World → Prop} (hs : ∀ cs q, o.op ≠ .select cs q) (h : Alike' ops o a b) (hn : nVal P ops o K b w) : nVal P ops o K a w := by
  obtain ⟨h1, h2⟩ := h.exec hs
  unfold nVal at *
  rw [h1, h2]
  exact hn

theorem puts_size (listed : Nat → Bool) (vals : Nat → Value) (a : Act) : ∀ n, (puts ops listed vals a n).tmps.size = a.tmps.size
  | 0 => rfl
  | n + 1 => by
    unfold puts
    split
    · cases hd : dstOf ops n with
      | none => exact puts_size listed vals a n
      | some d => simp only [Act.put, Array.size_setIfInBounds]; exact puts_size listed vals a n
    · exact puts_size listed vals a n
theorem puts_alike {o : Oper} (listed : Nat → Bool) (vals : Nat → Value) (a : Act) : ∀ n, (∀ k, k < n → listed k = false → ∀ d, dstOf ops k = some d → d ∉ o.looksAt ops) → Alike' ops o (puts ops listed vals a n) (puts ops (fun _ => true) vals a n)
  | 0, _ => fun _ _ => rfl
  | n + 1, h => by
    have ih := puts_alike listed vals a n fun k hk => h k (by omega)
    unfold puts
    rw [if_pos rfl]
    cases hl : listed n with
    | true =>
      rw [if_pos rfl]
      exact ih.put (by rw [puts_size, puts_size]) _ _
    | false =>
      rw [if_neg (by simp)]
      exact ih.put1 _ _ (h n (by omega) hl)
theorem puts_congr {listed listed' : Nat → Bool} {vals vals' : Nat → Value} (a : Act) : ∀ n, (∀ k, k < n → listed' k = listed k) → (∀ k, k < n → listed k = true → vals' k = vals k) → puts ops listed' vals' a n = puts ops listed vals a n
  | 0, _, _ => rfl
  | n + 1, h1, h2 => by
    have ih := puts_congr a n (fun k hk => h1 k (by omega)) (fun k hk => h2 k (by omega))
    unfold puts
    rw [ih, h1 n (by omega)]
    split
    · rename_i hl
      rw [h2 n (by omega) hl]
    · rfl
def upd (vals : Nat → Value) (i : Nat) (v : Value) : Nat → Value := fun k => if k = i then v else vals k
theorem puts_upd {listed listed' : Nat → Bool} {vals : Nat → Value} {i : Nat} {v : Value} (a : Act) (hi : listed i = false) (hi' : listed' i = true) (ho : ∀ k, k ≠ i → listed' k = listed k) : ∀ n, i < n → (∀ j, j < n → j ≠ i → ∀ d, dstOf ops i = some d → dstOf ops j ≠ some d) →
    puts ops listed' (upd vals i v) a n = (puts ops listed vals a n).put (dstOf ops i) v
  | 0, h, _ => absurd h (by omega)
  | n + 1, h, hd => by
    by_cases e : i = n
    · subst e
      have : puts ops listed' (upd vals i v) a i = puts ops listed vals a i := puts_congr a i (fun k hk => ho k (by omega)) (fun k hk _ => by simp [upd, show k ≠ i by omega])
      unfold puts
      rw [this, hi, hi', if_pos rfl, if_neg (by simp)]
      simp [upd]
    · have ih := puts_upd (vals := vals) (v := v) a hi hi' ho n (by omega) (fun j hj => hd j (by omega))
      unfold puts
      rw [ih, ho n (by omega)]
      split
      · have : upd vals i v n = vals n := by simp [upd, show n ≠ i by omega]
        rw [this, Act.put_comm _ _ _ (hd n (by omega) (by omega))]
      · rfl

def leftOf (listed : Array Bool) : Nat → Nat
  | 0 => 0
  | n + 1 => leftOf listed n + if listed.getD n false then 0 else 1
theorem leftOf_set {listed : Array Bool} {i : Nat} (hi : i < listed.size) (hl : listed.getD i false = false) : ∀ n, leftOf (listed.setIfInBounds i true) n + (if i < n then 1 else 0) = leftOf listed n
  | 0 => by simp [leftOf]
  | n + 1 => by
    have ih := leftOf_set hi hl n
    unfold leftOf
    by_cases e : i = n
    · subst e
      rw [if_neg (Nat.lt_irrefl i)] at ih
      have h1 : (listed.setIfInBounds i true).getD i false = true := by simp [hi]
      rw [h1, hl]
      simp
      omega
    · rw [getD_set_ne false e]
      by_cases hlt : i < n
      · have hlt2 : i < n + 1 := Nat.lt_succ_of_lt hlt
        rw [if_pos hlt] at ih
        rw [if_pos hlt2]
        omega
      · have hlt2 : ¬ i < n + 1 := fun q => hlt (Nat.lt_of_le_of_ne (Nat.le_of_lt_succ q) e)
        rw [if_neg hlt] at ih
        rw [if_neg hlt2]
        omega
theorem leftOf_zero {listed : Array Bool} : ∀ n, leftOf listed n = 0 → ∀ k, k < n → listed.getD k false = true
  | 0, _, k, hk => absurd hk (by omega)
  | n + 1, h, k, hk => by
    unfold leftOf at h
    by_cases e : k = n
    · subst e
      by_cases hl : listed.getD k false = true
      · exact hl
      · rw [if_neg hl] at h; omega
    · exact leftOf_zero n (by omega) k (by omega)
theorem leftOf_least {listed : Array Bool} : ∀ n, 0 < leftOf listed n → ∃ k, k < n ∧ listed.getD k false = false ∧ ∀ j, j < k → listed.getD j false = true
  | 0, h => by simp [leftOf] at h
  | n + 1, h => by
    by_cases h0 : leftOf listed n = 0
    · refine ⟨n, by omega, ?_, fun j hj => leftOf_zero n h0 j hj⟩
      unfold leftOf at h
      by_cases hl : listed.getD n false = true
      · rw [if_pos hl] at h; omega
      · simpa using hl
    · obtain ⟨k, h1, h2, h3⟩ := leftOf_least (listed := listed) n (Nat.pos_of_ne_zero h0)
      exact ⟨k, by omega, h2, h3⟩

/-- What is looked at in the operations' table. -/
def localB (ops : Array Oper) (m : Nat) : Bool :=
  Region.noSelect ops && decide (m < ops.size) &&
  (List.range ops.size).all (fun k => (depsOf ops k).all fun e => decide (e < k)) &&
  (List.range m).all (fun k => (List.range (m + 1)).any fun s => decide (k < s) && (depsOf ops s).contains k) &&
  (List.range ops.size).all (fun k => decide (k ≤ m) || (depsOf ops k).any fun e => decide (m ≤ e)) &&
  (List.range m).all (fun k => match ops[k]?, dstOf ops k with
    | some o, some d => !(o.looksAt ops).contains d
    | _, _ => true) &&
  (List.range m).all (fun k => (List.range m).all fun j => j == k || (match dstOf ops j with
    | some d => decide (dstOf ops k ≠ some d) && ((depsOf ops k).contains j || match ops[k]? with
      | some o => !(o.looksAt ops).contains d
      | none => true)
    | none => true))
structure LocalOk (ops : Array Oper) (m : Nat) : Prop where
  sel : Region.noSelect ops = true
  lt : m < ops.size
  back : ∀ k, k < ops.size → ∀ e ∈ depsOf ops k, e < k
  succ : ∀ k, k < m → ∃ s, s ≤ m ∧ k < s ∧ k ∈ depsOf ops s
  rest : ∀ k, k < ops.size → m < k → ∃ e ∈ depsOf ops k, m ≤ e
  self : ∀ k, k < m → ∀ o, ops[k]? = some o → ∀ d, dstOf ops k = some d → d ∉ o.looksAt ops
  apart : ∀ k, k < m → ∀ j, j < m → j ≠ k → ∀ d, dstOf ops j = some d → dstOf ops k ≠ some d ∧ (j ∈ depsOf ops k ∨ ∀ o, ops[k]? = some o → d ∉ o.looksAt ops)
theorem localOk {m : Nat} (h : localB ops m = true) : LocalOk ops m := by
  unfold localB at h
  simp only [Bool.and_eq_true, decide_eq_true_eq, List.all_eq_true, List.mem_range, List.any_eq_true, List.contains_iff_mem, Bool.or_eq_true, beq_iff_eq] at h
  obtain ⟨⟨⟨⟨⟨⟨h1, h2⟩, h3⟩, h4⟩, h5⟩, h7⟩, h6⟩ := h
  refine ⟨h1, h2, h3, fun k hk => ?_, fun k hk hm => ?_, fun k hk o ho d hd => ?_, fun k hk j hj hne d hd => ?_⟩
  · obtain ⟨s, a, b, c⟩ := h4 k hk
    exact ⟨s, by omega, b, c⟩
  · rcases h5 k hk with a | ⟨e, a, b⟩
    · omega
    · exact ⟨e, a, b⟩
  · have := h7 k hk
    rw [ho, hd] at this
    simpa using this
  · rcases h6 k hk j hj with a | a
    · exact absurd a hne
    · rw [hd] at a
      simp only [Bool.and_eq_true, decide_eq_true_eq, Bool.or_eq_true, List.contains_iff_mem] at a
      refine ⟨a.1, a.2.imp id fun b o ho => ?_⟩
      rw [ho] at b
      simpa using b

theorem mem_deps {k : Nat} {o : Oper} (ho : ops[k]? = some o) {j : Nat} : j ∈ depsOf ops k ↔ ∃ e ∈ o.after, Region.binds .any e = true ∧ e.on = j := by
  unfold depsOf
  rw [ho]
  simp only [List.mem_map, List.mem_filter, Array.mem_toList_iff, and_assoc]

section
variable {m : Nat} {J : World → Prop} {G : World → World → Prop} {W : Nat → (Nat → Value) → Value → World → Prop} {a0 : Act} {l : List (Oper × Bool)} {perm : List (Nat × Bool)}
theorem nAny_local (L : LocalOk ops m) (hl : permOps ops perm = some l) (hp : ∀ listed : Array Bool, listed.size = ops.size → (∀ k, k < m → listed.getD k false = true) → (∀ k, m ≤ k → listed.getD k false = false) → permB .any ops perm listed = true)
    (hGr : ∀ w, G w w) (hW : ∀ k, k < m → ∀ vals vals' v w w', (∀ j ∈ depsOf ops k, vals' j = vals j) → G w w' → W k vals v w → W k vals' v w')
    (hstep : ∀ k, k < m → ∀ o, ops[k]? = some o → ∀ vals w, J w → (∀ j ∈ depsOf ops k, W j vals (vals j) w) → nVal P ops o (fun v w' => J w' ∧ G w w' ∧ W k vals v w') (puts ops (fun _ => true) vals a0 m) w)
    (hend : ∀ vals w, J w → (∀ k, k < m → W k vals (vals k) w) → nList P ops (fun _ => True) Q l (puts ops (fun _ => true) vals a0 m) w) :
    ∀ (c : Nat) (listed : Array Bool) (vals : Nat → Value) (w : World), leftOf listed m = c → listed.size = ops.size → (∀ k, m ≤ k → listed.getD k false = false) →
      (∀ k, listed.getD k false = true → ∀ j ∈ depsOf ops k, listed.getD j false = true) → J w → (∀ k, k < m → listed.getD k false = true → W k vals (vals k) w) →
      nAny P .any ops (fun _ => True) Q (c + perm.length) listed (puts ops (fun k => listed.getD k false) vals a0 m) w
  | 0, listed, vals, w, hc, hsz, hm, hcl, hI, hk => by
    have hall := leftOf_zero m hc
    have e : puts ops (fun k => listed.getD k false) vals a0 m = puts ops (fun _ => true) vals a0 m := puts_congr a0 m (fun k hk => hall k hk) (fun _ _ _ => rfl)
    rw [e, Nat.zero_add]
    exact nAny_perm L.sel _ perm l listed _ w hl (hp listed hsz hall hm) trivial (hend vals w hI fun k hkm => hk k hkm (hall k hkm))
  | c + 1, listed, vals, w, hc, hsz, hm, hcl, hI, hk => by
    obtain ⟨k0, hk0, hun0, hlow⟩ := leftOf_least m (by omega : 0 < leftOf listed m)
    have dT : ∀ k, k < ops.size → listed.getD k true = listed.getD k false := fun k hk => by
      simp [hsz, hk]
    have hready0 : k0 ∈ Region.ready .any ops listed := by
      have hlt : k0 < ops.size := by have := L.lt; omega
      rw [mem_ready]
      refine ⟨by rw [dT k0 hlt]; exact hun0, ops[k0], by simp [hlt], fun e he hb => hlow _ (L.back k0 hlt _ ((mem_deps (by simp [hlt])).2 ⟨e, he, hb, rfl⟩))⟩
    rw [show c + 1 + perm.length = (c + perm.length) + 1 by omega]
    refine ⟨fun h => (by rw [h] at hready0; cases hready0), fun i hi o ho => ?_⟩
    obtain ⟨hun, o', ho', hdeps'⟩ := mem_ready.1 hi
    obtain rfl : o = o' := Option.some.inj (ho.symm.trans ho')
    have hilt : i < ops.size := (Array.getElem?_eq_some_iff.1 ho).1
    have hdeps : ∀ j ∈ depsOf ops i, listed.getD j false = true := fun j hj => by
      obtain ⟨e, he, hb, rfl⟩ := (mem_deps ho).1 hj
      exact hdeps' e he hb
    have hun2 : listed.getD i false = false := by rw [← dT i hilt]; exact hun
    have him : i < m := by
      rcases Nat.lt_trichotomy i m with h | h | h
      · exact h
      · subst h
        have key : ∀ d k, i - k = d → k < i → listed.getD k false = true := by
          intro d
          induction d using Nat.strongRecOn with
          | ind d ih =>
            intro k hd hki
            obtain ⟨s, h1, h2, h3⟩ := L.succ k hki
            rcases Nat.lt_or_ge s i with h4 | h4
            · exact hcl s (ih (i - s) (by omega) s rfl h4) k h3
            · obtain rfl : s = i := by omega
              exact hdeps k h3
        rw [key (i - k0) k0 rfl hk0] at hun0
        cases hun0
      · obtain ⟨e, h1, h2⟩ := L.rest i hilt h
        have h9 := hm e h2
        rw [hdeps e h1] at h9
        cases h9
    refine nVal_op ?_
    have hal : Alike' ops o (puts ops (fun k => listed.getD k false) vals a0 m) (puts ops (fun _ => true) vals a0 m) := puts_alike _ vals a0 m fun k hkm hkl d hd => by
      by_cases e : k = i
      · subst e
        exact L.self k hkm o ho d hd
      · rcases (L.apart i him k hkm e d hd).2 with h1 | h1
        · have := hdeps k h1
          rw [this] at hkl
          cases hkl
        · exact h1 o ho
    refine nVal_alike (Region.noSelect_spec L.sel i o · · ho) hal (nVal_mono ?_ (hstep i him o ho vals w hI fun j hj => hk j (by have := L.back i hilt j hj; omega) (hdeps j hj)))
    rintro v w' ⟨hI', hG, hWi⟩
    have hdst : o.dst = dstOf ops i := by simp [dstOf, ho]
    have e : (puts ops (fun k => listed.getD k false) vals a0 m).put o.dst v = puts ops (fun k => (listed.setIfInBounds i true).getD k false) (upd vals i v) a0 m := by
      rw [hdst]
      exact (puts_upd a0 hun2 (by simp [hsz, hilt]) (fun k hk => getD_set_ne false (Ne.symm hk)) m him (fun j hj hne d hd h2 => (L.apart i him j hj hne d h2).1 hd)).symm
    refine ⟨trivial, ?_⟩
    rw [e]
    have hnotdep : ∀ k, listed.getD k false = true → ∀ j ∈ depsOf ops k, j ≠ i := fun k hkl j hj he => by
      subst he
      have := hcl k hkl j hj
      rw [this] at hun2
      cases hun2
    refine nAny_local L hl hp hGr hW hstep hend c _ _ _ ?_ (by simpa using hsz) ?_ ?_ hI' ?_
    · have := leftOf_set (by rw [hsz]; exact hilt) hun2 m
      rw [if_pos him] at this
      omega
    · intro k hkm
      rw [getD_set_ne false (by omega)]
      exact hm k hkm
    · intro k hkl j hj
      by_cases e : k = i
      · subst e
        exact getD_set_true (hdeps j hj)
      · rw [getD_set_ne false (Ne.symm e)] at hkl
        exact getD_set_true (hcl k hkl j hj)
    · intro k hkm hkl
      by_cases e : k = i
      · subst e
        have e1 : upd vals k v k = v := by simp [upd]
        rw [e1]
        exact hW k hkm vals _ v w' w' (fun j hj => by have := L.back k hilt j hj; simp [upd, show j ≠ k by omega]) (hGr w') hWi
      · rw [getD_set_ne false (Ne.symm e)] at hkl
        have e1 : upd vals i v k = vals k := by simp [upd, e]
        rw [e1]
        exact hW k hkm vals _ _ w w' (fun j hj => by simp [upd, hnotdep k hkl j hj]) hG (hk k hkm hkl)

def putL : List (Option Tmp) → (Nat → Value) → Nat → Act → Act
  | [], _, _, a => a
  | d :: ds, vals, k, a => putL ds vals (k + 1) (a.put d (vals k))
theorem putL_snoc (vals : Nat → Value) : ∀ (ds : List (Option Tmp)) (d : Option Tmp) (k : Nat) (a : Act), putL (ds ++ [d]) vals k a = (putL ds vals k a).put d (vals (k + ds.length))
  | [], d, k, a => rfl
  | x :: ds, d, k, a => by
    show putL (ds ++ [d]) vals (k + 1) (a.put x (vals k)) = _
    rw [putL_snoc vals ds d (k + 1)]
    simp only [putL, List.length_cons]
    rw [show k + 1 + ds.length = k + (ds.length + 1) by omega]
theorem puts_list (vals : Nat → Value) (a : Act) : ∀ n, puts ops (fun _ => true) vals a n = putL ((List.range n).map (dstOf ops)) vals 0 a
  | 0 => rfl
  | n + 1 => by
    rw [List.range_succ, List.map_append, List.map_cons, List.map_nil, putL_snoc, ← puts_list vals a n]
    simp [puts]
/-- Of each operation: what it gives. -/
def Obl (P : Program) (ops : Array Oper) (J : World → Prop) (G : World → World → Prop) (W : Nat → (Nat → Value) → Value → World → Prop) (a : (Nat → Value) → Act) : List (Oper × Bool) → Nat → Prop
  | [], _ => True
  | (o, _) :: os, k => (∀ vals w, J w → (∀ j, (depsOf ops k).contains j = true → W j vals (vals j) w) → nVal P ops o (fun v w' => J w' ∧ G w w' ∧ W k vals v w') (a vals) w) ∧ Obl P ops J G W a os (k + 1)
def permA (m : Nat) : List (Nat × Bool) := (List.range m).map fun k => (k, true)
theorem permOps_get : ∀ (pm : List (Nat × Bool)) (l : List (Oper × Bool)), permOps ops pm = some l → ∀ i (h : i < pm.length), ∃ o, ops[pm[i].1]? = some o ∧ l[i]? = some (o, pm[i].2)
  | [], l, _, i, h => absurd h (by simp)
  | (k, fl) :: rest, l, hl, i, h => by
    unfold permOps at hl
    cases hk : ops[k]? with
    | none => rw [hk] at hl; cases hl
    | some o =>
      cases hp : permOps ops rest with
      | none => rw [hk, hp] at hl; cases hl
      | some l' =>
        rw [hk, hp] at hl
        simp only [Option.some.injEq] at hl
        subst hl
        cases i with
        | zero => exact ⟨o, hk, rfl⟩
        | succ i =>
          obtain ⟨o', h1, h2⟩ := permOps_get rest l' hp i (by simpa using h)
          exact ⟨o', by simpa using h1, by simpa using h2⟩
theorem Obl.get {a : (Nat → Value) → Act} : ∀ (os : List (Oper × Bool)) (k : Nat), Obl P ops J G W a os k → ∀ i o b, os[i]? = some (o, b) → ∀ vals w, J w → (∀ j, (depsOf ops (k + i)).contains j = true → W j vals (vals j) w) → nVal P ops o (fun v w' => J w' ∧ G w w' ∧ W (k + i) vals v w') (a vals) w
  | [], k, _, i, o, b, h => by simp at h
  | (o', b') :: os, k, H, i, o, b, h => by
    cases i with
    | zero =>
      simp only [List.getElem?_cons_zero, Option.some.injEq, Prod.mk.injEq] at h
      obtain ⟨rfl, rfl⟩ := h
      exact H.1
    | succ i =>
      have := Obl.get os (k + 1) H.2 i o b (by simpa using h)
      rw [show k + 1 + i = k + (i + 1) by omega] at this
      exact this
def upTo (m n : Nat) : Array Bool := ((List.range n).map fun k => decide (k < m)).toArray
theorem upTo_eq {listed : Array Bool} {n : Nat} (hs : listed.size = n) (h1 : ∀ k, k < m → listed.getD k false = true) (h2 : ∀ k, m ≤ k → listed.getD k false = false) : listed = upTo m n := by
  apply Array.ext
  · simp [upTo, hs]
  · intro i hi hi'
    have e : listed.getD i false = listed[i] := by simp [hi]
    simp only [upTo, List.getElem_toArray, List.getElem_map, List.getElem_range]
    rw [← e]
    rcases Nat.lt_or_ge i m with h | h
    · rw [h1 i h]; simp [h]
    · rw [h2 i h]; simp; omega
theorem leftOf_all (n : Nat) : ∀ k, leftOf (Array.replicate n false) k = k
  | 0 => rfl
  | k + 1 => by
    unfold leftOf
    rw [leftOf_all n k]
    have : (Array.replicate n false).getD k false = false := by
      simp only [Array.getD_eq_getD_getElem?, Array.getElem?_replicate]
      split <;> rfl
    rw [this]
    simp

/-- The rule. m: how many operations are told one by one; perm: the rest, in the only order that there is. -/
theorem wp_region_local {id : Nat} {a : Act} {w : World} (J : World → Prop) (G : World → World → Prop) (W : Nat → (Nat → Value) → Value → World → Prop) (m : Nat) (perm : List (Nat × Bool)) (lA l : List (Oper × Bool)) (dsts : List (Option Tmp))
    (hm : P.follows .mixedOrders = true) (hlA : permOps ops (permA m) = some lA) (hl : permOps ops perm = some l) (hd : (List.range m).map (dstOf ops) = dsts)
    (hB : (localB ops m && decide (m + perm.length = ops.size) && permB .any ops perm (upTo m ops.size)) = true) (hI : J { w with drawn := w.drawn + 1 }) (hGr : ∀ w, G w w)
    (hW : ∀ k, k < m → ∀ vals vals' v w w', (∀ j, (depsOf ops k).contains j = true → vals' j = vals j) → G w w' → W k vals v w → W k vals' v w')
    (hstep : Obl P ops J G W (fun vals => putL dsts vals 0 a) lA 0)
    (hend : ∀ vals w, J w → (∀ k, k < m → W k vals (vals k) w) → nList P ops (fun _ => True) Q l (putL dsts vals 0 a) w) : (Code.region id ops true).wp P Q a w := by
  simp only [Bool.and_eq_true, decide_eq_true_eq] at hB
  obtain ⟨⟨h1, h2⟩, h3⟩ := hB
  have L := localOk h1
  have hfr : ∀ vals, puts ops (fun _ => true) vals a m = putL dsts vals 0 a := fun vals => by rw [puts_list, hd]
  refine wp_region_any hm ?_
  have K := nAny_local (Q := Q) (J := J) (G := G) (W := W) (a0 := a) (m := m) L hl (fun listed hs ha hb => by rw [upTo_eq hs ha hb]; exact h3) hGr
    (fun k hk vals vals' v w w' hv => hW k hk vals vals' v w w' fun j hj => hv j (by simpa using hj))
    (fun k hk o ho vals w hI hdep => by
      rw [hfr]
      obtain ⟨o', g1, g2⟩ := permOps_get (permA m) lA hlA k (by simpa [permA] using hk)
      have e : (permA m)[k]'(by simpa [permA] using hk) = (k, true) := by simp [permA]
      rw [e] at g1 g2
      obtain rfl : o' = o := Option.some.inj (g1.symm.trans ho)
      have := Obl.get lA 0 hstep k o' true g2 vals w hI (fun j hj => hdep j (by rw [Nat.zero_add] at hj; simpa using hj))
      rw [Nat.zero_add] at this
      exact this)
    (fun vals w hI hk => by rw [hfr]; exact hend vals w hI hk)
    m (Array.replicate ops.size false) (fun _ => undef) { w with drawn := w.drawn + 1 } (leftOf_all _ _) (by simp) (fun k _ => by
      simp only [Array.getD_eq_getD_getElem?, Array.getElem?_replicate]
      split <;> rfl) (fun k hk => by
      have : (Array.replicate ops.size false).getD k false = false := by
        simp only [Array.getD_eq_getD_getElem?, Array.getElem?_replicate]
        split <;> rfl
      rw [this] at hk
      cases hk) hI (fun k _ hk => by
      have : (Array.replicate ops.size false).getD k false = false := by
        simp only [Array.getD_eq_getD_getElem?, Array.getElem?_replicate]
        split <;> rfl
      rw [this] at hk
      cases hk)
  have e0 : puts ops (fun k => (Array.replicate ops.size false).getD k false) (fun _ => undef) a m = a := by
    have : ∀ n, puts ops (fun k => (Array.replicate ops.size false).getD k false) (fun _ => undef) a n = a := by
      intro n
      induction n with
      | zero => rfl
      | succ n ih =>
        unfold puts
        have : (Array.replicate ops.size false).getD n false = false := by
          simp only [Array.getD_eq_getD_getElem?, Array.getElem?_replicate]
          split <;> rfl
        rw [this, if_neg (by simp), ih]
    exact this m
  rw [e0, h2] at K
  exact nAny_wp _ _ _ _ K
end
end
end Go.Proofs.YtjlgkjhociaeiaaGreatDoor
