/-
  Joined by program out of: Plain, App0.
-/
import Derived.Test.YtjlgkjhociaeiaaGreatDoorGi
import Derived.Test.YtjlgkjhociaeiaaGreatDoorGj
import Derived.Test.YtjlgkjhociaeiaaGreatDoorBuild
namespace Go.Proofs.YtjlgkjhociaeiaaGreatDoor
set_option linter.unusedVariables false

/-- How a group is stored behind a tape. -/
def Tape.out (t : Tape) : List ByteArray → List UInt8
  | [] => []
  | r :: l => (stored r (chain t.head r)).data.toList ++ (t.add r).out l
def Tape.adds (t : Tape) (l : List ByteArray) : Tape := l.foldl Tape.add t
theorem Tape.adds_nil (t : Tape) : t.adds [] = t := rfl
theorem Tape.adds_cons (t : Tape) (r : ByteArray) (l : List ByteArray) : t.adds (r :: l) = (t.add r).adds l := rfl
theorem Tape.adds_snoc (t : Tape) (l : List ByteArray) (r : ByteArray) : t.adds (l ++ [r]) = (t.adds l).add r := by simp [Tape.adds]
theorem Tape.adds_append (t : Tape) (l m : List ByteArray) : t.adds (l ++ m) = (t.adds l).adds m := by simp [Tape.adds]
theorem Tape.out_snoc : ∀ (l : List ByteArray) (t : Tape) (r : ByteArray), t.out (l ++ [r]) = t.out l ++ (stored r (chain (t.adds l).head r)).data.toList
  | [], t, r => by simp [Tape.out, Tape.adds]
  | x :: l, t, r => by
    have e := Tape.out_snoc l (t.add x) r
    simp only [List.cons_append, Tape.out, Tape.adds_cons, List.append_assoc, e]
theorem Tape.out_append : ∀ (l m : List ByteArray) (t : Tape), t.out (l ++ m) = t.out l ++ (t.adds l).out m
  | [], m, t => by simp [Tape.out, Tape.adds]
  | x :: l, m, t => by
    have e := Tape.out_append l m (t.add x)
    simp only [List.cons_append, Tape.out, Tape.adds_cons, List.append_assoc, e]
theorem Tape.adds_size : ∀ (l : List ByteArray) (t : Tape), (t.adds l).size = t.size + (t.out l).length
  | [], t => by simp [Tape.out, Tape.adds]
  | x :: l, t => by
    have e : (t.add x).size = t.size + (stored x (chain t.head x)).size := rfl
    have e2 : (stored x (chain t.head x)).data.toList.length = (stored x (chain t.head x)).size := Array.length_toList
    rw [Tape.adds_cons, Tape.adds_size l (t.add x), Tape.out, List.length_append, e, e2, Nat.add_assoc]
theorem Tape.adds_recs : ∀ (l : List ByteArray) (t : Tape), (t.adds l).recs = t.recs ++ l
  | [], t => by simp [Tape.adds]
  | x :: l, t => by
    rw [Tape.adds_cons, Tape.adds_recs l (t.add x)]
    simp [Tape.add]

theorem data_app (a b : ByteArray) : (a ++ b).data.toList = a.data.toList ++ b.data.toList := by
  rw [ByteArray.data_append, Array.toList_append]
theorem data_len (a : ByteArray) : a.data.toList.length = a.size := Array.length_toList
theorem data_ext (a : ByteArray) (i j : Nat) : (a.extract i j).data.toList = (a.data.toList.take j).drop i := by
  rw [ByteArray.data_extract]
  simp [Array.toList_extract, List.extract_eq_take_drop, List.drop_take]
theorem data_get (s : ByteArray) (i : Nat) (h : i < s.size) : s[i] = s.data.toList[i]'(by rw [data_len]; exact h) := rfl
theorem stored_data (r h : ByteArray) : (stored r h).data.toList = 1 :: ((putI r.size) ++ r.data.toList ++ h.data.toList) := by
  unfold stored putS
  rw [data_app, data_app, data_app]
  rfl

/-- A record that stands behind a tape is loaded. -/
theorem load_step (t : Tape) (S r : ByteArray) (rest : List UInt8) (hr : r.size ≤ 65536) (h : S.data.toList.drop t.size = (stored r (chain t.head r)).data.toList ++ rest) :
    t.load S = (t.add r).load S ∧ S.data.toList.drop (t.add r).size = rest := by
  have hch := chain_size t.head r
  obtain ⟨H, hH⟩ : ∃ H, H = chain t.head r := ⟨_, rfl⟩
  rw [← hH] at h hch
  have hst : (stored r H).size = 1 + (putI r.size).length + r.size + 32 := by
    rw [← data_len, stored_data]
    simp only [List.length_cons, List.length_append, data_len, hch]
    omega
  have hlen : S.size - t.size = (stored r H).size + rest.length := by
    have := congrArg List.length h
    rw [List.length_drop, List.length_append, data_len, data_len] at this
    exact this
  have hsz : (t.add r).size = t.size + (stored r H).size := by rw [hH]; rfl
  have hget : ∀ k, (hk : k < (stored r H).size) → ∃ hk2 : t.size + k < S.size, S[t.size + k] = (stored r H).data.toList[k]'(by rw [data_len]; exact hk) := by
    intro k hk
    refine ⟨by omega, ?_⟩
    rw [data_get]
    have e1 : (S.data.toList.drop t.size)[k]? = ((stored r H).data.toList ++ rest)[k]? := by rw [h]
    rw [List.getElem?_drop, List.getElem?_append_left (by rw [data_len]; exact hk), List.getElem?_eq_getElem (by rw [data_len]; omega), List.getElem?_eq_getElem (by rw [data_len]; exact hk)] at e1
    injection e1
  have hlt : t.size < S.size := by omega
  constructor
  · have h0 : S[t.size] = 1 := by
      obtain ⟨_, e⟩ := hget 0 (by omega)
      simp only [Nat.add_zero] at e
      rw [e]
      simp only [stored_data, List.getElem_cons_zero]
    have hdec : decI S (t.size + 1) = some ((r.size : Int), t.size + 1 + (putI r.size).length) := by
      refine decI_put S (t.size + 1) r.size (by omega) (by omega) fun k hk => ?_
      obtain ⟨h1, e⟩ := hget (k + 1) (by omega)
      refine ⟨by omega, ?_⟩
      have e1 : t.size + 1 + k = t.size + (k + 1) := by omega
      simp only [e1]
      rw [e]
      simp only [stored_data, List.getElem_cons_succ, List.append_assoc]
      rw [List.getElem_append_left hk]
    have hext : ∀ a n : Nat, a + n ≤ (stored r H).size → (S.extract (t.size + a) (t.size + a + n)).data.toList = ((stored r H).data.toList.drop a).take n := by
      intro a n han
      rw [data_ext, List.drop_take]
      have e1 : t.size + a + n - (t.size + a) = n := by omega
      rw [e1, ← List.drop_drop, h, List.drop_append_of_le_length (by rw [data_len]; omega), List.take_append_of_le_length (by rw [List.length_drop, data_len]; omega)]
    have hdecS : decS S (t.size + 1) = some (r, t.size + 1 + (putI r.size).length + r.size) := by
      unfold decS
      rw [hdec]
      simp only
      rw [if_neg (by omega)]
      have e2 := hext (1 + (putI r.size).length) r.size (by omega)
      have e3 : S.extract (t.size + 1 + (putI r.size).length) (t.size + 1 + (putI r.size).length + (r.size : Int).toNat) = r := by
        apply byteArray_ext
        have e4 : t.size + 1 + (putI (r.size : Int)).length = t.size + (1 + (putI (r.size : Int)).length) := by omega
        rw [Int.toNat_natCast, e4, e2, stored_data, Nat.add_comm 1, List.drop_succ_cons, List.append_assoc, List.drop_left, ← data_len, List.take_left]
      rw [e3, Int.toNat_natCast]
    have hE : stored r H = S.extract t.size (t.size + 1 + (putI r.size).length + r.size + 32) := by
      apply byteArray_ext
      have e2 := hext 0 (stored r H).size (by omega)
      have e4 : t.size + 1 + (putI (r.size : Int)).length + r.size + 32 = t.size + 0 + (stored r H).size := by omega
      rw [e4]
      simp only [Nat.add_zero, List.drop_zero] at e2 ⊢
      rw [e2, ← data_len, List.take_length]
    rw [Tape.load, dif_pos hlt, h0, if_neg (by decide), if_pos (by decide), hdecS]
    simp only
    rw [if_pos]
    rw [← hH]
    exact ⟨by omega, hE⟩
  · rw [hsz, ← List.drop_drop, h, ← data_len, List.drop_left]

/-- A group that stands behind a tape is loaded. -/
theorem load_group : ∀ (l : List ByteArray) (t : Tape) (S : ByteArray) (rest : List UInt8), (∀ r ∈ l, r.size ≤ 65536) → S.data.toList.drop t.size = t.out l ++ rest → t.load S = (t.adds l).load S ∧ S.data.toList.drop (t.adds l).size = rest
  | [], t, S, rest, _, h => ⟨rfl, by simpa [Tape.out, Tape.adds] using h⟩
  | r :: l, t, S, rest, hl, h => by
    rw [Tape.out, List.append_assoc] at h
    obtain ⟨h1, h2⟩ := load_step t S r _ (hl r (by simp)) h
    obtain ⟨h3, h4⟩ := load_group l (t.add r) S rest (fun x hx => hl x (by simp [hx])) h2
    exact ⟨h1.trans h3, h4⟩
/-- Behind the last record. -/
theorem load_stop (t : Tape) (S : ByteArray) (h : ∀ c, (S.data.toList.drop t.size)[0]? = some c → c = 0) : t.load S = some t := by
  rw [Tape.load]
  split
  · rename_i hlt
    have e : (S.data.toList.drop t.size)[0]? = some S[t.size] := by
      rw [List.getElem?_drop, Nat.add_zero, List.getElem?_eq_getElem (by rw [data_len]; exact hlt)]
      rfl
    rw [if_pos (by rw [h _ e]; rfl)]
  · rfl
theorem load_zero (t : Tape) (S : ByteArray) (n : Nat) (l : List ByteArray) (hl : ∀ r ∈ l, r.size ≤ 65536) (rest : List UInt8) (hr : ∀ c, rest[0]? = some c → c = 0) (h : S.data.toList.drop t.size = t.out l ++ rest) : t.load S = some (t.adds l) := by
  obtain ⟨h1, h2⟩ := load_group l t S rest hl h
  rw [h1]
  exact load_stop _ _ (by rw [h2]; exact hr)

theorem trimB_nil (l : List UInt8) : Lib.trimB l 0 = [] ↔ ∀ c ∈ l, c = 0 := by
  have key : ∀ m : List UInt8, m.dropWhile (· == 0) = [] ↔ ∀ c ∈ m, c = 0 := by
    intro m
    induction m with
    | nil => simp
    | cons x m ih =>
      rw [List.dropWhile_cons]
      by_cases hx : x = 0
      · subst hx; simp [ih]
      · simp [hx]
  unfold Lib.trimB Lib.trimLeftB Lib.trimRightB
  rw [key]
  constructor
  · intro h
    have h2 : l.reverse.dropWhile (· == 0) = [] := by
      rcases hd : l.reverse.dropWhile (· == 0) with _ | ⟨x, m⟩
      · rfl
      · have hx : x = 0 := h x (by rw [hd]; simp)
        have := List.head?_dropWhile_not (fun c : UInt8 => c == 0) l.reverse
        rw [hd] at this
        simp [hx] at this
    intro c hc
    exact (key l.reverse).1 h2 c (by simpa using hc)
  · intro h c hc
    refine h c ?_
    have : c ∈ l.reverse.dropWhile (· == 0) := by simpa using hc
    have := (List.dropWhile_sublist _).mem this
    simpa using this
theorem clean_iff (S : ByteArray) (n : Nat) : clean S n ↔ ∀ c ∈ S.data.toList.drop n, c = 0 := by
  unfold clean
  rw [trimB_nil, data_ext, ← data_len, List.take_length]
end Go.Proofs.YtjlgkjhociaeiaaGreatDoor
namespace Go.Proofs.YtjlgkjhociaeiaaGreatDoor
open Go.RowKit
set_option linter.unusedVariables false

/-- Two writes, a sync behind each, up to the first error. -/
def DSt.put2 (d : DSt) (a1 : Int) (s1 : ByteArray) (a2 : Int) (s2 : ByteArray) : Int × DSt := if (d.put a1 s1).1 ≠ 0 then d.put a1 s1 else (d.put a1 s1).2.put a2 s2
/-- What is written of a group. -/
def Tape.outB (t : Tape) (l : List ByteArray) : ByteArray := ⟨(t.out l).toArray⟩
theorem Tape.outB_size (t : Tape) (l : List ByteArray) : (t.outB l).size = (t.out l).length := by
  show (t.out l).toArray.size = _
  rw [List.size_toArray]
def putAll (t : Tape) (d : DSt) (l : List ByteArray) : Int × DSt := d.put2 (t.size + 1) ((t.outB l).extract 1 (t.outB l).size) t.size ((t.outB l).extract 0 1)
/-- What Append answers, and what becomes of the journal and its disk. -/
def app (t : Tape) (br : Bool) (d : DSt) (l : List ByteArray) : Int × Tape × Bool × DSt :=
  if br = true ∨ l.any long = true then (260, t, br, d)
  else if d.dur.length < t.size + (t.out l).length then (261, t, br, d)
  else if l = [] then (0, t, br, d)
  else if (putAll t d l).1 = 0 then (0, t.adds l, false, (putAll t d l).2)
  else ((putAll t d l).1, t, true, (putAll t d l).2)

theorem DSt.write_pend (d : DSt) (o : Int) (s : ByteArray) : (d.write o s).2.pend.length ≤ d.pend.length + 1 ∧ (d.write o s).2.dur.length = d.dur.length := by
  unfold DSt.write
  split
  · exact ⟨by simp, rfl⟩
  · split
    · exact ⟨by simp [DSt.wrote], rfl⟩
    · exact ⟨by simp, rfl⟩
theorem DSt.put_pend (d : DSt) (o : Int) (s : ByteArray) (h : (d.put o s).1 = 0) : (d.put o s).2.pend.length ≤ d.pend.length + 1 := by
  have h1 := (d.write_pend o s).1
  unfold DSt.put at *
  split
  · exact h1
  · unfold DSt.sync
    split
    · exact h1
    · simp [DSt.synced]

theorem first_four {w : World} {p g : Nat} {F : Nat → Prop} {d : DSt} {x y z x' y' z' b : Nat} {a1 a2 : Int} {s1 s2 : ByteArray} {ty : TypeId} {cs : Array Value} (h : Wr w x y z b a1 s1) (h' : Wr w x' y' z' b a2 s2) (hf' : ¬ F x' ∧ ¬ F y' ∧ ¬ F z') (hj : Blk w b ty cs) (hfb : ¬ F b) (h3 : cs[3]? = some (.pointer (some ⟨p, 0, none⟩)))
    (hd : Dk w p F d) (hl : d.pend.length ≤ 999999) (hg : g < w.heap.size) (hn : ¬ F g) :
    FirstSpec g ([wrVal x y z, syVal p] ++ [wrVal x' y' z', syVal p]) w fun n w' => n = (d.put2 a1 s1 a2 s2).1 ∧ Step w p F (d.put2 a1 s1 a2 s2).2 w' := by
  refine FirstSpec.append (R := fun n w' => n = (d.put a1 s1).1 ∧ Step w p F (d.put a1 s1).2 w') _ ?_ _ w (first_two h hj h3 hd (by omega) hg hn)
  rintro n w1 ⟨rfl, hs⟩
  constructor
  · intro hne
    have e : d.put2 a1 s1 a2 s2 = d.put a1 s1 := if_pos hne
    rw [e]
    exact ⟨rfl, hs⟩
  · intro he
    have e : d.put2 a1 s1 a2 s2 = (d.put a1 s1).2.put a2 s2 := if_neg (fun q => q he)
    rw [e]
    have hp := d.put_pend a1 s1 he
    obtain ⟨F1, d1, o1, f1⟩ := hs
    have nf : ∀ k, k < w.heap.size → ¬ F k → ¬ F1 k := fun k hk hn q => (f1 k q).elim hn fun q => absurd hk (by omega)
    have W1 : Wr w1 x' y' z' b a2 s2 := ⟨h'.j.only o1 hf'.1, h'.a.only o1 hf'.2.1, h'.s.only o1 hf'.2.2⟩
    have hg1 : g < w1.heap.size := by have := o1.size; omega
    have e2 : w1.heap[g]? = w.heap[g]? := o1.block g hg hn
    have K := first_two (g := g) W1 (hj.only o1 hfb) h3 d1 (by omega) hg1 (nf g hg hn)
    have key : ∀ (fs : List (FuncId × Array Value × Array Value)) (v : World) (Q Q' : Int → World → Prop), (∀ n w', Q n w' → Q' n w') → FirstSpec g fs v Q → FirstSpec g fs v Q' := by
      intro fs
      induction fs with
      | nil => exact fun v Q Q' hq h => hq _ _ h
      | cons f fs ih =>
        intro v Q Q' hq h
        unfold FirstSpec at h ⊢
        exact h.mono fun e w' ⟨n, q1, q2, q3, q4⟩ => ⟨n, q1, q2, fun hn => hq _ _ (q3 hn), fun h0 => ih _ _ _ hq (q4 h0)⟩
    refine key _ _ _ _ ?_ K
    rintro n w2 ⟨rfl, F2, d2, o2, f2⟩
    exact ⟨rfl, F2, d2, o1.trans o2 fun i hi q => (f1 i q).elim id fun x => absurd hi (by omega), fun i q => (f2 i q).elim (fun x => f1 i x) fun x => .inr (Nat.le_trans o1.size x)⟩

/-- A builder stays where only other blocks turn. -/
theorem builder_only {S : Nat → Prop} {T e : TypeId} {B b : Nat} {bs : List Value} {w w' : World} (h : Lib.IsBuilderF T e B b bs w) (o : Only S w w') (hS : ∀ k, S k → ∀ cs t fz, w.heap[k]? = some (.cells cs t fz) → t ≠ T ∧ t ≠ e) : Lib.IsBuilderF T e B b bs w' := by
  have key : ∀ p, Lib.BuilderAtF T e B b p bs w → Lib.BuilderAtF T e B b p bs w' := by
    rintro p ⟨hB, v, hb, hown, hne⟩
    refine ⟨hB, v, (o.block b (Array.getElem?_eq_some_iff.1 hb).1 fun q => (hS b q _ _ _ hb).1 rfl).trans hb, ⟨hown.1, ?_⟩, hne⟩
    rcases hown.2 with hx | ⟨g', cap, cur, fz, rfl, hb', hh, rest⟩
    · exact .inl hx
    · exact .inr ⟨g', cap, cur, fz, rfl, hb', (o.block g' (Array.getElem?_eq_some_iff.1 hh).1 fun q => (hS g' q _ _ _ hh).2 rfl).trans hh, rest⟩
  exact h.elim (fun x => .inl (key _ x)) (fun x => .inr (key _ x))
theorem ownsRow_kept {e : TypeId} {b : Nat} {w w' : World} {base : Nat} {e' : TypeId} {size n : Nat} {v : Value} {xs : List Value} (h : w.ownsRow base e' size v n xs) (hk : Lib.OthersKept e (some b) w w') (he : e' ≠ e) (hb : v.ownBlock ≠ some b) : w'.ownsRow base e' size v n xs := by
  refine ⟨h.1, ?_⟩
  rcases h.2 with hx | ⟨g', cap, cur, rfl, hb', hh, rest⟩
  · exact .inl hx
  · exact .inr ⟨g', cap, cur, rfl, hb', hk g' _ hh (fun q => hb (by rw [Value.ownBlock]; exact q)) (fun c fz q => by injection q with _ q _; exact he q), rest⟩
/-- A tape stays where a builder's call turns. -/
theorem tape_kept {w w' : World} {b bb : Nat} {ty : TypeId} {rest : List Value} {rv : Value} {t : Tape} (h : TapeAt w b ty rest rv t) (hk : Lib.OthersKept 5 (some bb) w w') (h1 : ty ≠ 5) (hb : b ≠ bb) (hr : rv.ownBlock ≠ some bb) : TapeAt w' b ty rest rv t :=
  ⟨hk b _ h.blk (fun q => hb (Option.some.inj q)) (fun c fz q => by injection q with _ q _; exact h1 q), h.ne, ownsRow_kept h.own hk (by decide) hr, h.head, h.small, h.few⟩
end Go.Proofs.YtjlgkjhociaeiaaGreatDoor
