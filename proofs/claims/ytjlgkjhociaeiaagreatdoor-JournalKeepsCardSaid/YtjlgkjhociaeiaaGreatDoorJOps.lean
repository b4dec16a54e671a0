/-
  A slice of calls that came in as an argument: four cells each, with a list of strings and a list of numbers inside.
-/
import Derived.Test.YtjlgkjhociaeiaaGreatDoorJKeep
namespace Go.Proofs.YtjlgkjhociaeiaaGreatDoor
open Go.RowKit Go.ChangeShapes Go.WideShapes Go.Deep
set_option linter.unusedVariables false

theorem cells4 {w : World} {a : Addr} {cs : List Value} (h : w.cells? 0 a 4 = some cs) : ∃ c0 c1 c2 c3, cs = [c0, c1, c2, c3] ∧ w.cell? a = some c0 ∧ w.cell? (a.add 1) = some c1 ∧ w.cell? (a.add 2) = some c2 ∧ w.cell? (a.add 3) = some c3 := by
  have e0 : a.add 0 = a := rfl
  unfold World.cells? at h
  rw [if_pos (Nat.zero_le _)] at h
  have e : List.range 4 = [0, 1, 2, 3] := rfl
  rw [e] at h
  cases h0 : w.cell? (a.add 0) with
  | none => simp [h0] at h
  | some c0 =>
    cases h1 : w.cell? (a.add 1) with
    | none => simp [h0, h1] at h
    | some c1 =>
      cases h2 : w.cell? (a.add 2) with
      | none => simp [h0, h1, h2] at h
      | some c2 =>
        cases h3 : w.cell? (a.add 3) with
        | none => simp [h0, h1, h2, h3] at h
        | some c3 =>
          simp [h0, h1, h2, h3] at h
          exact ⟨c0, c1, c2, c3, h.symm, h0, rfl, rfl, rfl⟩
/-- A call as the law's argument tells it. -/
structure OpP where
  kind : Int
  la : Option Addr
  lc : Nat
  l : List ByteArray
  n : Int
  ka : Option Addr
  klen : Nat
  kcap : Nat
  keep : List Int
structure OpOk (w : World) (y : OpP) : Prop where
  hkind : -9223372036854775808 ≤ y.kind ∧ y.kind ≤ 9223372036854775807
  hl : Strs w (.slice y.la y.l.length y.lc) y.l
  hn : -9223372036854775808 ≤ y.n ∧ y.n ≤ 9223372036854775807
  hk : Keeps w y.ka y.klen y.kcap y.keep
structure Ops (w : World) (a : Option Addr) (len cap : Nat) (xs : List OpP) : Prop where
  hlen : xs.length = len
  hcap : len ≤ cap
  hmax : cap ≤ maxLen
  get : ∀ i (h : i < xs.length), ∃ b o, a = some ⟨b, o, none⟩ ∧ b < w.heap.size ∧ w.cell? ⟨b, o + i * 4, none⟩ = some (.int .i64 xs[i].kind) ∧ w.cell? ⟨b, o + i * 4 + 1, none⟩ = some (.slice xs[i].la xs[i].l.length xs[i].lc) ∧ w.cell? ⟨b, o + i * 4 + 2, none⟩ = some (.int .i64 xs[i].n) ∧ w.cell? ⟨b, o + i * 4 + 3, none⟩ = some (.slice xs[i].ka xs[i].klen xs[i].kcap)
  ok : ∀ x ∈ xs, OpOk w x
theorem Ops.all {w w' : World} {a : Option Addr} {len cap : Nat} {xs : List OpP} (h : Ops w a len cap xs) (hb : Below w.heap.size w w') (i : Nat) (hi : i < xs.length) :
    OpOk w' xs[i] ∧ ∃ b o, a = some ⟨b, o, none⟩ ∧ b < w'.heap.size ∧ w'.cell? ⟨b, o + i * 4, none⟩ = some (.int .i64 xs[i].kind) ∧ w'.cell? ⟨b, o + i * 4 + 1, none⟩ = some (.slice xs[i].la xs[i].l.length xs[i].lc) ∧ w'.cell? ⟨b, o + i * 4 + 2, none⟩ = some (.int .i64 xs[i].n) ∧ w'.cell? ⟨b, o + i * 4 + 3, none⟩ = some (.slice xs[i].ka xs[i].klen xs[i].kcap) := by
  obtain ⟨b, o, e, hl, h0, h1, h2, h3⟩ := h.get i hi
  have ho := h.ok _ (List.getElem_mem hi)
  exact ⟨⟨ho.hkind, ho.hl.all hb, ho.hn, ho.hk.all hb⟩, b, o, e, Nat.lt_of_lt_of_le hl hb.size, (hb.cell (p := ⟨b, o + i * 4, none⟩) hl).trans h0, (hb.cell (p := ⟨b, o + i * 4 + 1, none⟩) hl).trans h1, (hb.cell (p := ⟨b, o + i * 4 + 2, none⟩) hl).trans h2, (hb.cell (p := ⟨b, o + i * 4 + 3, none⟩) hl).trans h3⟩
section
variable {H : Type} {enc : TypeId × Value → H} {W : World}
theorem open_ops {fuel len cap : Nat} {a : Option Addr} {x : DataW H × List MemPlace} (h : DataW.trod enc Tryz.prog W 0 (fun _ => true) true fuel 60 [.slice a len cap] = some x) :
    ∃ xs : List OpP, Ops W a len cap xs := by
  rcases open_slice Tryz.underlying60 h with ⟨hcs, _⟩ | ⟨b, l, c, m, n, D, Pl, hcs, _, hl, hm, hmm, _, hel⟩
  · simp at hcs
    obtain ⟨rfl, rfl, rfl⟩ := hcs
    exact ⟨[], rfl, Nat.le_refl _, by unfold maxLen; omega, fun i hi => absurd hi (Nat.not_lt_zero _), by simp⟩
  · simp at hcs
    obtain ⟨rfl, rfl, rfl⟩ := hcs
    simp at hmm
    have h4 : Tryz.prog.cellsOf 62 = 4 := by kernel_rfl
    simp only [h4] at hel
    have hsp : 0 < len → b.spot = none := by
      intro h0
      obtain ⟨cs', hc, _⟩ := hel 0 (by omega)
      obtain ⟨c0, c1, c2, c3, _, g0, _, _⟩ := cells4 hc
      exact World.cell?_spot (by simpa [Addr.add] using g0)
    have one : ∀ i, i < len → ∃ y : OpP, ∃ bb o, b = ⟨bb, o, none⟩ ∧ bb < W.heap.size ∧ (W.cell? ⟨bb, o + i * 4, none⟩ = some (.int .i64 y.kind) ∧ W.cell? ⟨bb, o + i * 4 + 1, none⟩ = some (.slice y.la y.l.length y.lc) ∧ W.cell? ⟨bb, o + i * 4 + 2, none⟩ = some (.int .i64 y.n) ∧
        W.cell? ⟨bb, o + i * 4 + 3, none⟩ = some (.slice y.ka y.klen y.kcap)) ∧ OpOk W y := by
      intro i hi
      obtain ⟨cs', hc, ht⟩ := hel i (by omega)
      obtain ⟨c0, c1, c2, c3, rfl, g0, g1, g2, g3⟩ := cells4 hc
      obtain ⟨ys, n', _, _, _, hlen, hf⟩ := DataW.trod_struct Tryz.underlying62 ht
      have k0 : Tryz.prog.cellsOf 3 = 1 := by kernel_rfl
      have k1 : Tryz.prog.cellsOf 22 = 1 := by kernel_rfl
      have k2 : Tryz.prog.cellsOf 56 = 1 := by kernel_rfl
      obtain ⟨y0, y1, y2, y3, rfl⟩ : ∃ y0 y1 y2 y3, ys = [y0, y1, y2, y3] := by
        match ys, hlen with
        | [a, b, c, d], _ => exact ⟨a, b, c, d, rfl⟩
      have t0 : DataW.trod enc Tryz.prog W 0 (fun _ => true) true n' 3 [c0] = some y0 := by simpa [k0] using hf 0 _ rfl
      have t1 : DataW.trod enc Tryz.prog W 0 (fun _ => true) true n' 22 [c1] = some y1 := by simpa [k1] using hf 1 _ rfl
      have t2 : DataW.trod enc Tryz.prog W 0 (fun _ => true) true n' 3 [c2] = some y2 := by simpa [k0] using hf 2 _ rfl
      have t3 : DataW.trod enc Tryz.prog W 0 (fun _ => true) true n' 56 [c3] = some y3 := by simpa [k2] using hf 3 _ rfl
      obtain ⟨z0, e0, _, w0⟩ := DataW.trod_int Tryz.underlying3 t0
      obtain ⟨z2, e2, _, w2⟩ := DataW.trod_int Tryz.underlying3 t2
      simp at e0 e2
      subst e0 e2
      have hb : b = ⟨b.block, b.off, none⟩ := by
        have := hsp (by omega)
        cases b
        simp_all
      rw [hb, add_none] at g0 g1 g2 g3
      rw [add_none] at g1 g2 g3
      obtain ⟨zs1, hs1⟩ := open_strs t1
      obtain ⟨la, lc, hla⟩ := hs1.at_.form
      subst hla
      obtain ⟨ka, kl, kc, hk⟩ : ∃ ka kl kc, c3 = .slice ka kl kc := by
        rcases DataW.trod_slice Tryz.underlying56 t3 with ⟨e, _⟩ | ⟨a', l', c', _, _, _, _, e, _⟩
        · simp at e; exact ⟨none, 0, 0, e⟩
        · simp at e; exact ⟨_, _, _, e⟩
      subst hk
      obtain ⟨zs, hz⟩ := open_keeps t3
      exact ⟨⟨z0, la, lc, zs1, z2, ka, kl, kc, zs⟩, b.block, b.off, hb, (block_lt_of_cell g0 : _), ⟨g0, g1, g2, g3⟩, bounds_i64 w0, hs1, bounds_i64 w2, hz⟩
    have fam : ∃ f : Nat → OpP, ∀ i, i < len → ∃ bb o, b = ⟨bb, o, none⟩ ∧ bb < W.heap.size ∧ (W.cell? ⟨bb, o + i * 4, none⟩ = some (.int .i64 (f i).kind) ∧ W.cell? ⟨bb, o + i * 4 + 1, none⟩ = some (.slice (f i).la (f i).l.length (f i).lc) ∧ W.cell? ⟨bb, o + i * 4 + 2, none⟩ = some (.int .i64 (f i).n) ∧
        W.cell? ⟨bb, o + i * 4 + 3, none⟩ = some (.slice (f i).ka (f i).klen (f i).kcap)) ∧ OpOk W (f i) := by
      refine ⟨fun i => if h : i < len then Classical.choose (one i h) else ⟨0, none, 0, [], 0, none, 0, 0, []⟩, fun i hi => ?_⟩
      simp only [hi, dif_pos]
      exact Classical.choose_spec (one i hi)
    obtain ⟨f, hf⟩ := fam
    refine ⟨(List.range len).map f, by simp, hl, hm, fun i hi => ?_, fun y hy => ?_⟩
    · have hi' : i < len := by simpa using hi
      obtain ⟨bb, o, e, h1, ⟨h2, h3, h4, h5⟩, _⟩ := hf i hi'
      have eg : ((List.range len).map f)[i] = f i := by simp
      rw [eg]
      exact ⟨bb, o, by rw [e], h1, h2, h3, h4, h5⟩
    · simp only [List.mem_map, List.mem_range] at hy
      obtain ⟨i, hi, rfl⟩ := hy
      obtain ⟨_, _, _, _, _, h7⟩ := hf i hi
      exact h7
end
theorem StrsAt.take {w : World} {a : Option Addr} {n c : Nat} {zs : List ByteArray} (h : StrsAt w (.slice a n c) zs) (k : Nat) (hk : k ≤ zs.length) : StrsAt w (.slice a k c) (zs.take k) := by
  rcases h with ⟨q, c', h1, rfl⟩ | ⟨g, off, c', h1, hg, hc⟩
  · have : k = 0 := by simpa using hk
    subst this
    exact .inl ⟨a, c, rfl, rfl⟩
  · injection h1 with h1 h2 h3
    subst h1 h3
    have hl : (zs.take k).length = k := by rw [List.length_take]; omega
    refine .inr ⟨g, off, c, by rw [hl], hg, fun j hj => ?_⟩
    rw [hc j (by omega)]
    simp
theorem Row.cap {w : World} {a : Option Addr} {n c : Nat} {zs : List ByteArray} (h : Row w (.slice a n c) zs) : zs.length ≤ c := by
  rcases h.2 with ⟨q, h0⟩ | ⟨g', cap, cur, q, _, _, hn, _⟩
  · rw [h0]; exact Nat.zero_le _
  · injection q with _ _ q
    rw [q]; exact hn
end Go.Proofs.YtjlgkjhociaeiaaGreatDoor
