/-
  A slice of calls that came in as an argument: five cells each, with a slice of ints inside.
-/
import Derived.Test.YtacincpecdkhiaaArgs
namespace Go.Proofs.Ytacincpecdkhiaa
open Go.RowKit Go.ChangeShapes Go.WideShapes Go.Deep
set_option linter.unusedVariables false

theorem cells5 {w : World} {a : Addr} {cs : List Value} (h : w.cells? 0 a 5 = some cs) : ∃ c0 c1 c2 c3 c4, cs = [c0, c1, c2, c3, c4] ∧ w.cell? a = some c0 ∧ w.cell? (a.add 1) = some c1 ∧ w.cell? (a.add 2) = some c2 ∧ w.cell? (a.add 3) = some c3 ∧ w.cell? (a.add 4) = some c4 := by
  have e0 : a.add 0 = a := rfl
  unfold World.cells? at h
  rw [if_pos (Nat.zero_le _)] at h
  have e : List.range 5 = [0, 1, 2, 3, 4] := rfl
  rw [e] at h
  cases h0 : w.cell? (a.add 0) with
  | none => simp [h0] at h
  | some c0 =>
    cases h1 : w.cell? (a.add 1) with
    | none => simp [h0, h1] at h
    | some c1 =>
      cases h2 : w.cell? (a.add 2) with
      | none => simp [h0, h1, h2] at h
      | some c2 =>
        cases h3 : w.cell? (a.add 3) with
        | none => simp [h0, h1, h2, h3] at h
        | some c3 =>
          cases h4 : w.cell? (a.add 4) with
          | none => simp [h0, h1, h2, h3, h4] at h
          | some c4 =>
            simp [h0, h1, h2, h3, h4] at h
            exact ⟨c0, c1, c2, c3, c4, h.symm, h0, rfl, rfl, rfl, rfl⟩

/-- A call as the law's argument tells it. -/
structure SP where
  call : Int
  off : Int
  n : Int
  s : ByteArray
  ka : Option Addr
  klen : Nat
  kcap : Nat
  keep : List Int
/-- One call is well told in a world. -/
structure SPok (w : World) (y : SP) : Prop where
  hcall : -9223372036854775808 ≤ y.call ∧ y.call ≤ 9223372036854775807
  hoff : -9223372036854775808 ≤ y.off ∧ y.off ≤ 9223372036854775807
  hn : -9223372036854775808 ≤ y.n ∧ y.n ≤ 9223372036854775807
  hs : y.s.size ≤ 9223372036854775807
  hk : Keeps w y.ka y.klen y.kcap y.keep
structure SPs (w : World) (a : Option Addr) (len cap : Nat) (xs : List SP) : Prop where
  hlen : xs.length = len
  hcap : len ≤ cap
  hmax : cap ≤ maxLen
  get : ∀ i (h : i < xs.length), ∃ b o, a = some ⟨b, o, none⟩ ∧ b < w.heap.size ∧ w.cell? ⟨b, o + i * 5, none⟩ = some (.int .i64 xs[i].call) ∧ w.cell? ⟨b, o + i * 5 + 1, none⟩ = some (.int .i64 xs[i].off) ∧ w.cell? ⟨b, o + i * 5 + 2, none⟩ = some (.int .i64 xs[i].n) ∧
    w.cell? ⟨b, o + i * 5 + 3, none⟩ = some (.string xs[i].s) ∧ w.cell? ⟨b, o + i * 5 + 4, none⟩ = some (.slice xs[i].ka xs[i].klen xs[i].kcap)
  ok : ∀ x ∈ xs, SPok w x

section
variable {H : Type} {enc : TypeId × Value → H} {W : World}
theorem open_sps {fuel len cap : Nat} {a : Option Addr} {x : DataW H × List MemPlace} (h : DataW.trod enc Try.prog W 0 (fun _ => true) true fuel 32 [.slice a len cap] = some x) :
    ∃ xs : List SP, SPs W a len cap xs := by
  rcases open_slice Try.underlying32 h with ⟨hcs, _⟩ | ⟨b, l, c, m, n, D, Pl, hcs, _, hl, hm, hmm, _, hel⟩
  · simp at hcs
    obtain ⟨rfl, rfl, rfl⟩ := hcs
    exact ⟨[], rfl, Nat.le_refl _, by unfold maxLen; omega, fun i hi => absurd hi (Nat.not_lt_zero _), by simp⟩
  · simp at hcs
    obtain ⟨rfl, rfl, rfl⟩ := hcs
    simp at hmm
    have h5 : Try.prog.cellsOf 39 = 5 := by kernel_rfl
    simp only [h5] at hel
    have hsp : 0 < len → b.spot = none := by
      intro h0
      obtain ⟨cs', hc, _⟩ := hel 0 (by omega)
      obtain ⟨c0, c1, c2, c3, c4, _, g0, _, _⟩ := cells5 hc
      exact World.cell?_spot (by simpa [Addr.add] using g0)
    have one : ∀ i, i < len → ∃ y : SP, ∃ bb o, b = ⟨bb, o, none⟩ ∧ bb < W.heap.size ∧ (W.cell? ⟨bb, o + i * 5, none⟩ = some (.int .i64 y.call) ∧ W.cell? ⟨bb, o + i * 5 + 1, none⟩ = some (.int .i64 y.off) ∧ W.cell? ⟨bb, o + i * 5 + 2, none⟩ = some (.int .i64 y.n) ∧
        W.cell? ⟨bb, o + i * 5 + 3, none⟩ = some (.string y.s) ∧ W.cell? ⟨bb, o + i * 5 + 4, none⟩ = some (.slice y.ka y.klen y.kcap)) ∧ SPok W y := by
      intro i hi
      obtain ⟨cs', hc, ht⟩ := hel i (by omega)
      obtain ⟨c0, c1, c2, c3, c4, rfl, g0, g1, g2, g3, g4⟩ := cells5 hc
      obtain ⟨ys, n', _, _, _, hlen, hf⟩ := DataW.trod_struct Try.underlying39 ht
      have k0 : Try.prog.cellsOf 3 = 1 := by kernel_rfl
      have k1 : Try.prog.cellsOf 9 = 1 := by kernel_rfl
      have k2 : Try.prog.cellsOf 37 = 1 := by kernel_rfl
      obtain ⟨y0, y1, y2, y3, y4, rfl⟩ : ∃ y0 y1 y2 y3 y4, ys = [y0, y1, y2, y3, y4] := by
        match ys, hlen with
        | [a, b, c, d, e], _ => exact ⟨a, b, c, d, e, rfl⟩
      have t0 : DataW.trod enc Try.prog W 0 (fun _ => true) true n' 3 [c0] = some y0 := by simpa [k0] using hf 0 _ rfl
      have t1 : DataW.trod enc Try.prog W 0 (fun _ => true) true n' 3 [c1] = some y1 := by simpa [k0] using hf 1 _ rfl
      have t2 : DataW.trod enc Try.prog W 0 (fun _ => true) true n' 3 [c2] = some y2 := by simpa [k0] using hf 2 _ rfl
      have t3 : DataW.trod enc Try.prog W 0 (fun _ => true) true n' 9 [c3] = some y3 := by simpa [k1] using hf 3 _ rfl
      have t4 : DataW.trod enc Try.prog W 0 (fun _ => true) true n' 37 [c4] = some y4 := by simpa [k2] using hf 4 _ rfl
      obtain ⟨z0, e0, _, w0⟩ := DataW.trod_int Try.underlying3 t0
      obtain ⟨z1, e1, _, w1⟩ := DataW.trod_int Try.underlying3 t1
      obtain ⟨z2, e2, _, w2⟩ := DataW.trod_int Try.underlying3 t2
      obtain ⟨s, e3, _, hs⟩ := DataW.trod_string Try.underlying9 t3
      simp at e0 e1 e2 e3
      subst e0 e1 e2 e3
      have hb : b = ⟨b.block, b.off, none⟩ := by
        have := hsp (by omega)
        cases b
        simp_all
      rw [hb, add_none] at g0 g1 g2 g3 g4
      rw [add_none] at g1 g2 g3 g4
      obtain ⟨ka, kl, kc, hk⟩ : ∃ ka kl kc, c4 = .slice ka kl kc := by
        rcases DataW.trod_slice Try.underlying37 t4 with ⟨e, _⟩ | ⟨a', l', c', _, _, _, _, e, _⟩
        · simp at e; exact ⟨none, 0, 0, e⟩
        · simp at e; exact ⟨_, _, _, e⟩
      subst hk
      obtain ⟨zs, hz⟩ := open_keeps t4
      exact ⟨⟨z0, z1, z2, s, ka, kl, kc, zs⟩, b.block, b.off, hb, (block_lt_of_cell g0 : _), ⟨g0, g1, g2, g3, g4⟩, bounds_i64 w0, bounds_i64 w1, bounds_i64 w2, by unfold maxLen at hs; omega, hz⟩
    have fam : ∃ f : Nat → SP, ∀ i, i < len → ∃ bb o, b = ⟨bb, o, none⟩ ∧ bb < W.heap.size ∧ (W.cell? ⟨bb, o + i * 5, none⟩ = some (.int .i64 (f i).call) ∧ W.cell? ⟨bb, o + i * 5 + 1, none⟩ = some (.int .i64 (f i).off) ∧ W.cell? ⟨bb, o + i * 5 + 2, none⟩ = some (.int .i64 (f i).n) ∧
        W.cell? ⟨bb, o + i * 5 + 3, none⟩ = some (.string (f i).s) ∧ W.cell? ⟨bb, o + i * 5 + 4, none⟩ = some (.slice (f i).ka (f i).klen (f i).kcap)) ∧ SPok W (f i) := by
      refine ⟨fun i => if h : i < len then Classical.choose (one i h) else ⟨0, 0, 0, ByteArray.empty, none, 0, 0, []⟩, fun i hi => ?_⟩
      simp only [hi, dif_pos]
      exact Classical.choose_spec (one i hi)
    obtain ⟨f, hf⟩ := fam
    refine ⟨(List.range len).map f, by simp, hl, hm, fun i hi => ?_, fun y hy => ?_⟩
    · have hi' : i < len := by simpa using hi
      obtain ⟨bb, o, e, h1, ⟨h2, h3, h4, h5, h6⟩, _⟩ := hf i hi'
      have eg : ((List.range len).map f)[i] = f i := by simp
      rw [eg]
      exact ⟨bb, o, by rw [e], h1, h2, h3, h4, h5, h6⟩
    · simp only [List.mem_map, List.mem_range] at hy
      obtain ⟨i, hi, rfl⟩ := hy
      obtain ⟨_, _, _, _, _, h7⟩ := hf i hi
      exact h7
end
end Go.Proofs.Ytacincpecdkhiaa
