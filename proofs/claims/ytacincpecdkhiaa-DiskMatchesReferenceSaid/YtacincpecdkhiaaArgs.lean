/-
  How the arguments of the disk's laws are read: slices of ints, of bools, of writes.
-/
import Derived.Test.YtacincpecdkhiaaIter
import Derived.ProofKit
import Derived.Deep.Slices
import Derived.Deep.Strs
import Derived.OpenShut
namespace Go.Proofs.Ytacincpecdkhiaa
open Go.RowKit Go.ChangeShapes Go.WideShapes Go.Deep
set_option linter.unusedVariables false

theorem addr_form {w : World} {a : Addr} {v : Value} (h : w.cell? a = some v) : a = ⟨a.block, a.off, none⟩ := by
  have := World.cell?_spot h
  cases a
  simp_all

theorem add_none (b o j : Nat) : (⟨b, o, none⟩ : Addr).add j = ⟨b, o + j, none⟩ := by unfold Addr.add; split <;> simp_all

theorem Ints.cut {n₀ : Nat} {W : World} {a : Option Addr} {len cap : Nat} {zs : List Int} (h : Ints n₀ W (.slice a len cap) zs) (hl : zs.length = len) (m : Nat) (hm : m ≤ len) : Ints n₀ W (.slice a m cap) (zs.take m) := by
  by_cases h0 : m = 0
  · subst h0
    exact .inl ⟨⟨a, cap, rfl⟩, by simp⟩
  · rcases h with ⟨⟨a', c', he⟩, rfl⟩ | ⟨b, off, c, he, hb, hc⟩
    · simp at hl; omega
    · injection he with h1 h2 h3
      subst h1 h3
      have e : (zs.take m).length = m := by simp; omega
      refine .inr ⟨b, off, cap, by rw [e], hb, fun j hj => ?_⟩
      rw [e] at hj
      rw [hc j (by omega), List.getElem?_take_of_lt hj]

section
variable {H : Type} {enc : TypeId × Value → H} {W : World}

/-- A slice of ints that came in. -/
theorem open_keep {fuel len cap : Nat} {a : Option Addr} {x : DataW H × List MemPlace} (h : DataW.trod enc Try.prog W 0 (fun _ => true) true fuel 37 [.slice a len cap] = some x) :
    ∃ zs : List Int, zs.length = len ∧ Ints W.heap.size W (.slice a len cap) zs ∧ len ≤ cap ∧ cap ≤ maxLen := by
  rcases open_ints Try.underlying37 Try.underlying3 (by kernel_rfl) h with ⟨hcs, _⟩ | ⟨b, l, c, zs, hcs, _, hl, hm, hz, _, hcell, _⟩
  · simp at hcs
    obtain ⟨rfl, rfl, rfl⟩ := hcs
    exact ⟨[], rfl, .inl ⟨⟨none, 0, rfl⟩, rfl⟩, Nat.le_refl _, by unfold maxLen; omega⟩
  · simp at hcs
    obtain ⟨rfl, rfl, rfl⟩ := hcs
    simp at hz
    have hlen : (zs.take len).length = len := by simp; omega
    refine ⟨zs.take len, hlen, ?_, hl, hm⟩
    by_cases h0 : len = 0
    · subst h0
      exact .inl ⟨⟨_, _, rfl⟩, by simp⟩
    · have h1 := hcell 0 (by omega)
      have h1' : W.cell? b = some (.int .i64 (zs.getD 0 0)) := by simpa [Addr.add] using h1
      have hb := addr_form h1'
      rw [hb]
      refine .inr ⟨b.block, b.off, cap, by rw [hlen], block_lt_of_cell h1', fun j hj => ?_⟩
      rw [hlen] at hj
      have h2 := hcell j (by omega)
      rw [hb] at h2
      rw [add_none] at h2
      rw [h2, List.getElem?_take_of_lt hj]
      simp [List.getD]

/-- The slice holds the ints zs. -/
structure Keeps (w : World) (a : Option Addr) (len cap : Nat) (zs : List Int) : Prop where
  hlen : zs.length = len
  hcap : len ≤ cap
  hmax : cap ≤ maxLen
  ints : Ints w.heap.size w (.slice a len cap) zs
theorem open_keeps {fuel len cap : Nat} {a : Option Addr} {x : DataW H × List MemPlace} (h : DataW.trod enc Try.prog W 0 (fun _ => true) true fuel 37 [.slice a len cap] = some x) : ∃ zs, Keeps W a len cap zs := by
  obtain ⟨zs, h1, h2, h3, h4⟩ := open_keep h
  exact ⟨zs, h1, h3, h4, h2⟩

/-- The slice holds the bools bs. -/
structure Bools (w : World) (a : Option Addr) (len cap : Nat) (bs : List Bool) : Prop where
  hlen : bs.length = len
  hcap : len ≤ cap
  hmax : cap ≤ maxLen
  get : ∀ i (h : i < bs.length), ∃ b o, a = some ⟨b, o, none⟩ ∧ b < w.heap.size ∧ w.cell? ⟨b, o + i, none⟩ = some (.bool bs[i])
theorem open_bools {fuel len cap : Nat} {a : Option Addr} {x : DataW H × List MemPlace} (h : DataW.trod enc Try.prog W 0 (fun _ => true) true fuel 58 [.slice a len cap] = some x) : ∃ bs, Bools W a len cap bs := by
  rcases open_slice1 Try.underlying58 (by kernel_rfl) h with ⟨hcs, _⟩ | ⟨b, l, c, m, n, V, D, Pl, hcs, _, hl, hm, hmm, _, hel⟩
  · simp at hcs
    obtain ⟨rfl, rfl, rfl⟩ := hcs
    exact ⟨[], rfl, Nat.le_refl _, by unfold maxLen; omega, fun i hi => absurd hi (Nat.not_lt_zero _)⟩
  · simp at hcs
    obtain ⟨rfl, rfl, rfl⟩ := hcs
    simp at hmm
    have one : ∀ i, i < len → ∃ q, W.cell? (b.add i) = some (.bool q) := by
      intro i hi
      obtain ⟨h1, h2⟩ := hel i (by omega)
      obtain ⟨q, e, _⟩ := DataW.trod_bool Try.underlying4 h2
      simp at e
      exact ⟨q, by rw [h1, e]⟩
    have fam : ∃ f : Nat → Bool, ∀ i, i < len → W.cell? (b.add i) = some (.bool (f i)) := by
      refine ⟨fun i => if h : i < len then Classical.choose (one i h) else false, fun i hi => ?_⟩
      simp only [hi, dif_pos]
      exact Classical.choose_spec (one i hi)
    obtain ⟨f, hf⟩ := fam
    refine ⟨(List.range len).map f, by simp, hl, hm, fun i hi => ?_⟩
    have hi' : i < len := by simpa using hi
    have h0 := hf 0 (by omega)
    have h0' : W.cell? b = some (.bool (f 0)) := by simpa [Addr.add] using h0
    have hb := addr_form h0'
    have h1 := hf i hi'
    rw [hb, add_none] at h1
    have eg : ((List.range len).map f)[i] = f i := by simp
    rw [eg]
    exact ⟨b.block, b.off, by rw [← hb], block_lt_of_cell h0', h1⟩

/-- A write as a law's argument tells it. -/
structure WP where
  off : Int
  s : ByteArray
  sync : Bool

/-- The slice holds the writes xs. -/
structure WPs (w : World) (a : Option Addr) (len cap : Nat) (xs : List WP) : Prop where
  hlen : xs.length = len
  hcap : len ≤ cap
  hmax : cap ≤ maxLen
  get : ∀ i (h : i < xs.length), ∃ b o, a = some ⟨b, o, none⟩ ∧ b < w.heap.size ∧ w.cell? ⟨b, o + i * 3, none⟩ = some (.int .i64 xs[i].off) ∧ w.cell? ⟨b, o + i * 3 + 1, none⟩ = some (.string xs[i].s) ∧ w.cell? ⟨b, o + i * 3 + 2, none⟩ = some (.bool xs[i].sync)
  hoff : ∀ x ∈ xs, -9223372036854775808 ≤ x.off ∧ x.off ≤ 9223372036854775807
  hsize : ∀ x ∈ xs, x.s.size ≤ 9223372036854775807

theorem WPs.below {w w' : World} {B : Nat} {a : Option Addr} {len cap : Nat} {xs : List WP} (h : WPs w a len cap xs) (hB : w.heap.size ≤ B) (hb : Below B w w') : WPs w' a len cap xs := by
  refine ⟨h.hlen, h.hcap, h.hmax, fun i hi => ?_, h.hoff, h.hsize⟩
  obtain ⟨b, o, e, hl, h1, h2, h3⟩ := h.get i hi
  have hl2 : b < B := by omega
  exact ⟨b, o, e, Nat.lt_of_lt_of_le hl hb.size, (hb.cell (p := ⟨b, o + i * 3, none⟩) hl2).trans h1, (hb.cell (p := ⟨b, o + i * 3 + 1, none⟩) hl2).trans h2, (hb.cell (p := ⟨b, o + i * 3 + 2, none⟩) hl2).trans h3⟩

theorem cells3 {w : World} {a : Addr} {cs : List Value} (h : w.cells? 0 a 3 = some cs) : ∃ c0 c1 c2, cs = [c0, c1, c2] ∧ w.cell? a = some c0 ∧ w.cell? (a.add 1) = some c1 ∧ w.cell? (a.add 2) = some c2 := by
  have e0 : a.add 0 = a := rfl
  unfold World.cells? at h
  rw [if_pos (Nat.zero_le _)] at h
  have e : List.range 3 = [0, 1, 2] := rfl
  rw [e] at h
  cases h0 : w.cell? (a.add 0) with
  | none => simp [h0] at h
  | some c0 =>
    cases h1 : w.cell? (a.add 1) with
    | none => simp [h0, h1] at h
    | some c1 =>
      cases h2 : w.cell? (a.add 2) with
      | none => simp [h0, h1, h2] at h
      | some c2 =>
        simp [h0, h1, h2] at h
        exact ⟨c0, c1, c2, h.symm, h0, rfl, rfl⟩


theorem open_wps {fuel len cap : Nat} {a : Option Addr} {x : DataW H × List MemPlace} (h : DataW.trod enc Try.prog W 0 (fun _ => true) true fuel 51 [.slice a len cap] = some x) :
    ∃ xs : List WP, WPs W a len cap xs := by
  rcases open_slice Try.underlying51 h with ⟨hcs, _⟩ | ⟨b, l, c, m, n, D, Pl, hcs, _, hl, hm, hmm, _, hel⟩
  · simp at hcs
    obtain ⟨rfl, rfl, rfl⟩ := hcs
    exact ⟨[], rfl, Nat.le_refl _, by unfold maxLen; omega, fun i hi => absurd hi (Nat.not_lt_zero _), by simp, by simp⟩
  · simp at hcs
    obtain ⟨rfl, rfl, rfl⟩ := hcs
    simp at hmm
    have h3 : Try.prog.cellsOf 53 = 3 := by kernel_rfl
    simp only [h3] at hel
    have hsp : 0 < len → b.spot = none := by
      intro h0
      obtain ⟨cs', hc, _⟩ := hel 0 (by omega)
      obtain ⟨c0, c1, c2, _, g0, _, _⟩ := cells3 hc
      exact World.cell?_spot (by simpa [Addr.add] using g0)
    have one : ∀ i, i < len → ∃ y : WP, ∃ bb o, b = ⟨bb, o, none⟩ ∧ bb < W.heap.size ∧ W.cell? ⟨bb, o + i * 3, none⟩ = some (.int .i64 y.off) ∧ W.cell? ⟨bb, o + i * 3 + 1, none⟩ = some (.string y.s) ∧ W.cell? ⟨bb, o + i * 3 + 2, none⟩ = some (.bool y.sync) ∧
        (-9223372036854775808 ≤ y.off ∧ y.off ≤ 9223372036854775807) ∧ y.s.size ≤ 9223372036854775807 := by
      intro i hi
      obtain ⟨cs', hc, ht⟩ := hel i (by omega)
      obtain ⟨c0, c1, c2, rfl, g0, g1, g2⟩ := cells3 hc
      obtain ⟨y0, y1, y2, n', _, _, t0, t1, t2⟩ := trod_struct3 Try.underlying53 ht
      have k0 : Try.prog.cellsOf 3 = 1 := by kernel_rfl
      have k1 : Try.prog.cellsOf 9 = 1 := by kernel_rfl
      have k2 : Try.prog.cellsOf 4 = 1 := by kernel_rfl
      simp only [k0, k1, k2, List.drop_zero, List.take_succ_cons, List.take_zero, List.drop_succ_cons] at t0 t1 t2
      obtain ⟨z, e0, _, wz⟩ := DataW.trod_int Try.underlying3 t0
      obtain ⟨s, e1, _, hs⟩ := DataW.trod_string Try.underlying9 t1
      obtain ⟨q, e2, _⟩ := DataW.trod_bool Try.underlying4 t2
      simp at e0 e1 e2
      subst e0 e1 e2
      have hb : b = ⟨b.block, b.off, none⟩ := by
        have := hsp (by omega)
        cases b
        simp_all
      rw [hb, add_none] at g0 g1 g2
      rw [add_none] at g1 g2
      exact ⟨⟨z, s, q⟩, b.block, b.off, hb, (block_lt_of_cell g0 : _), g0, g1, g2, bounds_i64 wz, by unfold maxLen at hs; omega⟩
    have fam : ∃ f : Nat → WP, ∀ i, i < len → ∃ bb o, b = ⟨bb, o, none⟩ ∧ bb < W.heap.size ∧ W.cell? ⟨bb, o + i * 3, none⟩ = some (.int .i64 (f i).off) ∧ W.cell? ⟨bb, o + i * 3 + 1, none⟩ = some (.string (f i).s) ∧ W.cell? ⟨bb, o + i * 3 + 2, none⟩ = some (.bool (f i).sync) ∧
        (-9223372036854775808 ≤ (f i).off ∧ (f i).off ≤ 9223372036854775807) ∧ (f i).s.size ≤ 9223372036854775807 := by
      refine ⟨fun i => if h : i < len then Classical.choose (one i h) else ⟨0, ByteArray.empty, false⟩, fun i hi => ?_⟩
      simp only [hi, dif_pos]
      exact Classical.choose_spec (one i hi)
    obtain ⟨f, hf⟩ := fam
    refine ⟨(List.range len).map f, by simp, hl, hm, fun i hi => ?_, fun y hy => ?_, fun y hy => ?_⟩
    · have hi' : i < len := by simpa using hi
      obtain ⟨bb, o, e, h1, h2, h3', h4, _⟩ := hf i hi'
      have eg : ((List.range len).map f)[i] = f i := by simp
      rw [eg]
      exact ⟨bb, o, by rw [e], h1, h2, h3', h4⟩
    · simp only [List.mem_map, List.mem_range] at hy
      obtain ⟨i, hi, rfl⟩ := hy
      obtain ⟨_, _, _, _, _, _, _, h5, _⟩ := hf i hi
      exact h5
    · simp only [List.mem_map, List.mem_range] at hy
      obtain ⟨i, hi, rfl⟩ := hy
      obtain ⟨_, _, _, _, _, _, _, _, h6⟩ := hf i hi
      exact h6
end
end Go.Proofs.Ytacincpecdkhiaa
