/-
  Lists of numbers that came in; a power failure under a law's journal.
-/
import Derived.Test.YtjlgkjhociaeiaaGreatDoorJRows
import Derived.Test.YtjlgkjhociaeiaaGreatDoorJcrash
namespace Go.Proofs.YtjlgkjhociaeiaaGreatDoor
open Go.RowKit Go.ChangeShapes Go.WideShapes Go.Deep
set_option linter.unusedVariables false

theorem Ints.cut {n₀ : Nat} {W : World} {a : Option Addr} {len cap : Nat} {zs : List Int} (h : Ints n₀ W (.slice a len cap) zs) (hl : zs.length = len) (m : Nat) (hm : m ≤ len) : Ints n₀ W (.slice a m cap) (zs.take m) := by
  by_cases h0 : m = 0
  · subst h0
    exact .inl ⟨⟨a, cap, rfl⟩, by simp⟩
  · rcases h with ⟨⟨a', c', he⟩, rfl⟩ | ⟨b, off, c, he, hb, hc⟩
    · simp at hl; omega
    · injection he with h1 h2 h3
      subst h1 h3
      have e : (zs.take m).length = m := by simp; omega
      refine .inr ⟨b, off, cap, by rw [e], hb, fun j hj => ?_⟩
      rw [e] at hj
      rw [hc j (by omega), List.getElem?_take_of_lt hj]

section
variable {H : Type} {enc : TypeId × Value → H} {W : World}

/-- A slice of ints that came in. -/
theorem open_keep {fuel len cap : Nat} {a : Option Addr} {x : DataW H × List MemPlace} (h : DataW.trod enc Tryz.prog W 0 (fun _ => true) true fuel 56 [.slice a len cap] = some x) :
    ∃ zs : List Int, zs.length = len ∧ Ints W.heap.size W (.slice a len cap) zs ∧ len ≤ cap ∧ cap ≤ maxLen := by
  rcases open_ints Tryz.underlying56 Tryz.underlying3 (by kernel_rfl) h with ⟨hcs, _⟩ | ⟨b, l, c, zs, hcs, _, hl, hm, hz, _, hcell, _⟩
  · simp at hcs
    obtain ⟨rfl, rfl, rfl⟩ := hcs
    exact ⟨[], rfl, .inl ⟨⟨none, 0, rfl⟩, rfl⟩, Nat.le_refl _, by unfold maxLen; omega⟩
  · simp at hcs
    obtain ⟨rfl, rfl, rfl⟩ := hcs
    simp at hz
    have hlen : (zs.take len).length = len := by simp; omega
    refine ⟨zs.take len, hlen, ?_, hl, hm⟩
    by_cases h0 : len = 0
    · subst h0
      exact .inl ⟨⟨_, _, rfl⟩, by simp⟩
    · have h1 := hcell 0 (by omega)
      have h1' : W.cell? b = some (.int .i64 (zs.getD 0 0)) := by simpa [Addr.add] using h1
      have hb := addr_form h1'
      rw [hb]
      refine .inr ⟨b.block, b.off, cap, by rw [hlen], block_lt_of_cell h1', fun j hj => ?_⟩
      rw [hlen] at hj
      have h2 := hcell j (by omega)
      rw [hb] at h2
      rw [add_none] at h2
      rw [h2, List.getElem?_take_of_lt hj]
      simp [List.getD]

/-- The slice holds the ints zs. -/
structure Keeps (w : World) (a : Option Addr) (len cap : Nat) (zs : List Int) : Prop where
  hlen : zs.length = len
  hcap : len ≤ cap
  hmax : cap ≤ maxLen
  ints : Ints w.heap.size w (.slice a len cap) zs
theorem open_keeps {fuel len cap : Nat} {a : Option Addr} {x : DataW H × List MemPlace} (h : DataW.trod enc Tryz.prog W 0 (fun _ => true) true fuel 56 [.slice a len cap] = some x) : ∃ zs, Keeps W a len cap zs := by
  obtain ⟨zs, h1, h2, h3, h4⟩ := open_keep h
  exact ⟨zs, h1, h3, h4, h2⟩

end
theorem Ints.raise {n₀ n₁ : Nat} (h : n₀ ≤ n₁) {A : World} {sv : Value} {zs : List Int} : Ints n₀ A sv zs → Ints n₁ A sv zs
  | .inl e => .inl e
  | .inr ⟨b, off, cap, e, hb, hc⟩ => .inr ⟨b, off, cap, e, Nat.lt_of_lt_of_le hb h, hc⟩
theorem Keeps.all {w w' : World} {a : Option Addr} {len cap : Nat} {zs : List Int} (h : Keeps w a len cap zs) (hb : Below w.heap.size w w') : Keeps w' a len cap zs :=
  ⟨h.hlen, h.hcap, h.hmax, Ints.raise hb.size (Ints.below hb h.ints)⟩
end Go.Proofs.YtjlgkjhociaeiaaGreatDoor
