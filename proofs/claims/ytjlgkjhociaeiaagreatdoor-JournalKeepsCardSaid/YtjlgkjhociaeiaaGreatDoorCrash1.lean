/-
  The closure of Crash, and DeleteFunc with it.
-/
import Derived.Test.YtjlgkjhociaeiaaGreatDoorSorted
import Derived.Test.YtjlgkjhociaeiaaGreatDoorGa
import Derived.Test.YtjlgkjhociaeiaaGreatDoorOrder
import Derived.Shelf.SlicesE.DeleteFunc
namespace Go.Proofs.YtjlgkjhociaeiaaGreatDoor
open Go.RowKit Go.Shelf Go.Sort
set_option linter.unusedVariables false

set_option maxHeartbeats 400000 in
theorem closure_any (x : Int) (W : World) (Bx p n : Nat) (A : Option Addr) (c : Nat) (hB : W.cell? ⟨Bx, 0, none⟩ = some (.pointer (some ⟨p, 0, none⟩))) (h4 : W.cell? ⟨p, 4, none⟩ = some (.slice A n c)) :
    Calls Tryz.prog 64 #[.int .i64 x, .pointer (some ⟨Bx, 0, none⟩)] W fun e w' => e = .returned (.bool (strikes n x)) ∧ W = w' := by
  have HS : Hid (strikes n x = (decide (x < 0) || decide ((n : Int) ≤ x))) := rfl
  by_cases h1 : x < 0
  · go_enter Tryz.func64, Tryz.ntmps64
    go_wp2
    go_ret
    rw [HS.out]
    exact ⟨by simp [h1], rfl⟩
  · by_cases h2 : (n : Int) ≤ x
    all_goals
      go_enter Tryz.func64, Tryz.ntmps64
      go_wp2
      go_ret
      rw [HS.out]
      exact ⟨by simp <;> omega, rfl⟩

/-- What the closure needs of a world. -/
def Sees (W : World) (Bx p n : Nat) : Prop := W.cell? ⟨Bx, 0, none⟩ = some (.pointer (some ⟨p, 0, none⟩)) ∧ ∃ A c, W.cell? ⟨p, 4, none⟩ = some (.slice A n c)

theorem gives_closure (x : Int) (W : World) (Bx p n : Nat) (h : Sees W Bx p n) : FnGives Tryz.prog 64 #[.pointer (some ⟨Bx, 0, none⟩)] #[.int .i64 x] (.bool (strikes n x)) W := by
  obtain ⟨h1, A, c, h2⟩ := h
  exact (closure_any x W Bx p n A c h1 h2).mono fun e w' ⟨he, hw⟩ => ⟨he, 0, hw ▸ rfl⟩

theorem delete_own {B : Nat} {w : World} {v : Value} {zs : List Int} (h : OwnInts B w v zs) (Bx p n : Nat) (hs : Sees w Bx p n) (hx : v.ownBlock ≠ some Bx) (hp : v.ownBlock ≠ some p) (hxl : Bx < w.heap.size) (hpl : p < w.heap.size) :
    Calls Tryz.prog 63 #[v, .func (.func 64) #[] #[.pointer (some ⟨Bx, 0, none⟩)]] w fun e w' => ∃ v', e = .returned v' ∧ OwnInts B w' v' (zs.filter fun x => !strikes n x) ∧ w.grownBy w' v.ownBlock ∧ v'.ownBlock = v.ownBlock := by
  rcases ownInts_cases h with ⟨rfl, q, c, rfl⟩ | ⟨g, cap, cur, rfl, hb, hg, hn, hm, hsz, ht⟩
  · have K := Lib.hid (Tryz.slices_IndexFunc_empty (α := Int) q c (.func (.func 64) #[] #[.pointer (some ⟨Bx, 0, none⟩)]) w)
    have HH := Lib.hid h
    clear hs h
    go_enter Tryz.func63, Tryz.ntmps63
    go_wp2_with (go_at_call 92; refine K.out.mono ?_; rintro e w1 ⟨rfl, rfl⟩)
    go_ret
    exact ⟨_, rfl, HH.out, World.grownBy.refl _ _, rfl⟩
  · have hgx : g ≠ Bx := fun e => hx (by rw [← e]; rfl)
    have hgp : g ≠ p := fun e => hp (by rw [← e]; rfl)
    unfold maxLen at hm
    have eg : ∀ args w, (callFunc 64 args).run Tryz.prog w = .ok (.enter 64 args) w := enters_of Tryz.func64 (by kernel_rfl) rfl
    have hpa : PredAt Tryz.prog 64 #[.pointer (some ⟨Bx, 0, none⟩)] (Value.int .i64) (strikes n) w := fun W x hbl => gives_closure x W Bx p n (by
      obtain ⟨h1, A, c, h2⟩ := hs
      exact ⟨(hbl.cell (p := ⟨Bx, 0, none⟩) hxl).trans h1, A, c, (hbl.cell (p := ⟨p, 4, none⟩) hpl).trans h2⟩)
    have hpo : PredOver Tryz.prog 64 #[.pointer (some ⟨Bx, 0, none⟩)] (Value.int .i64) (strikes n) g 0 zs.toArray.size w := fun m os dk x _ => gives_closure x _ Bx p n (by
      obtain ⟨h1, A, c, h2⟩ := hs
      unfold sortWorld
      refine ⟨?_, A, c, ?_⟩
      · rw [cell?_grow _ _ _ (by show Bx < (putRow _ _ _ _ _).heap.size; rw [size_putRow]; exact hxl), cell?_putRow_other _ _ g 0 _ _ (Or.inl (Ne.symm hgx))]
        exact h1
      · rw [cell?_grow _ _ _ (by show p < (putRow _ _ _ _ _).heap.size; rw [size_putRow]; exact hpl), cell?_putRow_other _ _ g 0 _ _ (Or.inl (Ne.symm hgp))]
        exact h2)
    have K := Tryz.slices_DeleteFunc (Value.int .i64) (fun _ => rfl) (strikes n) 64 #[.pointer (some ⟨Bx, 0, none⟩)] eg 0 Tryz.zeroValue3 g 0 cap zs.toArray w hpa hpo (holds_of_blockI hg ht) (by simp; omega) (by simpa using hn)
    refine (show Calls _ _ #[.slice (some ⟨g, 0, none⟩) zs.length cap, _] _ _ from (by simpa using K)).mono ?_
    have hle : (zs.filter fun x => !strikes n x).length ≤ zs.length := List.length_filter_le _ _
    rintro e w' ⟨rfl, q, rfl⟩
    refine ⟨_, rfl, ?_, ?_, rfl⟩
    · have := ownsRow_sortedI (n := q) (os := #[]) (ts := (zs.filter fun x => !strikes n x) ++ List.replicate (zs.length - (zs.filter fun x => !strikes n x).length) 0) (ss := zs) (by simp; omega) hb hg hn (by unfold maxLen; omega) hsz
      rw [Go.Sort.grow_empty] at this
      have h2 := ownsRow_cut1 this hle
      simpa [OwnInts] using h2
    · have := grownBy_sortedI (w := w) (g := g) (n := q) (os := #[]) ((zs.filter fun x => !strikes n x) ++ List.replicate (zs.length - (zs.filter fun x => !strikes n x).length) 0).toArray
      rw [Go.Sort.grow_empty] at this
      show w.grownBy _ (some g)
      simpa using this
end Go.Proofs.YtjlgkjhociaeiaaGreatDoor
