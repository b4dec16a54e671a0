/-
  Joined by program out of: Room, Clone, Long.
-/
import Derived.Test.YtjlgkjhociaeiaaGreatDoorGf
import Derived.Test.YtjlgkjhociaeiaaGreatDoorShelf
import Derived.RangeFuncWrites
namespace Go.Proofs.YtjlgkjhociaeiaaGreatDoor
open Go.RowKit
set_option linter.unusedVariables false
theorem Room_nil (w : World) : Calls Tryz.prog 20 #[.pointer none] w fun e w' => e = .returned (.int .i64 0) ∧ w = w' := by
  go_enter Tryz.func20, Tryz.ntmps20
  go_wp2
  go_ret
  exact ⟨rfl, rfl⟩
theorem Records_nil (w : World) : Calls Tryz.prog 19 #[.pointer none] w fun e w' => e = .returned (.slice none 0 0) ∧ w = w' := by
  go_enter Tryz.func19, Tryz.ntmps19
  go_wp2
  go_ret
  exact ⟨rfl, rfl⟩
set_option maxRecDepth 100000 in
set_option maxHeartbeats 1000000 in
theorem Room_any {w : World} {p b : Nat} {F : Nat → Prop} {d : DSt} {t : Tape} {rv : Value} {br : Bool} (h : TapeAt w b 74 [.pointer (some ⟨p, 0, none⟩), .bool br] rv t) (hd : Dk w p F d) (hsm : d.dur.length ≤ 4194304) :
    Calls Tryz.prog 20 #[.pointer (some ⟨b, 0, none⟩)] w fun e w' => e = .returned (.int .i64 ((d.dur.length : Int) - t.size)) ∧ Only (fun _ => False) w w' := by
  have c2 := h.blk.cell 2
  have c3 := h.blk.cell 3
  simp only [tcells, List.getElem?_toArray, List.getElem?_cons_succ, List.getElem?_cons_zero] at c2 c3
  have hs := h.small
  have hw : IntKind.i64.wrap ((d.dur.length : Int) - t.size) = (d.dur.length : Int) - t.size := IntWalk.i64_in _ (by omega)
  have K := Lib.hid (Dk.size (hd.only (Only.drew (Only.refl (fun _ => False) w)) (fun _ _ e => e) : Dk w.drew p F d))
  clear h hd
  go_enter Tryz.func20, Tryz.ntmps20
  go_wp2
  go_region_with (go_at_call 51; refine K.out.mono ?_; rintro e w1 ⟨rfl, rfl⟩)
  all_goals
    go_wp2
    go_ret
    exact ⟨rfl, (Only.refl _ w).drew⟩
end Go.Proofs.YtjlgkjhociaeiaaGreatDoor
namespace Go.Proofs.YtjlgkjhociaeiaaGreatDoor
open Go.RowKit
set_option linter.unusedVariables false
theorem ownsRow_cell {w : World} {B : Nat} {e : TypeId} {g n cap : Nat} {xs : List Value} (h : w.ownsRow B e 1 (.slice (some ⟨g, 0, none⟩) n cap) n xs) (j : Nat) (hj : j < n) : w.cell? ⟨g, j, none⟩ = xs[j]? := by
  rcases h.2 with ⟨h1, _⟩ | ⟨g', cap', cur, h1, _, hh, hn, _, hs, hx⟩
  · simp at h1
  · simp only [Value.slice.injEq, Option.some.injEq, Addr.mk.injEq, and_true, true_and] at h1
    obtain ⟨rfl, rfl⟩ := h1
    rw [cell_of_row w g j cur e (0, 0) hh, ← hx]
    simp [hj]
theorem clone_any {w : World} {B : Nat} {rv : Value} {l : List ByteArray} (h : w.ownsRow B 9 1 rv l.length (l.map Value.string)) (hl : l.length ≤ 8388608) :
    Calls Tryz.prog 36 #[rv] w fun e w' => ∃ v', e = .returned v' ∧ w'.ownsRow w.heap.size 9 1 v' l.length (l.map Value.string) ∧ Below w.heap.size w w' := by
  rcases h.2 with ⟨rfl, h0⟩ | ⟨g, cap, cur, rfl, hB, hh, hn, hm, hs, hx⟩
  · refine (Tryz.slices_Clone_string_nil 0 0 w).mono ?_
    rintro e w' ⟨rfl, rfl⟩
    have : l = [] := List.length_eq_zero_iff.1 h0
    subst this
    exact ⟨_, rfl, ⟨rfl, .inl ⟨rfl, rfl⟩⟩, Below.refl _ _⟩
  · rcases Nat.eq_zero_or_pos l.length with h0 | h0
    · have : l = [] := List.length_eq_zero_iff.1 h0
      subst this
      refine (Tryz.slices_Clone_string_zero ⟨g, 0, none⟩ cap w).mono ?_
      rintro e w' ⟨v', rfl, ho, _, hb⟩
      exact ⟨v', rfl, ho, hb⟩
    · refine (Tryz.slices_Clone_string g 0 l.length cap l w (Nat.le_refl _) (by omega) (fun j hj => ?_)).mono ?_
      · rw [Nat.zero_add, ownsRow_cell h j hj]
        simp [hj, List.getD]
      · rintro e w' ⟨v', rfl, ho, _, hb⟩
        rw [List.take_length] at ho
        exact ⟨v', rfl, ho, hb⟩
set_option maxRecDepth 100000 in
theorem Records_any {w : World} {b : Nat} {ty : TypeId} {t : Tape} {rv : Value} {rest : List Value} (h : TapeAt w b ty rest rv t) :
    Calls Tryz.prog 19 #[.pointer (some ⟨b, 0, none⟩)] w fun e w' => ∃ v', e = .returned v' ∧ w'.ownsRow w.heap.size 9 1 v' t.recs.length (t.recs.map Value.string) ∧ Below w.heap.size w w' := by
  have c0 := h.blk.cell 0
  simp only [tcells, List.getElem?_toArray, List.getElem?_cons_succ, List.getElem?_cons_zero] at c0
  have K := Lib.hid (clone_any h.own h.few)
  clear h
  go_enter Tryz.func19, Tryz.ntmps19
  go_wp2_with (go_at_call 36; refine K.out.mono ?_; rintro e w1 ⟨v', rfl, ho, hb⟩)
  go_ret
  exact ⟨v', rfl, ho, hb⟩
end Go.Proofs.YtjlgkjhociaeiaaGreatDoor
namespace Go.Proofs.YtjlgkjhociaeiaaGreatDoor
open Go.RowKit
set_option linter.unusedVariables false
def long (s : ByteArray) : Bool := decide (65536 < s.size)
theorem long_calls (W : World) (s : ByteArray) : Calls Tryz.prog 34 #[.string s] W fun e w' => e = .returned (.bool (long s)) ∧ W = w' := by
  unfold long
  by_cases h : 65536 < s.size
  · have d1 : decide ((65536 : Int) < (s.size : Int)) = true := decide_eq_true (by omega)
    have d2 : decide (65536 < s.size) = true := decide_eq_true h
    go_enter Tryz.func34, Tryz.ntmps34
    go_wp2
    go_ret
    exact ⟨by rw [d2]; rfl, rfl⟩
  · have d1 : decide ((65536 : Int) < (s.size : Int)) = false := decide_eq_false (by omega)
    have d2 : decide (65536 < s.size) = false := decide_eq_false h
    go_enter Tryz.func34, Tryz.ntmps34
    go_wp2
    go_ret
    exact ⟨by rw [d2]; rfl, rfl⟩
theorem long_any (W : World) (s : ByteArray) : FnGives Tryz.prog 34 #[] #[.string s] (.bool (long s)) W :=
  (long_calls W s).mono fun e w' ⟨he, hw⟩ => ⟨he, 0, hw ▸ rfl⟩
/-- A list of strings, as a call is handed it. -/
def StrsAt (w : World) (v : Value) (zs : List ByteArray) : Prop :=
  (∃ q c, v = .slice q 0 c ∧ zs = []) ∨ ∃ g off c, v = .slice (some ⟨g, off, none⟩) zs.length c ∧ g < w.heap.size ∧ ∀ j (h : j < zs.length), w.cell? ⟨g, off + j, none⟩ = some (.string zs[j])
theorem StrsAt.below {w w' : World} {v : Value} {zs : List ByteArray} {B : Nat} (h : StrsAt w v zs) (hb : Below B w w') (hB : ∀ a n c, v = .slice (some a) n c → a.block < B) : StrsAt w' v zs := by
  rcases h with h | ⟨g, off, c, rfl, hg, hc⟩
  · exact .inl h
  · exact .inr ⟨g, off, c, rfl, Nat.lt_of_lt_of_le hg hb.size, fun j hj => (World.cell?_of_block (a := ⟨g, off + j, none⟩) (hb.block g (hB _ _ _ rfl))).trans (hc j hj)⟩
theorem StrsAt.all {w w' : World} {v : Value} {zs : List ByteArray} (h : StrsAt w v zs) (hb : Below w.heap.size w w') : StrsAt w' v zs := by
  rcases h with h | ⟨g, off, c, rfl, hg, hc⟩
  · exact .inl h
  · exact .inr ⟨g, off, c, rfl, Nat.lt_of_lt_of_le hg hb.size, fun j hj => (World.cell?_of_block (a := ⟨g, off + j, none⟩) (hb.block g hg)).trans (hc j hj)⟩
theorem long_list {w : World} {v : Value} {zs : List ByteArray} (h : StrsAt w v zs) (hl : zs.length ≤ 1000000) :
    Calls Tryz.prog 35 #[v, .func (.func 34) #[] #[]] w fun e w' => e = .returned (.bool (zs.any long)) ∧ ∃ q, w' = w.drewN q := by
  rcases h with ⟨q, c, rfl, rfl⟩ | ⟨g, off, c, rfl, hg, hc⟩
  · refine (Tryz.slices_ContainsFunc_empty (α := Int) q c _ w).mono ?_
    rintro e w' ⟨rfl, rfl⟩
    exact ⟨rfl, 0, rfl⟩
  · have eg : ∀ args w, (callFunc 34 args).run Tryz.prog w = .ok (.enter 34 args) w := enters_of Tryz.func34 (by kernel_rfl) rfl
    have : Inhabited ByteArray := ⟨ByteArray.empty⟩
    refine (Tryz.slices_ContainsFunc Value.string long 34 #[] eg g off zs.length c zs w (fun W x _ => long_any W x) (Nat.le_refl _) (by omega) (fun j hj => ?_)).mono ?_
    · rw [hc j hj]
      simp [hj]
    · rintro e w' ⟨rfl, hq⟩
      rw [List.take_length]
      exact ⟨rfl, hq⟩
end Go.Proofs.YtjlgkjhociaeiaaGreatDoor
