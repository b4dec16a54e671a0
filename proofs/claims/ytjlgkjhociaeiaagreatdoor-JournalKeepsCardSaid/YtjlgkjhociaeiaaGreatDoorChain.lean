/-
  digest.Chain.
-/
import Derived.Test.YtjlgkjhociaeiaaGreatDoorSum
import Derived.Test.YtjlgkjhociaeiaaGreatDoorShelf
import Derived.RegionCalls
namespace Go.Proofs.YtjlgkjhociaeiaaGreatDoor
open Go.RowKit
set_option linter.unusedVariables false

theorem join2 (a b : List UInt8) : Lib.join [a, b] [] = a ++ b := by simp [Lib.join]
theorem byteArray_ext {a b : ByteArray} (h : a.data.toList = b.data.toList) : a = b := by
  cases a
  cases b
  simp at h
  rw [h]
theorem join_bytes (h r : ByteArray) : (⟨#[2]⟩ : ByteArray) ++ ⟨(Lib.join [h.data.toList, r.data.toList] []).toArray⟩ = ⟨#[2]⟩ ++ h ++ r := by
  apply byteArray_ext
  rw [join2]
  simp [ByteArray.toList_data_append]

set_option maxRecDepth 100000 in
set_option maxHeartbeats 2000000 in
theorem marked1_any (Bm g : Nat) (h r : ByteArray) (w : World) (ht : Tab w) (hm : w.cell? ⟨Bm, 0, none⟩ = some (.string ⟨#[2]⟩)) (hb : Blk w g 9 #[.string h, .string r]) (hs : h.size + r.size ≤ 1099511627000) :
    Calls Tryz.prog 109 #[.slice (some ⟨g, 0, none⟩) 2 2, .pointer (some ⟨Bm, 0, none⟩)] w fun e w' => e = .returned (.string (chain h r)) ∧ Below w.heap.size w w' := by
  have HB := Lib.hid hb
  have HT := Lib.hid ht
  have HTd : Hid (Tab w.drew) := ht
  have hlt := block_lt_of_cell hm
  simp only at hlt
  have J := Lib.hid (Tryz.strings_Join g 0 2 [h, r] ⟨#[]⟩ w.drew (fun j x hx => by
    match j, hx with
    | 0, hx => simp at hx; subst hx; exact hb.cell 0
    | 1, hx => simp at hx; subst hx; exact hb.cell 1) hb.lt (by simp) (by simp) (by simp [join2]; have := size_list h; have := size_list r; omega))
  obtain ⟨jn, hjn⟩ : ∃ jn : ByteArray, jn = ⟨(Lib.join [h.data.toList, r.data.toList] []).toArray⟩ := ⟨_, rfl⟩
  have EJ : Hid (sha ((⟨#[2]⟩ : ByteArray) ++ jn) = chain h r) := by
    show _ = _
    rw [hjn, join_bytes]
    rfl
  have J2 : Hid (Calls Tryz.prog 111 #[.slice (some ⟨g, 0, none⟩) 2 2, .string ⟨#[]⟩] w.drew fun e w' => e = .returned (.string jn) ∧ Below w.heap.size w.drew w') := by
    rw [hjn]
    exact J.out
  have hjs : jn.size = h.size + r.size := by
    rw [hjn, join2, ← size_list]
    simp [size_list]
  have HJS := Lib.hid hjs
  have hsum : ((⟨#[2]⟩ : ByteArray) ++ jn).size ≤ 1099511627776 := by rw [ByteArray.size_append]; show 1 + jn.size ≤ _; omega
  have HSU := Lib.hid hsum
  have hcat : 1 + jn.size ≤ 9223372036854775807 := by omega
  clear hb ht J hjn hjs hsum
  go_enter Tryz.func109, Tryz.ntmps109
  go_wp2
  go_region_with (first | (go_at_call 111; refine J2.out.mono ?_; rintro e w2 ⟨rfl, b2⟩; have c2 := (b2.cell (p := ⟨Bm, 0, none⟩) hlt).trans hm; have B2 := Lib.hid b2; clear b2) | (go_at_call 110; refine (sum_any _ _ (HTd.out.below B2.out HT.out.lt) HSU.out).mono ?_; rintro e w3 ⟨rfl, b3⟩; have B3 := Lib.hid (B2.out.trans (b3.mono B2.out.size)); clear b3))
  all_goals
    go_wp2
    go_ret
    rw [EJ.out]
    exact ⟨rfl, (Below.refl _ w).drew.trans B3.out⟩

theorem marked_any (s : ByteArray) (w : World) :
    Calls Tryz.prog 95 #[.string s] w fun e w' => e = .returned (.func (.func 109) #[] #[.pointer (some ⟨w.heap.size, 0, none⟩)]) ∧ w.alloc (.cells #[.string s] 9) = w' := by
  go_enter Tryz.func95, Tryz.ntmps95
  go_wp2
  go_ret
  exact ⟨rfl, rfl⟩

set_option maxRecDepth 100000 in
set_option maxHeartbeats 2000000 in
theorem chain_any (h r : ByteArray) (w : World) (ht : Tab w) (hs : h.size + r.size ≤ 1099511627000) :
    Calls Tryz.prog 70 #[.string h, .string r] w fun e w' => e = .returned (.string (chain h r)) ∧ Below w.heap.size w w' := by
  have HT := Lib.hid ht
  obtain ⟨w1, hw1⟩ : ∃ w1, w1 = w.alloc (.cells #[.string ⟨#[2]⟩] 9) := ⟨_, rfl⟩
  obtain ⟨w2, hw2⟩ : ∃ w2, w2 = w1.alloc (.cells #[.string h, .string r] 9) := ⟨_, rfl⟩
  have b1 : Below w.heap.size w w1 := by rw [hw1]; exact (Below.refl _ w).alloc (Nat.le_refl _) _
  have b2 : Below w.heap.size w w2 := by rw [hw2]; exact b1.alloc b1.size _
  have k2 : Blk w2 w1.heap.size 9 #[.string h, .string r] := by rw [hw2]; exact Blk.new _ _ _
  have c2 : w2.cell? ⟨w.heap.size, 0, none⟩ = some (.string ⟨#[2]⟩) := by
    rw [hw2, hw1]
    exact ((Blk.new w 9 _).alloc _).cell 0
  have K := Lib.hid (marked1_any w.heap.size w1.heap.size h r w2 (ht.below b2 ht.lt) c2 k2 hs)
  have B2 := Lib.hid b2
  have HW1 := Lib.hid hw1
  have HW2 := Lib.hid hw2
  clear ht hw1 hw2 b1 b2 k2 c2
  go_enter Tryz.func70, Tryz.ntmps70
  go_wp2_with (first | (go_at_call 95; refine (marked_any _ _).mono ?_; rintro e w' ⟨rfl, rfl⟩; rw [← HW1.out]) | (go_at_call 109; rw [← HW2.out]; refine K.out.mono ?_; rintro e w3 ⟨rfl, b3⟩; have B3 := Lib.hid (B2.out.trans (b3.mono B2.out.size)); clear b3))
  go_ret
  exact ⟨rfl, B3.out⟩
end Go.Proofs.YtjlgkjhociaeiaaGreatDoor
