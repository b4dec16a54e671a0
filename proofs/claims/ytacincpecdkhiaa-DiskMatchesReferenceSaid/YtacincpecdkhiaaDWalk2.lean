/-
  disk.New, disk.Read, a write laid over a content, settling.
-/
import Derived.Test.YtacincpecdkhiaaDWalk1
import Derived.Deep.OwnRows
import Derived.BigRegion
import Derived.RegionTactic
import Derived.ChangeAlike
import Derived.Lib.Strings
import Derived.Lib.Hide
import Derived.Laws.IdiomStrings
namespace Go.Proofs.Ytacincpecdkhiaa
open Go.RowKit
set_option linter.unusedVariables false

theorem info8 : (Try.prog.info? 5).map (fun i => (i.zero, i.size, i.bytes)) = some (some (.int .u8 0), 1, 1) := by kernel_rfl
theorem infoW : (Try.prog.info? 69).map (fun i => (i.zero, i.size, i.bytes)) = some (some (.agg #[.int .i64 0, .string ByteArray.empty]), 2, 24) := by kernel_rfl

theorem made8 (n : Nat) : madeCells #[Value.int .u8 0] n = (cells8 (List.replicate n 0)).toArray := by
  apply Array.toList_inj.1
  rw [toList_madeCells_one]
  simp [cells8, b8]

/-- What a new disk is, in the world that New leaves: its two contents lie in either order. -/
theorem new_at (w : World) (n a b : Nat) (hn : n ≤ 4194304) (hab : (a = w.heap.size ∧ b = w.heap.size + 1) ∨ (a = w.heap.size + 1 ∧ b = w.heap.size)) (q : Nat) :
    DiskAt w.heap.size ((((w.alloc (.cells (madeCells #[Value.int .u8 0] n) 5)).alloc (.cells (madeCells #[Value.int .u8 0] n) 5)).alloc (.cells #[.bool false, .int .i64 0, .slice (some ⟨a, 0, none⟩) n n, .slice (some ⟨b, 0, none⟩) n n, .slice none 0 0] 65)).drewN q)
      ⟨w.heap.size + 1 + 1, a, b, .slice none 0 0⟩ (DSt.new n) := by
  have hl : (DSt.new n).dur.length = n := by simp [DSt.new]
  have hb1 := (Blk.new w 5 (madeCells #[Value.int .u8 0] n)).alloc (.cells (madeCells #[Value.int .u8 0] n) 5)
  have hb2 := Blk.new (w.alloc (.cells (madeCells #[Value.int .u8 0] n) 5)) 5 (madeCells #[Value.int .u8 0] n)
  have hb3 := Blk.new ((w.alloc (.cells (madeCells #[Value.int .u8 0] n) 5)).alloc (.cells (madeCells #[Value.int .u8 0] n) 5)) 65 #[.bool false, .int .i64 0, .slice (some ⟨a, 0, none⟩) n n, .slice (some ⟨b, 0, none⟩) n n, .slice none 0 0]
  simp only [World.size_alloc] at hb2 hb3
  have ha : Blk (((w.alloc (.cells (madeCells #[Value.int .u8 0] n) 5)).alloc (.cells (madeCells #[Value.int .u8 0] n) 5))) a 5 (cells8 (List.replicate n 0)).toArray := by
    rw [← made8]
    rcases hab with ⟨rfl, _⟩ | ⟨rfl, _⟩
    · exact hb1
    · exact hb2
  have hb : Blk (((w.alloc (.cells (madeCells #[Value.int .u8 0] n) 5)).alloc (.cells (madeCells #[Value.int .u8 0] n) 5))) b 5 (cells8 (List.replicate n 0)).toArray := by
    rw [← made8]
    rcases hab with ⟨_, rfl⟩ | ⟨_, rfl⟩
    · exact hb2
    · exact hb1
  refine { blk := ?_, dur := ?_, vis := ?_, pend := ?_, ne := ?_, bp := ?_, bbd := ?_, bbv := ?_, len := ?_, small := ?_, left := ?_, fits := ?_ }
  · rw [hl]; exact hb3.drewN q
  · exact (ha.alloc _).drewN q
  · exact (hb.alloc _).drewN q
  · exact World.ownsRow_nil _ _ _ _
  · show a ≠ b; omega
  · show w.heap.size ≤ w.heap.size + 1 + 1; omega
  · show w.heap.size ≤ a; omega
  · show w.heap.size ≤ b; omega
  · rw [hl]; simp [DSt.new]
  · rw [hl]; exact hn
  · show 0 ≤ _; omega
  · intro x hx; simp [DSt.new] at hx

set_option maxHeartbeats 400000 in
theorem New_bad (n : Int) (w : World) (h : n < 1 ∨ 4194304 < n) :
    Calls Try.prog 13 #[.int .i64 n] w fun e w' => e = .returned (.tuple #[.pointer none, .int .i64 2]) ∧ w = w' := by
  by_cases h1 : n < 1
  · clear h
    go_enter Try.func13, Try.ntmps13
    go_wp2
    go_ret2
    exact ⟨rfl, rfl⟩
  · have h2 : 4194304 < n := by omega
    clear h
    go_enter Try.func13, Try.ntmps13
    go_wp2
    go_ret2
    exact ⟨rfl, rfl⟩

set_option maxHeartbeats 400000 in
theorem New_good (n : Nat) (w : World) (h1 : 1 ≤ n) (h2 : n ≤ 4194304) :
    Calls Try.prog 13 #[.int .i64 (n : Int)] w fun e w' => ∃ r, e = .returned (.tuple #[r.ptr, .int .i64 0]) ∧ DiskAt w.heap.size w' r (DSt.new n) ∧ Below w.heap.size w w' := by
  have hmk := run_make_row' (P := Try.prog) 40 5 (.int .u8 0) 1 Try.underlying40 info8 rfl .i64 .i64 n (by omega) (by omega)
  have H1 : ¬ ((n : Int) < 1) := by omega
  have H2 : ¬ (4194304 < (n : Int)) := by omega
  go_enter Try.func13, Try.ntmps13
  go_wp2
  go_region
  all_goals
    go_wp2
    go_ret2
    first
      | exact ⟨⟨w.heap.size + 1 + 1, w.heap.size, w.heap.size + 1, .slice none 0 0⟩, rfl, new_at w n w.heap.size (w.heap.size + 1) h2 (by omega) 1, ((((Below.refl _ w).alloc (Nat.le_refl _) _).alloc (by simp) _).alloc (by simp; omega) _).drew⟩
      | exact ⟨⟨w.heap.size + 1 + 1, w.heap.size + 1, w.heap.size, .slice none 0 0⟩, rfl, new_at w n (w.heap.size + 1) w.heap.size h2 (by omega) 1, ((((Below.refl _ w).alloc (Nat.le_refl _) _).alloc (by simp) _).alloc (by simp; omega) _).drew⟩

/-- 'string(b[o:][:n])' of the visible content. -/
theorem part_cells {B : Nat} {w : World} {r : DRep} {s : DSt} (h : DiskAt B w r s) (k m : Nat) (hk : k + m ≤ s.dur.length) (c : Nat) :
    (convert 40 9 (.slice (some ⟨r.bv, k, none⟩) m c)).run Try.prog w = .ok (.string ⟨((s.vis.drop k).take m).toArray⟩) w := by
  have hv := h.vis
  have hl := h.len
  have hlen : ((s.vis.drop k).take m).length = m := by simp; omega
  have := run_convert_bytes_back (P := Try.prog) w 40 9 5 ⟨r.bv, k, none⟩ c ((s.vis.drop k).take m) Try.underlying40 Try.underlying5 Try.underlying9 (fun j hj => by
    have hj' : j < m := by rw [hlen] at hj; exact hj
    have e : (⟨r.bv, k, none⟩ : Addr).add j = ⟨r.bv, k + j, none⟩ := by unfold Addr.add; split <;> simp_all
    rw [e, hv.cell (k + j)]
    simp only [List.getElem?_toArray]
    rw [cells8_get _ _ (by omega)]
    simp [b8])
  rw [hlen] at this
  exact this

set_option maxHeartbeats 400000 in
theorem Read_any {B : Nat} {w : World} {r : DRep} {s : DSt} (h : DiskAt B w r s) (o n : Int) :
    Calls Try.prog 14 #[r.ptr, .int .i64 o, .int .i64 n] w fun e w' => e = .returned (.tuple #[.string ⟨(s.read o n).1.toArray⟩, .int .i64 (s.read o n).2]) ∧ w = w' := by
  have c3 := h.c3
  have hs := h.small
  have K := check_any h
  have KI := inside_any h o n
  have HH : Hid (DiskAt B w r s) := h
  have KH := Lib.hid K
  have KIH := Lib.hid KI
  unfold DRep.ptr at *
  clear K KI
  have mt : (.string ⟨([] : List UInt8).toArray⟩ : Value) = .string ByteArray.empty := rfl
  cases ho : s.off
  · have HP : Hid (s.power = 0) := by show s.power = 0; simp [DSt.power, ho]
    have HO : Hid (s.off = false) := ho
    clear h ho
    rw [HP.out] at KH
    cases hi : s.inside o n
    · have HF : Hid (s.read o n = ([], 250)) := by show s.read o n = _; simp [DSt.read, HO.out, hi]
      rw [hi] at KIH
      clear hi mt
      go_enter Try.func14, Try.ntmps14
      go_wp2_with (first | (go_at_call 28; refine KH.out.mono ?_; rintro e w' ⟨rfl, rfl⟩) | (go_at_call 29; refine KIH.out.mono ?_; rintro e w' ⟨rfl, rfl⟩))
      go_ret2
      rw [HF.out]
      exact ⟨rfl, rfl⟩
    · have HF : Hid (s.read o n = (s.part o n, 0)) := by show s.read o n = _; simp [DSt.read, HO.out, hi]
      obtain ⟨i1, i2, i3, i4⟩ := (s.inside_iff o n).1 hi
      obtain ⟨k, rfl⟩ := Int.eq_ofNat_of_zero_le i1
      obtain ⟨m, rfl⟩ := Int.eq_ofNat_of_zero_le i2
      have j3 : k ≤ s.dur.length := by omega
      have j4 : m ≤ s.dur.length - k := by omega
      have HF2 : Hid (s.part k m = (s.vis.drop k).take m) := by show s.part k m = _; simp [DSt.part]
      rw [hi] at KIH
      clear hi mt i1 i2
      by_cases hk : s.dur.length = k
      · have hm : m = 0 := by omega
        subst hm
        have hcv := part_cells HH.out 0 0 (by omega)
        have e0 : (s.vis.drop k).take 0 = [] := List.take_zero
        have e1 : (s.vis.drop 0).take 0 = [] := List.take_zero
        rw [e0] at HF2
        rw [e1] at hcv
        clear e0 e1
        go_enter Try.func14, Try.ntmps14
        go_wp2_with (first | (go_at_call 28; refine KH.out.mono ?_; rintro e w' ⟨rfl, rfl⟩) | (go_at_call 29; refine KIH.out.mono ?_; rintro e w' ⟨rfl, rfl⟩))
        go_ret2
        rw [HF.out, HF2.out]
        exact ⟨rfl, rfl⟩
      · have hcv := part_cells HH.out k m (by omega)
        have hk' : k < s.dur.length := by omega
        clear hk
        go_enter Try.func14, Try.ntmps14
        go_wp2_with (first | (go_at_call 28; refine KH.out.mono ?_; rintro e w' ⟨rfl, rfl⟩) | (go_at_call 29; refine KIH.out.mono ?_; rintro e w' ⟨rfl, rfl⟩))
        go_ret2
        rw [HF.out, HF2.out]
        exact ⟨rfl, rfl⟩
  · have HP : Hid (s.power = 251) := by show s.power = 251; simp [DSt.power, ho]
    have HO : Hid (s.off = true) := ho
    clear h ho
    rw [HP.out] at KH
    have HF : Hid (s.read o n = ([], 251)) := by show s.read o n = _; simp [DSt.read, HO.out]
    clear mt
    go_enter Try.func14, Try.ntmps14
    go_wp2_with (go_at_call 28; refine KH.out.mono ?_; rintro e w' ⟨rfl, rfl⟩)
    go_ret2
    rw [HF.out]
    exact ⟨rfl, rfl⟩
end Go.Proofs.Ytacincpecdkhiaa
