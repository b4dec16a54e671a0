/-
  wire.PutInt at numbers that are not negative; wire.PutString.
-/
import Derived.Test.YtjlgkjhociaeiaaGreatDoorGroups
import Derived.Maps.AppendAt
namespace Go.Proofs.YtjlgkjhociaeiaaGreatDoor
open Go.RowKit Go.Shelf
set_option linter.unusedVariables false

attribute [local go_sem] Oper.semAt_some

theorem groups_stops (F : Fence) (n : Nat) (hF : F.fn 132) (hro : F.round = none) (hn : 1 ≤ n) (Bz z : Nat) (hz : z < 128 ^ 10) (hz64 : z < 18446744073709551616) (S : Nat → Prop) (hS : ¬ S Bz) (w : World) (hc : Blk w Bz 141 #[.int .u64 (z : Int)]) :
    SeqState F n Tryz.prog 132 #[.pointer (some ⟨Bz, 0, none⟩)] (fun x : UInt8 × Bool => #[Value.int .u8 (x.1.toNat : Int), .bool x.2]) (Only S) (fun A B => ∃ v, B = A.setCell ⟨Bz, 0, none⟩ v) (fun xs => xs = grpL 10 z) 10 w :=
  fun l J W hW hJ hY h0 => groups1_in F n hF hro hn l Bz z hz hz64 S hS J (fun s A v h => hJ s A _ h ⟨v, rfl⟩) hY W (hc.below hW hc.lt) h0

set_option maxHeartbeats 1000000 in
theorem groups_in (F : Fence) (n : Nat) (hF : F.fn 112) (hro : F.round = none) (z : Int) (w : World) :
    CallsIn F n Tryz.prog 112 #[.int .u64 z] w fun e w' => e = .returned (.func (.func 132) #[] #[.pointer (some ⟨w.heap.size, 0, none⟩)]) ∧ w' = w.alloc (.cells #[.int .u64 z] 141) := by
  refine callsIn_of_wp Tryz.func112 rfl hF ?_ hro
  simp only [Tryz.ntmps112, List.size_toArray, List.length_cons, List.length_nil, Nat.reduceAdd, Nat.reduceSub, Array.replicate_succ, Array.replicate_zero, List.push_toArray, List.append_toArray, List.nil_append, List.cons_append]
  gi_wp2
  go_ret
  exact ⟨rfl, rfl⟩

def markB (x : UInt8 × Bool) : UInt8 := if x.2 = true then x.1 else x.1 ||| 128
theorem or128 (m : Nat) (h : m < 128) : UInt8.ofNat m ||| 128 = UInt8.ofNat (m + 128) := by
  apply UInt8.toNat.inj
  rw [UInt8.toNat_or, u8_toNat m (by omega), u8_toNat _ (by omega), Nat.or_comm]
  have := nat_join 7 128 m (by decide) (by simpa using h)
  show 128 ||| m = _
  omega
theorem grp_put (f z : Nat) : (grpL f z).map markB = putG f z := by
  induction f generalizing z with
  | zero => rfl
  | succ f ih =>
    rw [grpL, putG_succ]
    split
    · rfl
    · rw [List.map_cons, ih]
      congr 1
      show UInt8.ofNat (z % 128) ||| 128 = _
      exact or128 _ (by omega)
theorem u8_or128 (c : UInt8) : Go.bits .or .u8 (c.toNat : Int) 128 = ((c ||| 128).toNat : Int) := by
  rw [show (128 : Int) = ((128 : Nat) : Int) from rfl, u8_or_nat _ _ c.toNat_lt (by omega), UInt8.toNat_or]
  rfl

theorem infoB8 : (Tryz.prog.info? 5).map (fun i => (i.zero, i.size, i.bytes)) = some (some (.int .u8 0), 1, 1) := by kernel_rfl

theorem only_put_ {n₀ Bo : Nat} {w : World} (hn : n₀ ≤ w.heap.size) (W : World) (l : Nat) (o o' : Obj) (hl : w.heap.size ≤ l) (h : W.heap[l]? = some o) (_ : o.isCells = false) (_ : o.isWalk = false) : Only (fun k => k = Bo ∨ n₀ ≤ k) W (W.putObj l o') :=
  (Only.of_grown (grownBy_putObj' W l o')).mono fun i _ e => by
    have : i = l := by cases e; rfl
    exact .inr (by omega)
theorem cl_keeps {b : Nat} (A B : World) (h : ∃ v, B = A.setCell ⟨b, 0, none⟩ v) (k : Nat) (o : Obj) (ho : A.heap[k]? = some o) (hc : o.isCells = false) : B.heap[k]? = some o := by
  obtain ⟨v, rfl⟩ := h
  by_cases e : k = b
  · subst e
    cases o with
    | cells cs t fr => cases hc
    | _ => simp [World.setCell, Array.getElem?_modify, ho]
  · exact (Below.heap_setCell A ⟨b, 0, none⟩ v k e).trans ho
theorem put_only {H : Nat} {W w1 : World} {o : Obj} {tO tE tZ : TypeId} {v y : Value} {k : Nat} {xs : List Value} (hv : Boxed W H tO v) (hrow : W.ownsRow H tE 1 v k xs) (hy : Blk W (H + 1) tZ #[y]) (h1 : tO ≠ tE) (h2 : tE ≠ tZ) (hg : (W.alloc o).grownBy w1 v.ownBlock) (u : Value) :
    Only (fun k => k = H ∨ H + 2 ≤ k) W (w1.setCell ⟨H, 0, none⟩ u) ∧ Blk (w1.setCell ⟨H, 0, none⟩ u) (H + 1) tZ #[y] := by
  have n1 := hv.not_row h1 hrow
  have n2 := own_blk_ne hrow hy h2
  refine ⟨?_, ?_⟩
  · have h3 : Only (fun k => k = H ∨ H + 2 ≤ k) W w1 := ((Only.refl _ W).alloc o).trans' ((Only.of_grown hg).mono fun i _ e => by
      have := (hrow.lt i e.symm).1
      have a1 : i ≠ H := fun x => n1 (by rw [← x]; exact e)
      have a2 : i ≠ H + 1 := fun x => n2 (by rw [← x]; exact e.symm)
      exact .inr (by omega))
    exact h3.setCell (p := ⟨H, 0, none⟩) (.inl (.inl rfl)) u
  · exact ((hy.alloc o).grown hg fun e => n2 e.symm).far (by simp) u
theorem own_put {H : Nat} {w wc : World} {tO tE : TypeId} {tZ : TypeId} (hn : H ≤ wc.heap.size) : OwnFrom wc.heap.size (fun (pre : List (UInt8 × Bool)) W => (∃ v, Boxed W H tO v ∧ W.ownsRow H tE 1 v pre.length (cells8 (pre.map markB)) ∧ (v = .slice none 0 0 ↔ pre = [])) ∧ (∃ y, Blk W (H + 1) tZ #[y]) ∧ Below H w W) := by
  rintro s A B row ⟨h1, ⟨y, h2⟩, h3⟩ hg hr
  have hA : H ≤ A.heap.size := by have := h2.lt; omega
  refine ⟨holdsRow_own H H tO tE 1 (fun pre : List (UInt8 × Bool) => pre.length) (fun pre => cells8 (pre.map markB)) (fun pre v => v = .slice none 0 0 ↔ pre = []) s A B row h1 hg (fun r e => (hr r e).2), ⟨y, h2.grown hg fun e => ?_⟩, h3.grown hg hA fun k e => Nat.le_trans hn (hr k e).1⟩
  obtain ⟨_, o, ho, hc⟩ := hr (H + 1) e.symm
  have h2' : A.heap[H + 1]? = _ := h2
  rw [ho] at h2'
  injection h2' with h2'
  subst h2'
  cases hc
set_option maxRecDepth 100000 in
set_option maxHeartbeats 4000000 in
theorem putInt_any (n : Nat) (w : World) (hn : n ≤ 4611686018427387903) :
    Calls Tryz.prog 96 #[.int .i64 (n : Int)] w fun e w' => e = .returned (.tuple #[.string ⟨(putI n).toArray⟩, .int .i64 0]) ∧ Below w.heap.size w w' := by
  obtain ⟨i0, hi, hz0, hz1, hz2⟩ := info_parts infoB8
  have HI := Lib.hid (And.intro hi (And.intro hz0 (And.intro hz1 hz2)))
  clear hi hz0 hz1 hz2
  obtain ⟨z, hz⟩ : ∃ z, z = 2 * n := ⟨_, rfl⟩
  have e3 : (n : Int) / 9223372036854775808 = 0 := by omega
  have e4 : Go.bits .xor .u64 ((n : Int) * 2) 0 = (z : Int) := by
    have q : (n : Int) * 2 = (z : Int) := by omega
    have q2 := u64_xor_nat z 0 (by omega) (by omega)
    rw [Nat.xor_zero] at q2
    rw [q]
    exact q2
  have d1 : decide ((n : Int) < -4611686018427387903) = false := decide_eq_false (by omega)
  have d2 : decide ((4611686018427387903 : Int) < (n : Int)) = false := decide_eq_false (by omega)
  have hzz : z < 18446744073709551616 := by omega
  have HZ : Hid (putI n = putG 10 z) := by
    show _ = _
    unfold putI zig
    rw [if_neg (by omega), hz, show ((n : Int)).toNat = n by omega]
  clear hz
  refine (callsIn_wide (n := 4)).1 ?_
  refine callsIn_of_wp_marks Tryz.func96 rfl trivial ?_ rfl
  simp only [Tryz.ntmps96, List.size_toArray, List.length_cons, List.length_nil, Nat.reduceAdd, Nat.reduceSub, Array.replicate_succ, Array.replicate_zero, List.push_toArray, List.append_toArray, List.nil_append, List.cons_append]
  gi_wp2_with (refine ⟨trivial, ?_⟩; gi_at_call 112; refine (groups_in Fence.wide _ trivial rfl _ _).mono ?_; rintro e w' ⟨rfl, rfl⟩)
  obtain ⟨wc, hwc⟩ : ∃ wc, wc = (w.alloc (.cells #[.slice none 0 0] 39)).alloc (.cells #[.int .u64 (z : Int)] 141) := ⟨_, rfl⟩
  have hsz : wc.heap.size = w.heap.size + 2 := by rw [hwc]; simp
  have bO : Boxed wc w.heap.size 39 (.slice none 0 0) := by rw [hwc]; exact (Boxed.new w _ _).alloc _
  have bZ : Blk wc (w.heap.size + 1) 141 #[.int .u64 (z : Int)] := by
    rw [hwc]
    have h := Blk.new (w.alloc (.cells #[.slice none 0 0] 39)) 141 #[.int .u64 (z : Int)]
    rw [World.size_alloc] at h
    exact h
  have hbc : Below w.heap.size w wc := by rw [hwc]; exact ((Below.refl _ w).alloc (Nat.le_refl _) _).alloc (by simp) _
  have ST := Lib.hid (groups_stops Fence.wide 3 trivial rfl (by omega) (w.heap.size + 1) z (by omega) hzz (fun k => k = w.heap.size ∨ w.heap.size + 2 ≤ k) (by omega) wc bZ)
  have HSZ := Lib.hid hsz
  rw [← hwc]
  have hwH := Lib.hid hbc
  clear hwc hbc hsz
  refine wpIn_rangeFunc_state rfl (by omega) (gf := 132) (lb := #[.pointer (some ⟨w.heap.size + 1, 0, none⟩)]) rfl trivial (enters_of Tryz.func132 (by kernel_rfl) rfl)
    ST.out (fun h k => h.trans' k) (only_put_ (by rw [HSZ.out]; exact Nat.le_refl _)) cl_keeps (Below.refl _ _) (fun _ => rfl)
    (fun pre W => (∃ v, Boxed W w.heap.size 39 v ∧ W.ownsRow w.heap.size 5 1 v pre.length (cells8 (pre.map markB)) ∧ (v = .slice none 0 0 ↔ pre = [])) ∧ (∃ y, Blk W (w.heap.size + 1) 141 #[y]) ∧ Below w.heap.size w W)
    (own_put (by rw [HSZ.out]; omega)) ?hIc ⟨⟨_, bO, World.ownsRow_nil _ _ _ _, by simp⟩, ⟨_, bZ⟩, hwH.out⟩
    (fun x => { tmps := #[.int .i64 n, undef, .string ⟨#[]⟩, .int .i64 0, .pointer (some ⟨w.heap.size, 0, none⟩), .int .u8 (x.1.toNat : Int), .bool x.2, .int .i64 n, .bool false, .bool false, .int .i64 n, .bool false, .bool false,
      .int .i64 n, .int .u64 n, .int .u64 ((n : Int) * 2), .int .i64 n, .int .i64 0, .int .u64 0, .int .u64 z, .func (.func 132) #[] #[.pointer (some ⟨w.heap.size + 1, 0, none⟩)], .int .u8 (x.1.toNat : Int), .bool x.2,
      undef, undef, undef, undef, undef, undef, undef, undef, undef, undef], defers := [] }) ?assign ?body ?done
  case hIc =>
    rintro s A B ⟨⟨v, hv, hr, hn⟩, ⟨y, hy⟩, hB⟩ ⟨u, rfl⟩
    refine ⟨⟨v, ?_, ownsRow_only hr ((Only.refl (fun k => k = w.heap.size + 1) A).setCell (p := ⟨w.heap.size + 1, 0, none⟩) (.inl rfl) u) (fun k hk e => own_blk_ne hr hy (by decide) (e ▸ hk)), hn⟩, ⟨u, by simpa using hy.set_ 0 u⟩, hB.setCell (p := ⟨w.heap.size + 1, 0, none⟩) (by simp) u⟩
    exact (Below.heap_setCell A ⟨w.heap.size + 1, 0, none⟩ u w.heap.size (by simp)).trans hv
  case assign =>
    intro l x W K hK
    gi_wp2
    exact hK
  case body =>
    rintro l pre ⟨c, last⟩ W ⟨⟨v, hv, hrow, hnil⟩, ⟨y, hy⟩, hB⟩ hlt
    have hc := hv.cell
    have hlw : w.heap.size + 1 < W.heap.size := hy.lt
    have HY := Lib.hid hy
    have hfr := hv.frozen
    have hl10 : pre.length < 10 := hlt
    have uo := u8_or128 c
    cases last
    · gi_wp2_with (gi_at_builtin; refine wpListIn_append_own _ rfl _ _ 39 rfl w.heap.size 5 i0 (.int .u8 0) 1 1 Tryz.underlying39 HI.out.1 HI.out.2.1 HI.out.2.2.1 HI.out.2.2.2 rfl (by decide) _ _ _ rfl (hrow.alloc _) ⟨W.heap.size, 0, none⟩ 1 1 [.int .u8 ((c ||| 128).toNat : Int)] rfl rfl (cell_one_new _ _ _) (by simp [Value.oneCell']) (by unfold maxLen; omega) (by omega) (by simp; omega) ?_; intro v' w1 hown' hgrow _; obtain ⟨g', cap', rfl⟩ := ownsRow_succ hown'; have PK := Lib.hid (put_only hv hrow HY.out (by decide) (by decide) hgrow (.slice (some ⟨g', 0, none⟩) (pre.length + 1) cap')); obtain ⟨hv1, hv2, hr2, hk2, hb2⟩ := hv.appended (by decide) hrow (by omega) (Nat.le_refl _) hown' hgrow; have hc1 := hv1.cell; have hf1 := hv1.frozen)
      exact ⟨hk2.from _, PK.out.1, ⟨_, hv2, by simpa [cells8, b8, markB] using hr2, by simp⟩, ⟨_, PK.out.2⟩, hB.trans hb2⟩
    · gi_wp2_with (gi_at_builtin; refine wpListIn_append_own _ rfl _ _ 39 rfl w.heap.size 5 i0 (.int .u8 0) 1 1 Tryz.underlying39 HI.out.1 HI.out.2.1 HI.out.2.2.1 HI.out.2.2.2 rfl (by decide) _ _ _ rfl (hrow.alloc _) ⟨W.heap.size, 0, none⟩ 1 1 [.int .u8 (c.toNat : Int)] rfl rfl (cell_one_new _ _ _) (by simp [Value.oneCell']) (by unfold maxLen; omega) (by omega) (by simp; omega) ?_; intro v' w1 hown' hgrow _; obtain ⟨g', cap', rfl⟩ := ownsRow_succ hown'; have PK := Lib.hid (put_only hv hrow HY.out (by decide) (by decide) hgrow (.slice (some ⟨g', 0, none⟩) (pre.length + 1) cap')); obtain ⟨hv1, hv2, hr2, hk2, hb2⟩ := hv.appended (by decide) hrow (by omega) (Nat.le_refl _) hown' hgrow; have hc1 := hv1.cell; have hf1 := hv1.frozen)
      exact ⟨hk2.from _, PK.out.1, ⟨_, hv2, by simpa [cells8, b8, markB] using hr2, by simp⟩, ⟨_, PK.out.2⟩, hB.trans hb2⟩
  case done =>
    rintro D xs W hD rfl ⟨⟨v, hv, hrow, hnil⟩, _, hB⟩ hDD
    rw [grp_put, ← HZ.out] at hrow
    have hc := hv.cell
    have hlen : (grpL 10 z).length = (putI n).length := by rw [HZ.out, ← grp_put]; simp
    rw [hlen] at hrow
    have hpos := (putI_length n).1
    have hrs : (convert 39 9 v).run Tryz.prog W = .ok (.string ⟨(putI n).toArray⟩) W := by
      rcases hrow.2 with ⟨_, h1⟩ | ⟨g, cap, cur, rfl, hb, hh, h1, h2, h3, h4⟩
      · omega
      · have := run_convert_bytes_back (P := Tryz.prog) W 39 9 5 ⟨g, 0, none⟩ cap (putI n) Tryz.underlying39 Tryz.underlying5 Tryz.underlying9 (fun j hj => by
          have := hrow.cells rfl j _ (cells8_get (putI n) j hj)
          exact this)
        exact this
    clear hnil
    gi_wp2
    refine ⟨by simp, .inl ⟨_, _, rfl, run_takeDeferred hDD, ?_⟩⟩
    exact ⟨_, results_tmp2 rfl _ _ _, rfl, hB.trans (belowK_b (w := w) (Nat.le_refl _) W D _ _ (by have := HSZ.out; omega) hDD rfl rfl)⟩

set_option maxHeartbeats 1000000 in
theorem putString_any (s : ByteArray) (w : World) (hs : s.size ≤ 65536) :
    Calls Tryz.prog 71 #[.string s] w fun e w' => e = .returned (.tuple #[.string (putS s), .int .i64 0]) ∧ Below w.heap.size w w' := by
  have hp := putI_small s.size hs
  obtain ⟨p, hpp⟩ : ∃ p : ByteArray, p = ⟨(putI s.size).toArray⟩ := ⟨_, rfl⟩
  have hps : p.size ≤ 3 := by rw [hpp]; show (putI s.size).toArray.size ≤ 3; rw [List.size_toArray]; exact hp
  have E : Hid (p ++ s = putS s) := by show _ = _; rw [hpp]; rfl
  have hcat : p.size + s.size ≤ 9223372036854775807 := by omega
  have HP := Lib.hid hpp
  clear hpp hp
  go_enter Tryz.func71, Tryz.ntmps71
  go_wp2_with (go_at_call 96; refine (putInt_any s.size _ (by omega)).mono ?_; rw [← HP.out]; rintro e w1 ⟨rfl, b1⟩; have B1 := Lib.hid b1; clear b1)
  go_ret2
  rw [E.out]
  exact ⟨rfl, B1.out⟩
end Go.Proofs.YtjlgkjhociaeiaaGreatDoor
