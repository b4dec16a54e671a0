/-
  Joined by program out of: Sha3, Sha4.
-/
import Derived.Test.YtjlgkjhociaeiaaGreatDoorGb
namespace Go.Proofs.YtjlgkjhociaeiaaGreatDoor
open Go.RowKit
set_option linter.unusedVariables false

theorem U_not (x : UInt32) : Go.bits .xor .u32 IntKind.u32.max (U x) = U (~~~x) := by
  have e : IntKind.u32.max = U (~~~0) := by decide
  rw [e, U_xor]
  congr 1
theorem t_eq (h m e f g k w : UInt32) : IntKind.u32.wrap (IntKind.u32.wrap (IntKind.u32.wrap (IntKind.u32.wrap (U h + U m) + Go.bits .xor .u32 (Go.bits .and .u32 (U e) (U f)) (Go.bits .and .u32 (Go.bits .xor .u32 IntKind.u32.max (U e)) (U g))) + U k) + U w) = U (h + m + (e &&& f ^^^ ~~~e &&& g) + k + w) := by
  rw [U_not, U_and, U_and, U_xor, U_add, U_add, U_add, U_add]
theorem u_eq (m a b c : UInt32) : IntKind.u32.wrap (U m + Go.bits .xor .u32 (Go.bits .xor .u32 (Go.bits .and .u32 (U a) (U b)) (Go.bits .and .u32 (U a) (U c))) (Go.bits .and .u32 (U b) (U c))) = U (m + (a &&& b ^^^ a &&& c ^^^ b &&& c)) := by
  rw [U_and, U_and, U_and, U_xor, U_xor, U_add]
/-- The table of digest's constants. -/
def Tab (w : World) : Prop := ∃ t fr, w.heap[3]? = some (.cells (ucells Sha.K).toArray t fr)
theorem Tab.lt {w : World} (h : Tab w) : 3 < w.heap.size := by
  obtain ⟨t, fr, h⟩ := h
  exact (Array.getElem?_eq_some_iff.1 h).1
theorem Tab.below {w w' : World} {B : Nat} (h : Tab w) (hb : Below B w w') (hB : 3 < B) : Tab w' := by
  obtain ⟨t, fr, h⟩ := h
  exact ⟨t, fr, (hb.block _ hB).trans h⟩
theorem run_index_row {P : Program} {t e : TypeId} {n : Nat} (cs : Array Value) (k : Nat) (v : Value) (h : P.underlying t = some (.array n e)) (he : (P.underlying e).map (fun d => match d with | .struct _ | .array _ _ => true | _ => false) = some false) (hi : (P.info? e).map (·.size) = some 1)
    (hk : k < n) (hv : cs[k]? = some v) (w : World) : (Instr.index t (.agg cs) (.int .i64 (k : Int))).run P w = .ok v w := by
  obtain ⟨d, hd, hdd⟩ := Option.map_eq_some_iff.1 he
  obtain ⟨i, hii, his⟩ := Option.map_eq_some_iff.1 hi
  have hagg : (isAgg e).run P w = .ok false w := by
    unfold isAgg
    rw [Sem.run_bind, run_underlying hd w]
    cases d <;> simp_all
  have hn : ((k : Int) < n) := by omega
  simp [Instr.index, run_underlying h, asIntOf, hn, go_sem, part, Sem.run_bind, hagg, sizeOf, typeInfo, hii, his, hv]
  intro hc
  omega
theorem K_length : Sha.K.length = 64 := rfl
theorem list_get (v : Sha.V) (i : Nat) (h : i < 8) : (ucells v.list)[i]? = some (.int .u32 (U (v.list[i]?.getD 0))) := ucells_get _ _ h

theorem shift_src (a b c d e f g h : UInt32) : ∀ j (hj : j < (ucells [a, b, c, d, e, f, g]).length), (ucells [a, b, c, d, e, f, g, h])[0 + j]? = some (ucells [a, b, c, d, e, f, g])[j] := fun j hj => by
  show (ucells [a, b, c, d, e, f, g] ++ [uc h])[0 + j]? = _
  rw [Nat.zero_add, List.getElem?_append_left hj]
  exact List.getElem?_eq_getElem hj
theorem infoU : (Tryz.prog.info? 109).map (·.size) = some 1 := by kernel_rfl
theorem U_add' (x y : UInt32) : (U x + U y) % 4294967296 = U (x + y) := by
  rw [← U_add, IntKind.wrap_u32']
theorem rounds_take (v : Sha.V) (s : List UInt32) (k : Nat) (hk : k < 64) (hs : s.length = 64) : Sha.rounds v ((Sha.K.zip s).take (k + 1)) = Sha.V.step (Sha.rounds v ((Sha.K.zip s).take k)) (Sha.K[k]?.getD 0, s[k]?.getD 0) := by
  have hl : k < (Sha.K.zip s).length := by simp [hs, K_length]; omega
  have h1 : k < Sha.K.length := by rw [K_length]; exact hk
  unfold Sha.rounds
  rw [List.take_succ_eq_append_getElem hl, List.foldl_append]
  simp [h1, hs, hk]
def mid (v x : Sha.V) (n : Nat) : List UInt32 := (v.plus x).list.take n ++ v.list.drop n
theorem mid_get (v x : Sha.V) (n : Nat) (h : n < 8) : (mid v x n)[n]?.getD 0 = v.list[n]?.getD 0 := by
  match n, h with
  | 0, _ => rfl
  | 1, _ => rfl
  | 2, _ => rfl
  | 3, _ => rfl
  | 4, _ => rfl
  | 5, _ => rfl
  | 6, _ => rfl
  | 7, _ => rfl
theorem mid_length (v x : Sha.V) (n : Nat) (h : n ≤ 8) : (mid v x n).length = 8 := by
  have h1 : (v.plus x).list.length = 8 := rfl
  have h2 : v.list.length = 8 := rfl
  simp [mid, h1, h2]
  omega
theorem mid_set (v x : Sha.V) (n : Nat) (h : n < 8) : (mid v x n).set n (v.list[n]?.getD 0 + x.list[n]?.getD 0) = mid v x (n + 1) := by
  match n, h with
  | 0, _ => rfl
  | 1, _ => rfl
  | 2, _ => rfl
  | 3, _ => rfl
  | 4, _ => rfl
  | 5, _ => rfl
  | 6, _ => rfl
  | 7, _ => rfl
theorem grew {B : Nat} {w w1 w2 : World} {o : Obj} (hb : Below B w w1) (hB : B ≤ w1.heap.size) (o2 : Only (fun k => k = w1.heap.size) (w1.alloc o) w2) : Below B w w2 :=
  (hb.alloc hB o).trans (o2.below (by simp; omega) (fun k e => by omega))
theorem grew_lt {w1 w2 : World} {o : Obj} {S : Nat → Prop} (o2 : Only S (w1.alloc o) w2) : w1.heap.size < w2.heap.size := by
  have := o2.size
  simp at this
  omega
theorem info64 : (Tryz.prog.info? 214).map (·.size) = some 64 := by kernel_rfl
theorem infoWords : (Tryz.prog.info? 193).map (·.size) = some 8 := by kernel_rfl
set_option maxRecDepth 100000 in
set_option maxHeartbeats 4000000 in
theorem add_any (gh g o cap : Nat) (t : TypeId) (v : Sha.V) (bs : List UInt8) (w : World) (hl : bs.length = 64) (hg : g < w.heap.size) (hb : Bys w g o bs) (hh : Blk w gh t (ucells v.list).toArray) (ht : Tab w) :
    Calls Tryz.prog 129 #[.pointer (some ⟨gh, 0, none⟩), .slice (some ⟨g, o, none⟩) 64 cap] w fun e w' => e = .returned (.tuple #[]) ∧ Blk w' gh t (ucells (Sha.block v bs).list).toArray ∧ Only (fun k => k = gh) w w' := by
  have HH := Lib.hid hh
  have HT := Lib.hid ht
  have HS := Lib.hid (schedule_any g o cap bs w hl hg hb)
  have hlt := hh.lt
  clear hh ht hl hb
  go_enter Tryz.func129, Tryz.ntmps129
  go_wp2_with fail
  refine HS.out.mono ?_
  rintro e w1 ⟨rfl, b1⟩
  have B1 := Lib.hid b1
  have H1 := Lib.hid (HH.out.below b1 hlt)
  have T1 := Lib.hid (HT.out.below b1 HT.out.lt)
  clear b1
  have L1 := Lib.hid B1.out.size
  have HKK := Lib.hid K_length
  go_wp2_with (first | (refine wpList_store_whole rfl 214 _ _ rfl w1.heap.size 214 _ (Blk.new _ _ _) (ucells (Sha.sched bs)) rfl rfl ?_ ?_ (ucells_one _) ?_; (rw [ucells_length, Sha.sched_length]; rfl); (rw [ucells_length, Sha.sched_length]; exact info64); intro w2 k2 o2; have K2 := Lib.hid k2; have B2 := Lib.hid (grew B1.out L1.out o2); have H2 := Lib.hid ((H1.out.alloc _).only o2 (by have := L1.out; omega)); have L2 := Lib.hid (grew_lt o2); clear k2 o2) | (refine wpList_load_whole rfl 193 _ rfl gh t _ H2.out rfl _ Tryz.underlying193 rfl ?_ ?_; (rw [ucells_length]; exact infoWords)) | (refine wpList_store_whole rfl 193 _ _ rfl w2.heap.size 193 _ (Blk.new _ _ _) (ucells v.list) rfl rfl ?_ ?_ (ucells_one _) ?_; (rw [ucells_length]; rfl); (rw [ucells_length]; exact infoWords); intro w3 k3 o3; have K3 := Lib.hid k3; have B3 := Lib.hid (grew B2.out B2.out.size o3); have KW := Lib.hid ((K2.out.alloc _).only o3 (by have := L2.out; omega)); have H3 := Lib.hid ((H2.out.alloc _).only o3 (by have := B2.out.size; omega)); have L3 := Lib.hid (grew_lt o3); obtain ⟨tt, tf, T3⟩ := HT.out.below B3.out HT.out.lt; have T3 := Lib.hid T3; clear k3 o3) | (refine wpList_load_row rfl 214 _ rfl 3 rfl tt _ tf _ T3.out Tryz.underlying214 rfl info64 ?_))
  have hAB := Lib.hid (Blk.ne_ KW.out K3.out (by decide))
  have hgA : gh < w1.heap.size := by have := L1.out; omega
  have hwB : w.heap.size ≤ w2.heap.size := B2.out.size
  have hgB : gh < w2.heap.size := by have := B2.out.size; omega
  generalize w1.heap.size = A at *
  generalize w2.heap.size = Bv at *
  go_loopw [19] (fun i wr => ∃ (k : Nat) (x : Sha.V), k ≤ 64 ∧ i = .int .i64 k ∧ x = Sha.rounds v ((Sha.K.zip (Sha.sched bs)).take k) ∧ Blk wr Bv 193 (ucells x.list).toArray ∧ Only (fun b => b = Bv) w3 wr) (fun i _ => 64 - (intOf i).toNat)
  case atStart => exact ⟨0, v, Nat.zero_le _, rfl, rfl, K3.out, Only.refl _ _⟩
  case round =>
    obtain ⟨k, x, hk, rfl, hx, hbk, ho⟩ := hrel
    have hBv : Bv < wr.heap.size := hbk.lt
    by_cases hlt : k < 64
    · have hwk : wr.cell? ⟨A, k, none⟩ = some (.int .u32 (U ((Sha.sched bs)[k]?.getD 0))) := (ho.cell (p := ⟨A, k, none⟩) KW.out.lt hAB.out).trans ((KW.out.cell k).trans (by rw [List.getElem?_toArray]; exact ucells_get _ _ (by rw [Sha.sched_length]; exact hlt)))
      have hA : A < wr.heap.size := Nat.lt_of_lt_of_le KW.out.lt ho.size
      have hix := run_index_row (P := Tryz.prog) (t := 214) (e := 109) (n := 64) (ucells Sha.K).toArray k (.int .u32 (U (Sha.K[k]?.getD 0))) Tryz.underlying214 (by kernel_rfl) (by kernel_rfl) hlt (by rw [List.getElem?_toArray]; exact ucells_get _ _ hlt)
      have HX := Lib.hid hx
      have HB := Lib.hid hbk
      have HO := Lib.hid ho
      obtain ⟨kk, hkk⟩ : ∃ kk, kk = Sha.K[k]?.getD 0 := ⟨_, rfl⟩
      obtain ⟨ww, hww⟩ : ∃ ww, ww = (Sha.sched bs)[k]?.getD 0 := ⟨_, rfl⟩
      rw [← hkk] at hix
      rw [← hww] at hwk
      have HK1 := Lib.hid hkk
      have HW1 := Lib.hid hww
      obtain ⟨a, b, c, d, e, f, gg, z8⟩ := x
      have c0 : wr.cell? ⟨Bv, 0, none⟩ = some (.int .u32 (U a)) := hbk.cell 0
      have c1 : wr.cell? ⟨Bv, 1, none⟩ = some (.int .u32 (U b)) := hbk.cell 1
      have c2 : wr.cell? ⟨Bv, 2, none⟩ = some (.int .u32 (U c)) := hbk.cell 2
      have c4 : wr.cell? ⟨Bv, 4, none⟩ = some (.int .u32 (U e)) := hbk.cell 4
      have c5 : wr.cell? ⟨Bv, 5, none⟩ = some (.int .u32 (U f)) := hbk.cell 5
      have c6 : wr.cell? ⟨Bv, 6, none⟩ = some (.int .u32 (U gg)) := hbk.cell 6
      have c7 : wr.cell? ⟨Bv, 7, none⟩ = some (.int .u32 (U z8)) := hbk.cell 7
      have q0 : (0 : Int) ≤ (k : Int) := by omega
      have q1 : (k : Int) < 64 := by omega
      have Q5 : Hid (∀ o1 o2, Blk (((wr.alloc o1).alloc o2).drew.drew.drew.drew) Bv 193 (ucells [a, b, c, d, e, f, gg, z8]).toArray ∧ Only (fun b => b = Bv) w3 (((wr.alloc o1).alloc o2).drew.drew.drew.drew)) := fun o1 o2 => ⟨(((((hbk.alloc o1).alloc o2).drew).drew).drew).drew, (((((ho.alloc o1).alloc o2).drew).drew).drew).drew⟩
      clear hx hbk ho hkk hww
      go_wp2
      go_region_held3 (fun w' => w'.cell? ⟨Bv, 0, none⟩ = some (.int .u32 (U a)) ∧ w'.cell? ⟨Bv, 4, none⟩ = some (.int .u32 (U e))) (go_keep) (fail)
      all_goals go_wp2
      go_region_held3 (fun w' => w'.cell? ⟨Bv, 5, none⟩ = some (.int .u32 (U f)) ∧ w'.cell? ⟨Bv, 6, none⟩ = some (.int .u32 (U gg)) ∧ w'.cell? ⟨Bv, 7, none⟩ = some (.int .u32 (U z8)) ∧ w'.cell? ⟨A, k, none⟩ = some (.int .u32 (U ww))) (go_keep) (first | (go_at_call 145; (with_reducible refine (mixed_6_11_25 e _ _ _ ?_ ?_ ?_).mono ?_); (go_simp); (go_simp); (go_simp); rintro e' w' ⟨rfl, rfl⟩))
      all_goals go_wp2
      rw [t_eq]
      go_region_held3 (fun w' => w'.cell? ⟨Bv, 1, none⟩ = some (.int .u32 (U b)) ∧ w'.cell? ⟨Bv, 2, none⟩ = some (.int .u32 (U c))) (go_keep) (first | (go_at_call 145; (with_reducible refine (mixed_2_13_22 a _ _ _ ?_ ?_ ?_).mono ?_); (go_simp); (go_simp); (go_simp); rintro e' w' ⟨rfl, rfl⟩))
      all_goals go_wp2
      rw [u_eq]
      obtain ⟨W, hW⟩ : ∃ W, W = ((wr.alloc (.cells #[.int .i64 6, .int .i64 11, .int .i64 25] 3)).alloc (.cells #[.int .i64 2, .int .i64 13, .int .i64 22] 3)).drew.drew.drew := ⟨_, rfl⟩
      have Q6 : Hid (Blk W.drew Bv 193 (ucells [a, b, c, d, e, f, gg, z8]).toArray ∧ Only (fun b => b = Bv) w3 W.drew) := by rw [hW]; exact Q5.out _ _
      rw [← hW]
      clear hW Q5
      go_still_tail 2, (by kernel_rfl)
      change wpList _ _ _ _ _ W.drew
      go_wp2_with (refine wpList_copy_in rfl _ _ 110 110 rfl 109 Tryz.underlying110 infoU Bv 1 7 7 0 7 8 rfl rfl (ucells [a, b, c, d, e, f, gg, z8]) 193 Q6.out.1 (ucells [a, b, c, d, e, f, gg]) rfl (shift_src a b c d e f gg z8) (Nat.le_refl 8) (ucells_one _) ?_; intro w6 k6 o6; have K6 := Lib.hid (show Blk w6 Bv 193 (ucells [a, a, b, c, d, e, f, gg]).toArray from k6); have O6 := Lib.hid (Q6.out.2.trans' o6); have y4 : w6.cell? ⟨Bv, 4, none⟩ = some (.int .u32 (U d)) := k6.cell 4; have y0 : w6.cell? ⟨Bv, 0, none⟩ = some (.int .u32 (U a)) := k6.cell 0; have f0 := k6.frozen 0; have f4 := k6.frozen 4; clear k6 o6 c0 c1 c2 c4 c5 c6 c7 hwk)
      go_wp2
      rw [U_add', U_add']
      have K7 := (K6.out.set_ 0 (.int .u32 (U (z8 + Sha.mix e [6, 11, 25] + (e &&& f ^^^ ~~~e &&& gg) + kk + ww + (Sha.mix a [2, 13, 22] + (a &&& b ^^^ a &&& c ^^^ b &&& c)))))).set_ 4 (.int .u32 (U (d + (z8 + Sha.mix e [6, 11, 25] + (e &&& f ^^^ ~~~e &&& gg) + kk + ww))))
      rw [ucells_set, ucells_set] at K7
      go_roundw
      case rel => exact ⟨k + 1, Sha.V.step ⟨a, b, c, d, e, f, gg, z8⟩ (kk, ww), hlt, by go_num, by rw [HX.out, HK1.out, HW1.out]; exact (rounds_take v _ k hlt (Sha.sched_length bs)).symm, K7, (O6.out.setCell (p := ⟨Bv, 0, none⟩) (.inl rfl) _).setCell (p := ⟨Bv, 4, none⟩) (.inl rfl) _⟩
      case measure => simp [intOf]; omega
    · have hx64 : x = Sha.rounds v (Sha.K.zip (Sha.sched bs)) := by
        rw [hx, List.take_of_length_le (by simp [Sha.sched_length, HKK.out]; omega)]
      have HX := Lib.hid hx64
      have HB := Lib.hid hbk
      have HG := Lib.hid (H3.out.only ho (by omega))
      have HO := Lib.hid ho
      clear hx hx64 hbk ho
      obtain ⟨wo, rfl⟩ : ∃ wo : World, wo = wr := ⟨_, rfl⟩
      go_wp2
      go_loopw [82] (fun i wz => ∃ (n : Nat), n ≤ 8 ∧ i = .int .i64 n ∧ Blk wz gh t (ucells (mid v x n)).toArray ∧ Only (fun b => b = gh) wo wz) (fun i _ => 8 - (intOf i).toNat)
      case atStart => exact ⟨0, Nat.zero_le _, rfl, HG.out, Only.refl _ _⟩
      case round =>
        obtain ⟨n, hn, rfl, hbk, ho⟩ := hrel
        by_cases hln : n < 8
        · have y1 : wr.cell? ⟨gh, n, none⟩ = some (.int .u32 (U (v.list[n]?.getD 0))) := by
            rw [hbk.cell n, List.getElem?_toArray, ucells_get _ _ (by rw [mid_length v x n hn]; exact hln), mid_get v x n hln]
          have y2 : wr.cell? ⟨Bv, n, none⟩ = some (.int .u32 (U (x.list[n]?.getD 0))) := (ho.cell (p := ⟨Bv, n, none⟩) hBv (show ¬ Bv = gh by omega)).trans ((HB.out.cell n).trans (by rw [List.getElem?_toArray]; exact ucells_get _ _ hln))
          have f1 := hbk.frozen n
          have q0 : (0 : Int) ≤ (n : Int) := by omega
          have q1 : (n : Int) < 8 := by omega
          have HK := Lib.hid hbk
          have HO2 := Lib.hid ho
          have E := Lib.hid (mid_set v x n hln)
          generalize v.list[n]?.getD 0 = a at *
          generalize x.list[n]?.getD 0 = b at *
          clear hbk ho
          go_wp2
          go_still_tail 11, (by kernel_rfl)
          go_wp2
          rw [U_add']
          have K7 := HK.out.set_ n (.int .u32 (U (a + b)))
          rw [ucells_set, E.out] at K7
          go_roundw
          case rel => exact ⟨n + 1, hln, by go_num, K7, (HO2.out.setCell (p := ⟨gh, n, none⟩) (.inl rfl) _).drew⟩
          case measure => simp [intOf]; omega
        · obtain rfl : n = 8 := by omega
          have HK := Lib.hid hbk
          have HO2 := Lib.hid ho
          clear hbk ho
          go_wp2
          go_end0
          have e8 : mid v x 8 = (v.plus x).list := rfl
          refine ⟨rfl, ?_, ?_⟩
          · have := HK.out
            rw [e8, HX.out] at this
            exact this
          · have h1 : Only (fun b => b = Bv ∨ b = gh) w3 wr := (HO.out.mono fun _ _ e => .inl e).trans' (HO2.out.mono fun _ _ e => .inr e)
            exact (Only.of_below B3.out (fun k => k = gh)).trans h1 fun i hi e => e.elim (fun e => by omega) id
end Go.Proofs.YtjlgkjhociaeiaaGreatDoor
namespace Go.Proofs.YtjlgkjhociaeiaaGreatDoor
open Go.RowKit
set_option linter.unusedVariables false

def part8 (l : List UInt8) (n m : Nat) : List UInt8 := l.take m ++ List.replicate (n - m) 0
theorem part8_zero (l : List UInt8) (n : Nat) : part8 l n 0 = List.replicate n 0 := by simp [part8]
theorem part8_full (l : List UInt8) (n : Nat) (h : l.length = n) : part8 l n n = l := by simp [part8, ← h]
theorem part8_length (l : List UInt8) (n m : Nat) (h : m ≤ n) (hl : l.length = n) : (part8 l n m).length = n := by simp [part8]; omega
theorem part8_set (l : List UInt8) (n m : Nat) (h : m < n) (hl : l.length = n) : (part8 l n m).set m (l[m]?.getD 0) = part8 l n (m + 1) := by
  have e : (l.take m).length = m := by simp; omega
  have hm : m < l.length := by omega
  unfold part8
  rw [List.set_append_right _ _ (by omega), e, Nat.sub_self, List.take_succ_eq_append_getElem hm, List.append_assoc]
  congr 1
  obtain ⟨q, hq⟩ : ∃ q, n - m = q + 1 := ⟨n - m - 1, by omega⟩
  have hq2 : n - (m + 1) = q := by omega
  rw [hq, hq2, List.replicate_succ, List.set_cons_zero]
  simp [hm]
theorem out_get (v : Sha.V) (i : Nat) (hi : i < 8) (k : Nat) (hk : k < 4) : (Sha.out v)[4 * i + k]?.getD 0 = ((v.list[i]?.getD 0) >>> UInt32.ofNat (24 - 8 * k)).toUInt8 := by
  match i, hi, k, hk with
  | 0, _, 0, _ => rfl
  | 0, _, 1, _ => rfl
  | 0, _, 2, _ => rfl
  | 0, _, 3, _ => rfl
  | 1, _, 0, _ => rfl
  | 1, _, 1, _ => rfl
  | 1, _, 2, _ => rfl
  | 1, _, 3, _ => rfl
  | 2, _, 0, _ => rfl
  | 2, _, 1, _ => rfl
  | 2, _, 2, _ => rfl
  | 2, _, 3, _ => rfl
  | 3, _, 0, _ => rfl
  | 3, _, 1, _ => rfl
  | 3, _, 2, _ => rfl
  | 3, _, 3, _ => rfl
  | 4, _, 0, _ => rfl
  | 4, _, 1, _ => rfl
  | 4, _, 2, _ => rfl
  | 4, _, 3, _ => rfl
  | 5, _, 0, _ => rfl
  | 5, _, 1, _ => rfl
  | 5, _, 2, _ => rfl
  | 5, _, 3, _ => rfl
  | 6, _, 0, _ => rfl
  | 6, _, 1, _ => rfl
  | 6, _, 2, _ => rfl
  | 6, _, 3, _ => rfl
  | 7, _, 0, _ => rfl
  | 7, _, 1, _ => rfl
  | 7, _, 2, _ => rfl
  | 7, _, 3, _ => rfl
theorem U_toByte (x : UInt32) : IntKind.u8.wrap (U x) = (x.toUInt8.toNat : Int) := by
  unfold U
  rw [IntKind.wrap_u8', UInt32.toNat_toUInt8]
  omega
theorem byte_eq (x : UInt32) (n : Nat) (h : n < 32) : U x / 2 ^ n % 256 = (((x >>> UInt32.ofNat n).toUInt8).toNat : Int) := by
  rw [U_shr x n h, ← U_toByte, IntKind.wrap_u8']
theorem cells8_get' (l : List UInt8) (i : Nat) (h : i < l.length) : (cells8 l).toArray[i]? = some (.int .u8 ((l[i]?.getD 0).toNat : Int)) := by
  rw [List.getElem?_toArray, cells8_get l i h]
  simp [b8, h]
theorem cells8_set' (l : List UInt8) (i : Nat) (c : UInt8) : (cells8 l).toArray.setIfInBounds i (.int .u8 (c.toNat : Int)) = (cells8 (l.set i c)).toArray := by
  apply Array.toList_inj.1
  simp [cells8, b8, List.map_set]
/-- 'string(b)' of a content that lies whole in a block, whatever the block's type. -/
theorem run_string_of {w : World} {g n : Nat} {t : TypeId} {bs : List UInt8} (h : Blk w g t (cells8 bs).toArray) (hl : bs.length = n) :
    (convert 39 9 (.slice (some ⟨g, 0, none⟩) n n)).run Tryz.prog w = .ok (.string ⟨bs.toArray⟩) w := by
  have := run_convert_bytes_back (P := Tryz.prog) w 39 9 5 ⟨g, 0, none⟩ n bs Tryz.underlying39 Tryz.underlying5 Tryz.underlying9 (fun j hj => by
    rw [show (⟨g, 0, none⟩ : Addr).add j = ⟨g, 0 + j, none⟩ from Addr.add_mid g 0 j, Nat.zero_add, h.cell j, List.getElem?_toArray, cells8_get _ _ hj]
    rfl)
  rw [hl] at this
  exact this

theorem zeros32 : (cells8 (List.replicate 32 0)).toArray = #[Value.int .u8 0, Value.int .u8 0, Value.int .u8 0, Value.int .u8 0, Value.int .u8 0, Value.int .u8 0, Value.int .u8 0, Value.int .u8 0, Value.int .u8 0, Value.int .u8 0, Value.int .u8 0, Value.int .u8 0, Value.int .u8 0, Value.int .u8 0, Value.int .u8 0, Value.int .u8 0, Value.int .u8 0, Value.int .u8 0, Value.int .u8 0, Value.int .u8 0, Value.int .u8 0, Value.int .u8 0, Value.int .u8 0, Value.int .u8 0, Value.int .u8 0, Value.int .u8 0, Value.int .u8 0, Value.int .u8 0, Value.int .u8 0, Value.int .u8 0, Value.int .u8 0, Value.int .u8 0] := by kernel_rfl
set_option maxRecDepth 100000 in
set_option maxHeartbeats 4000000 in
theorem digest_any (v : Sha.V) (w : World) :
    Calls Tryz.prog 130 #[.agg (ucells v.list).toArray] w fun e w' => e = .returned (.string ⟨(Sha.out v).toArray⟩) ∧ Below w.heap.size w w' := by
  obtain ⟨L, hL⟩ : ∃ L, L = Sha.out v := ⟨_, rfl⟩
  have hl : L.length = 32 := by rw [hL]; rfl
  have HL := Lib.hid hL
  rw [← hL]
  have get := fun i hi k hk => out_get v i hi k hk
  rw [← hL] at get
  have HG := Lib.hid get
  clear get hL
  obtain ⟨a, b, c, d, e, f, g, z8⟩ := v
  change Calls _ _ #[.agg #[.int .u32 (U a), .int .u32 (U b), .int .u32 (U c), .int .u32 (U d), .int .u32 (U e), .int .u32 (U f), .int .u32 (U g), .int .u32 (U z8)]] _ _
  go_enter Tryz.func130, Tryz.ntmps130
  go_wp2
  obtain ⟨ls, hls⟩ : ∃ ls, ls = [a, b, c, d, e, f, g, z8] := ⟨_, rfl⟩
  have hix : ∀ (k : Nat), k < 8 → ∀ (w : World), (Instr.index 193 (.agg #[.int .u32 (U a), .int .u32 (U b), .int .u32 (U c), .int .u32 (U d), .int .u32 (U e), .int .u32 (U f), .int .u32 (U g), .int .u32 (U z8)]) (.int .i64 (k : Int))).run Tryz.prog w = .ok (.int .u32 (U (ls[k]?.getD 0))) w := fun k hk w =>
    run_index_row (P := Tryz.prog) (t := 193) (e := 109) (n := 8) _ k _ Tryz.underlying193 (by kernel_rfl) (by kernel_rfl) hk (by rw [hls]; show (ucells [a, b, c, d, e, f, g, z8]).toArray[k]? = _; rw [List.getElem?_toArray]; exact list_get ⟨a, b, c, d, e, f, g, z8⟩ k hk) w
  have HIX := Lib.hid hix
  have HLS := Lib.hid hls
  clear hix hls
  go_loopw [8] (fun i wr => ∃ n : Nat, n ≤ 8 ∧ i = .int .i64 n ∧ Blk wr (w.heap.size + 1) 217 (cells8 (part8 L 32 (4 * n))).toArray ∧ Below w.heap.size w wr) (fun i _ => 8 - (intOf i).toNat)
  case atStart => exact ⟨0, Nat.zero_le _, rfl, by rw [Nat.mul_zero, part8_zero, zeros32]; exact (by simpa using Blk.new (w.alloc _) _ _), ((Below.refl _ _).alloc (Nat.le_refl _) _).alloc (by simp) _⟩
  case round =>
    obtain ⟨n, hn, rfl, hbk, hbl⟩ := hrel
    have HK := Lib.hid hbk
    have HW := Lib.hid hbl
    clear hbk hbl
    by_cases hlt : n < 8
    · have hx := HIX.out n hlt
      obtain ⟨x, hxx⟩ : ∃ x, x = ls[n]?.getD 0 := ⟨_, rfl⟩
      rw [← hxx] at hx
      have HX := Lib.hid hxx
      clear hxx
      obtain ⟨wo, rfl⟩ : ∃ wo : World, wo = wr := ⟨_, rfl⟩
      go_wp2
      go_loopw [12] (fun i wz => ∃ m : Nat, m ≤ 4 ∧ i = .int .i64 m ∧ Blk wz (w.heap.size + 1) 217 (cells8 (part8 L 32 (4 * n + m))).toArray ∧ Below w.heap.size w wz) (fun i _ => 4 - (intOf i).toNat)
      case atStart => exact ⟨0, Nat.zero_le _, rfl, HK.out, HW.out⟩
      case round =>
        obtain ⟨m, hm, rfl, hbk, hbl⟩ := hrel
        by_cases hlm : m < 4
        · have hc := HG.out n hlt m hlm
          have hp := part8_set L 32 (4 * n + m) (by omega) hl
          obtain ⟨v0, hv⟩ : ∃ v, wr.cell? ⟨w.heap.size + 1, 4 * n + m, none⟩ = some v := ⟨_, (hbk.cell (4 * n + m)).trans (cells8_get' _ _ (by rw [part8_length L 32 _ (by omega) hl]; omega))⟩
          have hf := hbk.frozen (4 * n + m)
          have s0 : IntKind.i64.wrap (4 * (n : Int)) = 4 * (n : Int) := IntWalk.i64_in _ (by omega)
          have s1 : IntKind.i64.wrap (4 * (n : Int) + (m : Int)) = ((4 * n + m : Nat) : Int) := by rw [IntWalk.i64_in _ (by omega)]; omega
          have hc' : L[4 * n + m]?.getD 0 = (x >>> UInt32.ofNat (24 - 8 * m)).toUInt8 := by rw [hc, HX.out, HLS.out]; rfl
          have E := Lib.hid (byte_eq x (24 - 8 * m) (by omega))
          have K7 := hbk.set_ (4 * n + m) (.int .u8 (((x >>> UInt32.ofNat (24 - 8 * m)).toUInt8).toNat : Int))
          rw [cells8_set', ← hc', hp] at K7
          have HK7 := Lib.hid K7
          have HC := Lib.hid hc'
          have HW7 := Lib.hid hbl
          clear hc hc' hp K7 hbk hbl
          go_wp2
          rw [E.out, ← HC.out]
          go_roundw
          case rel => exact ⟨m + 1, hlm, by go_num, HK7.out, HW7.out.setCell (p := ⟨w.heap.size + 1, 4 * n + m, none⟩) (by simp) _⟩
          case measure => simp [intOf]; omega
        · obtain rfl : m = 4 := by omega
          have HK7 : Hid (Blk wr (w.heap.size + 1) 217 (cells8 (part8 L 32 (4 * (n + 1)))).toArray) := hbk
          have HW7 := Lib.hid hbl
          clear hbk hbl
          go_wp2
          go_roundw
          case rel => exact ⟨n + 1, hlt, by go_num, HK7.out, HW7.out⟩
          case measure => simp [intOf]; omega
    · obtain rfl : n = 8 := by omega
      have hk8 : Blk wr (w.heap.size + 1) 217 (cells8 L).toArray := by
        have := HK.out
        rwa [show 4 * 8 = 32 from rfl, part8_full L 32 hl] at this
      have hrs := run_string_of hk8 hl
      clear hk8
      go_wp2
      go_ret
      exact ⟨rfl, HW.out⟩
end Go.Proofs.YtjlgkjhociaeiaaGreatDoor
