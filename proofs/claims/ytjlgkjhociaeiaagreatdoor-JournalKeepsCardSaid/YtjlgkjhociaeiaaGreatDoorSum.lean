/-
  digest.Sum.
-/
import Derived.Test.YtjlgkjhociaeiaaGreatDoorGd
namespace Go.Proofs.YtjlgkjhociaeiaaGreatDoor
open Go.RowKit Go.Shelf Go.Sort
set_option linter.unusedVariables false

attribute [local go_sem] Oper.semAt_some

theorem offs_cons (k : Nat) : offs (k + 1) = 0 :: (offs k).map (64 + ·) := by
  simp only [offs, List.range_succ_eq_map, List.map_cons, List.map_map, Nat.mul_zero]
  congr 1
  apply List.map_congr_left
  intro a _
  simp only [Function.comp]
  omega
theorem blocks_fold : ∀ (N : Nat) (v : Sha.V) (P : List UInt8), Sha.blocks N v P = (offs N).foldl (fun v o => Sha.block v ((P.drop o).take 64)) v
  | 0, v, P => rfl
  | N + 1, v, P => by
    rw [Sha.blocks, offs_cons, List.foldl_cons, List.foldl_map, blocks_fold N]
    simp only [List.drop_drop, List.drop_zero]
def padZ (l : List UInt8) (k : Nat) : List UInt8 := l ++ [128] ++ List.replicate k 0
theorem padZ_length (l : List UInt8) (k : Nat) : (padZ l k).length = l.length + 1 + k := by simp [padZ]; omega
theorem padZ_succ (l : List UInt8) (k : Nat) : padZ l k ++ [0] = padZ l (k + 1) := by
  simp [padZ, List.replicate_succ', List.append_assoc]
theorem bitLen_length (n : Nat) : (Sha.bitLen n).length = 8 := rfl
theorem bitLen_take (n j : Nat) (h : j < 8) : (Sha.bitLen n).take (j + 1) = (Sha.bitLen n).take j ++ [UInt8.ofNat (8 * n / 2 ^ (8 * (7 - j)))] := by
  match j, h with
  | 0, _ => rfl
  | 1, _ => rfl
  | 2, _ => rfl
  | 3, _ => rfl
  | 4, _ => rfl
  | 5, _ => rfl
  | 6, _ => rfl
  | 7, _ => rfl
theorem u8_ofNat (x : Nat) : IntKind.u8.wrap (x : Int) = ((UInt8.ofNat x).toNat : Int) := by
  rw [IntKind.wrap_u8', UInt8.toNat_ofNat']
  omega
theorem zeros_lt (n : Nat) : Sha.zeros n < 64 := by unfold Sha.zeros; omega
theorem zeros_end (n : Nat) : (n + 1 + Sha.zeros n) % 64 = 56 := by unfold Sha.zeros; omega
theorem zeros_more (n k : Nat) (h : k < Sha.zeros n) : (n + 1 + k) % 64 ≠ 56 := by unfold Sha.zeros at h; omega

/-- What h holds when the chunks of pre are over. -/
def hv {M : Nat} (P : List UInt8) (pre : List (Off M)) : Sha.V := pre.foldl (fun v x => Sha.block v ((P.drop x.1).take 64)) Sha.start
theorem hv_snoc {M : Nat} (P : List UInt8) (pre : List (Off M)) (x : Off M) : hv P (pre ++ [x]) = Sha.block (hv P pre) ((P.drop x.1).take 64) := by simp [hv]
theorem hv_all {M N : Nat} (P : List UInt8) (pre : List (Off M)) (h : pre.map (·.1) = offs N) : hv P pre = Sha.blocks N Sha.start P := by
  rw [blocks_fold, ← h, List.foldl_map]
  rfl
theorem only_putObj {n₀ Bh : Nat} {w : World} (hn : n₀ ≤ w.heap.size) (W : World) (l : Nat) (o o' : Obj) (hl : w.heap.size ≤ l) (h : W.heap[l]? = some o) (_ : o.isCells = false) (_ : o.isWalk = false) : Only (fun k => k = Bh ∨ n₀ ≤ k) W (W.putObj l o') :=
  (Only.of_grown (grownBy_putObj' W l o')).mono fun i _ e => by
    have : i = l := by cases e; rfl
    exact .inr (by omega)
theorem own_round {M n₀ Bh : Nat} {P : List UInt8} {wc : World} {t : TypeId} (hn : n₀ ≤ wc.heap.size) : OwnFrom wc.heap.size (fun (pre : List (Off M)) W => Blk W Bh t (ucells (hv P pre).list).toArray ∧ Only (fun k => k = Bh ∨ n₀ ≤ k) wc W) := by
  rintro s A B row ⟨h1, h2⟩ hg hr
  refine ⟨h1.grown hg fun e => ?_, h2.trans' ((Only.of_grown hg).mono fun i _ e => .inr ?_)⟩
  · obtain ⟨_, o, ho, hc⟩ := hr Bh e.symm
    have h1' : A.heap[Bh]? = _ := h1
    rw [ho] at h1'
    injection h1' with h1'
    subst h1'
    cases hc
  · have := (hr i e.symm).1
    omega
def lenV : Value → Nat
  | .slice _ n _ => n
  | _ => 0
theorem BRow.lenV {B : Nat} {w : World} {v : Value} {l : List UInt8} (h : BRow B w v l) : lenV v = l.length := by
  obtain ⟨g, cap, rfl, _⟩ := h.form
  rfl
theorem cell_new_byte (w : World) (c : UInt8) (t : TypeId) : (w.alloc (.cells #[.int .u8 (c.toNat : Int)] t)).cell? ⟨w.heap.size, 0, none⟩ = some (b8 c) := (Blk.new w t #[.int .u8 (c.toNat : Int)]).cell 0
theorem startCells : (ucells Sha.start.list).toArray = #[Value.int .u32 1779033703, Value.int .u32 3144134277, Value.int .u32 1013904242, Value.int .u32 2773480762, Value.int .u32 1359893119, Value.int .u32 2600822924, Value.int .u32 528734635, Value.int .u32 1541459225] := by kernel_rfl

set_option maxRecDepth 100000 in
set_option maxHeartbeats 4000000 in
theorem sum_any (s : ByteArray) (w : World) (ht : Tab w) (hs : s.size ≤ 1099511627776) :
    Calls Tryz.prog 110 #[.string s] w fun e w' => e = .returned (.string (sha s)) ∧ Below w.heap.size w w' := by
  have HT := Lib.hid ht
  have HN := Lib.hid (size_list s)
  clear ht
  refine (callsIn_wide (n := 4)).1 ?_
  refine callsIn_of_wp_marks Tryz.func110 rfl trivial ?_ rfl
  simp only [Tryz.ntmps110, List.size_toArray, List.length_cons, List.length_nil, Nat.reduceAdd, Nat.reduceSub, Array.replicate_succ, Array.replicate_zero, List.push_toArray, List.append_toArray, List.nil_append, List.cons_append]
  obtain ⟨S, hS⟩ : ∃ S, S = s.data.toList := ⟨_, rfl⟩
  have HS := Lib.hid hS
  have hlS : S.length = s.size := by rw [hS]; exact size_list s
  have HLS := Lib.hid hlS
  gi_wp2_with (first | (refine wpListIn_bytes rfl _ rfl s rfl (w.heap.size + 1) (by simp) (by omega) ?_; rw [← hS]; intro v1 w1 r1 b1; have R1 := Lib.hid r1; have B1 := Lib.hid b1; clear r1 b1) | (refine wpListIn_add_byte rfl _ _ rfl (R1.out.alloc _) rfl ⟨w1.heap.size, 0, none⟩ 1 128 rfl (cell_new_byte w1 128 _) ?_ ?_ ?_; (have := B1.out.size; simp at this; simp; omega); (rw [HLS.out]; omega); intro v2 w2 r2 b2; have R2 := Lib.hid r2; have B2 := Lib.hid b2; clear r2 b2))
  have K2 : Hid (Blk w2 w.heap.size 193 (ucells Sha.start.list).toArray) := by
    show Blk _ _ _ _
    have h0 := Blk.new w 193 #[Value.int .u32 1779033703, Value.int .u32 3144134277, Value.int .u32 1013904242, Value.int .u32 2773480762, Value.int .u32 1359893119, Value.int .u32 2600822924, Value.int .u32 528734635, Value.int .u32 1541459225]
    rw [← startCells] at h0
    have h1 := h0.below B1.out (by omega)
    exact (h1.alloc _).below B2.out (by omega)
  have W2 : Hid (Below w.heap.size w w2) := by
    show Below _ _ _
    have h1 := ((Below.refl w.heap.size w).alloc (Nat.le_refl _) _).trans (B1.out.mono (by omega))
    exact (h1.alloc h1.size _).trans (B2.out.mono (by omega))
  have hl2 : w.heap.size + 1 ≤ w2.heap.size := by have := B1.out.size; have := B2.out.size; simp at *; omega
  have R2' : Hid (BRow (w.heap.size + 1) w2 v2 (padZ S 0)) := by
    show BRow _ _ _ _
    have := R2.out
    simpa [padZ] using this
  have HZ := Lib.hid (zeros_lt S.length)
  clear hS hlS R1 R2 B1 B2
  gi_loopw [4] (fun v wr => ∃ k : Nat, k ≤ Sha.zeros S.length ∧ BRow (w.heap.size + 1) wr v (padZ S k) ∧ Below (w.heap.size + 1) w2 wr) (fun v _ => 1099511628000 - lenV v)
  case atStart => exact ⟨0, Nat.zero_le _, R2'.out, Below.refl _ _⟩
  case round =>
    obtain ⟨k, hk, hR, hB⟩ := hrel
    obtain ⟨g, cap, rfl, hg1, hg2, hg3, hcells⟩ := hR.form
    have HR := Lib.hid hR
    have HB := Lib.hid hB
    have hl := padZ_length S k
    obtain ⟨m, hm⟩ : ∃ m, m = (padZ S k).length := ⟨_, rfl⟩
    rw [← hm] at hl hg2 HR ⊢
    have HM := Lib.hid hm
    have hz := HZ.out
    have hms : m ≤ 1099511627900 := by rw [hl, HLS.out]; omega
    by_cases hlt : k < Sha.zeros S.length
    · have hne : ((m : Int) % 64 == 56) = false := by
        have := zeros_more S.length k hlt
        simp
        omega
      clear hR hB hcells hm hl
      gi_wp2_with (refine wpListIn_add_byte rfl _ _ rfl (HR.out.alloc _) rfl ⟨wr.heap.size, 0, none⟩ 1 0 rfl (cell_new_byte wr 0 _) ?_ ?_ ?_; (have := HB.out.size; simp; omega); (rw [← HM.out]; omega); intro v3 w3 r3 b3; have R3 := Lib.hid (show BRow _ w3 v3 (padZ S (k + 1)) from padZ_succ S k ▸ r3); have B3 := Lib.hid ((HB.out.alloc (by have := HB.out.size; omega) _).trans b3); clear r3 b3)
      have hl3 := R3.out.lenV
      rw [padZ_length] at hl3
      go_roundw
      case rel => exact ⟨k + 1, hlt, R3.out, B3.out⟩
      case measure => rw [hl3]; show _ < 1099511628000 - m; have := HM.out; rw [padZ_length] at this; omega
    · have hkz : k = Sha.zeros S.length := by omega
      have hm56 : (m : Int) % 64 = 56 := by
        have := zeros_end S.length
        omega
      have heq : ((m : Int) % 64 == 56) = true := by rw [hm56]; rfl
      have heq2 : ((m : Int) % 64 != 56) = false := by rw [hm56]; rfl
      have HR0 : Hid (BRow (w.heap.size + 1) wr (.slice (some ⟨g, 0, none⟩) m cap) (padZ S (Sha.zeros S.length) ++ (Sha.bitLen S.length).take 0)) := by
        show BRow _ _ _ _
        rw [← hkz]
        simpa using HR.out
      have HB0 := Lib.hid (show Below (w.heap.size + 1) w2 wr from HB.out)
      clear hR hB hcells hm hl hkz HR HB HM hm56
      obtain ⟨wo, rfl⟩ : ∃ wo : World, wo = wr := ⟨_, rfl⟩
      gi_wp2
      gi_loopw [4, 5] (fun v i wr => ∃ j : Nat, j ≤ 8 ∧ i = .int .i64 (7 - (j : Int)) ∧ BRow (w.heap.size + 1) wr v (padZ S (Sha.zeros S.length) ++ (Sha.bitLen S.length).take j) ∧ Below (w.heap.size + 1) w2 wr) (fun _ i _ => ((intOf i) + 1).toNat)
      case atStart => exact ⟨0, by omega, rfl, HR0.out, HB0.out⟩
      case round =>
        obtain ⟨j, hj, rfl, hR, hB⟩ := hrel
        have HR := Lib.hid hR
        have HB := Lib.hid hB
        have hlen : (padZ S (Sha.zeros S.length) ++ (Sha.bitLen S.length).take j).length = S.length + 1 + Sha.zeros S.length + j := by
          rw [List.length_append, padZ_length, List.length_take, bitLen_length]; omega
        by_cases hlj : j < 8
        · obtain ⟨c, hc⟩ : ∃ c, c = UInt8.ofNat (8 * S.length / 2 ^ (8 * (7 - j))) := ⟨_, rfl⟩
          have E : 8 * (s.size : Int) / 2 ^ (8 * (7 - j)) % 256 = (c.toNat : Int) := by
            rw [hc, ← u8_ofNat, IntKind.wrap_u8', ← HLS.out]
            simp
          have HT2 := Lib.hid (bitLen_take S.length j hlj)
          have HC := Lib.hid hc
          have d1 : decide ((j : Int) ≤ 7) = true := by simp; omega
          have hle : (padZ S (Sha.zeros S.length) ++ (Sha.bitLen S.length).take j).length ≤ 70368744177664 := by have := HLS.out; have := HZ.out; rw [hlen]; omega
          clear hR hB hlen hc
          gi_wp2_with (refine wpListIn_add_byte rfl _ _ rfl (HR.out.alloc _) rfl ⟨wr.heap.size, 0, none⟩ 1 c rfl (cell_new_byte wr c _) ?_ ?_ ?_; (have := HB.out.size; simp; omega); (exact hle); intro v3 w3 r3 b3; have R3 := Lib.hid (show BRow _ w3 v3 (padZ S (Sha.zeros S.length) ++ (Sha.bitLen S.length).take (j + 1)) from by rw [HT2.out, ← HC.out, ← List.append_assoc]; exact r3); have B3 := Lib.hid ((HB.out.alloc (by have := HB.out.size; omega) _).trans b3); clear r3 b3)
          go_roundw
          case rel => exact ⟨j + 1, hlj, by congr 1; omega, R3.out, B3.out⟩
          case measure => simp [intOf]; omega
        · obtain rfl : j = 8 := by omega
          have d1 : decide ((8 : Int) ≤ 7) = false := by decide
          obtain ⟨P, hP⟩ : ∃ P, P = Sha.pad S := ⟨_, rfl⟩
          have hPP : padZ S (Sha.zeros S.length) ++ (Sha.bitLen S.length).take 8 = P := hP.symm
          have hPl : P.length % 64 = 0 := by rw [hP]; exact Sha.pad_length S
          rw [hPP] at hR hlen
          obtain ⟨N, hN⟩ : ∃ N, P.length = 64 * N := ⟨P.length / 64, by omega⟩
          obtain ⟨g2, cap2, rfl, hgl1, hgl2, hgl3, hcells⟩ := hR.form
          obtain ⟨M, hM⟩ : ∃ M, M = P.length := ⟨_, rfl⟩
          rw [← hM] at hN hgl2 hlen ⊢
          have HCE := Lib.hid hcells
          have HN2 := Lib.hid hN
          have HM2 := Lib.hid hM
          have HP2 := Lib.hid hP
          have hMs : M ≤ 1099511628000 := by have := HLS.out; have := HZ.out; rw [hlen]; omega
          have KH : Hid (Blk wr w.heap.size 193 (ucells Sha.start.list).toArray) := K2.out.below HB.out (by omega)
          have TH := Lib.hid (HT.out.below (W2.out.trans (HB.out.mono (by omega))) HT.out.lt)
          have WB := Lib.hid (W2.out.trans (HB.out.mono (by omega)))
          have hhr : w.heap.size < wr.heap.size := KH.out.lt
          clear hR hB hlen hcells hN hM hP hPP hPl HR HB
          gi_wp2_with (refine ⟨trivial, ?_⟩; gi_at_call 128; refine (chunk_in Fence.wide _ trivial rfl _ _ _ _ _ rfl).mono ?_; rintro e w' ⟨rfl, rfl⟩)
          obtain ⟨wc, hwc⟩ : ∃ wc, wc = (wr.alloc (.cells #[.slice (some ⟨g2, 0, none⟩) M cap2] 39)).alloc (.cells #[.int .i64 64] 3) := ⟨_, rfl⟩
          have hsz : wc.heap.size = wr.heap.size + 2 := by rw [hwc]; simp
          have hbc : Below wr.heap.size wr wc := by rw [hwc]; exact ((Below.refl _ wr).alloc (Nat.le_refl _) _).alloc (by simp) _
          have hc1 : wc.cell? ⟨wr.heap.size, 0, none⟩ = some (.slice (some ⟨g2, 0, none⟩) M cap2) := by rw [hwc]; exact ((Blk.new wr 39 _).alloc _).cell 0
          have hc2 : wc.cell? ⟨wr.heap.size + 1, 0, none⟩ = some (.int .i64 64) := by
            rw [hwc]
            have h := (Blk.new (wr.alloc (.cells #[.slice (some ⟨g2, 0, none⟩) M cap2] 39)) 3 #[.int .i64 64]).cell 0
            rw [World.size_alloc] at h
            exact h
          have KC := Lib.hid (KH.out.below hbc hhr)
          have TC := Lib.hid (TH.out.below hbc TH.out.lt)
          have CC : Hid (∀ j (h : j < P.length), wc.cell? ⟨g2, j, none⟩ = some (b8 P[j])) := fun j h => (hbc.cell (p := ⟨g2, j, none⟩) hgl3).trans (HCE.out j h)
          have WC := Lib.hid (WB.out.trans (hbc.mono (by omega)))
          have hgc : g2 < wc.heap.size := by omega
          have ST := Lib.hid (chunk_stops Fence.wide 3 trivial rfl (by omega) wr.heap.size (wr.heap.size + 1) w.heap.size (wr.heap.size + 2) g2 M N cap2 HN2.out hgl2 (by omega) (by omega) (by omega) (by omega) (by omega) wc (by omega) hc1 hc2)
          have HSZ := Lib.hid hsz
          rw [← hwc]
          clear hwc hbc hc1 hc2 hsz
          refine wpIn_rangeFunc_ownG rfl (by omega) (gf := 143) (lb := #[.pointer (some ⟨wr.heap.size, 0, none⟩), .pointer (some ⟨wr.heap.size + 1, 0, none⟩)]) rfl trivial (enters_of Tryz.func143 (by kernel_rfl) rfl)
            ST.out (fun h k => h.trans' k) (only_putObj (by rw [HSZ.out]; exact Nat.le_refl _)) (Below.refl _ _) (fun _ => rfl)
            (fun pre W => Blk W w.heap.size 193 (ucells (hv P pre).list).toArray ∧ Only (fun k => k = w.heap.size ∨ wr.heap.size + 2 ≤ k) wc W)
            (fun _ _ _ => False) (own_round (by rw [HSZ.out]; exact Nat.le_refl _)) (fun _ _ _ _ _ hs _ _ => hs) ⟨KC.out, Only.refl _ _⟩
            (fun x => { tmps := #[.string s, undef, .string ⟨#[]⟩, .pointer (some ⟨w.heap.size, 0, none⟩), .slice (some ⟨g2, 0, none⟩) M cap2, .int .i64 (-1), .slice (some ⟨g2, x.1, none⟩) 64 64,
              .agg #[.int .u32 1779033703, .int .u32 3144134277, .int .u32 1013904242, .int .u32 2773480762, .int .u32 1359893119, .int .u32 2600822924, .int .u32 528734635, .int .u32 1541459225],
              .string s, v1, .slice (some ⟨w1.heap.size, 0, none⟩) 1 1, v2, .slice (some ⟨g, 0, none⟩) m cap, .int .i64 m, .int .i64 ((m : Int) % 64), .bool false, u16, u17, u18, .int .i64 (-1), .bool false, u21, u22, u23, u24, u25, u26,
              u27, u28, u29, u30, u31, u32, .slice (some ⟨g2, 0, none⟩) M cap2, .func (.func 143) #[] #[.pointer (some ⟨wr.heap.size, 0, none⟩), .pointer (some ⟨wr.heap.size + 1, 0, none⟩)],
              .slice (some ⟨g2, x.1, none⟩) 64 64, undef, undef, undef, undef], defers := [] }) ?assign ?body ?done ?stop
          case assign =>
            intro l x W K hK
            gi_wp2
            exact hK
          case body =>
            rintro l pre x W ⟨hK, hO⟩ hlt
            have hx := x.2
            have hlw : w.heap.size < wc.heap.size := by have := HSZ.out; omega
            have hbl : ((P.drop x.1).take 64).length = 64 := by
              have := HM2.out
              simp
              omega
            have hbys : Bys W g2 x.1 ((P.drop x.1).take 64) := fun j hj => by
              have hj2 : j < 64 := by omega
              have hj3 : x.1 + j < P.length := by have := HM2.out; omega
              rw [hO.cell (p := ⟨g2, x.1 + j, none⟩) hgc (show ¬ (g2 = w.heap.size ∨ wr.heap.size + 2 ≤ g2) by omega), CC.out (x.1 + j) hj3]
              simp [b8]
            have htab : Tab W := by
              obtain ⟨t, fr, h⟩ := TC.out
              refine ⟨t, fr, (hO.block _ TC.out.lt ?_).trans h⟩
              have := HT.out.lt
              omega
            have HA := Lib.hid (add_any w.heap.size g2 x.1 64 193 (hv P pre) ((P.drop x.1).take 64) W hbl (Nat.lt_of_lt_of_le hgc hO.size) hbys hK htab)
            have HO := Lib.hid hO
            clear hK hO hbl hbys htab
            gi_wp2_with (refine ⟨trivial, ?_⟩; gi_at_call 129; refine (CallsIn.inRound l (callsIn_wide.2 HA.out)).mono ?_; rintro e W' ⟨rfl, k', o'⟩)
            exact ⟨⟨o'.size, fun k ob hB hk ho => (o'.block k (Array.getElem?_eq_some_iff.1 hk).1 (by omega)).trans hk⟩, o'.mono fun _ _ e => .inl e, by rw [hv_snoc]; exact k', HO.out.trans' (o'.mono fun _ _ e => .inl e)⟩
          case done =>
            rintro D xs W hD hxs ⟨hK, hO⟩ hDD
            rw [hv_all P xs hxs] at hK
            have hfin : sha s = ⟨(Sha.out (Sha.blocks N Sha.start P)).toArray⟩ := by
              unfold sha Sha.sum
              rw [← HS.out, ← HP2.out, ← HM2.out, HN2.out, Nat.mul_div_cancel_left _ (by omega)]
            generalize Sha.blocks N Sha.start P = V at *
            have HF := Lib.hid hfin
            have HO := Lib.hid hO
            have DG := Lib.hid (digest_any V W)
            obtain ⟨a, b, c, d, e, f, gg, z8⟩ := V
            have c0 : W.cell? ⟨w.heap.size, 0, none⟩ = some (.int .u32 (U a)) := hK.cell 0
            have c1 : W.cell? ⟨w.heap.size, 1, none⟩ = some (.int .u32 (U b)) := hK.cell 1
            have c2 : W.cell? ⟨w.heap.size, 2, none⟩ = some (.int .u32 (U c)) := hK.cell 2
            have c3 : W.cell? ⟨w.heap.size, 3, none⟩ = some (.int .u32 (U d)) := hK.cell 3
            have c4 : W.cell? ⟨w.heap.size, 4, none⟩ = some (.int .u32 (U e)) := hK.cell 4
            have c5 : W.cell? ⟨w.heap.size, 5, none⟩ = some (.int .u32 (U f)) := hK.cell 5
            have c6 : W.cell? ⟨w.heap.size, 6, none⟩ = some (.int .u32 (U gg)) := hK.cell 6
            have c7 : W.cell? ⟨w.heap.size, 7, none⟩ = some (.int .u32 (U z8)) := hK.cell 7
            have DG2 : Hid (Calls Tryz.prog 130 #[.agg #[.int .u32 (U a), .int .u32 (U b), .int .u32 (U c), .int .u32 (U d), .int .u32 (U e), .int .u32 (U f), .int .u32 (U gg), .int .u32 (U z8)]] W fun e' w' => e' = .returned (.string (sha s)) ∧ Below W.heap.size W w') := by
              show Calls _ _ _ _ _
              rw [HF.out]
              exact DG.out
            clear hfin hO hK DG
            gi_wp2_with (refine ⟨trivial, ?_⟩; gi_at_call 130; refine (callsIn_wide.2 DG2.out).mono ?_; rintro e' w' ⟨rfl, b'⟩)
            have hDW : D < W.heap.size := (Array.getElem?_eq_some_iff.1 hDD).1
            have hD' : w'.heap[D]? = some (.deferred (some [])) := (b'.block D hDW).trans hDD
            have hB' : Below w.heap.size w w' := (WC.out.trans (HO.out.below (by have := HSZ.out; omega) fun k e => by omega)).trans (b'.mono (Nat.le_trans (by have := HSZ.out; omega) HO.out.size))
            refine ⟨by simp, .inl ⟨_, _, rfl, run_takeDeferred hD', ?_⟩⟩
            exact ⟨_, results_tmp rfl _ _ _, rfl, hB'.trans (belowK_b (w := w) (Nat.le_refl _) w' D _ _ (by have := HSZ.out; omega) hD' rfl rfl)⟩
          case stop =>
            rintro D c pre W _ _ h
            exact h.elim
end Go.Proofs.YtjlgkjhociaeiaaGreatDoor
