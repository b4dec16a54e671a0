/-
  DiskCrashBytes, walked.
-/
import Derived.Test.YtacincpecdkhiaaDKept
import Derived.Test.YtacincpecdkhiaaDSurvive
import Derived.Laws.AppendOwnNone
namespace Go.Proofs.Ytacincpecdkhiaa
open Go.RowKit
set_option linter.unusedVariables false

/-- What the law's own lists of numbers hold, cell by cell. -/
theorem own_cells {B : Nat} {w : World} {g c : Nat} {zs : List Int} {n : Nat} (h : w.ownsRow B 3 1 (.slice (some ⟨g, 0, none⟩) n c) n (zs.map (Value.int .i64))) (j : Nat) (u : Value) (hu : (zs.map (Value.int .i64))[j]? = some u) : w.cell? ((⟨g, 0, none⟩ : Addr).add j) = some u := by
  obtain ⟨hj, _⟩ := List.getElem?_eq_some_iff.1 hu
  rw [add_none, Nat.zero_add, h.cellAt j (by have := h.1; omega), hu]
theorem lay_full (n : Nat) (X : List UInt8) (hX : X.length = n) : lay (List.replicate n 0) (0, ⟨X.toArray⟩) = X := by
  show splice _ 0 X = X
  unfold splice
  rw [List.take_zero, List.nil_append, List.drop_of_length_le (by simp; omega), List.append_nil]
theorem wpList_append_rows {P : Program} {w : World} {ops : Array Oper} {rest : List Oper} {o : Oper} {a : Act} {Q : Exit → Act → World → Prop} (hgd : o.guard = none) (s x : Operand) (t : TypeId)
    (ho : o.op = .call { callee := .builtin .append, args := #[s, x], argTypes := #[t, t] })
    (base : Nat) (e : TypeId) (i : TypeInfo) (z : Value) (size bytes : Nat) (ht : P.underlying t = some (.slice e)) (hi : P.info? e = some i) (hz : i.zero = some z)
    (hsize : i.size = size) (hby : i.bytes = bytes) (hzs : z.cells.size = size) (hsz : 0 < size)
    (v : Value) (n : Nat) (xs : List Value) (hs : a.eval s = v) (hown : w.ownsRow base e size v n xs)
    (base2 : Nat) (u : Value) (m : Nat) (news : List Value) (hx : a.eval x = u) (hu : w.ownsRow base2 e size u m news) (h1 : ∀ u ∈ news, u.oneCell' = true)
    (h63 : n + m ≤ maxLen) (hbytes : (n + m) * bytes ≤ 140737488355328) (hbase : base ≤ w.heap.size)
    (h : ∀ v' w', w'.ownsRow base e size v' (n + m) (xs ++ news) → w.grownBy w' v.ownBlock → wpList P ops Q rest (a.put o.dst v') w') : wpList P ops Q (o :: rest) a w := by
  have hl := hu.1
  rcases hu.2 with ⟨rfl, rfl⟩ | ⟨g, cap, cur, rfl, _⟩
  · have hn : news = [] := List.eq_nil_of_length_eq_zero (by simpa using hl)
    subst hn
    have := h v w (by simpa using hown) (World.grownBy.refl _ _)
    exact wpList_append_own_none hgd s x t ho base e i size ht hi v n xs hs hown hx this
  · exact wpList_append_own _ hgd s x t ho base e i z size bytes ht hi hz hsize hby hzs hsz v n xs hs hown _ _ _ news hx hl (fun j u hj => by
      obtain ⟨hj', _⟩ := List.getElem?_eq_some_iff.1 hj
      rw [add_none, Nat.zero_add, hu.cellAt j (by omega), hj]) h1 h63 hbytes hbase fun v' w' h2 h3 _ => h v' w' h2 h3
theorem tear_cut (torn : Int) (o : Nat) (s : ByteArray) (h : 0 ≤ torn) : DSt.tear torn (o, s) = (o, cutB s torn.toNat) := by
  unfold DSt.tear cutB
  rw [if_pos h, Nat.min_comm]
theorem bools_get {w : World} {a : Option Addr} {len cap : Nat} {bs : List Bool} (h : Bools w a len cap bs) (i : Nat) (hi : i < len) : ∃ b o, a = some ⟨b, o, none⟩ ∧ b < w.heap.size ∧ w.cell? ⟨b, o + i, none⟩ = some (.bool (bs[i]?.getD false)) := by
  have hi' : i < bs.length := by rw [h.hlen]; exact hi
  obtain ⟨b, o, h1, h2, h3⟩ := h.get i hi'
  refine ⟨b, o, h1, h2, ?_⟩
  rw [h3]
  simp [hi']
theorem Bools.below {w w' : World} {B : Nat} {a : Option Addr} {len cap : Nat} {xs : List Bool} (h : Bools w a len cap xs) (hB : w.heap.size ≤ B) (hb : Below B w w') : Bools w' a len cap xs := by
  refine ⟨h.hlen, h.hcap, h.hmax, fun i hi => ?_⟩
  obtain ⟨b, o, e, hl, h1⟩ := h.get i hi
  have hl2 : b < B := by omega
  exact ⟨b, o, e, Nat.lt_of_lt_of_le hl hb.size, (hb.cell (p := ⟨b, o + i, none⟩) hl2).trans h1⟩

set_option maxRecDepth 100000 in
set_option maxHeartbeats 40000000 in
theorem diskCrashBytes_any (a0 : Int) (a1 : Option Addr) (len1 cap1 : Nat) (x1 : List WP) (a2 : Option Addr) (len2 cap2 : Nat) (x2 : List Bool) (a3 : Int) (w : World) (w0 : -9223372036854775808 ≤ a0 ∧ a0 ≤ 9223372036854775807) (w1 : WPs w a1 len1 cap1 x1) (w2 : Bools w a2 len2 cap2 x2) (z3 : -9223372036854775808 ≤ a3 ∧ a3 ≤ 9223372036854775807) :
    Calls Try.prog 8 #[.int .i64 a0, .slice a1 len1 cap1, .slice a2 len2 cap2, .int .i64 a3] w fun e w' => e = .returned (.bool true) ∧ Below w.heap.size w w' := by
  have hcap := w1.hcap
  have hmax := w1.hmax
  unfold maxLen at hmax
  have hcap2 := w2.hcap
  have hmax2 := w2.hmax
  unfold maxLen at hmax2
  have HW := Lib.hid w1
  have HV := Lib.hid w2
  clear w1 w2
  have p0 := pickI_nonneg a0 100 (by omega)
  have p1 := pickI_lt a0 100 (by omega)
  obtain ⟨n, hn⟩ : ∃ n : Nat, 1 + pickI a0 100 = (n : Int) := ⟨(1 + pickI a0 100).toNat, by omega⟩
  have hn1 : 1 ≤ n := by omega
  have hn2 : n ≤ 100 := by omega
  have HN := Lib.hid hn
  clear hn
  have hmk := run_make_row' (P := Try.prog) 40 5 (.int .u8 0) 1 Try.underlying40 info8 rfl .i64 .i64 n (by omega) (by omega)
  go_enter Try.func8, Try.ntmps8
  go_wp2_with fail
  refine (sane_any w).mono ?_
  rintro e v1 ⟨rfl, b1⟩
  have B1 := Lib.hid b1; clear b1
  go_wp2_with fail
  refine (pick_any a0 100 v1 w0.1 w0.2 (by omega) (by omega)).mono ?_
  rintro e v1' ⟨rfl, rfl⟩
  go_wp2_with fail
  rw [HN.out]
  clear p0 p1
  refine (DkB.new n w.heap.size v1 B1.out.size hn1 (by omega)).mono ?_
  rintro e v2 ⟨p, rfl, d2, b2⟩
  have D2 := Lib.hid (DkL.start d2 (B1.out.trans b2).size); have B2 := Lib.hid (B1.out.trans b2); clear d2 b2
  have M2 := Lib.hid (D2.out.add ((Below.refl v2.heap.size v2).alloc (Nat.le_refl _) (.cells (madeCells #[Value.int .u8 0] n) 5)) v2.heap.size (Nat.le_refl _) (by simp))
  have N2 := Lib.hid (B2.out.alloc B2.out.size (.cells (madeCells #[Value.int .u8 0] n) 5))
  have K2 := Lib.hid (by rw [← made8]; exact Blk.new _ _ _ : Blk (v2.alloc (.cells (madeCells #[Value.int .u8 0] n) 5)) v2.heap.size 5 (cells8 (List.replicate n 0)).toArray)
  go_wp2_with fail
  go_loopw [13] (fun i wr => ∃ (k : Nat) (X : List UInt8), k ≤ n ∧ i = .int .i64 k ∧ X.length = n ∧ DkL w.heap.size [v2.heap.size] wr p (DSt.new n) ∧ Blk wr v2.heap.size 5 (cells8 X).toArray ∧ Below w.heap.size w wr) (fun i _ => n - (intOf i).toNat)
  case atStart => exact ⟨0, List.replicate n 0, Nat.zero_le _, rfl, by simp, M2.out, K2.out, N2.out⟩
  case round =>
    obtain ⟨k, X, hk, rfl, hX, hD, hK, hB⟩ := hrel
    by_cases hlt : k < n
    · obtain ⟨v, hc⟩ : ∃ v, wr.cell? ⟨v2.heap.size, k, none⟩ = some v := ⟨_, (hK.cell k).trans (by rw [List.getElem?_toArray]; exact cells8_get _ _ (by omega))⟩
      have hf := hK.frozen k
      obtain ⟨c, hcc⟩ : ∃ c : UInt8, ((c.toNat : Nat) : Int) = 48 + (k : Int) % 10 := ⟨UInt8.ofNat (48 + k % 10), by simp; omega⟩
      have hval := Lib.hid hcc
      clear hcc
      have hnew : Hid (Blk (wr.setCell ⟨v2.heap.size, k, none⟩ (b8 c)) v2.heap.size 5 (cells8 (X.set k c)).toArray) := by
        show Blk _ _ _ _
        rw [← cells8_set]
        exact hK.set_ _ _
      have HO := Lib.hid (Only.setCell (S := fun k => k = v2.heap.size) (Only.refl _ wr) (p := ⟨v2.heap.size, k, none⟩) (.inl rfl) (b8 c))
      have HD := Lib.hid hD; have HB := Lib.hid hB; have HX := Lib.hid hX
      clear hD hK hB hX
      have hb8 : Hid (Value.int .u8 (48 + (k : Int) % 10) = b8 c) := by show _ = _; unfold b8; rw [hval.out]
      go_wp2_with fail
      rw [hb8.out]
      go_roundw
      case rel => exact ⟨k + 1, X.set k c, hlt, by go_num, by simp [HX.out], HD.out.only HO.out (fun k e => .inl (by simp [e])), hnew.out, HB.out.trans (HO.out.below HD.out.2.1 (fun k e => by have := B2.out.size; omega))⟩
      case measure => simp [intOf]; omega
    · obtain rfl : k = n := by omega
      have HD := Lib.hid hD; have HK := Lib.hid hK; have HB := Lib.hid hB; have HX := Lib.hid hX
      clear hD hK hB hX
      have hcv := run_string HK.out HX.out
      have e1 := (Calm.new k).write_eq 0 ⟨X.toArray⟩ (by have := HX.out; show 0 + X.toArray.size ≤ k; simp; omega)
      rw [show ((0 : Nat) : Int) = 0 from rfl] at e1
      have E1 := Lib.hid e1
      clear e1
      go_wp2_with fail
      refine (HD.out.write 0 ⟨X.toArray⟩ (by simp [DSt.new])).mono ?_
      rintro e w5 ⟨rfl, t5⟩
      rw [E1.out] at t5 ⊢
      have D5 := Lib.hid t5.1
      have B5 := Lib.hid (t5.below HB.out HD.out.2.1)
      have K5 := Lib.hid (t5.blk HK.out (by simp))
      clear t5 hcv
      go_wp2_with fail
      refine D5.out.sync.mono ?_
      rintro e w6 ⟨rfl, t6⟩
      have e2 : ((DSt.new k).wrote 0 ⟨X.toArray⟩).sync = (0, { off := false, left := 0, dur := X, vis := X, pend := [] }) := by
        have hv : ((DSt.new k).wrote 0 ⟨X.toArray⟩).vis = X := lay_full k X HX.out
        unfold DSt.sync DSt.synced
        rw [hv]
        rfl
      rw [e2] at t6 ⊢
      have D6 := Lib.hid t6.1
      have B6 := Lib.hid (t6.below B5.out D5.out.2.1)
      have K6 := Lib.hid (t6.blk K5.out (by simp))
      clear t6 e2
      obtain ⟨iI, hiI, zi0, zi1, zi2⟩ := info_parts infoI
      have ZI := Lib.hid (And.intro hiI (And.intro zi0 (And.intro zi1 zi2)))
      clear hiI zi0 zi1 zi2 hmk
      generalize hnk : k = n at *
      clear hnk
      obtain ⟨kb, hkb⟩ : ∃ kb : Nat → Bool, kb = fun i => x2[i]?.getD false := ⟨_, rfl⟩
      obtain ⟨m, hml0, hm200, hmd⟩ : ∃ m, m ≤ len1 ∧ m ≤ 20 ∧ (m = len1 ∨ m = 20) := ⟨min len1 20, by omega, by omega, by omega⟩
      have HMM := Lib.hid hmd
      clear hmd
      go_wp2_with fail
      go_loopw [14, 15] (fun u i wr => ∃ k : Nat, k ≤ m ∧ u = .int .i64 (lastTo kb k) ∧ i = .int .i64 k ∧ w6 = wr) (fun _ i _ => 20 - (intOf i).toNat)
      case atStart => exact ⟨0, Nat.zero_le _, rfl, rfl, rfl⟩
      case round =>
        obtain ⟨k, hk, rfl, rfl, rfl⟩ := hrel
        by_cases hlt : k < m
        · have hlt1 : k < len1 := by omega
          have hlt2 : k < 20 := by omega
          by_cases h2 : k < len2
          · obtain ⟨ab, ao, rfl, hal, g0⟩ := bools_get (HV.out.below (Nat.le_refl _) B6.out) k h2
            have g0' : w6.cell? ⟨ab, ao + k, none⟩ = some (.bool (kb k)) := by rw [hkb]; exact g0
            clear g0
            cases hy : kb k
            all_goals
              rw [hy] at g0'
              go_wp2_with fail
              go_roundw
              case rel => exact ⟨k + 1, hlt, by simp [lastTo, hy], by go_num, trivial⟩
              case measure => simp [intOf]; omega
          · have hy : kb k = false := by
              have := HV.out.hlen
              rw [hkb]
              simp only
              rw [List.getElem?_eq_none (by omega)]; rfl
            go_wp2_with fail
            go_roundw
            case rel => exact ⟨k + 1, hlt, by simp [lastTo, hy], by go_num, trivial⟩
            case measure => simp [intOf]; omega
        · obtain rfl : k = m := by omega
          have hmd := HMM.out
          have hc2 : (¬ k < len1 ∧ k ≤ len1) ∨ (k < len1 ∧ ¬ k < 20) := by omega
          obtain ⟨P, hP⟩ : ∃ P, P = (x1.take k).map fun x => fit x n := ⟨_, rfl⟩
          obtain ⟨L, hL⟩ : ∃ L, L = lastTo kb k := ⟨_, rfl⟩
          have hxl1 := HW.out.hlen
          have hPl : P.length = k := by rw [hP]; simp; omega
          have hPg : ∀ i (h : i < x1.length), i < k → P[i]? = some (fit x1[i] n) := by
            intro i h hi
            rw [hP, List.getElem?_map, List.getElem?_take_of_lt hi, List.getElem?_eq_getElem h]
            rfl
          have LL : Hid (-1 ≤ L ∧ L < k) := by rw [hL]; exact lastTo_lt kb k
          have HPL := Lib.hid hPl
          have HPG := Lib.hid hPg
          have HPE := Lib.hid hP
          have HLE := Lib.hid hL
          have HKB := Lib.hid hkb
          rw [← hL]
          clear hPl hPg hP hL hkb hlt hk
          obtain ⟨m, rfl⟩ : ∃ m', m' = k := ⟨_, rfl⟩
          obtain ⟨wo, rfl⟩ : ∃ wo : World, wo = w6 := ⟨_, rfl⟩
          have hm20 : m ≤ 20 := by omega
          have hml : m ≤ len1 := by omega
          rcases hc2 with ⟨hc2, hce⟩ | ⟨hc2, hce⟩
          all_goals
            go_wp2_with fail
            go_loopw [16, 17] (fun u i wr => ∃ (U : Value) (k : Nat) (s : DSt) (Y : List UInt8), U = u ∧ k ≤ m ∧ i = .int .i64 k ∧ Calm n s ∧ s.dur = X ∧ s.pend = P.take k ∧ OwnInts v2.heap.size wr u ((keptTo kb k).reverse.map fun i : Nat => (i : Int)) ∧ DkL w.heap.size (v2.heap.size :: u.ownBlock.toList) wr p s ∧ Y = wantTo P a3 L kb X k ∧ Y.length = n ∧ Blk wr v2.heap.size 5 (cells8 Y).toArray ∧ u.ownBlock ≠ some v2.heap.size ∧ Below w.heap.size w wr) (fun _ i _ => 20 - (intOf i).toNat)
            case atStart => exact ⟨_, 0, _, X, rfl, Nat.zero_le _, rfl, ⟨rfl, rfl, HX.out, HX.out⟩, rfl, rfl, World.ownsRow_nil _ _ _ _, D6.out, rfl, HX.out, K6.out, (fun e => by cases e), B6.out⟩
            case round =>
              obtain ⟨u, k, s, Y, rfl, hk, rfl, hC, hDu, hPe, hown, hD, hY, hYl, hK, hne0, hB⟩ := hrel
              have HD := Lib.hid hD; have HK := Lib.hid hK; have HC := Lib.hid hC; have HB := Lib.hid hB; have HO := Lib.hid hown; have HY := Lib.hid hY; have HYL := Lib.hid hYl; have HPe := Lib.hid hPe; have HDu := Lib.hid hDu; have HN0 := Lib.hid hne0
              clear hD hK hC hB hown hY hYl hPe hDu hne0
              by_cases hlt : k < m
              · have hk1 : k < len1 := by omega
                have hk2 : k < 20 := by omega
                have hxl : k < x1.length := by rw [HW.out.hlen]; exact hk1
                obtain ⟨ab, ao, rfl, hal, g0, g1, g2⟩ := (HW.out.below (Nat.le_refl _) HB.out).get k hxl
                obtain ⟨x, hx⟩ : ∃ x, x = x1[k] := ⟨_, rfl⟩
                have hxm : x ∈ x1 := hx ▸ List.getElem_mem hxl
                rw [← hx] at g0 g1 g2
                have HX := Lib.hid hx
                clear hx
                have hxo := HW.out.hoff x hxm
                have hxs := HW.out.hsize x hxm
                have hfit := fit_fits x n
                go_wp2_with fail
                refine (fits_any x n wr hxo hxs (by omega)).mono ?_
                rintro e w3 ⟨rfl, b3⟩
                have B3 := Lib.hid (HB.out.trans (b3.mono HB.out.size))
                have D3 := Lib.hid (HD.out.below b3)
                have X3 := Lib.hid b3
                clear b3 g0 g1 g2
                obtain ⟨w4, hw4⟩ : ∃ w4, w4 = w3.alloc (.cells #[.int .i64 (fitO x n : Int), .string (fitS x n), .bool x.sync] 53) := ⟨_, rfl⟩
                have b4 : Below w3.heap.size w3 w4 := by rw [hw4]; exact (Below.refl w3.heap.size w3).alloc (Nat.le_refl _) _
                have NB : Hid (Blk w4 w3.heap.size 53 #[.int .i64 (fitO x n : Int), .string (fitS x n), .bool x.sync]) := by rw [hw4]; exact Blk.new w3 _ _
                have D4 := Lib.hid (D3.out.add b4 w3.heap.size (Nat.le_refl _) (by rw [hw4]; simp))
                have B4 := Lib.hid (B3.out.trans (b4.mono D3.out.2.1))
                have X4 := Lib.hid (X3.out.trans (b4.mono X3.out.size))
                have HW4 := Lib.hid hw4
                have L3 := Lib.hid X3.out.size
                clear hw4 b4
                go_wp2_with fail
                rw [← HW4.out]
                have n012 := three_cells NB.out
                obtain ⟨n0, n1, n2⟩ := n012
                have O4 := Lib.hid (ownsRow_only HO.out (Only.of_below X4.out (fun _ => False)) (fun _ _ e => e))
                have K4 := Lib.hid (HK.out.below X4.out HK.out.lt)
                have hne : Hid (w3.heap.size ≠ v2.heap.size) := by have := HK.out.lt; have := L3.out; show _ ≠ _; omega
                have hnu : Hid (u.ownBlock ≠ some w3.heap.size) := fun e => by have := (HO.out.lt _ e).2; have := L3.out; omega
                have hpl : s.pend.length ≤ 1000000 := by rw [HPe.out]; simp; omega
                refine (D4.out.write (fitO x n) (fitS x n) hpl).mono ?_
                rintro e w6 ⟨rfl, t6⟩
                rw [HC.out.write_eq _ _ hfit] at t6 ⊢
                have NB6 := Lib.hid (t6.blk NB.out (by simp))
                have K6' := Lib.hid (t6.blk K4.out (by simp))
                have O6 := Lib.hid (ownsRow_only O4.out t6.2 (fun g hg e => e.2 (by simp [hg])))
                have D6' := Lib.hid t6.1
                have B6' := Lib.hid (t6.below B4.out D4.out.2.1)
                have C6 := Lib.hid (HC.out.wrote _ _ hfit)
                have P6 : Hid ((s.wrote (fitO x n) (fitS x n)).pend = P.take (k + 1)) := by
                  show _ = _
                  have hkP : k < P.length := by rw [HPL.out]; exact hlt
                  have hg := HPG.out k hxl hlt
                  rw [← HX.out] at hg
                  rw [wrote_pend, HPe.out, List.take_succ_eq_append_getElem hkP]
                  have := List.getElem?_eq_getElem hkP
                  rw [hg] at this
                  injection this with this
                  rw [← this]
                  rfl
                have U6 : Hid ((s.wrote (fitO x n) (fitS x n)).dur = X) := HDu.out
                generalize hs6 : s.wrote (fitO x n) (fitS x n) = s6 at *
                clear t6 n0 n1 n2 NB hs6 hpl
                obtain ⟨n0, n1, n2⟩ := three_cells NB6.out
                by_cases hkk : kb k = true
                · have h2 : k < len2 := by
                    have := HV.out.hlen
                    rw [HKB.out] at hkk
                    simp only at hkk
                    by_cases h : k < x2.length
                    · omega
                    · rw [List.getElem?_eq_none (by omega)] at hkk; cases hkk
                  obtain ⟨ab2, ao2, rfl, hal2, g0⟩ := bools_get (HV.out.below (Nat.le_refl _) B6'.out) k h2
                  have g0' : w6.cell? ⟨ab2, ao2 + k, none⟩ = some (.bool true) := by
                    rw [HKB.out] at hkk
                    simp only at hkk
                    rw [hkk] at g0; exact g0
                  clear g0
                  have HS : Hid (wantTo P a3 L kb X (k + 1) = lay Y (pick1 P a3 L k)) := by
                    show _ = _
                    rw [wantTo_yes hkk, ← HY.out]
                  have HPk : Hid (P[k]?.getD (0, ByteArray.empty) = (fitO x n, fitS x n)) := by
                    show _ = _
                    rw [HPG.out k hxl hlt, ← HX.out]; rfl
                  have HKs : Hid ((keptTo kb (k + 1)).reverse.map (fun i : Nat => (i : Int)) = (k : Int) :: (keptTo kb k).reverse.map fun i : Nat => (i : Int)) := by
                    show _ = _
                    rw [keptTo_succ, if_pos hkk]; simp
                  have hkl : Hid ((keptTo kb k).length ≤ 20) := by have := keptTo_length kb k; show _ ≤ _; omega
                  have huo := O6.out
                  unfold OwnInts at huo
                  have hu2 := ownsRow_only huo (Only.alloc (Only.refl (fun _ => False) w6) (.cells #[.int .i64 (k : Int)] 3)) (fun _ _ e => e)
                  have hcase : ((k : Int) = L ∧ 0 ≤ a3) ∨ ((k : Int) = L ∧ ¬ 0 ≤ a3) ∨ ¬ (k : Int) = L := by omega
                  have HU2 := Lib.hid hu2
                  clear hkk huo hu2
                  rcases hcase with ⟨hl1, ht1⟩ | ⟨hl1, ht1⟩ | hl1
                  · have HT : Hid (pick1 P a3 L k = (fitO x n, cutB (fitS x n) a3.toNat)) := by
                      show _ = _
                      unfold pick1
                      rw [if_pos hl1, HPk.out, tear_cut _ _ _ ht1]
                    have KC := fun w => cut_any (fitS x n) a3.toNat w (by omega) (by omega)
                    rw [Int.toNat_of_nonneg ht1] at KC
                    have KC := Lib.hid KC
                    have hl2 : L = (k : Int) := hl1.symm
                    clear hl1
                    subst hl2
                    have hft : Hid (fitO x n + (cutB (fitS x n) a3.toNat).size ≤ n) := by
                      show _ ≤ _
                      rw [cutB_size]; omega
                    go_wp2_with (at_builtin
                                 refine wpList_append_rows rfl _ _ 37 rfl w6.heap.size 3 iI (.int .i64 0) 1 8 Try.underlying37 ZI.out.1 ZI.out.2.1 ZI.out.2.2.1 ZI.out.2.2.2 rfl (by decide) _ _ _ rfl (World.ownsRow_lit w6 #[.int .i64 (k : Int)] 1 (Nat.le_refl _) (by unfold maxLen; omega) (by simp)) _ u _ _ rfl HU2.out (by intro z hz; obtain ⟨q, _, rfl⟩ := List.mem_map.1 hz; rfl) (by have := hkl.out; unfold maxLen; simp; omega) (by have := hkl.out; simp; omega) (by simp) ?_
                                 intro v' w9 hown' hgrow
                                 have b9 : Below w6.heap.size w6 w9 := ((Below.refl w6.heap.size w6).alloc (Nat.le_refl _) _).grown hgrow (by simp) (fun g hg => by cases hg; exact Nat.le_refl _)
                                 have o9 : OwnInts w6.heap.size w9 v' ((k : Int) :: (keptTo kb k).reverse.map fun i : Nat => (i : Int)) := by
                                   unfold OwnInts
                                   simpa [Nat.add_comm] using hown'
                                 have O9 := Lib.hid o9
                                 have X9 := Lib.hid b9
                                 have NB9 := Lib.hid (NB6.out.below b9 NB6.out.lt)
                                 have K9 := Lib.hid (K6'.out.below b9 K6'.out.lt)
                                 have B9 := Lib.hid (B6'.out.trans (b9.mono D6'.out.2.1))
                                 clear hown' hgrow b9 o9 n0 n1 n2
                                 obtain ⟨n0, n1, n2⟩ := three_cells NB9.out)
                    refine (KC.out _).mono ?_
                    rintro e w9' ⟨rfl, rfl⟩
                    go_wp2_with fail
                    refine (put_any _ v2.heap.size n (fitO x n) Y (cutB (fitS x n) a3.toNat) K9.out HYL.out (hft.out) (by omega)).mono ?_
                    rintro e w10 ⟨rfl, hb10, o10⟩
                    have K10 := Lib.hid hb10
                    have X10 := Lib.hid o10
                    clear hb10 o10 n0 n1 n2
                    go_wp2_with fail
                    go_roundw
                    case rel =>
                      have hv9 : ∀ g, v'.ownBlock = some g → w6.heap.size ≤ g ∧ g < w9.heap.size := fun g e => O9.out.lt g e
                      have hv2 : v2.heap.size < w6.heap.size := K6'.out.lt
                      have d9 : DkL w.heap.size (v2.heap.size :: v'.ownBlock.toList) w9 p s6 := by
                        have d0 : DkL w.heap.size [v2.heap.size] w6 p s6 := D6'.out.sub (fun j hj => by simp at hj; subst hj; simp)
                        cases ho : v'.ownBlock with
                        | none => exact d0.below X9.out
                        | some g => exact (d0.add X9.out g (hv9 g ho).1 (hv9 g ho).2).sub (fun j hj => by simp at hj ⊢; omega)
                      refine ⟨v', k + 1, s6, lay Y (fitO x n, cutB (fitS x n) a3.toNat), rfl, hlt, by go_num, C6.out, U6.out, P6.out, ?_, d9.only X10.out (fun g e => .inl (by subst e; simp)), ?_, ?_, K10.out, ?_, ?_⟩
                      · rw [HKs.out]
                        unfold OwnInts
                        have := O9.out
                        unfold OwnInts at this
                        exact ownsRow_base (ownsRow_only this X10.out (fun g e e2 => by have := hv9 g e; omega)) (fun g e => by have := hv9 g e; omega)
                      · rw [HS.out, HT.out]
                      · rw [lay_length (by rw [HYL.out]; exact hft.out), HYL.out]
                      · intro e; have := hv9 _ e; omega
                      · exact B9.out.trans (X10.out.below (Nat.le_trans D6'.out.2.1 X9.out.size) (fun g e => by have := B2.out.size; omega))
                    case measure => simp [intOf]; omega
                  · have HT : Hid (pick1 P a3 L k = (fitO x n, fitS x n)) := by
                      show _ = _
                      unfold pick1
                      rw [if_pos hl1, HPk.out]
                      unfold DSt.tear
                      rw [if_neg ht1]
                    have hl2 : L = (k : Int) := hl1.symm
                    clear hl1
                    subst hl2
                    go_wp2_with (at_builtin
                                 refine wpList_append_rows rfl _ _ 37 rfl w6.heap.size 3 iI (.int .i64 0) 1 8 Try.underlying37 ZI.out.1 ZI.out.2.1 ZI.out.2.2.1 ZI.out.2.2.2 rfl (by decide) _ _ _ rfl (World.ownsRow_lit w6 #[.int .i64 (k : Int)] 1 (Nat.le_refl _) (by unfold maxLen; omega) (by simp)) _ u _ _ rfl HU2.out (by intro z hz; obtain ⟨q, _, rfl⟩ := List.mem_map.1 hz; rfl) (by have := hkl.out; unfold maxLen; simp; omega) (by have := hkl.out; simp; omega) (by simp) ?_
                                 intro v' w9 hown' hgrow
                                 have b9 : Below w6.heap.size w6 w9 := ((Below.refl w6.heap.size w6).alloc (Nat.le_refl _) _).grown hgrow (by simp) (fun g hg => by cases hg; exact Nat.le_refl _)
                                 have o9 : OwnInts w6.heap.size w9 v' ((k : Int) :: (keptTo kb k).reverse.map fun i : Nat => (i : Int)) := by
                                   unfold OwnInts
                                   simpa [Nat.add_comm] using hown'
                                 have O9 := Lib.hid o9
                                 have X9 := Lib.hid b9
                                 have NB9 := Lib.hid (NB6.out.below b9 NB6.out.lt)
                                 have K9 := Lib.hid (K6'.out.below b9 K6'.out.lt)
                                 have B9 := Lib.hid (B6'.out.trans (b9.mono D6'.out.2.1))
                                 clear hown' hgrow b9 o9 n0 n1 n2
                                 obtain ⟨n0, n1, n2⟩ := three_cells NB9.out)
                    refine (put_any _ v2.heap.size n (fitO x n) Y (fitS x n) K9.out HYL.out (hfit) (by omega)).mono ?_
                    rintro e w10 ⟨rfl, hb10, o10⟩
                    have K10 := Lib.hid hb10
                    have X10 := Lib.hid o10
                    clear hb10 o10 n0 n1 n2
                    go_wp2_with fail
                    go_roundw
                    case rel =>
                      have hv9 : ∀ g, v'.ownBlock = some g → w6.heap.size ≤ g ∧ g < w9.heap.size := fun g e => O9.out.lt g e
                      have hv2 : v2.heap.size < w6.heap.size := K6'.out.lt
                      have d9 : DkL w.heap.size (v2.heap.size :: v'.ownBlock.toList) w9 p s6 := by
                        have d0 : DkL w.heap.size [v2.heap.size] w6 p s6 := D6'.out.sub (fun j hj => by simp at hj; subst hj; simp)
                        cases ho : v'.ownBlock with
                        | none => exact d0.below X9.out
                        | some g => exact (d0.add X9.out g (hv9 g ho).1 (hv9 g ho).2).sub (fun j hj => by simp at hj ⊢; omega)
                      refine ⟨v', k + 1, s6, lay Y (fitO x n, fitS x n), rfl, hlt, by go_num, C6.out, U6.out, P6.out, ?_, d9.only X10.out (fun g e => .inl (by subst e; simp)), ?_, ?_, K10.out, ?_, ?_⟩
                      · rw [HKs.out]
                        unfold OwnInts
                        have := O9.out
                        unfold OwnInts at this
                        exact ownsRow_base (ownsRow_only this X10.out (fun g e e2 => by have := hv9 g e; omega)) (fun g e => by have := hv9 g e; omega)
                      · rw [HS.out, HT.out]
                      · rw [lay_length (by rw [HYL.out]; exact hfit), HYL.out]
                      · intro e; have := hv9 _ e; omega
                      · exact B9.out.trans (X10.out.below (Nat.le_trans D6'.out.2.1 X9.out.size) (fun g e => by have := B2.out.size; omega))
                    case measure => simp [intOf]; omega
                  · have HT : Hid (pick1 P a3 L k = (fitO x n, fitS x n)) := by
                      show _ = _
                      unfold pick1
                      rw [if_neg hl1, HPk.out]
                    go_wp2_with (at_builtin
                                 refine wpList_append_rows rfl _ _ 37 rfl w6.heap.size 3 iI (.int .i64 0) 1 8 Try.underlying37 ZI.out.1 ZI.out.2.1 ZI.out.2.2.1 ZI.out.2.2.2 rfl (by decide) _ _ _ rfl (World.ownsRow_lit w6 #[.int .i64 (k : Int)] 1 (Nat.le_refl _) (by unfold maxLen; omega) (by simp)) _ u _ _ rfl HU2.out (by intro z hz; obtain ⟨q, _, rfl⟩ := List.mem_map.1 hz; rfl) (by have := hkl.out; unfold maxLen; simp; omega) (by have := hkl.out; simp; omega) (by simp) ?_
                                 intro v' w9 hown' hgrow
                                 have b9 : Below w6.heap.size w6 w9 := ((Below.refl w6.heap.size w6).alloc (Nat.le_refl _) _).grown hgrow (by simp) (fun g hg => by cases hg; exact Nat.le_refl _)
                                 have o9 : OwnInts w6.heap.size w9 v' ((k : Int) :: (keptTo kb k).reverse.map fun i : Nat => (i : Int)) := by
                                   unfold OwnInts
                                   simpa [Nat.add_comm] using hown'
                                 have O9 := Lib.hid o9
                                 have X9 := Lib.hid b9
                                 have NB9 := Lib.hid (NB6.out.below b9 NB6.out.lt)
                                 have K9 := Lib.hid (K6'.out.below b9 K6'.out.lt)
                                 have B9 := Lib.hid (B6'.out.trans (b9.mono D6'.out.2.1))
                                 clear hown' hgrow b9 o9 n0 n1 n2
                                 obtain ⟨n0, n1, n2⟩ := three_cells NB9.out)
                    refine (put_any _ v2.heap.size n (fitO x n) Y (fitS x n) K9.out HYL.out (hfit) (by omega)).mono ?_
                    rintro e w10 ⟨rfl, hb10, o10⟩
                    have K10 := Lib.hid hb10
                    have X10 := Lib.hid o10
                    clear hb10 o10 n0 n1 n2
                    go_wp2_with fail
                    go_roundw
                    case rel =>
                      have hv9 : ∀ g, v'.ownBlock = some g → w6.heap.size ≤ g ∧ g < w9.heap.size := fun g e => O9.out.lt g e
                      have hv2 : v2.heap.size < w6.heap.size := K6'.out.lt
                      have d9 : DkL w.heap.size (v2.heap.size :: v'.ownBlock.toList) w9 p s6 := by
                        have d0 : DkL w.heap.size [v2.heap.size] w6 p s6 := D6'.out.sub (fun j hj => by simp at hj; subst hj; simp)
                        cases ho : v'.ownBlock with
                        | none => exact d0.below X9.out
                        | some g => exact (d0.add X9.out g (hv9 g ho).1 (hv9 g ho).2).sub (fun j hj => by simp at hj ⊢; omega)
                      refine ⟨v', k + 1, s6, lay Y (fitO x n, fitS x n), rfl, hlt, by go_num, C6.out, U6.out, P6.out, ?_, d9.only X10.out (fun g e => .inl (by subst e; simp)), ?_, ?_, K10.out, ?_, ?_⟩
                      · rw [HKs.out]
                        unfold OwnInts
                        have := O9.out
                        unfold OwnInts at this
                        exact ownsRow_base (ownsRow_only this X10.out (fun g e e2 => by have := hv9 g e; omega)) (fun g e => by have := hv9 g e; omega)
                      · rw [HS.out, HT.out]
                      · rw [lay_length (by rw [HYL.out]; exact hfit), HYL.out]
                      · intro e; have := hv9 _ e; omega
                      · exact B9.out.trans (X10.out.below (Nat.le_trans D6'.out.2.1 X9.out.size) (fun g e => by have := B2.out.size; omega))
                    case measure => simp [intOf]; omega
                · have hkf : kb k = false := by simpa using hkk
                  have HS : Hid (wantTo P a3 L kb X (k + 1) = Y) := by
                    show _ = _
                    rw [wantTo_no hkf, ← HY.out]
                  have HKs : Hid (keptTo kb (k + 1) = keptTo kb k) := by
                    show _ = _
                    rw [keptTo_succ, hkf]; simp
                  by_cases h2 : k < len2
                  · obtain ⟨ab2, ao2, rfl, hal2, g0⟩ := bools_get (HV.out.below (Nat.le_refl _) B6'.out) k h2
                    have g0' : w6.cell? ⟨ab2, ao2 + k, none⟩ = some (.bool false) := by
                      rw [HKB.out] at hkf
                      simp only at hkf
                      rw [hkf] at g0; exact g0
                    clear g0 hkk hkf
                    go_wp2_with fail
                    go_roundw
                    case rel => exact ⟨u, k + 1, s6, Y, rfl, hlt, by go_num, C6.out, U6.out, P6.out, by rw [HKs.out]; exact O6.out, D6'.out.drop, HS.out.symm, HYL.out, K6'.out, HN0.out, B6'.out⟩
                    case measure => simp [intOf]; omega
                  · clear hkk hkf
                    go_wp2_with fail
                    go_roundw
                    case rel => exact ⟨u, k + 1, s6, Y, rfl, hlt, by go_num, C6.out, U6.out, P6.out, by rw [HKs.out]; exact O6.out, D6'.out.drop, HS.out.symm, HYL.out, K6'.out, HN0.out, B6'.out⟩
                    case measure => simp [intOf]; omega
              · obtain rfl : k = m := by omega
                have hcs : ¬ k < len1 ∨ (k < len1 ∧ ¬ k < 20) := by omega
                obtain ⟨A, c, hu, _, _⟩ := ownNats_form HO.out
                rw [List.length_reverse] at hu
                subst hu
                have HI := Lib.hid (show Ints wr.heap.size wr (.slice A (keptTo kb k).length c) ((keptTo kb k).reverse.map fun i : Nat => (i : Int)) from by
                  have hO2 := HO.out
                  have := ownNats_ints (ks := (keptTo kb k).reverse) (A := A) (c := c) (by rw [List.length_reverse]; exact hO2)
                  rwa [List.length_reverse] at this)
                have hkl : Hid ((keptTo kb k).length ≤ 20) := by have := keptTo_length kb k; show _ ≤ _; omega
                have CW : Hid (s.crash ((keptTo kb k).reverse.map fun i : Nat => (i : Int)) a3 = { off := false, left := 0, dur := Y, vis := Y, pend := [] }) := by
                  have hp : s.pend = P := by rw [HPe.out, List.take_of_length_le (by rw [HPL.out]; exact Nat.le_refl _)]
                  have := crash_want s kb k (by rw [hp, HPL.out]) a3 _ rfl
                  rw [hp, HDu.out, ← HLE.out, ← HY.out] at this
                  exact this
                have CC : Hid (Calm n { off := false, left := 0, dur := Y, vis := Y, pend := [] }) := ⟨rfl, rfl, HYL.out, HYL.out⟩
                clear hc2 hce
                rcases hcs with h1 | ⟨h1, h2⟩
                all_goals
                  go_wp2_with fail
                  refine (HD.out.crash A (keptTo kb k).length c _ HI.out (by have := hkl.out; simp; omega) a3 (by omega)).mono ?_
                  rintro e w9 ⟨rfl, t9⟩
                  rw [CW.out] at t9
                  have D9 := Lib.hid t9.1
                  have B9 := Lib.hid (t9.below HB.out HD.out.2.1)
                  have K9 := t9.blk HK.out (by simp)
                  clear t9
                  have hcv := run_string K9 HYL.out
                  clear K9
                  go_wp2_with fail
                  refine (D9.out.read 0 n).mono ?_
                  rintro e w9' ⟨rfl, rfl⟩
                  rw [CC.out.read_all]
                  go_wp2_with fail
                  go_ret
                  exact ⟨rfl, B9.out⟩
end Go.Proofs.Ytacincpecdkhiaa
