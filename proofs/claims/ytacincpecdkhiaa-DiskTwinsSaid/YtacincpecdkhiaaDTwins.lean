/-
  DiskTwins, walked: three disks beside one another.
-/
import Derived.Test.YtacincpecdkhiaaDL
import Derived.Test.YtacincpecdkhiaaFloat
namespace Go.Proofs.Ytacincpecdkhiaa
open Go.RowKit
set_option linter.unusedVariables false

/-- Three disks, each in blocks of its own, from block B on and apart from the blocks of a list l. -/
def Dk3 (B : Nat) (l : List Nat) (w : World) (x y z : Nat × DSt) : Prop :=
  (∃ F G H, Dk w x.1 F x.2 ∧ Dk w y.1 G y.2 ∧ Dk w z.1 H z.2 ∧ (∀ k, F k → (B ≤ k ∧ k ∉ l) ∧ ¬ G k ∧ ¬ H k) ∧ (∀ k, G k → (B ≤ k ∧ k ∉ l) ∧ ¬ H k) ∧ ∀ k, H k → (B ≤ k ∧ k ∉ l)) ∧ B ≤ w.heap.size ∧ ∀ j ∈ l, j < w.heap.size
section
variable {B : Nat} {l : List Nat} {w w' w0 : World} {x y z : Nat × DSt}
theorem Dk3.rot (h : Dk3 B l w x y z) : Dk3 B l w y z x := by
  obtain ⟨⟨F, G, H, d1, d2, d3, h1, h2, h3⟩, hB⟩ := h
  exact ⟨⟨G, H, F, d2, d3, d1, fun k e => ⟨(h2 k e).1, (h2 k e).2, fun f => (h1 k f).2.1 e⟩, fun k e => ⟨h3 k e, fun f => (h1 k f).2.2 e⟩, fun k e => (h1 k e).1⟩, hB⟩
theorem Dk3.below (h : Dk3 B l w x y z) (hb : Below w.heap.size w w') : Dk3 B l w' x y z := by
  obtain ⟨⟨F, G, H, d1, d2, d3, hh⟩, hB, hl⟩ := h
  exact ⟨⟨F, G, H, d1.below hb, d2.below hb, d3.below hb, hh⟩, Nat.le_trans hB hb.size, fun j hj => Nat.lt_of_lt_of_le (hl j hj) hb.size⟩
theorem Dk3.dk (h : Dk3 B l w x y z) : DkB B w x.1 x.2 := by
  obtain ⟨⟨F, G, H, d1, d2, d3, h1, _⟩, hB⟩ := h
  exact ⟨F, d1, fun k e => (h1 k e).1.1⟩
theorem Dk3.new {a b c : Nat × DSt} {F : Nat → Prop} (hB : B ≤ w.heap.size) (h1 : Dk w a.1 F a.2) (hF : ∀ k, F k → B ≤ k) {w2 w3 : World} {G H : Nat → Prop} (b2 : Below w.heap.size w w2) (h2 : Dk w2 b.1 G b.2) (hG : ∀ k, G k → w.heap.size ≤ k) (b3 : Below w2.heap.size w2 w3) (h3 : Dk w3 c.1 H c.2) (hH : ∀ k, H k → w2.heap.size ≤ k) : Dk3 B [] w3 a b c := by
  have l1 := h1.lt
  have l2 := h2.lt
  have s2 := b2.size
  exact ⟨⟨F, G, H, (h1.below b2).below b3, h2.below b3, h3, fun k e => ⟨⟨hF k e, by simp⟩, fun f => by have := hG k f; have := l1 k e; omega, fun f => by have := hH k f; have := l1 k e; omega⟩, fun k e => ⟨⟨by have := hG k e; omega, by simp⟩, fun f => by have := hH k f; have := l2 k e; omega⟩, fun k e => ⟨by have := hH k e; omega, by simp⟩⟩, by have := b3.size; omega, by simp⟩
theorem Dk3.add (h : Dk3 B l w x y z) (hb : Below w.heap.size w w') (g : Nat) (hg : w.heap.size ≤ g) (hg2 : g < w'.heap.size) : Dk3 B (g :: l) w' x y z := by
  obtain ⟨⟨F, G, H, d1, d2, d3, h1, h2, h3⟩, hB, hl⟩ := h
  have one : ∀ {p s F} (_ : Dk w p F s) k, F k → k ∉ l → k ∉ g :: l := fun d k e hk hm => by
    rcases List.mem_cons.1 hm with rfl | hm
    · have := d.lt _ e; omega
    · exact hk hm
  refine ⟨⟨F, G, H, d1.below hb, d2.below hb, d3.below hb, fun k e => ⟨⟨(h1 k e).1.1, one d1 k e (h1 k e).1.2⟩, (h1 k e).2⟩, fun k e => ⟨⟨(h2 k e).1.1, one d2 k e (h2 k e).1.2⟩, (h2 k e).2⟩, fun k e => ⟨(h3 k e).1, one d3 k e (h3 k e).2⟩⟩, Nat.le_trans hB hb.size, fun j hj => ?_⟩
  rcases List.mem_cons.1 hj with rfl | hj
  · exact hg2
  · exact Nat.lt_of_lt_of_le (hl j hj) hb.size
theorem Dk3.drop {g : Nat} (h : Dk3 B (g :: l) w x y z) : Dk3 B l w x y z := by
  obtain ⟨⟨F, G, H, d1, d2, d3, h1, h2, h3⟩, hB, hl⟩ := h
  have one : ∀ k, k ∉ g :: l → k ∉ l := fun k hk hm => hk (List.mem_cons_of_mem _ hm)
  exact ⟨⟨F, G, H, d1, d2, d3, fun k e => ⟨⟨(h1 k e).1.1, one k (h1 k e).1.2⟩, (h1 k e).2⟩, fun k e => ⟨⟨(h2 k e).1.1, one k (h2 k e).1.2⟩, (h2 k e).2⟩, fun k e => ⟨(h3 k e).1, one k (h3 k e).2⟩⟩, hB, fun j hj => hl j (List.mem_cons_of_mem _ hj)⟩
/-- What a call of the first disk leaves. -/
def Step3 (B : Nat) (l : List Nat) (w : World) (x y z : Nat × DSt) (w' : World) : Prop := Dk3 B l w' x y z ∧ Only (fun k => B ≤ k ∧ k ∉ l) w w'
theorem Step3.below (h : Step3 B l w x y z w') (h0 : Below B w0 w) (hB : B ≤ w.heap.size) : Below B w0 w' := h0.trans (h.2.below hB fun k e => e.1)
theorem Step3.blk {g : Nat} {t : TypeId} {cs : Array Value} (h : Step3 B l w x y z w') (hb : Blk w g t cs) (hg : g ∈ l) : Blk w' g t cs := hb.only h.2 fun e => e.2 hg
theorem Dk3.call {f : FuncId} {args : Array Value} {s' : DSt} {e0 : Ending} (h : Dk3 B l w x y z) (hc : ∀ F, Dk w x.1 F x.2 → Calls Try.prog f args w fun e w' => e = e0 ∧ Step w x.1 F s' w') : Calls Try.prog f args w fun e w' => e = e0 ∧ Step3 B l w (x.1, s') y z w' := by
  obtain ⟨⟨F, G, H, d1, d2, d3, h1, h2, h3⟩, hB, hl⟩ := h
  refine (hc F d1).mono fun e w' ⟨he, F', d, o, f⟩ => ⟨he, ⟨⟨F', G, H, d, d2.only o fun k e e2 => (h1 k e2).2.1 e, d3.only o fun k e e2 => (h1 k e2).2.2 e, fun k e => ?_, h2, h3⟩, Nat.le_trans hB o.size, fun j hj => Nat.lt_of_lt_of_le (hl j hj) o.size⟩, o.mono fun k _ e => (h1 k e).1⟩
  rcases f k e with x | x
  · exact h1 k x
  · exact ⟨⟨by omega, fun hm => by have := hl k hm; omega⟩, fun g => by have := d2.lt k g; omega, fun g => by have := d3.lt k g; omega⟩
theorem Dk3.write (h : Dk3 B l w x y z) (o : Int) (t : ByteArray) (hl : x.2.pend.length ≤ 1000000) : Calls Try.prog 21 #[.pointer (some ⟨x.1, 0, none⟩), .int .i64 o, .string t] w fun e w' => e = .returned (.int .i64 (x.2.write o t).1) ∧ Step3 B l w (x.1, (x.2.write o t).2) y z w' := h.call fun F hd => hd.write o t hl
theorem Dk3.sync (h : Dk3 B l w x y z) : Calls Try.prog 23 #[.pointer (some ⟨x.1, 0, none⟩)] w fun e w' => e = .returned (.int .i64 x.2.sync.1) ∧ Step3 B l w (x.1, x.2.sync.2) y z w' := h.call fun F hd => hd.sync
theorem Dk3.crash (h : Dk3 B l w x y z) (torn : Int) (ht : torn ≤ 9223372036854775807) :
    Calls Try.prog 25 #[.pointer (some ⟨x.1, 0, none⟩), .slice none 0 0, .int .i64 torn] w fun e w' => e = .returned (.int .i64 0) ∧ Step3 B l w (x.1, x.2.crash [] torn) y z w' := h.call fun F hd => hd.crash none 0 0 [] (nil_ints _ _) (by simp) torn ht
end

set_option maxRecDepth 100000 in
set_option maxHeartbeats 40000000 in
theorem diskTwins_any (a0 : Int) (a1 : Option Addr) (len1 cap1 : Nat) (x1 : List WP) (w : World) (w0 : -9223372036854775808 ≤ a0 ∧ a0 ≤ 9223372036854775807) (w1 : WPs w a1 len1 cap1 x1) :
    Calls Try.prog 11 #[.int .i64 a0, .slice a1 len1 cap1] w fun e w' => e = .returned (.bool true) ∧ Below w.heap.size w w' := by
  have hcap := w1.hcap
  have hmax := w1.hmax
  unfold maxLen at hmax
  have HW := Lib.hid w1
  clear w1
  have p0 := pickI_nonneg a0 100 (by omega)
  have p1 := pickI_lt a0 100 (by omega)
  obtain ⟨n, hn⟩ : ∃ n : Nat, 1 + pickI a0 100 = (n : Int) := ⟨(1 + pickI a0 100).toNat, by omega⟩
  have hn1 : 1 ≤ n := by omega
  have hn2 : n ≤ 100 := by omega
  have HN := Lib.hid hn
  clear hn
  go_enter Try.func11, Try.ntmps11
  go_wp2_with fail
  refine (sane_any w).mono ?_
  rintro e v1 ⟨rfl, b1⟩
  have B1 := Lib.hid b1; clear b1
  go_wp2_with fail
  refine (pick_any a0 100 v1 w0.1 w0.2 (by omega) (by omega)).mono ?_
  rintro e v1' ⟨rfl, rfl⟩
  go_wp2_with fail
  rw [HN.out]
  clear p0 p1
  refine (Dk.new n v1 hn1 (by omega)).mono ?_
  rintro e v2 ⟨pc, F, rfl, d2, f2, b2⟩
  go_wp2_with fail
  refine (Dk.new n v2 hn1 (by omega)).mono ?_
  rintro e v3 ⟨pd, G, rfl, d3, f3, b3⟩
  go_wp2_with fail
  refine (Dk.new n v3 hn1 (by omega)).mono ?_
  rintro e v4 ⟨pa, H, rfl, d4, f4, b4⟩
  have M4 : Hid (Dk3 w.heap.size [] v4 (pc, DSt.new n) (pd, DSt.new n) (pa, DSt.new n)) :=
    Dk3.new (w := v2) (by have := B1.out.size; have := b2.size; omega) d2 (fun k e => Nat.le_trans B1.out.size (f2 k e)) b3 d3 f3 b4 d4 f4
  have B4 := Lib.hid (((B1.out.trans (b2.mono B1.out.size)).trans (b3.mono (by have := B1.out.size; have := b2.size; omega))).trans (b4.mono (by have := B1.out.size; have := b2.size; have := b3.size; omega)))
  clear d2 f2 b2 d3 f3 b3 d4 f4 b4
  go_wp2_with fail
  go_loopw [12] (fun i wr => ∃ (k : Nat) (s r : DSt), k ≤ len1 ∧ k ≤ 30 ∧ i = .int .i64 k ∧ Dk3 w.heap.size [] wr (pc, s) (pd, r) (pa, s) ∧ Calm n s ∧ Calm n r ∧ s.pend.length ≤ k ∧ r.pend.length ≤ k ∧ Below w.heap.size w wr) (fun i _ => 30 - (intOf i).toNat)
  case atStart => exact ⟨0, DSt.new n, DSt.new n, Nat.zero_le _, Nat.zero_le _, rfl, M4.out, Calm.new n, Calm.new n, Nat.le_refl _, Nat.le_refl _, B4.out⟩
  case round =>
    obtain ⟨k, s, r, hk, hk2, rfl, hD, hC, hC2, hP, hP2, hB⟩ := hrel
    have HD := Lib.hid hD; have HC := Lib.hid hC; have HC2 := Lib.hid hC2; have HB := Lib.hid hB
    clear hD hC hC2 hB
    by_cases hgo : k < len1 ∧ k < 30
    · obtain ⟨hlt, hlt2⟩ := hgo
      have hxl : k < x1.length := by rw [HW.out.hlen]; exact hlt
      obtain ⟨ab, ao, rfl, hal, g0, g1, g2⟩ := (HW.out.below (Nat.le_refl _) HB.out).get k hxl
      obtain ⟨x, hx⟩ : ∃ x, x = x1[k] := ⟨_, rfl⟩
      have hxm : x ∈ x1 := hx ▸ List.getElem_mem hxl
      rw [← hx] at g0 g1 g2
      have HX := Lib.hid hx
      clear hx
      have hxo := HW.out.hoff x hxm
      have hxs := HW.out.hsize x hxm
      have hfit := fit_fits x n
      by_cases hpar : (k : Int) % 2 = 1
      · go_wp2_with fail
        refine (fits_any x n wr hxo hxs (by omega)).mono ?_
        rintro e w3 ⟨rfl, b3⟩
        have B3 := Lib.hid (HB.out.trans (b3.mono HB.out.size))
        have D3 := Lib.hid (HD.out.below b3)
        have X3 := Lib.hid b3
        clear b3 g0 g1 g2
        obtain ⟨w4, hw4⟩ : ∃ w4, w4 = w3.alloc (.cells #[.int .i64 (fitO x n : Int), .string (fitS x n), .bool x.sync] 53) := ⟨_, rfl⟩
        have b4 : Below w3.heap.size w3 w4 := by rw [hw4]; exact (Below.refl w3.heap.size w3).alloc (Nat.le_refl _) _
        have NB : Hid (Blk w4 w3.heap.size 53 #[.int .i64 (fitO x n : Int), .string (fitS x n), .bool x.sync]) := by rw [hw4]; exact Blk.new w3 _ _
        have D4 := Lib.hid (D3.out.add b4 w3.heap.size (Nat.le_refl _) (by rw [hw4]; simp))
        have B4a := Lib.hid (B3.out.trans (b4.mono D3.out.2.1))
        have X4 := Lib.hid (X3.out.trans (b4.mono X3.out.size))
        have HW4 := Lib.hid hw4
        have L3 := Lib.hid X3.out.size
        clear hw4 b4
        go_wp2_with fail
        rw [← HW4.out]
        have n012 := three_cells NB.out
        obtain ⟨n0, n1, n2⟩ := n012
        refine (D4.out.rot.write (fitO x n) (fitS x n) (by show r.pend.length ≤ _; omega)).mono ?_
        rintro e w6 ⟨rfl, t6⟩
        simp only at t6 ⊢
        rw [HC2.out.write_eq _ _ hfit] at t6 ⊢
        have NB6 := Lib.hid (t6.blk NB.out (by simp))
        have D6 := Lib.hid t6.1
        have B6 := Lib.hid (t6.below B4a.out D4.out.2.1)
        have C6 := Lib.hid (HC2.out.wrote _ _ hfit)
        have e6 : (r.wrote (fitO x n) (fitS x n)).pend.length ≤ k + 1 := by rw [wrote_pend]; simp; exact hP2
        clear t6 n0 n1 n2 NB hP2
        generalize r.wrote (fitO x n) (fitS x n) = r6 at *
        obtain ⟨n0, n1, n2⟩ := three_cells NB6.out
        generalize x.sync = y at *
        by_cases h7 : (fitO x n : Int) % 7 = 3
        · cases y
          · go_wp2_with fail
            refine (D6.out.crash 1 (by omega)).mono ?_
            rintro e w8 ⟨rfl, t8⟩
            simp only at t8 ⊢
            rw [crash_none] at t8
            have D8 := Lib.hid t8.1.rot.rot
            have B8 := Lib.hid (t8.below B6.out D6.out.2.1)
            have C8 : Hid (Calm n { off := false, left := 0, dur := (r6).dur, vis := (r6).dur, pend := [] }) := ⟨rfl, rfl, C6.out.dl, C6.out.dl⟩
            clear t8
            go_wp2_with fail
            go_roundw
            case rel => exact ⟨k + 1, s, _, hlt, hlt2, by go_num, D8.out.drop, HC.out, C8.out, by omega, Nat.zero_le _, B8.out⟩
            case measure => simp [intOf]; omega
          · go_wp2_with fail
            refine D6.out.sync.mono ?_
            rintro e w7 ⟨rfl, t7⟩
            simp only at t7 ⊢
            rw [C6.out.sync_eq] at t7 ⊢
            have NB7 := Lib.hid (t7.blk NB6.out (by simp))
            have D7 := Lib.hid t7.1
            have B7 := Lib.hid (t7.below B6.out D6.out.2.1)
            have C7 := Lib.hid C6.out.synced
            clear t7 n0 n1 n2
            obtain ⟨n0, n1, n2⟩ := three_cells NB7.out
            go_wp2_with fail
            refine (D7.out.crash 1 (by omega)).mono ?_
            rintro e w8 ⟨rfl, t8⟩
            simp only at t8 ⊢
            rw [crash_none] at t8
            have D8 := Lib.hid t8.1.rot.rot
            have B8 := Lib.hid (t8.below B7.out D7.out.2.1)
            have C8 : Hid (Calm n { off := false, left := 0, dur := (r6.synced).dur, vis := (r6.synced).dur, pend := [] }) := ⟨rfl, rfl, C7.out.dl, C7.out.dl⟩
            clear t8
            go_wp2_with fail
            go_roundw
            case rel => exact ⟨k + 1, s, _, hlt, hlt2, by go_num, D8.out.drop, HC.out, C8.out, by omega, Nat.zero_le _, B8.out⟩
            case measure => simp [intOf]; omega
        · cases y
          · go_wp2_with fail
            go_roundw
            case rel => exact ⟨k + 1, s, r6, hlt, hlt2, by go_num, D6.out.rot.rot.drop, HC.out, C6.out, by omega, e6, B6.out⟩
            case measure => simp [intOf]; omega
          · go_wp2_with fail
            refine D6.out.sync.mono ?_
            rintro e w7 ⟨rfl, t7⟩
            simp only at t7 ⊢
            rw [C6.out.sync_eq] at t7 ⊢
            have NB7 := Lib.hid (t7.blk NB6.out (by simp))
            have D7 := Lib.hid t7.1
            have B7 := Lib.hid (t7.below B6.out D6.out.2.1)
            have C7 := Lib.hid C6.out.synced
            clear t7 n0 n1 n2
            obtain ⟨n0, n1, n2⟩ := three_cells NB7.out
            go_wp2_with fail
            go_roundw
            case rel => exact ⟨k + 1, s, r6.synced, hlt, hlt2, by go_num, D7.out.rot.rot.drop, HC.out, C7.out, by omega, Nat.zero_le _, B7.out⟩
            case measure => simp [intOf]; omega
      · go_wp2_with fail
        refine (fits_any x n wr hxo hxs (by omega)).mono ?_
        rintro e w3 ⟨rfl, b3⟩
        have B3 := Lib.hid (HB.out.trans (b3.mono HB.out.size))
        have D3 := Lib.hid (HD.out.below b3)
        have X3 := Lib.hid b3
        clear b3 g0 g1 g2
        obtain ⟨w4, hw4⟩ : ∃ w4, w4 = w3.alloc (.cells #[.int .i64 (fitO x n : Int), .string (fitS x n), .bool x.sync] 53) := ⟨_, rfl⟩
        have b4 : Below w3.heap.size w3 w4 := by rw [hw4]; exact (Below.refl w3.heap.size w3).alloc (Nat.le_refl _) _
        have NB : Hid (Blk w4 w3.heap.size 53 #[.int .i64 (fitO x n : Int), .string (fitS x n), .bool x.sync]) := by rw [hw4]; exact Blk.new w3 _ _
        have D4 := Lib.hid (D3.out.add b4 w3.heap.size (Nat.le_refl _) (by rw [hw4]; simp))
        have B4a := Lib.hid (B3.out.trans (b4.mono D3.out.2.1))
        have X4 := Lib.hid (X3.out.trans (b4.mono X3.out.size))
        have HW4 := Lib.hid hw4
        have L3 := Lib.hid X3.out.size
        clear hw4 b4
        go_wp2_with fail
        rw [← HW4.out]
        have n012 := three_cells NB.out
        obtain ⟨n0, n1, n2⟩ := n012
        obtain ⟨w5, hw5⟩ : ∃ w5, w5 = w4.drew := ⟨_, rfl⟩
        have D5 := Lib.hid (show Dk3 _ _ w5 _ _ _ from hw5 ▸ D4.out.below ((Below.refl _ w4).drew))
        have B5 := Lib.hid (show Below w.heap.size w w5 from hw5 ▸ B4a.out.drew)
        have NB5 := Lib.hid (show Blk w5 w3.heap.size 53 #[.int .i64 (fitO x n : Int), .string (fitS x n), .bool x.sync] from hw5 ▸ NB.out.drew)
        have HY5 := Lib.hid hw5
        generalize hsy : x.sync = y at *
        clear n0 n1 n2 NB hw5
        cases y
        all_goals
          refine wp_region_perm (fun w' => Blk w' w3.heap.size 53 #[.int .i64 (fitO x n : Int), .string (fitS x n), .bool _]) [(0, true), (1, true), (2, true), (3, true), (4, true), (6, true), (7, true), (8, true), (9, true), (10, true), (5, false), (11, false), (12, false), (13, false), (14, false), (15, false), (16, false), (17, true), (19, true), (18, false), (20, false), (21, false), (22, false), (23, false)] _ (by kernel_rfl) rfl (by kernel_rfl) (by have := NB5.out; rw [HY5.out] at this; exact this) ?_
          change nList _ _ _ _ _ _ w4.drew
          rw [← HY5.out]
          refine nList_float (.pointer (some ⟨pc, 0, none⟩)) (fun w' hI => ?_) ?_
          · obtain ⟨n0, n1, n2⟩ := three_cells hI
            exact .inl ⟨by go_simp, .inl (by go_simp)⟩
          refine nList_float (.pointer (some ⟨w3.heap.size, 0, none⟩)) (fun w' hI => ?_) ?_
          · obtain ⟨n0, n1, n2⟩ := three_cells hI
            exact .inl ⟨by go_simp, .inl (by go_simp)⟩
          refine nList_float (.int .i64 (fitO x n : Int)) (fun w' hI => ?_) ?_
          · obtain ⟨n0, n1, n2⟩ := three_cells hI
            exact .inl ⟨by go_simp, .inl (by go_simp)⟩
          refine nList_float (.pointer (some ⟨w3.heap.size, 1, none⟩)) (fun w' hI => ?_) ?_
          · obtain ⟨n0, n1, n2⟩ := three_cells hI
            exact .inl ⟨by go_simp, .inl (by go_simp)⟩
          refine nList_float (.string (fitS x n)) (fun w' hI => ?_) ?_
          · obtain ⟨n0, n1, n2⟩ := three_cells hI
            exact .inl ⟨by go_simp, .inl (by go_simp)⟩
          refine nList_float (.pointer (some ⟨pa, 0, none⟩)) (fun w' hI => ?_) ?_
          · obtain ⟨n0, n1, n2⟩ := three_cells hI
            exact .inl ⟨by go_simp, .inl (by go_simp)⟩
          refine nList_float (.pointer (some ⟨w3.heap.size, 0, none⟩)) (fun w' hI => ?_) ?_
          · obtain ⟨n0, n1, n2⟩ := three_cells hI
            exact .inl ⟨by go_simp, .inl (by go_simp)⟩
          refine nList_float (.int .i64 (fitO x n : Int)) (fun w' hI => ?_) ?_
          · obtain ⟨n0, n1, n2⟩ := three_cells hI
            exact .inl ⟨by go_simp, .inl (by go_simp)⟩
          refine nList_float (.pointer (some ⟨w3.heap.size, 1, none⟩)) (fun w' hI => ?_) ?_
          · obtain ⟨n0, n1, n2⟩ := three_cells hI
            exact .inl ⟨by go_simp, .inl (by go_simp)⟩
          refine nList_float (.string (fitS x n)) (fun w' hI => ?_) ?_
          · obtain ⟨n0, n1, n2⟩ := three_cells hI
            exact .inl ⟨by go_simp, .inl (by go_simp)⟩
          refine nList_step (fun K hK => ?_)
          unfold nOp nUpon
          go_simp
          refine (D5.out.write (fitO x n) (fitS x n) (by show s.pend.length ≤ _; omega)).mono ?_
          rintro e w6 ⟨rfl, t6⟩
          simp only at t6 ⊢
          rw [HC.out.write_eq _ _ hfit] at t6 ⊢
          have NB6 := Lib.hid (t6.blk NB5.out (by simp))
          have D6 := Lib.hid t6.1
          have B6 := Lib.hid (t6.below B5.out D5.out.2.1)
          have C6 := Lib.hid (HC.out.wrote _ _ hfit)
          clear t6
          refine ⟨_, rfl, hK _ _ NB6.out ?_⟩
          clear hK K
          refine nList_step (fun K hK => ?_)
          unfold nOp nUpon
          go_simp
          refine (D6.out.rot.rot.write (fitO x n) (fitS x n) (by show s.pend.length ≤ _; omega)).mono ?_
          rintro e w7 ⟨rfl, t7⟩
          simp only at t7 ⊢
          rw [HC.out.write_eq _ _ hfit] at t7 ⊢
          have NB7 := Lib.hid (t7.blk NB6.out (by simp))
          have D7 := Lib.hid t7.1.rot
          have B7 := Lib.hid (t7.below B6.out D6.out.2.1)
          have e6 : (s.wrote (fitO x n) (fitS x n)).pend.length ≤ k + 1 := by rw [wrote_pend]; simp; exact hP
          refine ⟨_, rfl, hK _ _ NB7.out ?_⟩
          clear hK K t7 D6
          generalize s.wrote (fitO x n) (fitS x n) = s6 at *
          obtain ⟨n0, n1, n2⟩ := three_cells NB7.out
          refine nList_step (fun K hK => ?_)
          unfold nOp nUpon
          go_simp
          refine hK _ _ NB7.out ?_
          clear hK K
          refine nList_step (fun K hK => ?_)
          unfold nOp nUpon
          go_simp
          refine hK _ _ NB7.out ?_
          clear hK K
          refine nList_step (fun K hK => ?_)
          unfold nOp nUpon
          go_simp
          refine hK _ _ NB7.out ?_
          clear hK K
          refine nList_step (fun K hK => ?_)
          unfold nOp nUpon
          go_simp
          refine hK _ _ NB7.out ?_
          clear hK K
          refine nList_step (fun K hK => ?_)
          unfold nOp nUpon
          go_simp
          refine hK _ _ NB7.out ?_
          clear hK K
        · refine nList_float (undef) (fun w' hI => .inr ⟨by go_simp, rfl⟩) ?_
          refine nList_float (undef) (fun w' hI => .inr ⟨by go_simp, rfl⟩) ?_
          refine nList_step (fun K hK => ?_)
          unfold nOp nUpon
          go_simp
          refine hK _ _ NB7.out ?_
          clear hK K
          refine nList_step (fun K hK => ?_)
          unfold nOp nUpon
          go_simp
          refine hK _ _ NB7.out ?_
          clear hK K
          refine nList_step (fun K hK => ?_)
          unfold nOp nUpon
          go_simp
          refine hK _ _ NB7.out ?_
          clear hK K
          refine nList_step (fun K hK => ?_)
          unfold nOp nUpon
          go_simp
          refine hK _ _ NB7.out ?_
          clear hK K
          refine nList_step (fun K hK => ?_)
          unfold nOp nUpon
          go_simp
          refine hK _ _ NB7.out ?_
          clear hK K
          refine nList_nil ?_
          go_wp2_with fail
          go_roundw
          case rel => exact ⟨k + 1, s6, r, hlt, hlt2, by go_num, D7.out.drop, C6.out, HC2.out, e6, by omega, B7.out⟩
          case measure => simp [intOf]; omega
        · refine nList_float (.pointer (some ⟨pc, 0, none⟩)) (fun w' hI => ?_) ?_
          · obtain ⟨n0, n1, n2⟩ := three_cells hI
            exact .inl ⟨by go_simp, .inl (by go_simp)⟩
          refine nList_float (.pointer (some ⟨pa, 0, none⟩)) (fun w' hI => ?_) ?_
          · obtain ⟨n0, n1, n2⟩ := three_cells hI
            exact .inl ⟨by go_simp, .inl (by go_simp)⟩
          refine nList_step (fun K hK => ?_)
          unfold nOp nUpon
          go_simp
          refine (D7.out.sync).mono ?_
          rintro e w8 ⟨rfl, t8⟩
          simp only at t8 ⊢
          rw [C6.out.sync_eq] at t8 ⊢
          have NB8 := Lib.hid (t8.blk NB7.out (by simp))
          have D8 := Lib.hid t8.1
          have B8 := Lib.hid (t8.below B7.out D7.out.2.1)
          refine ⟨_, rfl, hK _ _ NB8.out ?_⟩
          clear hK K t8
          refine nList_step (fun K hK => ?_)
          unfold nOp nUpon
          go_simp
          refine (D8.out.rot.rot.sync).mono ?_
          rintro e w9 ⟨rfl, t9⟩
          simp only at t9 ⊢
          rw [C6.out.sync_eq] at t9 ⊢
          have NB9 := Lib.hid (t9.blk NB8.out (by simp))
          have D9 := Lib.hid t9.1.rot
          have B9 := Lib.hid (t9.below B8.out D8.out.2.1)
          have C9 := Lib.hid C6.out.synced
          refine ⟨_, rfl, hK _ _ NB9.out ?_⟩
          clear hK K t9
          refine nList_step (fun K hK => ?_)
          unfold nOp nUpon
          go_simp
          refine hK _ _ NB9.out ?_
          clear hK K
          refine nList_step (fun K hK => ?_)
          unfold nOp nUpon
          go_simp
          refine hK _ _ NB9.out ?_
          clear hK K
          refine nList_step (fun K hK => ?_)
          unfold nOp nUpon
          go_simp
          refine hK _ _ NB9.out ?_
          clear hK K
          refine nList_nil ?_
          go_wp2_with fail
          go_roundw
          case rel => exact ⟨k + 1, s6.synced, r, hlt, hlt2, by go_num, D9.out.drop, C9.out, HC2.out, Nat.zero_le _, by omega, B9.out⟩
          case measure => simp [intOf]; omega
    · have hcs : (¬ k < len1) ∨ (k < len1 ∧ ¬ k < 30) := by omega
      clear hgo
      rcases hcs with h1 | ⟨h1, h2⟩
      all_goals
        go_wp2_with fail
        refine (HD.out.dk.read 0 n).mono ?_
        rintro e w6 ⟨rfl, rfl⟩
        simp only
        rw [HC.out.read_all]
        go_wp2_with fail
        refine (HD.out.rot.rot.dk.read 0 n).mono ?_
        rintro e w6 ⟨rfl, rfl⟩
        simp only
        rw [HC.out.read_all]
        go_wp2_with fail
        refine HD.out.dk.pending.mono ?_
        rintro e w6 ⟨rfl, rfl⟩
        go_wp2_with fail
        refine HD.out.rot.rot.dk.pending.mono ?_
        rintro e w6 ⟨rfl, rfl⟩
        go_wp2_with fail
        go_ret
        exact ⟨rfl, HB.out⟩
end Go.Proofs.Ytacincpecdkhiaa
