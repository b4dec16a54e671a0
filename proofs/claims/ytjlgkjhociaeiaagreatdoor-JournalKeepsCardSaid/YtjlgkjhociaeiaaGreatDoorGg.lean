/-
  Joined by program out of: Is, Rescue, Open0.
-/
import Derived.Test.YtjlgkjhociaeiaaGreatDoorGf
import Derived.Test.YtjlgkjhociaeiaaGreatDoorGa
import Derived.WalkKit
import Derived.LaidEql
import Derived.Stop.Asserts
import Derived.Tactics2
import Derived.Defers
import Derived.Recover
import Derived.Laws.Pointers
namespace Go.Proofs.YtjlgkjhociaeiaaGreatDoor
open Go.RowKit Go.Extern.Stop Go.Stop Go.Extern
set_option linter.unusedVariables false

noncomputable def ng : Nat := Tryz.src.globals.size
theorem isTypeOf (v : Value) (w : World) : (Extern.ReflectliteType.typeOf #[.iface 222 v]).run Tryz.prog w = .ok (.iface 171 (.agg #[.pointer (some ⟨ng, 222, none⟩)])) w := by kernel_rfl
theorem isComparable (w : World) : ((Extern.ReflectliteType.method fun t => do Extern.Rtype.noPackHeld "Comparable" t; (fun a => Value.bool a.comparable) <$> typeInfo t) #[.agg #[.pointer (some ⟨ng, 222, none⟩)]]).run Tryz.prog w = .ok (.bool true) w := by kernel_rfl
theorem isMethodComparable (n : Nat) (v : Value) (w : World) : (Go.method (n + 1) 171 v "Comparable").run Tryz.prog w = .ok (171, v) w := by kernel_rfl
theorem isComp : (Tryz.prog.info? 222).map (·.comparable) = some true := by kernel_rfl
theorem isSize : (Tryz.prog.info? 244).map (·.size) = some 1 := by kernel_rfl

set_option maxRecDepth 100000 in
set_option maxHeartbeats 4000000 in
/-- errors.Is(x, x), x a pointer to an errors.errorString. -/
theorem is_same (a : Addr) (w : World) :
    Calls Tryz.prog 77 #[.iface 222 (.pointer (some a)), .iface 222 (.pointer (some a))] w fun e w' => e = .returned (.bool true) ∧ w = w' := by
  obtain ⟨i, hi, hcmp⟩ := Option.map_eq_some_iff.1 isComp
  obtain ⟨j, hj, hjs⟩ := Option.map_eq_some_iff.1 isSize
  have h8 := @run_callFunc_extern Tryz.prog 98 _ Extern.ReflectliteType.typeOf Tryz.func98 (by kernel_rfl) (by kernel_rfl) (by kernel_rfl) (by kernel_rfl)
  have h32 := @run_callFunc_extern Tryz.prog 171 _ (Extern.ReflectliteType.method fun t => do Extern.Rtype.noPackHeld "Comparable" t; pure (.bool (← typeInfo t).comparable)) Tryz.func171 (by kernel_rfl) (by kernel_rfl) (by kernel_rfl) (by kernel_rfl)
  have tT := isTypeOf
  have cT := isComparable
  have mR := isMethodComparable
  have heq := run_eql_iface_ptr_same (P := Tryz.prog) w a Tryz.underlying80 Tryz.underlying222 hi hcmp hj
  go_enter Tryz.func77, Tryz.ntmps77
  go_wp2
  refine wp_loop_rounds 1 ?_
  rw [rounds_succ]
  go_wp2
  go_ret
  exact ⟨rfl, rfl⟩
end Go.Proofs.YtjlgkjhociaeiaaGreatDoor
namespace Go.Proofs.YtjlgkjhociaeiaaGreatDoor
open Go.RowKit
set_option linter.unusedVariables false
theorem asserts (v : Value) (w : World) : (Instr.typeAssert (.iface 222 v) 20 80 true).run Tryz.prog w = .ok (.tuple #[.iface 222 v, .bool true]) w := run_typeAssert_hasB Tryz.underlying80 (by kernel_rfl) v 20 w
set_option maxRecDepth 100000 in
set_option maxHeartbeats 1000000 in
theorem rescue_panicking (bj be : Nat) (tj te : TypeId) (vj ve : Value) (a : Addr) (w : World) (hs : Sen w a) (kj : Blk w bj tj #[vj]) (ke : Blk w be te #[ve]) (hne : be ≠ bj) :
    CallsD Tryz.prog 76 #[.pointer (some ⟨bj, 0, none⟩), .pointer (some ⟨be, 0, none⟩)] (.panicking [{ v := errD a, recovered := false }]) w fun e u' w' =>
      e = .returned (.tuple #[]) ∧ u' = .panicking [{ v := errD a, recovered := true }] ∧ w' = (w.setCell ⟨bj, 0, none⟩ (.pointer none)).setCell ⟨be, 0, none⟩ (.int .i64 262) := by
  refine callsD_of_wpS Tryz.func76 rfl fun c₀ cs hu => ?_
  have hA := asserts (.pointer (some a)) w
  have c1 := kj.cell 0
  have f1 := kj.frozen 0
  have ke2 := ke.far (p := ⟨bj, 0, none⟩) hne (.pointer none)
  have c2 := ke2.cell 0
  have f2 := ke2.frozen 0
  simp only [List.getElem?_toArray, List.getElem?_cons_zero] at c1 c2
  unfold Sen at hs
  unfold errD at *
  apply wpS_seq
  apply wpS_region
  simp [wpOpsS, go_sem, recoverD, hu, hA, Tryz.ntmps76, Exit.thenS]
  refine wpS_of_wp ?_
  generalize hT : ((#[Value.pointer (some ⟨bj, 0, none⟩), Value.pointer (some ⟨be, 0, none⟩)] : Array Value) ++ _) = T
  have hT2 : T = #[.pointer (some ⟨bj, 0, none⟩), .pointer (some ⟨be, 0, none⟩), .iface 222 (.pointer (some a)), .bool true, .tuple #[.iface 222 (.pointer (some a)), .bool true], .iface 222 (.pointer (some a)), .tuple #[.iface 222 (.pointer (some a)), .bool true], .iface 222 (.pointer (some a)), .bool true, undef, undef, undef, undef, undef, undef] := by rw [← hT]; apply Array.toList_inj.1; simp only [Array.toList_append, Array.toList_setIfInBounds, Array.toList_replicate]; rfl
  clear hT
  subst hT2
  go_wp2_with (go_at_call 77; refine (is_same a _).mono ?_; rintro e w' ⟨rfl, rfl⟩)
  simp [bodyPostS, results, Tryz.results76]
theorem asserts_nil (w : World) : (Instr.typeAssert .nilIface 20 80 true).run Tryz.prog w = .ok (.tuple #[.nilIface, .bool false]) w := by kernel_rfl
set_option maxRecDepth 100000 in
set_option maxHeartbeats 1000000 in
theorem rescue_idle (bj be : Nat) (w : World) :
    CallsD Tryz.prog 76 #[.pointer (some ⟨bj, 0, none⟩), .pointer (some ⟨be, 0, none⟩)] .returning w fun e u' w' => e = .returned (.tuple #[]) ∧ u' = .returning ∧ w' = w := by
  refine callsD_of_wpS Tryz.func76 rfl fun c₀ cs hu => ?_
  have hA := asserts_nil w
  apply wpS_seq
  apply wpS_region
  simp [wpOpsS, go_sem, recoverD, hu, hA, Tryz.ntmps76, Exit.thenS]
  refine wpS_of_wp ?_
  generalize hT : ((#[Value.pointer (some ⟨bj, 0, none⟩), Value.pointer (some ⟨be, 0, none⟩)] : Array Value) ++ _) = T
  have hT2 : T = #[.pointer (some ⟨bj, 0, none⟩), .pointer (some ⟨be, 0, none⟩), .nilIface, .bool false, .tuple #[.nilIface, .bool false], .nilIface, .tuple #[.nilIface, .bool false], .nilIface, .bool false, undef, undef, undef, undef, undef, undef] := by rw [← hT]; apply Array.toList_inj.1; simp only [Array.toList_append, Array.toList_setIfInBounds, Array.toList_replicate]; rfl
  clear hT
  subst hT2
  go_wp2
  cases c₀
  simp_all [bodyPostS, results, Tryz.results76]
end Go.Proofs.YtjlgkjhociaeiaaGreatDoor
namespace Go.Proofs.YtjlgkjhociaeiaaGreatDoor
open Go.RowKit
set_option linter.unusedVariables false
def zeros (n : Nat) : ByteArray := ⟨(List.replicate n 0).toArray⟩
def Tape.none : Tape := ⟨[], zeros 32, 0⟩
def openPost (w : World) (d : Value) (R : Option Tape) (e : Ending) (w' : World) : Prop :=
  (match R with
    | some t => ∃ b rv, e = .returned (.tuple #[.pointer (some ⟨b, 0, none⟩), .int .i64 0]) ∧ TapeAt w' b 74 [d, .bool false] rv t ∧ w.heap.size ≤ b ∧ ∀ k, rv.ownBlock = some k → w.heap.size ≤ k
    | none => e = .returned (.tuple #[.pointer none, .int .i64 262])) ∧ Below w.heap.size w w'
theorem zeros_back (n : Nat) (w : World) : (convert 39 9 (.slice (some ⟨w.heap.size, 0, none⟩) n n)).run Tryz.prog (w.alloc (.cells (madeCells #[Value.int .u8 0] n) 5)) = .ok (.string (zeros n)) (w.alloc (.cells (madeCells #[Value.int .u8 0] n) 5)) := by
  have h := run_convert_bytes_back (P := Tryz.prog) (w.alloc (.cells (madeCells #[Value.int .u8 0] n) 5)) 39 9 5 ⟨w.heap.size, 0, none⟩ n (List.replicate n 0) Tryz.underlying39 Tryz.underlying5 Tryz.underlying9 (fun j hj => by
    have e : (⟨w.heap.size, 0, none⟩ : Addr).add j = ⟨w.heap.size, 0 + j, none⟩ := by unfold Addr.add; split <;> simp_all
    have hj' : j < n := by simpa using hj
    rw [e, Nat.zero_add, made8, (Blk.new w 5 _).cell j]
    simp only [List.getElem?_toArray]
    rw [cells8_get _ _ (by simpa using hj')]
    simp [b8])
  rw [List.length_replicate] at h
  exact h
theorem TapeAt.only {w w' : World} {S : Nat → Prop} {b : Nat} {ty : TypeId} {rest : List Value} {rv : Value} {t : Tape} (h : TapeAt w b ty rest rv t) (o : Only S w w') (hb : ¬ S b) (hr : ∀ k, rv.ownBlock = some k → ¬ S k) : TapeAt w' b ty rest rv t :=
  ⟨h.blk.only o hb, h.ne, ownsRow_only h.own o hr, h.head, h.small, h.few⟩
/-- Behind the two results' last stores. -/
theorem open_end {w W w1 : World} {p b : Nat} {vj x : Value} {J : Value} {S : Nat → Prop} (sW : Below w.heap.size w W) (hlt : w.heap.size + 1 + 1 + 1 < W.heap.size) (hO : Only S W w1) (hS : ∀ k, S k → w.heap.size ≤ k) (k1 : Blk w1 w.heap.size 28 #[vj]) (k2 : Blk w1 (w.heap.size + 1) 33 #[x]) (J y : Value) :
    ∃ W5, W5 = (w1.setCell ⟨w.heap.size, 0, none⟩ J).setCell ⟨w.heap.size + 1, 0, none⟩ y ∧ W5.cell? ⟨w.heap.size, 0, none⟩ = some J ∧ W5.cell? ⟨w.heap.size + 1, 0, none⟩ = some y ∧ Only (fun k => k = w.heap.size ∨ k = w.heap.size + 1) w1 W5 ∧ Below w.heap.size w W5 := by
  have o : Only (fun k => k = w.heap.size ∨ k = w.heap.size + 1) w1 ((w1.setCell ⟨w.heap.size, 0, none⟩ J).setCell ⟨w.heap.size + 1, 0, none⟩ y) := ((Only.refl (fun k => k = w.heap.size ∨ k = w.heap.size + 1) w1).setCell (p := ⟨w.heap.size, 0, none⟩) (.inl (.inl rfl)) _).setCell (p := ⟨w.heap.size + 1, 0, none⟩) (.inl (.inr rfl)) _
  have j1 := (k1.set_ 0 J).far (p := ⟨w.heap.size + 1, 0, none⟩) (by simp) y
  have j2 := (k2.far (p := ⟨w.heap.size, 0, none⟩) (by simp) J).set_ 0 y
  refine ⟨_, rfl, j1.cell 0, j2.cell 0, o, ?_⟩
  have b1 : Below w.heap.size W w1 := hO.below (by omega) hS
  have b2 : Below w.heap.size w1 _ := o.below (by have := hO.size; omega) (by rintro k (rfl | rfl) <;> omega)
  exact (sW.trans b1).trans b2
theorem open_far {w : World} {a : Addr} (g : Gl w a) : Far fun k => k = w.heap.size + 1 + 1 + 1 ∨ (Value.slice none 0 0).ownBlock = some k := by
  rintro k (q | q)
  · have h1 := g.tab.lt
    have h2 := g.sen.lt
    omega
  · simp [Value.ownBlock] at q
/-- The world in which the content is read. -/
theorem open_start {w : World} {a : Addr} (g : Gl w a) (p : Nat) : ∃ W, W = ((((w.alloc (.cells #[.pointer (some ⟨w.heap.size + 1 + 1 + 1, 0, none⟩)] 28)).alloc (.cells #[.int .i64 0] 33)).alloc (.cells (madeCells #[Value.int .u8 0] 32) 5)).alloc (.cells #[.slice none 0 0, .string (zeros 32), .int .i64 0, .pointer (some ⟨p, 0, none⟩), .bool false] 74)) ∧
    TapeAt W (w.heap.size + 1 + 1 + 1) 74 [.pointer (some ⟨p, 0, none⟩), .bool false] (.slice none 0 0) Tape.none ∧ Gl W a ∧ Below w.heap.size w W ∧ Blk W w.heap.size 28 #[.pointer (some ⟨w.heap.size + 1 + 1 + 1, 0, none⟩)] ∧ Blk W (w.heap.size + 1) 33 #[.int .i64 0] ∧ w.heap.size + 1 + 1 + 1 < W.heap.size := by
  obtain ⟨w1, h1⟩ : ∃ w1, w1 = w.alloc (.cells #[.pointer (some ⟨w.heap.size + 1 + 1 + 1, 0, none⟩)] 28) := ⟨_, rfl⟩
  obtain ⟨w2, h2⟩ : ∃ w2, w2 = w1.alloc (.cells #[.int .i64 0] 33) := ⟨_, rfl⟩
  obtain ⟨w3, h3⟩ : ∃ w3, w3 = w2.alloc (.cells (madeCells #[Value.int .u8 0] 32) 5) := ⟨_, rfl⟩
  have s1 : w1.heap.size = w.heap.size + 1 := by rw [h1]; simp
  have s2 : w2.heap.size = w.heap.size + 1 + 1 := by rw [h2]; simp [s1]
  have s3 : w3.heap.size = w.heap.size + 1 + 1 + 1 := by rw [h3]; simp [s2]
  rw [← h1, ← h2, ← h3]
  have k1 := Blk.new w 28 #[.pointer (some ⟨w.heap.size + 1 + 1 + 1, 0, none⟩)]
  rw [← h1] at k1
  have k2 := Blk.new w1 33 #[.int .i64 0]
  rw [← h2, s1] at k2
  have k4 := Blk.new w3 74 #[.slice none 0 0, .string (zeros 32), .int .i64 0, .pointer (some ⟨p, 0, none⟩), .bool false]
  rw [s3] at k4
  have k1' : Blk w2 w.heap.size 28 #[.pointer (some ⟨w.heap.size + 1 + 1 + 1, 0, none⟩)] := by rw [h2]; exact k1.alloc _
  have k1'' : Blk w3 w.heap.size 28 #[.pointer (some ⟨w.heap.size + 1 + 1 + 1, 0, none⟩)] := by rw [h3]; exact k1'.alloc _
  have k2' : Blk w3 (w.heap.size + 1) 33 #[.int .i64 0] := by rw [h3]; exact k2.alloc _
  have o : Only (fun _ => False) w (w3.alloc (.cells #[.slice none 0 0, .string (zeros 32), .int .i64 0, .pointer (some ⟨p, 0, none⟩), .bool false] 74)) := by
    rw [h3, h2, h1]
    exact ((((Only.refl _ w).alloc _).alloc _).alloc _).alloc _
  refine ⟨_, rfl, ⟨k4, by decide, ⟨rfl, .inl ⟨rfl, rfl⟩⟩, ?_, by show 0 ≤ _; omega, by show 0 ≤ _; omega⟩, g.only o (fun k e => e.elim), o.below (Nat.le_refl _) (fun k e => e.elim), k1''.alloc _, k2'.alloc _, k4.lt⟩
  show (zeros 32).size = 32
  rfl
set_option maxRecDepth 100000 in
set_option maxHeartbeats 4000000 in
theorem open_any (w : World) (p : Nat) (s : ByteArray) (a : Addr) (g : Gl w a) (hs : s.size ≤ 4194304) :
    Calls Tryz.prog 54 #[.pointer (some ⟨p, 0, none⟩), .string s] w fun e w' => openPost w (.pointer (some ⟨p, 0, none⟩)) (Tape.none.load s) e w' := by
  have hmf : ∀ (fn : Fn) (first cap : Array Value) (w : World), (Instr.makeFunc fn first cap).run Tryz.prog w = .ok (.func fn first cap) w := fun _ _ _ _ => rfl
  have hmk : ∀ w : World, (Instr.makeSlice 39 (.int .i64 32) (.int .i64 32)).run Tryz.prog w = .ok (.slice (some ⟨w.heap.size, 0, none⟩) 32 32) (w.alloc (.cells (madeCells #[Value.int .u8 0] 32) 5)) := run_make_row' (P := Tryz.prog) 39 5 (.int .u8 0) 1 Tryz.underlying39 info8 rfl .i64 .i64 32 (by omega) (by omega)
  have cv := zeros_back 32 ((w.alloc (.cells #[.pointer none] 28)).alloc (.cells #[.int .i64 0] 33))
  have e2 : ((w.alloc (.cells #[.pointer none] 28)).alloc (.cells #[.int .i64 0] 33)).heap.size = w.heap.size + 1 + 1 := by simp
  rw [e2] at cv
  have mixed : Tryz.prog.follows Departure.mixedOrders = true := by kernel_rfl
  have G := Lib.hid g
  clear g
  go_enter_defers Tryz.func54, Tryz.ntmps54
  obtain ⟨R, hR⟩ : ∃ R, R = Tape.none.load s := ⟨_, rfl⟩
  rw [← hR]
  have HR := Lib.hid hR.symm
  clear hR
  cases R with
  | some t =>
    go_wp2_with (go_at_call 78; obtain ⟨W, hW, s1, s2, s3, s4, s5, s6⟩ := open_start G.out p; rw [← hW]; refine (load_any W (w.heap.size + 1 + 1 + 1) _ _ _ _ s a s2 s1 hs (Nat.zero_le _) (Nat.le_refl _) (open_far G.out)).mono ?_; rw [HR.out]; intro e w1 hl; obtain ⟨⟨rfl, rv, hT, hF⟩, hO⟩ := hl; have k1 := s4.only hO (by rintro (q | q) <;> first | omega | simp [Value.ownBlock] at q); have k2 := s5.only hO (by rintro (q | q) <;> first | omega | simp [Value.ownBlock] at q); have c1 := k1.cell 0; have f1 := k1.frozen 0; have c2 := k2.cell 0; have f2 := k2.frozen 0; simp only [List.getElem?_toArray, List.getElem?_cons_zero] at c1 c2)
    obtain ⟨W5, hW5, q1, q2, q3, q4⟩ := open_end (p := p) (b := 0) (J := undef) s3 s6 hO (by rintro k (q | q) <;> first | omega | simp [Value.ownBlock] at q) k1 k2 (.pointer (some ⟨w.heap.size + 1 + 1 + 1, 0, none⟩)) (.int .i64 0)
    rw [← hW5]
    have hT5 := hT.only q3 (by omega) (fun k hk => by have := (hF k hk); rcases this with q | q <;> first | omega | simp [Value.ownBlock] at q)
    have hF5 : ∀ k, rv.ownBlock = some k → w.heap.size ≤ k := fun k hk => by have := (hF k hk); rcases this with q | q <;> first | omega | simp [Value.ownBlock] at q
    refine leaves_cons (f := 76) (args := #[.pointer (some ⟨w.heap.size, 0, none⟩), .pointer (some ⟨w.heap.size + 1, 0, none⟩)]) (by simp) (by simp [go_sem]) ?_
    refine (rescue_idle _ _ _).mono ?_
    rintro e u' w'' ⟨rfl, rfl, rfl⟩
    have HP : Hid (openPost w (.pointer (some ⟨p, 0, none⟩)) (some t) (.returned (.tuple #[.pointer (some ⟨w.heap.size + 1 + 1 + 1, 0, none⟩), .int .i64 0])) w'') := ⟨⟨_, _, rfl, hT5, by omega, hF5⟩, q4⟩
    clear hT5 hF5 q3 q4 hW5
    simp [Leaves, settle, results, Tryz.results54, go_sem, q1, q2]
    exact HP.out
  | none =>
    go_wp2_with (go_at_call 78; obtain ⟨W, hW, s1, s2, s3, s4, s5, s6⟩ := open_start G.out p; rw [← hW]; refine (load_any W (w.heap.size + 1 + 1 + 1) _ _ _ _ s a s2 s1 hs (Nat.zero_le _) (Nat.le_refl _) (open_far G.out)).mono ?_; rw [HR.out]; intro e w1 hl; obtain ⟨rfl, hO⟩ := hl; have k1 := s4.only hO (by rintro (q | q) <;> first | omega | simp [Value.ownBlock] at q); have k2 := s5.only hO (by rintro (q | q) <;> first | omega | simp [Value.ownBlock] at q); have g1 := s2.only hO (open_far G.out))
    obtain ⟨W5, hW5, q1, q2, q3, q4⟩ := open_end (p := p) (b := 0) (J := undef) s3 s6 hO (by rintro k (q | q) <;> first | omega | simp [Value.ownBlock] at q) k1 k2 (.pointer none) (.int .i64 262)
    refine leaves_cons (f := 76) (args := #[.pointer (some ⟨w.heap.size, 0, none⟩), .pointer (some ⟨w.heap.size + 1, 0, none⟩)]) (by simp) (by simp [go_sem]) ?_
    refine (rescue_panicking _ _ _ _ _ _ a w1 g1.sen k1 k2 (by omega)).mono ?_
    rintro e u' w'' ⟨rfl, rfl, rfl⟩
    rw [← hW5]
    have HP : Hid (openPost w (.pointer (some ⟨p, 0, none⟩)) none (.returned (.tuple #[.pointer none, .int .i64 262])) W5) := ⟨rfl, q4⟩
    clear q3 q4 hW5
    simp [Leaves, settle, results, Tryz.results54, go_sem, q1, q2]
    exact HP.out
end Go.Proofs.YtjlgkjhociaeiaaGreatDoor
