/-
  Joined by program out of: Tape, Add, Check, Load.
-/
import Derived.Test.YtjlgkjhociaeiaaGreatDoorGe
import Derived.Test.YtjlgkjhociaeiaaGreatDoorPutInt
import Derived.Test.YtjlgkjhociaeiaaGreatDoorChain
import Derived.Test.YtjlgkjhociaeiaaGreatDoorGa
import Derived.Maps.AppendAt
namespace Go.Proofs.YtjlgkjhociaeiaaGreatDoor
open Go.RowKit
set_option linter.unusedVariables false

structure Tape where
  recs : List ByteArray
  head : ByteArray
  size : Nat
/-- How a record is stored, whose hash is h. -/
def stored (r h : ByteArray) : ByteArray := ⟨#[1]⟩ ++ putS r ++ h
def Tape.add (t : Tape) (r : ByteArray) : Tape := ⟨t.recs ++ [r], chain t.head r, t.size + (stored r (chain t.head r)).size⟩
theorem putS_size (r : ByteArray) (h : r.size ≤ 65536) : r.size + 1 ≤ (putS r).size ∧ (putS r).size ≤ r.size + 3 := by
  have h1 := putI_small r.size h
  have h2 := putI_length (r.size : Int)
  unfold putS
  rw [ByteArray.size_append]
  have e : ByteArray.size ⟨(putI (r.size : Int)).toArray⟩ = (putI (r.size : Int)).length := by show (putI _).toArray.size = _; rw [List.size_toArray]
  rw [e]
  omega
theorem stored_size (r h : ByteArray) (hr : r.size ≤ 65536) (hh : h.size = 32) : r.size + 34 ≤ (stored r h).size ∧ (stored r h).size ≤ r.size + 36 := by
  have := putS_size r hr
  unfold stored
  rw [ByteArray.size_append, ByteArray.size_append]
  have e : ByteArray.size ⟨#[1]⟩ = 1 := rfl
  rw [e]
  omega

/-- The tape's cells, and what lies behind them in their block. -/
def tcells (rv : Value) (t : Tape) (rest : List Value) : Array Value := (rv :: .string t.head :: .int .i64 (t.size : Int) :: rest).toArray
structure TapeAt (w : World) (b : Nat) (ty : TypeId) (rest : List Value) (rv : Value) (t : Tape) : Prop where
  blk : Blk w b ty (tcells rv t rest)
  ne : ty ≠ 9
  own : w.ownsRow 0 9 1 rv t.recs.length (t.recs.map Value.string)
  head : t.head.size = 32
  small : t.size ≤ 1099511627776
  few : t.recs.length ≤ 8388608
end Go.Proofs.YtjlgkjhociaeiaaGreatDoor
namespace Go.Proofs.YtjlgkjhociaeiaaGreatDoor
open Go.RowKit
set_option linter.unusedVariables false
theorem infoStr : (Tryz.prog.info? 9).map (fun i => (i.zero, i.size, i.bytes)) = some (some (.string ByteArray.empty), 1, 16) := by kernel_rfl

theorem chain_size' (h r : ByteArray) : (chain h r).size = 32 := chain_size h r
/-- The world in which the record is appended. -/
theorem add_pre {w w1 : World} {b : Nat} {ty : TypeId} {rest : List Value} {rv : Value} {t : Tape} (h : TapeAt w b ty rest rv t) (b1 : Below w.heap.size w w1) (h' r : ByteArray) :
    ∃ W, W = (w1.setCell ⟨b, 1, none⟩ (.string h')).alloc (.cells #[.string r] 9) ∧ Blk W b ty (tcells rv { t with head := h' } rest) ∧ W.ownsRow 0 9 1 rv t.recs.length (t.recs.map Value.string) ∧
      W.cell? ⟨w1.heap.size, 0, none⟩ = some (.string r) ∧ Only (fun k => k = b ∨ rv.ownBlock = some k) w W := by
  have hlt := h.blk.lt
  have k1 := h.blk.below b1 hlt
  have hne : ∀ k, rv.ownBlock = some k → k ≠ b := by
    rintro k hk rfl
    exact own_blk_ne h.own h.blk h.ne.symm hk
  have o1 : Only (fun k => k = b) w1 (w1.setCell ⟨b, 1, none⟩ (.string h')) := (Only.refl (fun k => k = b) w1).setCell (p := ⟨b, 1, none⟩) (.inl rfl) _
  have o2 : Only (fun k => k = b) w1 ((w1.setCell ⟨b, 1, none⟩ (.string h')).alloc (.cells #[.string r] 9)) := o1.alloc _
  have hs : (w1.setCell ⟨b, 1, none⟩ (.string h')).heap.size = w1.heap.size := by simp [World.setCell]
  have ow1 := ownsRow_only h.own (Only.of_below b1 fun _ => False) fun k _ e => e
  refine ⟨_, rfl, (k1.set_ 1 _).alloc _, ownsRow_only ow1 o2 hne, ?_, ?_⟩
  · rw [← hs]
    exact (Blk.new _ 9 #[.string r]).cell 0
  · exact (Only.of_below b1 _).trans (o2.mono fun _ _ e => .inl e) fun _ _ e => e
/-- Behind the append. -/
theorem add_post {w W w2 : World} {b : Nat} {ty : TypeId} {rest : List Value} {rv v' : Value} {t t1 : Tape} {xs : List Value} {n : Nat} (h : TapeAt w b ty rest rv t) (kb : Blk W b ty (tcells rv t1 rest)) (ho : Only (fun k => k = b ∨ rv.ownBlock = some k) w W)
    (hown : w2.ownsRow 0 9 1 v' n xs) (hgr : W.grownBy w2 rv.ownBlock) (hbk : v'.ownBlock = rv.ownBlock ∨ v'.ownBlock = some W.heap.size) :
    Blk w2 b ty (tcells rv t1 rest) ∧ Blk (w2.setCell ⟨b, 0, none⟩ v') b ty (tcells v' t1 rest) ∧ (w2.setCell ⟨b, 0, none⟩ v').ownsRow 0 9 1 v' n xs ∧ Only (fun k => k = b ∨ rv.ownBlock = some k) w (w2.setCell ⟨b, 0, none⟩ v') ∧
      (∀ k, v'.ownBlock = some k → k ≠ b) ∧ ∀ k, v'.ownBlock = some k → rv.ownBlock = some k ∨ w.heap.size ≤ k := by
  have hne : ∀ k, rv.ownBlock = some k → k ≠ b := by
    rintro k hk rfl
    exact own_blk_ne h.own h.blk h.ne.symm hk
  have k2 := kb.grown hgr (fun e => hne b e.symm rfl)
  have hne' : ∀ k, v'.ownBlock = some k → k ≠ b := by
    rintro k hk rfl
    exact own_blk_ne hown k2 h.ne.symm hk
  have o2 : Only (fun k => k = b) w2 (w2.setCell ⟨b, 0, none⟩ v') := (Only.refl (fun k => k = b) w2).setCell (p := ⟨b, 0, none⟩) (.inl rfl) _
  refine ⟨k2, k2.set_ 0 _, ownsRow_only hown o2 hne', ?_, hne', ?_⟩
  · have o1 : Only (fun k => k = b ∨ rv.ownBlock = some k) W w2 := ⟨hgr.os, hgr.tape, hgr.output, hgr.size, fun k hk hn => hgr.block k hk fun e => hn (.inr e.symm)⟩
    exact (ho.trans' o1).trans (o2.mono fun _ _ e => .inl e) fun _ _ e => e
  · intro k hk
    rcases hbk with e | e
    · exact .inl (e ▸ hk)
    · rw [e] at hk
      injection hk with hk
      exact .inr (hk ▸ ho.size)

theorem add_end {w W3 w4 : World} {b : Nat} {ty : TypeId} {rest : List Value} {rv v' : Value} {t : Tape} {r h' : ByteArray} {x : Int} (h : TapeAt w b ty rest rv t) (hc : chain t.head r = h') (hs : t.size ≤ 1099511500000) (hr : r.size ≤ 65536) (hf : t.recs.length < 8388608)
    (hx : x = ((t.size + (stored r h').size : Nat) : Int)) (k3 : Blk W3 b ty (tcells v' { t with head := h' } rest)) (ow : W3.ownsRow 0 9 1 v' (t.recs.length + 1) (t.recs.map Value.string ++ [.string r])) (on : Only (fun k => k = b ∨ rv.ownBlock = some k) w W3) (ne : ∀ k, v'.ownBlock = some k → k ≠ b)
    (b4 : Below W3.heap.size W3 w4) (o : Obj) : TapeAt ((w4.alloc o).setCell ⟨b, 2, none⟩ (.int .i64 x)).drew b ty rest v' (t.add r) ∧ Only (fun k => k = b ∨ rv.ownBlock = some k) w ((w4.alloc o).setCell ⟨b, 2, none⟩ (.int .i64 x)).drew := by
  have o1 : Only (fun k => k = b) W3 ((w4.alloc o).setCell ⟨b, 2, none⟩ (.int .i64 x)).drew := (((Only.of_below b4 (fun k => k = b)).alloc o).setCell (p := ⟨b, 2, none⟩) (.inl rfl) _).drew
  have k5 := (((k3.below b4 k3.lt).alloc o).set_ 2 (.int .i64 x)).drew
  have hcs := chain_size t.head r
  have hsz := stored_size r (chain t.head r) hr hcs
  refine ⟨⟨?_, h.ne, ?_, hcs, ?_, ?_⟩, on.trans (o1.mono fun _ _ e => .inl e) fun _ _ e => e⟩
  · have e : tcells v' (t.add r) rest = (tcells v' { t with head := h' } rest).setIfInBounds 2 (.int .i64 x) := by
      rw [hx, ← hc]
      simp [tcells, Tape.add]
    rw [e]
    exact k5
  · have := ownsRow_only ow o1 ne
    simpa [Tape.add] using this
  · show t.size + (stored r (chain t.head r)).size ≤ _
    omega
  · show (t.recs ++ [r]).length ≤ _
    rw [List.length_append]
    exact hf
theorem one_back (w : World) : (convert 39 9 (.slice (some ⟨w.heap.size, 0, none⟩) 1 1)).run Tryz.prog (w.alloc (.cells #[.int .u8 1] 5)).drew = .ok (.string ⟨#[1]⟩) (w.alloc (.cells #[.int .u8 1] 5)).drew := by
  have := run_convert_bytes_back (P := Tryz.prog) (w.alloc (.cells #[.int .u8 1] 5)).drew 39 9 5 ⟨w.heap.size, 0, none⟩ 1 [1] Tryz.underlying39 Tryz.underlying5 Tryz.underlying9 (fun j hj => by
    match j, hj with
    | 0, _ => exact ((Blk.new w 5 #[.int .u8 1]).drew).cell 0)
  exact this
set_option maxRecDepth 100000 in
set_option maxHeartbeats 4000000 in
theorem add_raw (w : World) (b : Nat) (ty : TypeId) (rest : List Value) (rv : Value) (t : Tape) (r : ByteArray) (ht : Tab w) (h : TapeAt w b ty rest rv t) (hr : r.size ≤ 65536) (hs : t.size ≤ 1099511500000) (hf : t.recs.length < 8388608) :
    Calls Tryz.prog 38 #[.pointer (some ⟨b, 0, none⟩), .string r] w fun e w' => e = .returned (.string (stored r (chain t.head r))) ∧ ∃ rv', TapeAt w' b ty rest rv' (t.add r) ∧ Only (fun k => k = b ∨ rv.ownBlock = some k) w w' ∧ (∀ k, rv'.ownBlock = some k → rv.ownBlock = some k ∨ w.heap.size ≤ k) := by
  have c0 := h.blk.cell 0
  have c1 := h.blk.cell 1
  have c2 := h.blk.cell 2
  simp only [tcells, List.getElem?_toArray, List.getElem?_cons_succ, List.getElem?_cons_zero] at c0 c1 c2
  have hh := h.head
  have H := Lib.hid h
  have hlt := h.blk.lt
  have HT := Lib.hid ht
  obtain ⟨iS, hiS, z0, z1, z2⟩ := info_parts infoStr
  have Z := Lib.hid (And.intro hiS (And.intro z0 (And.intro z1 z2)))
  have hcs := chain_size t.head r
  obtain ⟨h', hh'⟩ : ∃ h', h' = chain t.head r := ⟨_, rfl⟩
  rw [← hh'] at hcs
  have HH := Lib.hid hh'.symm
  have hsz := stored_size r h' hr hcs
  have hps := putS_size r hr
  obtain ⟨p, hp⟩ : ∃ p, p = putS r := ⟨_, rfl⟩
  rw [← hp] at hps
  have HP := Lib.hid hp.symm
  have HST : Hid ((⟨#[1]⟩ ++ p ++ h' : ByteArray) = stored r h') := by show _ = _; rw [hp]; rfl
  have hc1 : 1 + p.size ≤ 9223372036854775807 := by omega
  have hc2 : 1 + p.size + h'.size ≤ 9223372036854775807 := by omega
  have hc3 : t.size + (1 + p.size + h'.size) ≤ 9223372036854775807 := by omega
  have HCS := Lib.hid hcs
  have hc4 : ¬ 9223372036854775807 < 1 + p.size := by omega
  have hc5 : ¬ 9223372036854775807 < 1 + p.size + h'.size := by omega
  have mixed : Tryz.prog.follows Departure.mixedOrders = true := by kernel_rfl
  clear hiS z0 z1 z2 h ht hh' hp hcs
  go_enter Tryz.func38, Tryz.ntmps38
  go_wp2_with (first | (go_at_call 70; refine (chain_any t.head r _ HT.out (by omega)).mono ?_; rw [HH.out]; rintro e w1 ⟨rfl, b1⟩; have k1 := H.out.blk.below b1 hlt; have f11 := k1.frozen 1; have c01 := k1.cell 0; have c11 := k1.cell 1; simp only [tcells, List.getElem?_toArray, List.getElem?_cons_succ, List.getElem?_cons_zero] at c01 c11; have B1 := Lib.hid b1; clear b1 k1) | (at_builtin; obtain ⟨W, hW, kW, oW, cW, onW⟩ := add_pre H.out B1.out h' r; rw [← hW]; refine wpList_append_own_at W rfl (.tmp 21) (.tmp 23) 22 rfl 0 9 iS _ 1 16 Tryz.underlying22 Z.out.1 Z.out.2.1 Z.out.2.2.1 Z.out.2.2.2 rfl (by decide) rv t.recs.length _ rfl oW ⟨w1.heap.size, 0, none⟩ 1 1 [.string r] rfl rfl ?_ ?_ ?_ ?_ ?_ ?_; (exact fun j u hj => by match j, hj with | 0, hj => simp at hj; subst hj; exact cW); (simp [Value.oneCell']); (unfold maxLen; omega); omega; exact Nat.zero_le _; intro v' w2 hown hgr _ hbk; obtain ⟨g', cap', rfl⟩ := ownsRow_val hown; obtain ⟨k2, k3, ow3, on3, ne3, fr3⟩ := add_post H.out kW onW hown hgr hbk; have c02 := k2.cell 0; have f02 := k2.frozen 0; simp only [tcells, List.getElem?_toArray, List.getElem?_cons_succ, List.getElem?_cons_zero] at c02; clear hown hgr hbk kW oW cW onW k2; have K3 := Lib.hid k3; have OW3 := Lib.hid ow3; have ON3 := Lib.hid on3; have NE3 := Lib.hid ne3; have FR3 := Lib.hid fr3; clear k3 ow3 on3 ne3 fr3) | (go_at_call 71; refine (putString_any r _ hr).mono ?_; rw [HP.out]; rintro e w4 ⟨rfl, b4⟩; have k4 := K3.out.below b4 K3.out.lt; have k5 := k4.alloc (.cells #[.int .u8 1] 5); have f25 := k5.frozen 2; have c15 := k5.cell 1; have c25 := k5.cell 2; have f24 := k4.frozen 2; have c14 := k4.cell 1; have c24 := k4.cell 2; simp only [tcells, List.getElem?_toArray, List.getElem?_cons_succ, List.getElem?_cons_zero] at c14 c24 c15 c25; have cv := one_back w4; clear k5; have B4 := Lib.hid b4; have K4 := Lib.hid k4; clear b4 k4))
  go_region_o
  all_goals
    go_wp2
    go_ret
    have E := add_end (x := (t.size : Int) + (1 + p.size + h'.size)) H.out HH.out hs hr hf (by rw [← HST.out, ByteArray.size_append, ByteArray.size_append]; push_cast; rfl) K3.out OW3.out ON3.out NE3.out B4.out (.cells #[.int .u8 1] 5)
    rw [HST.out, HH.out]
    exact ⟨rfl, _, E.1, E.2, FR3.out⟩
end Go.Proofs.YtjlgkjhociaeiaaGreatDoor
namespace Go.Proofs.YtjlgkjhociaeiaaGreatDoor
open Go.RowKit
set_option linter.unusedVariables false

/-- errDamaged, as check hands it to panic. -/
def errD (a : Addr) : Value := .iface 222 (.pointer (some a))
def Sen (w : World) (a : Addr) : Prop := w.cell? ⟨0, 0, none⟩ = some (errD a)
theorem check_yes (w : World) : Calls Tryz.prog 100 #[.bool true] w fun e w' => e = .returned (.tuple #[]) ∧ w = w' := by
  go_enter Tryz.func100, Tryz.ntmps100
  go_wp2
  go_end0
  exact ⟨rfl, rfl⟩
theorem check_no (w : World) (a : Addr) (h : Sen w a) : Calls Tryz.prog 100 #[.bool false] w fun e w' => e = .panicked [{ v := errD a, recovered := false }] ∧ w = w' := by
  unfold Sen errD at h
  go_enter Tryz.func100, Tryz.ntmps100
  go_wp2
  exact ⟨rfl, rfl, rfl⟩
end Go.Proofs.YtjlgkjhociaeiaaGreatDoor
namespace Go.Proofs.YtjlgkjhociaeiaaGreatDoor
open Go.RowKit
set_option linter.unusedVariables false

theorem str_beq {a b : ByteArray} (h : a = b) : (a.toList == b.toList) = true := by rw [h]; exact beq_self_eq_true _
theorem str_bne {a b : ByteArray} (h : ¬ a = b) : (a.toList == b.toList) = false := by
  refine beq_eq_false_iff_ne.2 fun e => h ?_
  rw [ByteArray.toList_eq, ByteArray.toList_eq] at e
  have e2 : a.data = b.data := Array.toList_inj.1 e
  cases a; cases b; exact congrArg ByteArray.mk e2
theorem stored_pos (r h : ByteArray) : 0 < (stored r h).size := by
  unfold stored
  rw [ByteArray.size_append, ByteArray.size_append]
  have e : ByteArray.size ⟨#[1]⟩ = 1 := rfl
  omega
/-- The records of a content; none: it is damaged. -/
def Tape.load (t : Tape) (s : ByteArray) : Option Tape :=
  if h : t.size < s.size then
    if s[t.size].toNat = 0 then some t
    else if s[t.size].toNat = 1 then
      match decS s (t.size + 1) with
      | none => none
      | some (r, x) => if x + 32 ≤ s.size ∧ stored r (chain t.head r) = s.extract t.size (x + 32) then (t.add r).load s else none
    else none
  else some t
termination_by s.size - t.size
decreasing_by
  have := stored_pos r (chain t.head r)
  simp only [Tape.add]
  omega

theorem TapeAt.drew {w : World} {b : Nat} {ty : TypeId} {rest : List Value} {rv : Value} {t : Tape} (h : TapeAt w b ty rest rv t) : TapeAt w.drew b ty rest rv t := ⟨h.blk.drew, h.ne, h.own, h.head, h.small, h.few⟩
theorem decS_bounds {s r : ByteArray} {a x : Nat} (h : decS s a = some (r, x)) : a < x ∧ x ≤ s.size ∧ r.size ≤ 65536 := by
  unfold decS at h
  rcases hd : decI s a with _ | ⟨n, y⟩
  · rw [hd] at h; simp at h
  · rw [hd] at h
    obtain ⟨h1, h2, h3, h4⟩ := decI_bounds s a n y hd
    simp only at h
    split at h
    · simp at h
    · simp only [Option.some.injEq, Prod.mk.injEq] at h
      obtain ⟨rfl, rfl⟩ := h
      refine ⟨by omega, by omega, ?_⟩
      rw [ByteArray.size_extract]
      omega

/-- The program's variables that the journal reads. -/
structure Gl (w : World) (a : Addr) : Prop where
  tab : Tab w
  sen : Sen w a
def Far (S : Nat → Prop) : Prop := ∀ k, S k → k ≠ 3 ∧ k ≠ 0
theorem Gl.only {w w' : World} {a : Addr} {S : Nat → Prop} (h : Gl w a) (o : Only S w w') (hS : Far S) : Gl w' a := by
  obtain ⟨⟨t, fr, h1⟩, h2⟩ := h
  refine ⟨⟨t, fr, (o.block _ (Array.getElem?_eq_some_iff.1 h1).1 fun e => (hS _ e).1 rfl).trans h1⟩, ?_⟩
  unfold Sen at *
  have hlt : 0 < w.heap.size := by
    rcases Nat.lt_or_ge 0 w.heap.size with q | q
    · exact q
    · unfold World.cell? at h2
      rw [Array.getElem?_eq_none q] at h2
      simp at h2
  rw [o.cell hlt fun e => (hS _ e).2 rfl]
  exact h2

theorem Sen.lt {w : World} {a : Addr} (h2 : Sen w a) : 0 < w.heap.size := by
  unfold Sen at *
  rcases Nat.lt_or_ge 0 w.heap.size with q | q
  · exact q
  · unfold World.cell? at h2
    rw [Array.getElem?_eq_none q] at h2
    simp at h2
theorem Far.more {w : World} {a : Addr} {S S' : Nat → Prop} (h : Far S) (g : Gl w a) (hf : ∀ k, S' k → S k ∨ w.heap.size ≤ k) : Far S' := by
  intro k hk
  rcases hf k hk with e | e
  · exact h k e
  · have h1 := g.tab.lt
    have h2 := g.sen.lt
    omega
/-- The loop's state. -/
def LoadSt (w : World) (b : Nat) (ty : TypeId) (rest : List Value) (rv : Value) (s : ByteArray) (R : Option Tape) (a : Addr) (wr : World) (rv' : Value) (t' : Tape) : Prop :=
  TapeAt wr b ty rest rv' t' ∧ Only (fun k => k = b ∨ rv.ownBlock = some k) w wr ∧ Gl wr a ∧ (∀ k, rv'.ownBlock = some k → rv.ownBlock = some k ∨ w.heap.size ≤ k) ∧ t'.size ≤ s.size ∧ t'.recs.length ≤ t'.size ∧ t'.load s = R

/-- An operation that has left the region for good: what follows is nothing. -/
theorem left_region {G : Prop} (g : G) {md : Region.Mode} {a : Act} {w : World} (_ : wpAny Tryz.prog md #[] (fun _ _ _ => True) 0 #[] a w) : G := g
theorem step_only {w wr w1 : World} {b : Nat} {rv rv' : Value} (ho : Only (fun k => k = b ∨ rv.ownBlock = some k) w wr) (hf : ∀ k, rv'.ownBlock = some k → rv.ownBlock = some k ∨ w.heap.size ≤ k) (ho1 : Only (fun k => k = b ∨ rv'.ownBlock = some k) wr.drew w1) :
    Only (fun k => k = b ∨ rv.ownBlock = some k) w w1 := by
  have o : Only (fun k => k = b ∨ rv'.ownBlock = some k) wr w1 := ⟨ho1.os, ho1.tape, ho1.output, ho1.size, ho1.block⟩
  refine ho.trans o fun i hi e => ?_
  rcases e with e | e
  · exact .inl e
  · exact (hf i e).elim .inr fun q => absurd hi (by omega)
theorem LoadSt.next {w wr w1 : World} {b : Nat} {ty : TypeId} {rest : List Value} {rv rv' rv1 : Value} {s S r : ByteArray} {R : Option Tape} {a : Addr} {t' : Tape} {y : Nat} (ho : Only (fun k => k = b ∨ rv.ownBlock = some k) w wr) (hf : ∀ k, rv'.ownBlock = some k → rv.ownBlock = some k ∨ w.heap.size ≤ k)
    (ho1 : Only (fun k => k = b ∨ rv'.ownBlock = some k) wr.drew w1) (h1 : TapeAt w1 b ty rest rv1 (t'.add r)) (hf1 : ∀ k, rv1.ownBlock = some k → rv'.ownBlock = some k ∨ wr.drew.heap.size ≤ k) (hg : Gl wr a) (fr : Far fun k => k = b ∨ rv'.ownBlock = some k)
    (hS : S = stored r (chain t'.head r)) (hE : S = s.extract t'.size y) (hy1 : t'.size ≤ y) (hy2 : y ≤ s.size) (hrl : t'.recs.length ≤ t'.size) (hL : (t'.add r).load s = R) : LoadSt w b ty rest rv s R a w1 rv1 (t'.add r) ∧ t'.size < (t'.add r).size := by
  have o := step_only ho hf ho1
  have hp := stored_pos r (chain t'.head r)
  have hz : (stored r (chain t'.head r)).size = y - t'.size := by
    rw [← hS, hE, ByteArray.size_extract]
    omega
  have e : (t'.add r).size = t'.size + (stored r (chain t'.head r)).size := rfl
  have e2 : (t'.add r).recs.length = t'.recs.length + 1 := by simp [Tape.add]
  refine ⟨⟨h1, o, Gl.only (w := wr.drew) ⟨hg.tab, hg.sen⟩ ho1 fr, ?_, by omega, by omega, hL⟩, by omega⟩
  intro k hk
  rcases hf1 k hk with q | q
  · exact hf k q
  · exact .inr (Nat.le_trans ho.size q)
def LoadEnd (w : World) (b : Nat) (ty : TypeId) (rest : List Value) (rv : Value) (a : Addr) (R : Option Tape) (e : Ending) (w' : World) : Prop :=
  (match R with
    | some t' => e = .returned (.tuple #[]) ∧ ∃ rv', TapeAt w' b ty rest rv' t' ∧ ∀ k, rv'.ownBlock = some k → rv.ownBlock = some k ∨ w.heap.size ≤ k
    | none => e = .panicked [{ v := errD a, recovered := false }]) ∧ Only (fun k => k = b ∨ rv.ownBlock = some k) w w'
theorem LoadEnd.fine {w w' : World} {b : Nat} {ty : TypeId} {rest : List Value} {rv rv' : Value} {a : Addr} {R : Option Tape} {t' : Tape} (hR : some t' = R) (h : TapeAt w' b ty rest rv' t') (hf : ∀ k, rv'.ownBlock = some k → rv.ownBlock = some k ∨ w.heap.size ≤ k) (ho : Only (fun k => k = b ∨ rv.ownBlock = some k) w w') :
    LoadEnd w b ty rest rv a R (.returned (.tuple #[])) w' := by
  subst hR
  exact ⟨⟨rfl, _, h, hf⟩, ho⟩
theorem LoadEnd.bad {w w' : World} {b : Nat} {ty : TypeId} {rest : List Value} {rv : Value} {a : Addr} {R : Option Tape} (hR : none = R) (ho : Only (fun k => k = b ∨ rv.ownBlock = some k) w w') :
    LoadEnd w b ty rest rv a R (.panicked [{ v := errD a, recovered := false }]) w' := by
  subst hR
  exact ⟨rfl, ho⟩
set_option maxRecDepth 100000 in
set_option maxHeartbeats 4000000 in
theorem load_any (w : World) (b : Nat) (ty : TypeId) (rest : List Value) (rv : Value) (t : Tape) (s : ByteArray) (a : Addr) (g : Gl w a) (h : TapeAt w b ty rest rv t) (hs : s.size ≤ 4194304) (hts : t.size ≤ s.size) (hrl : t.recs.length ≤ t.size) (hS : Far fun k => k = b ∨ rv.ownBlock = some k) :
    Calls Tryz.prog 78 #[.pointer (some ⟨b, 0, none⟩), .string s] w fun e w' => LoadEnd w b ty rest rv a (t.load s) e w' := by
  obtain ⟨R, hR⟩ : ∃ R, R = t.load s := ⟨_, rfl⟩
  rw [← hR]
  have h0 : LoadSt w b ty rest rv s R a w rv t := ⟨h, Only.refl _ _, g, fun k e => .inl e, hts, hrl, hR.symm⟩
  have H0 := Lib.hid h0
  have G0 := Lib.hid g
  have FS := Lib.hid hS
  clear hR h0 g hrl hts h hS
  go_enter Tryz.func78, Tryz.ntmps78
  go_wp2
  go_loopw [] (fun wr => ∃ (rv' : Value) (t' : Tape), LoadSt w b ty rest rv s R a wr rv' t') (fun wr => s.size - (match wr.cell? ⟨b, 2, none⟩ with | some v => (intOf v).toNat | none => 0))
  case atStart => exact ⟨rv, t, H0.out⟩
  case round =>
    obtain ⟨rv', t', hl⟩ := hrel
    obtain ⟨hT, ho, hg, hfr, hsz, hrl, hld⟩ := hl
    have c2 := hT.blk.cell 2
    simp only [tcells, List.getElem?_toArray, List.getElem?_cons_succ, List.getElem?_cons_zero] at c2
    have HT := Lib.hid hT
    have HO := Lib.hid ho
    have HG := Lib.hid hg
    have HF := Lib.hid hfr
    have FR : Hid (Far fun k => k = b ∨ rv'.ownBlock = some k) := FS.out.more G0.out (fun k e => e.elim (fun e => .inl (.inl e)) fun e => (hfr k e).elim (fun e => .inl (.inr e)) .inr)
    rw [Tape.load] at hld
    clear hT ho hg hfr
    by_cases hin : t'.size < s.size
    · rw [dif_pos hin] at hld
      obtain ⟨c, hc⟩ : ∃ c, s[t'.size] = c := ⟨_, rfl⟩
      rw [hc] at hld
      have d1 : decide ((t'.size : Int) < s.size) = true := decide_eq_true (by omega)
      by_cases hc0 : c.toNat = 0
      · rw [if_pos hc0] at hld
        have q1 : ((c.toNat : Int) == 0) = true := by simp [hc0]
        have HL := Lib.hid hld
        clear hld
        go_wp2
        go_end0
        exact LoadEnd.fine HL.out HT.out HF.out HO.out
      · rw [if_neg hc0] at hld
        have q1 : ((c.toNat : Int) == 0) = false := by simp [hc0]
        by_cases hc1 : c.toNat = 1
        · rw [if_pos hc1] at hld
          have q2 : ((c.toNat : Int) == 1) = true := by simp [hc1]
          clear hc0 hc1
          rcases hd : decS s (t'.size + 1) with _ | ⟨r, x⟩
          · rw [hd] at hld
            have HD := Lib.hid hd
            have HL := Lib.hid hld
            clear hld hd
            go_wp2_with (first | (go_at_call 100; first | (refine (check_yes _).mono ?_; rintro e w' ⟨rfl, rfl⟩) | (refine (check_no _ a HG.out.sen).mono ?_; rintro e w' ⟨rfl, rfl⟩)) | (go_at_call 101; refine (wstring_any s (t'.size + 1) _ (by omega) (by omega)).mono ?_; rw [HD.out]; simp only [strRes]; rintro e w' ⟨rfl, rfl⟩))
            exact ⟨rfl, LoadEnd.bad HL.out HO.out⟩
          · obtain ⟨hx1, hx2, hr⟩ := decS_bounds hd
            rw [hd] at hld
            simp only at hld
            have HD := Lib.hid hd
            clear hd
            by_cases hx : x + 32 ≤ s.size
            · have d2 : decide ((x : Int) + 32 ≤ s.size) = true := decide_eq_true (by omega)
              obtain ⟨S, hS1⟩ : ∃ S, S = stored r (chain t'.head r) := ⟨_, rfl⟩
              rw [← hS1] at hld
              have KA := Lib.hid (add_raw wr.drew b ty rest rv' t' r HG.out.tab HT.out.drew hr (by omega) (by omega))
              rw [← hS1] at KA
              have HS := Lib.hid hS1
              clear hS1
              go_wp2_with (first | (go_at_call 100; first | (refine (check_yes _).mono ?_; rintro e w' ⟨rfl, rfl⟩) | (refine (check_no _ a HG.out.sen).mono ?_; rintro e w' ⟨rfl, rfl⟩)) | (go_at_call 101; refine (wstring_any s (t'.size + 1) _ (by omega) (by omega)).mono ?_; rw [HD.out]; simp only [strRes]; rintro e w' ⟨rfl, rfl⟩))
              obtain ⟨y, hy⟩ : ∃ y, y = x + 32 := ⟨_, rfl⟩
              have hw : IntKind.i64.wrap ((x : Int) + 32) = (y : Int) := by rw [IntWalk.i64_in _ (by omega)]; omega
              have hy1 : t'.size ≤ y := by omega
              have hy2 : y ≤ s.size := by omega
              rw [← hy] at hld
              by_cases hE : S = s.extract t'.size y
              · rw [if_pos ⟨hy2, hE⟩] at hld
                have q3 : (S.toList == (s.extract t'.size y).toList) = true := str_beq hE
                have q4 : (S.toList == (s.extract t'.size (x + 32)).toList) = true := str_beq (hy ▸ hE)
                have HL := Lib.hid hld
                have HE := Lib.hid hE
                clear hld hE
                go_region_with (first | (go_at_call 38; refine KA.out.mono ?_; rintro e w1 ⟨rfl, rv1, hT1, hO1, hF1⟩; have HT1 := Lib.hid hT1; have HO1 := Lib.hid hO1; have HF1 := Lib.hid hF1; have SN := Lib.hid (Gl.only (w := wr.drew) ⟨HG.out.tab, HG.out.sen⟩ hO1 FR.out); clear hT1 hO1 hF1) | (go_at_call 100; first | (refine (check_yes _).mono ?_; rintro e w' ⟨rfl, rfl⟩) | (refine (check_no _ a SN.out.sen).mono ?_; rintro e w' ⟨rfl, rfl⟩)))
                all_goals
                  have N := LoadSt.next HO.out HF.out HO1.out HT1.out HF1.out HG.out FR.out HS.out HE.out hy1 hy2 hrl HL.out
                  have c3 := HT1.out.blk.cell 2
                  simp only [tcells, List.getElem?_toArray, List.getElem?_cons_succ, List.getElem?_cons_zero] at c3
                  have N1 := Lib.hid N.1
                  have n2 := N.2
                  clear N
                  go_wp2
                  go_round
                  case rel => exact ⟨rv1, t'.add r, N1.out⟩
                  case measure => rw [c2, c3]; simp only [intOf]; omega
              · rw [if_neg (fun q => hE q.2)] at hld
                have q3 : (S.toList == (s.extract t'.size y).toList) = false := str_bne hE
                have q4 : (S.toList == (s.extract t'.size (x + 32)).toList) = false := str_bne (hy ▸ hE)
                have HL := Lib.hid hld
                clear hld hE
                go_region_with (first | (go_at_call 38; refine KA.out.mono ?_; rintro e w1 ⟨rfl, rv1, hT1, hO1, hF1⟩; have HT1 := Lib.hid hT1; have HO1 := Lib.hid hO1; have HF1 := Lib.hid hF1; have SN := Lib.hid (Gl.only (w := wr.drew) ⟨HG.out.tab, HG.out.sen⟩ hO1 FR.out); clear hT1 hO1 hF1) | (go_at_call 100; refine left_region ?_ (md := .text) (a := ⟨#[], []⟩) (w := wr) ?_; (refine (check_no _ a SN.out.sen).mono ?_; rintro e w' ⟨rfl, rfl⟩; exact ⟨rfl, LoadEnd.bad HL.out (step_only HO.out HF.out HO1.out)⟩)))
                all_goals exact trivial
            · rw [if_neg (by omega)] at hld
              have HL := Lib.hid hld
              have d2 : decide ((x : Int) + 32 ≤ s.size) = false := decide_eq_false (by omega)
              clear hld
              go_wp2_with (first | (go_at_call 100; first | (refine (check_yes _).mono ?_; rintro e w' ⟨rfl, rfl⟩) | (refine (check_no _ a HG.out.sen).mono ?_; rintro e w' ⟨rfl, rfl⟩)) | (go_at_call 101; refine (wstring_any s (t'.size + 1) _ (by omega) (by omega)).mono ?_; rw [HD.out]; simp only [strRes]; rintro e w' ⟨rfl, rfl⟩))
              exact ⟨rfl, LoadEnd.bad HL.out HO.out⟩
        · rw [if_neg hc1] at hld
          have q2 : ((c.toNat : Int) == 1) = false := beq_eq_false_iff_ne.2 (by omega)
          have HL := Lib.hid hld
          clear hld hc0 hc1
          go_wp2_with (go_at_call 100; refine (check_no _ a HG.out.sen).mono ?_; rintro e w' ⟨rfl, rfl⟩)
          exact ⟨rfl, LoadEnd.bad HL.out HO.out⟩
    · rw [dif_neg hin] at hld
      have d1 : decide ((t'.size : Int) < s.size) = false := decide_eq_false (by omega)
      have HL := Lib.hid hld
      clear hld
      go_wp2
      go_end0
      exact LoadEnd.fine HL.out HT.out HF.out HO.out
end Go.Proofs.YtjlgkjhociaeiaaGreatDoor
