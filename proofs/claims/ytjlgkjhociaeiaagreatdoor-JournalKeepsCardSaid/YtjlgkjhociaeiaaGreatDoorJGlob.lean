/-
  What the rows' lists give: the digest's table and the journal's sentinel; a world that holds the lists.
-/
import Derived.Test.YtjlgkjhociaeiaaGreatDoorJRows
import Derived.Test.YtjlgkjhociaeiaaGreatDoorRows
import Derived.Lib.LaidTab
import Derived.Stop.LaidErr
import Derived.ProofKit
namespace Go.Proofs.YtjlgkjhociaeiaaGreatDoor
open Go.ChangeShapes Go.WideShapes Go.ChangeAt Go.RowKit
set_option linter.unusedVariables false

theorem own : ownKnob Tryz.prog.godebug = none := by kernel_rfl
theorem laidOut : laidOutB Tryz.prog = true := by kernel_rfl
theorem gTab : Tryz.prog.globalNamed "yardstick/digest.round" = some 3 := by kernel_rfl
theorem gTabType : (Tryz.prog.globals[3]?).map (·.type) = some 214 := by kernel_rfl
theorem gTabCells : Tryz.prog.cellsOf 214 = 64 := by kernel_rfl
theorem gTabCell : Tryz.prog.cellsOf 109 = 1 := by kernel_rfl
theorem gE : Tryz.prog.globalNamed "yardstick/journal.errDamaged" = some 0 := by kernel_rfl
theorem gEType : (Tryz.prog.globals[0]?).map (·.type) = some 80 := by kernel_rfl
theorem gECells : Tryz.prog.cellsOf 244 = 1 := by kernel_rfl
theorem gECell : Tryz.prog.cellsOf 9 = 1 := by kernel_rfl
theorem gStar : "*" ++ "errors.errorString" = "*errors.errorString" := by decide
theorem gERow (u : TypeId) (h : Tryz.prog.typeName? 3 u = some "*errors.errorString") : u = 222 :=
  typeName_ptr_named (nm := "errors.errorString") (by rw [gStar]; kernel_rfl) (by kernel_rfl) (by decide) u (by rw [gStar]; exact h)
def KInts : List Int := Sha.K.map fun x => (x.toNat : Int)
theorem round_data : (Rows.laid_yardstick_digest_round : DataW Unit) = Lib.tabData .u32 KInts := by kernel_rfl
/-- The list that each row bears. -/
def laidL : List (String × DataW Unit) := [("unicode/utf8.acceptRanges", Rows.laid_unicode_utf8_acceptRanges), ("yardstick/digest.round", Rows.laid_yardstick_digest_round), ("yardstick/journal.errDamaged", Rows.laid_yardstick_journal_errDamaged), ("unicode/utf8.first", Rows.laid_unicode_utf8_first)]
theorem tab_of {W : World} {r : List (String × DataW Unit)} (h : laidMet Tryz.prog (("yardstick/digest.round", Rows.laid_yardstick_digest_round) :: r) W) : Tab W := by
  rw [round_data] at h
  have hT := Lib.tabIs_of_head gTab gTabType Tryz.underlying214 Tryz.underlying109 gTabCell gTabCells h
  unfold Lib.TabIs World.var? at hT
  rw [gTab] at hT
  simp only [Option.bind_some] at hT
  split at hT
  · rename_i cs t fr hh
    refine ⟨t, fr, hh.trans ?_⟩
    injection hT with hT
    rw [hT]
    unfold KInts ucells
    rw [List.map_map]
    rfl
  · cases hT
theorem gl_of {W : World} (h : laidMet Tryz.prog laidL W) : ∃ a, Gl W a := by
  have h1 := h.tail
  have h2 := h1.tail
  obtain ⟨a, s, hv, _⟩ := laid_sentinel h2 gE gEType Tryz.underlying80 gERow Tryz.underlying222 Tryz.underlying244 rfl rfl Tryz.underlying9 gECells gECell
  exact ⟨a, tab_of h1, by unfold Sen errD; simpa using World.var?_cell gE hv 0⟩

/-- The values of a datum. -/
def lits0 : DataW Unit → List Value
  | .lit (.int k z) => [.int k z]
  | _ => []
def lits1 : DataW Unit → List Value
  | .agg ps => ps.flatMap lits0
  | _ => []
def lits2 : DataW Unit → List Value
  | .agg ps => ps.flatMap lits1
  | _ => []
noncomputable def low : Nat := (World.holding Tryz.prog default ⟨#[], #[], []⟩).heap.size
def putCells (cs : Array Value) : Obj → Obj
  | .cells _ t frozen => .cells cs t frozen
  | o => o
/-- A world for the witness: the settled one, the listed variables as their initialisers lay them. -/
noncomputable def laidWorld (os : Os) : World :=
  let w0 := World.holding Tryz.prog os ⟨#[.cells #[.string ⟨#[100, 97, 109, 97, 103, 101, 100]⟩] 244], #[], []⟩
  { w0 with heap := (((w0.heap.modify 0 (putCells #[.iface 222 (.pointer (some ⟨low, 0, none⟩))])).modify 1 (putCells (lits1 Rows.laid_unicode_utf8_first).toArray)).modify 2 (putCells (lits2 Rows.laid_unicode_utf8_acceptRanges).toArray)).modify 3 (putCells (lits1 Rows.laid_yardstick_digest_round).toArray) }
set_option maxRecDepth 100000 in
theorem laid_met (os : Os) (args : Array Value) : laidMet Tryz.prog laidL ((laidWorld os).forCall (fun _ _ => 0) ⟨#[], args, []⟩).memory :=
  laidMet_of_run' 8 (by kernel_rfl) (by kernel_rfl)
end Go.Proofs.YtjlgkjhociaeiaaGreatDoor
