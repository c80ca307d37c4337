/-
The listed package variables as the walk wants them; a world that has them. No condition beyond the row's.
-/
import Derived.Test.YtkmfcnoackhilaaGreatDoorN
import Derived.Test.YtkmfcnoackhilaaGreatDoorRows
import Derived.Test.YtkmfcnoackhilaaGreatDoorTie
import Derived.Test.YtkmfcnoackhilaaGreatDoorCards
import Derived.ProofKit
import Derived.Lay
import Derived.LaidMore
import Derived.Stop.Joined
import Derived.Carry
import Derived.SevenTiedAt
set_option linter.unusedVariables false
set_option linter.unusedSimpArgs false
namespace Go.Proofs.YtkmfcnoackhilaaGreatDoor
open Go Go.X Go.RowKit Go.ChangeShapes Go.WideShapes Go.ChangeAt
set_option linter.unusedVariables false
set_option linter.unusedSimpArgs false
set_option maxRecDepth 100000

theorem own : ownKnob Tryz.prog.godebug = none := by kernel_rfl
theorem laidOut : laidOutB Tryz.prog = true := by kernel_rfl
theorem gMarks : Tryz.prog.globalNamed "scrollback/width.marks" = some 1 := by kernel_rfl
theorem gWide : Tryz.prog.globalNamed "scrollback/width.wide" = some 2 := by kernel_rfl
theorem tMarks : (Tryz.prog.globals[1]?).map (·.type) = some 279 := by kernel_rfl
theorem tWide : (Tryz.prog.globals[2]?).map (·.type) = some 280 := by kernel_rfl
theorem cells21 : Tryz.prog.cellsOf 21 = 1 := by kernel_rfl
theorem cells278 : Tryz.prog.cellsOf 278 = 2 := by kernel_rfl
theorem cells279 : Tryz.prog.cellsOf 279 = 18 * 2 := by kernel_rfl
theorem cells280 : Tryz.prog.cellsOf 280 = 19 * 2 := by kernel_rfl
theorem cells5 : Tryz.prog.cellsOf 5 = 1 := by kernel_rfl
theorem plainLaid : (Rows.topEchoesRow.laid.all fun x => x.2.handleName?.isNone) = true := by kernel_rfl
theorem marks_in : ("scrollback/width.marks", (DataW.agg (marksR.map fun p => Lib.tabData .i32 [p.1, p.2]) : DataW Unit)) ∈ Rows.topEchoesRow.laid :=
  .tail _ (.tail _ (.tail _ (.tail _ (.tail _ (.tail _ (.head _))))))
theorem wide_in : ("scrollback/width.wide", (DataW.agg (wideR.map fun p => Lib.tabData .i32 [p.1, p.2]) : DataW Unit)) ∈ Rows.topEchoesRow.laid :=
  .tail _ (.tail _ (.tail _ (.tail _ (.tail _ (.tail _ (.tail _ (.head _)))))))

theorem glob_of_laid {W : World} (h : laidMetH Tryz.prog Rows.topEchoesRow.laid W) : Glob W := by
  rw [MakeChecks.laidMetH_plain _ _ _ plainLaid] at h
  exact ⟨table_of_laid h _ marksR marks_in gMarks tMarks Tryz.underlying279 Tryz.underlying278 Tryz.underlying21 cells21 cells278 cells279 (by decide), table_of_laid h _ wideR wide_in gWide tWide Tryz.underlying280 Tryz.underlying278 Tryz.underlying21 cells21 cells278 cells280 (by decide)⟩

/-- The laid world meets the condition. -/
theorem laid_met (os : Os) (args : Array Value) : laidMetH Tryz.prog Rows.topEchoesRow.laid ((World.laidAll Tryz.prog os Rows.topEchoesRow.laid).forCall (fun _ _ => 0) ⟨#[], args, []⟩).memory := by
  rw [MakeChecks.laidMetH_plain _ _ _ plainLaid]
  exact laidMet_laidAll _ (by kernel_rfl) (by kernel_rfl)

end Go.Proofs.YtkmfcnoackhilaaGreatDoor
