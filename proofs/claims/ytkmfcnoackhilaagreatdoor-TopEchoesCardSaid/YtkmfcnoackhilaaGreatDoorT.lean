/-
TopEchoes: for every input the call returns true and the arguments read as before (the row; its listed variables laid as the program's text lays them).
-/
import Derived.Test.YtkmfcnoackhilaaGreatDoorS
set_option linter.unusedVariables false
set_option linter.unusedSimpArgs false
namespace Go.Proofs.YtkmfcnoackhilaaGreatDoor
open Go
set_option maxRecDepth 100000

theorem topEchoes_holds : Rows.TopEchoesSaid :=
  OpenClaim.holds_of_wide 3 Tryz.f3 rfl rfl rfl rfl rfl rfl rfl ⟨rfl, rfl, rfl, rfl, rfl⟩ rfl rfl rfl rfl rfl fn_named Tryz.func3 closed inst wrap
    (fun os started H enc _ => lifted os started H enc)
end Go.Proofs.YtkmfcnoackhilaaGreatDoor
