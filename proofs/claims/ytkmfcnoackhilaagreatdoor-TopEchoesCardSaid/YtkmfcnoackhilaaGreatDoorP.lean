/-
The witness of the row of TopEchoes: closed facts.
-/
import Derived.Test.YtkmfcnoackhilaaGreatDoorO
set_option linter.unusedVariables false
set_option linter.unusedSimpArgs false
namespace Go.Proofs.YtkmfcnoackhilaaGreatDoor
open Go Go.X Go.RowKit Go.ChangeShapes Go.WideShapes Go.ChangeAt
set_option linter.unusedVariables false
set_option linter.unusedSimpArgs false
set_option maxRecDepth 100000

theorem w_shaped (os : Os) : World.Shaped Tryz.checked.prog ((World.laidAll Tryz.prog os Rows.topEchoesRow.laid).forCall (fun _ _ => 0) { blocks := #[], args := #[.int .i64 0, .int .i64 0, .slice none 0 0] }) := World.shaped_of_ZipB (by kernel_rfl) (by kernel_rfl)
theorem w_ok (os : Os) : Input.okWideB Tryz.checked.prog ((World.laidAll Tryz.prog os Rows.topEchoesRow.laid).forCall (fun _ _ => 0) { blocks := #[], args := #[.int .i64 0, .int .i64 0, .slice none 0 0] }) 3 { blocks := #[], args := #[.int .i64 0, .int .i64 0, .slice none 0 0] } = true := by kernel_rfl
theorem w_pre (os : Os) (H : Type) (enc : TypeId × Value → H) : ChangeSpec.preB enc Tryz.checked.prog Tryz.f3 Rows.topEchoesSpec [] false ((World.laidAll Tryz.prog os Rows.topEchoesRow.laid).forCall (fun _ _ => 0) { blocks := #[], args := #[.int .i64 0, .int .i64 0, .slice none 0 0] }).memory #[.int .i64 0, .int .i64 0, .slice none 0 0] 8 = true := by kernel_rfl
theorem w_sized (os : Os) (H : Type) (enc : TypeId × Value → H) : ChangeSpec.sizedB enc Tryz.checked.prog Tryz.f3 Rows.topEchoesSpec false ((World.laidAll Tryz.prog os Rows.topEchoesRow.laid).forCall (fun _ _ => 0) { blocks := #[], args := #[.int .i64 0, .int .i64 0, .slice none 0 0] }).memory #[.int .i64 0, .int .i64 0, .slice none 0 0] 8 = true := by kernel_rfl
end Go.Proofs.YtkmfcnoackhilaaGreatDoor
