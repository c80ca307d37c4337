/-
The tied card of TopEchoes: for every input the call returns true, each argument reads afterwards as it read before; the listed package variables are tied to the program's text.
-/
import Derived.Test.YtkmfcnoackhilaaGreatDoorT
import Derived.SevenTiedAt
set_option linter.unusedVariables false
set_option linter.unusedSimpArgs false
namespace Go.Proofs.YtkmfcnoackhilaaGreatDoor
open Go
set_option maxRecDepth 100000

theorem card_wf : Rows.topEchoesRow.wfByText (OpenSpec.ofChange Rows.topEchoesSpec) = true := by kernel_rfl
theorem card_main : Tryz.pinned.checked.prog.mainIs = some (true, "5d398372666bf4f0c71a73a9ea5ab55d3b9b887fdd0c87b47c9c5de5042bb0ff".toList) := by kernel_rfl
theorem card_looks : true = Tryz.prog.looks [] := by kernel_rfl
theorem card_wants : ([3, 3, 22].all fun u => !Tryz.prog.wantsStandIn u) = true := by kernel_rfl
theorem card_goes : false = Rows.topEchoesRow.goesBy Tryz.pinned.checked.prog := by kernel_rfl
theorem card_name : Tryz.prog.funcNamed "scrollback/scrollbacktop.TopEchoes" = some 3 := fn_named
theorem topEchoes_card : Rows.TopEchoesCardSaid :=
  Claim7.holds_tied_plain_at .later [] [.data, .data, .data, .data, .widerDeep, .widerDeep, .widerDeep, .widerDeep, .sentinel, .sentinel, .widerDeep, .widerDeep, .data, .pinned] true (true, "5d398372666bf4f0c71a73a9ea5ab55d3b9b887fdd0c87b47c9c5de5042bb0ff") true
    topEchoes_holds (fun _ h => by cases h) card_wf (fun _ h => by cases h) topEchoes_row_tie rfl ⟨rfl, rfl⟩ card_main rfl
    (fun f fn hf hfn => by
      obtain rfl : f = 3 := Option.some.inj (card_name.symm.trans hf) |>.symm
      obtain rfl : fn = Tryz.f3 := (Option.some.inj (Tryz.func3.symm.trans hfn)).symm
      exact ⟨card_looks, fun j t ht => by
        rw [Tryz.params3] at ht
        have hm : t ∈ [3, 3, 22] := by simpa using Array.mem_of_getElem? ht
        exact (show Tryz.prog.wantsStandIn t = false by simpa using List.all_eq_true.1 card_wants t hm)⟩)
    card_goes
#print axioms topEchoes_card
end Go.Proofs.YtkmfcnoackhilaaGreatDoor
