/-
TopEchoes: from the contract to the row's form.
-/
import Derived.Test.YtkmfcnoackhilaaGreatDoorP
set_option linter.unusedVariables false
set_option linter.unusedSimpArgs false
namespace Go.Proofs.YtkmfcnoackhilaaGreatDoor
open Go Go.X Go.RowKit Go.ChangeShapes Go.WideShapes Go.ChangeAt
set_option linter.unusedVariables false
set_option linter.unusedSimpArgs false
set_option maxRecDepth 100000

theorem lifted (os : Os) (started : os.Started) (H : Type) (enc : TypeId × Value → H) :
    ReturnsInHanded {} Tryz.checked os 3 .any (fun w args => (Rows.topEchoesSpec.pre enc Tryz.prog Tryz.f3 [] false w args ∧ laidMetH Tryz.prog Rows.topEchoesRow.laid w) ∧ sizedMet enc Tryz.prog Tryz.f3 (OpenSpec.ofChange Rows.topEchoesSpec) false w args)
      (Rows.topEchoesSpec.post enc Tryz.prog Tryz.f3 false true false false) := by
  refine returnsInHanded_of_change_and (C := Tryz.checked) (X := fun w _ => laidMetH Tryz.prog Rows.topEchoesRow.laid w) (fun _ _ _ hh h => h.of_heap hh) own started (by kernel_rfl) Tryz.func3
    (ChangeSpec.witness_shaped (enc := enc) (C := Tryz.checked) (os := os) (X := fun w _ => laidMetH Tryz.prog Rows.topEchoesRow.laid w) false (World.laidAll Tryz.prog os Rows.topEchoesRow.laid) #[.int .i64 0, .int .i64 0, .slice none 0 0] 8 (World.laidAll_os _ _ _)
      (w_shaped os) (w_ok os) (w_pre os H enc) (w_sized os H enc) (laid_met os _)) ?_
  intro W base args ds gs before hval0 hW _ _ hL _
  have hval : ∀ (j : Nat) t v, Tryz.f3.params[j]? = some t → args[j]? = some v → Value.okWide Tryz.prog W .any base t v := hval0
  have hW' := hW
  obtain ⟨p, q, hA0, hV, rfl, hfz, hnd⟩ := hW
  have hA : DataW.TrodAll enc Tryz.prog W 0 (fun _ => true) true Tryz.f3.params.toList args.toList ds p := hA0
  rw [Tryz.params3] at hA hval
  obtain ⟨v0, v1, v2, d0, d1, d2, p0, p1, p2, rfl, rfl, rfl, h0, h1, h2⟩ := trodAll_three hA
  obtain ⟨rfl, rfl⟩ := trodVars_none hV
  obtain ⟨x, rfl, rfl, rfl, wx⟩ := open_int Tryz.underlying3 (hval 0 3 v0 rfl rfl) h0
  obtain ⟨y, rfl, rfl, rfl, wy⟩ := open_int Tryz.underlying3 (hval 1 3 v1 rfl rfl) h1
  obtain ⟨a2, l2, k2, rfl⟩ := okWide_slice Tryz.underlying22 (hval 2 22 v2 rfl rfl)
  have hlt : ∀ z ∈ p2, z.block < W.heap.size := fun z hz => by simpa using hW'.lt z (by simpa using hz)
  simp only [List.append_nil, List.nil_append] at hW'
  have gl := glob_of_laid hL
  have h3 := gl.size
  have fin : ∀ W', Chg Non W W' → Rows.topEchoesSpec.post enc Tryz.prog Tryz.f3 false true false false W #[.int .i64 x, .int .i64 y, .slice a2 l2 k2] (.bool true) W' := fun W' g =>
    ⟨_, _, _, [], [] ++ ([] ++ p2), [], hW', trodAll_mk1 (shut_bool Tryz.underlying4 _), trodAll_mk3 (shut_int Tryz.underlying3 wx) (shut_int Tryz.underlying3 wy) (Below.trod laidOut (by kernel_rfl) (of_decide_eq_true (by kernel_rfl)) h2 g.below hlt), rfl, g.below.frame _, fun h => by cases h⟩
  have key : ∃ pp k4 k5, (.slice a2 l2 k2 : Value) = .slice pp k4 k5 ∧ BytesArg W pp k4 := by
    obtain ⟨fuel, hf⟩ := h2
    rcases open_ints Tryz.underlying22 Tryz.underlying5 cells5 hf with ⟨hc, _⟩ | ⟨a, len, cap, zs, hc, _, hlc, _, hzl, _, hcell, hwf⟩
    · have e : (.slice a2 l2 k2 : Value) = .slice none 0 0 := (List.cons.inj hc).1
      exact ⟨_, _, _, e, bytesArg_nil⟩
    · have e : (.slice a2 l2 k2 : Value) = .slice (some a) len cap := (List.cons.inj hc).1
      refine ⟨_, _, _, e, bytesArg_of fun j hj => ?_⟩
      have hjz : j < zs.length := by rw [hzl]; simp; omega
      have hz := hwf zs[j] (List.getElem_mem hjz)
      have hz' : 0 ≤ zs[j] ∧ zs[j] ≤ 255 := by simpa [Lit.wf, IntKind.min, IntKind.max, IntKind.signed, IntKind.bits] using hz
      refine ⟨zs[j].toNat, by omega, ?_⟩
      rw [hcell j hjz, Int.toNat_of_nonneg hz'.1]
      simp [hjz]
  obtain ⟨pp, k4, k5, e2, hb⟩ := key
  rw [e2] at fin ⊢
  refine (c3 W x y pp k4 k5 gl h3 hb).mono fun e W' ⟨he, hg⟩ => ?_
  subst he
  exact ⟨_, rfl, fin W' hg⟩

end Go.Proofs.YtkmfcnoackhilaaGreatDoor
