/-
From a row's listed tables to the memory that they lie in; a slice of bytes that no call changes.
-/
import Derived.Test.YtkmfcnoackhilaaGreatDoorM
import Derived.Lib.LaidTab
import Derived.OpenShut
set_option linter.unusedVariables false
set_option linter.unusedSimpArgs false
namespace Go.Proofs
open Go Go.X Go.RowKit
set_option linter.unusedVariables false
set_option linter.unusedSimpArgs false
set_option maxRecDepth 100000

theorem rng_of_chunks : ∀ (l : List (Int × Int)) (cs : List Value), cs.length = l.length * 2 → (∀ i (h : i < l.length), (cs.drop (i * 2)).take 2 = [.int .i32 l[i].1, .int .i32 l[i].2]) → cs = rngL l
  | [], cs, hl, _ => by
    have : cs = [] := List.eq_nil_of_length_eq_zero (by simpa using hl)
    rw [this]; rfl
  | p :: l, [], hl, _ => by simp at hl
  | p :: l, [a], hl, _ => by first | (simp at hl; done) | (simp at hl; omega)
  | p :: l, a :: b :: cs, hl, hc => by
    have h0 := hc 0 (by simp)
    simp only [Nat.zero_mul, List.drop_zero, List.take_succ_cons, List.take_zero, List.getElem_cons_zero, List.cons.injEq, and_true] at h0
    have ih := rng_of_chunks l cs (by simp at hl; omega) (fun i hi => by
      have h1 := hc (i + 1) (by simpa using hi)
      rw [show (i + 1) * 2 = i * 2 + 2 by omega] at h1
      simpa using h1)
    rw [h0.1, h0.2, ih]
    rfl

theorem cells_of_rng {H : Type} {enc : TypeId × Value → H} {P : Program} {w : World} {base : Nat} {sp : Nat → Bool} {held : Bool} {fuel : Nat} {t e r : TypeId} {n : Nat} {cs : List Value} {l : List (Int × Int)} {q : List MemPlace}
    (ht : P.underlying t = some (.array n e)) (he : P.underlying e = some (.array 2 r)) (hr : P.underlying r = some (.int .i32)) (cr : P.cellsOf r = 1) (ce : P.cellsOf e = 2) (ct : P.cellsOf t = n * 2)
    (h : DataW.trod enc P w base sp held fuel t cs = some (.agg (l.map fun p => Lib.tabData .i32 [p.1, p.2]), q)) : cs = rngL l := by
  obtain ⟨xs, m, rfl, hx, hlen, hn, hel⟩ := DataW.trod_array ht h
  simp only [Prod.mk.injEq, DataW.agg.injEq] at hx
  have hll : l.length = n := by
    have := congrArg List.length hx.1
    simp at this; omega
  refine rng_of_chunks l cs (by rw [hlen, ct, hll]) fun i hi => ?_
  have h1 := hel i (by omega)
  rw [ce] at h1
  have hix : i < xs.length := by omega
  rw [List.getElem?_eq_getElem hix] at h1
  have h2 : xs[i].1 = Lib.tabData .i32 [l[i].1, l[i].2] := by
    have : (xs.map (·.1))[i]? = some (Lib.tabData .i32 [l[i].1, l[i].2]) := by rw [← hx.1]; simp [hi]
    rw [List.getElem?_map, List.getElem?_eq_getElem hix] at this
    simpa using this
  have h3 : DataW.trod enc P w base sp held m e ((cs.drop (i * 2)).take 2) = some (Lib.tabData .i32 [l[i].1, l[i].2], xs[i].2) := by
    rw [h1, ← h2]
  exact Lib.cells_of_tab he hr cr ce h3

theorem laidVars_at {P : Program} {w : World} : ∀ {l : List (String × DataW Unit)} {ps : List MemPlace}, DataW.LaidVars P w l ps → ∀ n d, (n, d) ∈ l →
    ∃ g t cs fuel p, P.globalNamed n = some g ∧ (P.globals[g]?).map (·.type) = some t ∧ w.var? P n = some cs ∧ DataW.trod (fun _ => ()) P w 0 (fun _ => true) false fuel t cs.toList = some (d, p) ∧ ∀ x ∈ MemPlace.row ⟨g, 0, none⟩ cs.size, x ∈ ps
  | [], _, _, _, _, hm => by cases hm
  | (n', d') :: r, ps, h, n, d, hm => by
    obtain ⟨g, t, cs, fuel, p, q, h1, h2, h3, h4, h5, rfl⟩ := h
    rcases List.mem_cons.1 hm with e | e
    · cases e
      exact ⟨g, t, cs, fuel, p, h1, h2, h3, h4, fun x hx => List.mem_append_left _ (List.mem_append_left _ hx)⟩
    · obtain ⟨g', t', cs', fuel', p', k1, k2, k3, k4, k5⟩ := laidVars_at h5 n d e
      exact ⟨g', t', cs', fuel', p', k1, k2, k3, k4, fun x hx => List.mem_append_right _ (k5 x hx)⟩

/-- A listed table of ranges, as it lies in memory. -/
theorem table_of_laid {P : Program} {w : World} {laid : List (String × DataW Unit)} (h : laidMet P laid w) (n : String) (l : List (Int × Int)) {g : Nat} {t e r : TypeId} {len : Nat}
    (hm : (n, DataW.agg (l.map fun p => Lib.tabData .i32 [p.1, p.2])) ∈ laid) (hg : P.globalNamed n = some g) (ht : (P.globals[g]?).map (·.type) = some t)
    (hu : P.underlying t = some (.array len e)) (he : P.underlying e = some (.array 2 r)) (hr : P.underlying r = some (.int .i32)) (cr : P.cellsOf r = 1) (ce : P.cellsOf e = 2) (ct : P.cellsOf t = len * 2) (h0 : l ≠ []) :
    ∃ T, blk w g = some (.cells (rngC l) T) := by
  obtain ⟨ps, hv, hnd, hfr⟩ := h
  obtain ⟨g', t', cs, fuel, p, h1, h2, h3, h4, h5⟩ := laidVars_at hv n _ hm
  obtain rfl := Option.some.inj (hg.symm.trans h1)
  obtain rfl := Option.some.inj (ht.symm.trans h2)
  have hc := cells_of_rng hu he hr cr ce ct h4
  have hpos : 0 < cs.size := by
    rw [← Array.length_toList, hc, rngL_length]
    have : 0 < l.length := List.length_pos_iff.2 h0
    omega
  obtain ⟨⟨c, T, hb⟩, _⟩ := hfr g 0 (h5 _ (List.mem_map.2 ⟨0, List.mem_range.2 hpos, by simp⟩))
  unfold World.var? at h3
  rw [hg, Option.bind_some, hb] at h3
  have e1 : c = cs := Option.some.inj h3
  have e2 : cs = rngC l := by
    unfold rngC; rw [← hc]
  refine ⟨T, ?_⟩
  show w.heap[g]? = _
  rw [hb, e1, e2]

theorem bytesArg_of {w : World} {a : Addr} {n : Nat} (h : ∀ j, j < n → ∃ b : Nat, b < 256 ∧ w.cell? (a.add j) = some (.int .u8 b)) : BytesArg w (some a) n := by
  intro j hj
  obtain ⟨b, hb, hc⟩ := h j hj
  obtain ⟨kb, ko, sp⟩ := a
  cases sp with
  | some x =>
    obtain ⟨b0, _, h0⟩ := h 0 (by omega)
    have e0 : (⟨kb, ko, some x⟩ : Addr).add 0 = ⟨kb, ko, some x⟩ := rfl
    rw [e0] at h0
    unfold World.cell? at h0
    split at h0
    · simp at h0
    · cases h0
  | none =>
    have hc' : w.cell? ⟨kb, ko + j, none⟩ = some (.int .u8 b) := by
      have e : (⟨kb, ko, none⟩ : Addr).add j = ⟨kb, ko + j, none⟩ := by
        unfold Addr.add
        split
        · rename_i h0; subst h0; rfl
        · rfl
      rw [← e]; exact hc
    refine ⟨b, hb, kb, ko, rfl, fun w' g => ?_⟩
    have hlt : kb < w.heap.size := by
      rcases Nat.lt_or_ge kb w.heap.size with q | q
      · exact q
      · unfold World.cell? at hc'
        rw [Array.getElem?_eq_none q] at hc'
        cases hc'
    rw [cell?_blk, g.block kb hlt (not_non _), ← cell?_blk]
    exact hc'
theorem bytesArg_nil {w : World} {p : Option Addr} : BytesArg w p 0 := fun j hj => absurd hj (Nat.not_lt_zero _)
end Go.Proofs
