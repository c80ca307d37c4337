/-
Contracts: the screen, the terminal's Write, keys.
-/
import Derived.Test.YtkmfcnoackhilaaGreatDoorJ
import Derived.Laws.IdiomStrings
set_option linter.unusedVariables false
set_option linter.unusedSimpArgs false
namespace Go.Proofs
open Go Go.X Go.RowKit
set_option linter.unusedVariables false
set_option linter.unusedSimpArgs false
set_option maxRecDepth 100000

theorem floBI {P : Program} {f : FuncId} {args : Array Value} {w : World} {K : IntKind} {b0 : Bool} {n0 : Int} (h : ∀ w', w.heap.size ≤ w'.heap.size → Chg Non w w' → Calls P f args w' fun e w2 => e = .returned (.tuple #[.bool b0, .int K n0]) ∧ Chg Non w' w2) :
    ∀ w', Below w.heap.size w w' → Calls P f args w' fun e w2 => ∃ c n, e = .returned (.tuple #[.bool c, .int K n]) ∧ Below w'.heap.size w' w2 ∧ Value.tuple #[.bool c, .int K n] = Value.tuple #[.bool b0, .int K n0] :=
  fun w' hb => Calls.then (h w' hb.size (.of_below hb)) fun e w2 he => ⟨b0, n0, he.1, he.2.below, rfl⟩
theorem floII {P : Program} {f : FuncId} {args : Array Value} {w : World} {K K' : IntKind} {b0 n0 : Int} (h : ∀ w', w.heap.size ≤ w'.heap.size → Chg Non w w' → Calls P f args w' fun e w2 => e = .returned (.tuple #[.int K b0, .int K' n0]) ∧ Chg Non w' w2) :
    ∀ w', Below w.heap.size w w' → Calls P f args w' fun e w2 => ∃ c n, e = .returned (.tuple #[.int K c, .int K' n]) ∧ Below w'.heap.size w' w2 ∧ Value.tuple #[.int K c, .int K' n] = Value.tuple #[.int K b0, .int K' n0] :=
  fun w' hb => Calls.then (h w' hb.size (.of_below hb)) fun e w2 he => ⟨b0, n0, he.1, he.2.below, rfl⟩

def setA : Array Value := #[.int .i64 0, .int .i64 0, .int .i64 0]
theorem c193 (w : World) : Calls Tryz.prog 193 #[.int .i64 0] w fun e w' => e = .returned (.bool true) ∧ Chg Non w w' := by
  refine r193 _ _ _ ?_
  unfold V193
  exact br_t rfl ⟨rfl, Chg.refl _ _⟩
theorem c173 (w : World) : Calls Tryz.prog 173 #[.agg setA] w fun e w' => e = .returned (.bool true) ∧ Chg Non w w' := by
  refine r173 _ _ _ ?_
  unfold V173
  refine nw ?_
  intro k w1 e1 s1 b1 g1
  refine ⟨by omega, by omega, _, _, rfl, _, rd1 kp (by rfl), ?_⟩
  refine Calls.then (c193 w1) ?_
  rintro e w2 ⟨rfl, g2⟩
  refine ⟨_, rfl, br_t rfl ⟨by omega, by omega, _, _, rfl, _, rd1 kp (by rfl), ?_⟩⟩
  refine Calls.then (c193 w2) ?_
  rintro e w3 ⟨rfl, g3⟩
  exact ⟨_, rfl, br_t rfl ⟨_, rd1 kp (by rfl), br_t rfl ⟨rfl, by (repeat (first | exact Chg.refl _ _ | refine Chg.step (by assumption) ?_ (by (first | exact sub_non _ | exact sub_nil _ | (repeat (first | exact sub_nil _ | refine sub_new (by omega) ?_ | refine sub_old (by first | assumption | exact in_head _ _ | exact in_tail (in_head _ _) | exact in_tail (in_tail (in_head _ _)) | simp [In]) ?_))))))⟩⟩⟩
theorem c130 (w : World) (r : Int) : Calls Tryz.prog 130 #[.agg setA, .int .i32 r] w fun e w' => e = .returned (.int .i32 r) ∧ Chg Non w w' := by
  refine r130 _ _ _ _ ?_
  unfold V130
  refine nw ?_
  intro k w1 e1 s1 b1 g1
  intro K hK
  clear hK
  refine ⟨_, rdall kp (by rfl), ?_⟩
  refine Calls.then (c173 w1) ?_
  rintro e w2 ⟨rfl, g2⟩
  exact ⟨_, rfl, br_f rfl ⟨_, rd1 kp (by rfl), by omega, by omega, _, _, rfl, _, rd1 kp (by rfl), br_t rfl ⟨rfl, by (repeat (first | exact Chg.refl _ _ | refine Chg.step (by assumption) ?_ (by (first | exact sub_non _ | exact sub_nil _ | (repeat (first | exact sub_nil _ | refine sub_new (by omega) ?_ | refine sub_old (by first | assumption | exact in_head _ _ | exact in_tail (in_head _ _) | exact in_tail (in_tail (in_head _ _)) | simp [In]) ?_))))))⟩⟩⟩

/-- Only the cursor is another. -/
structure Cur (S S' : SS) (col : Nat) (row : Nat) : Prop where
  row : S'.row = row
  col : S'.col = col
  pend : S'.pend = false
  runes : runes S' = runes S
  kept : (kept S'.ss).length = (kept S.ss).length
  pushed : S'.pushed = S.pushed

theorem c141 (w : World) (s R C : Nat) (S : SS) (h : Scr w s R C S) :
    Calls Tryz.prog 141 #[.pointer (some ⟨s, 0, none⟩), .int .i64 1] w fun e w' => ∃ S', e = .returned (.int .i64 0) ∧ Scr w' s R C S' ∧ SStep s w S w' S' ∧ Cur S S' (tabTo C S.col) S.row := by
  have hC := h.hC
  have hR := h.hR
  have hcol := h.hcol
  refine r141 _ _ _ _ ?_
  unfold V141
  refine ⟨_, rfl, _, rd1 h.scr (by rfl), _, rfl, _, rd1 h.scr (by rfl), _, _, floII fun w' s' g' => c186 w' S.stp S.stm C S.col (h.stops.non g') hcol hC.2, all_below ?_⟩
  intro w1 s1 g1
  have h1 := h.non g1
  intro K hK
  refine br_f rfl (hK _ _ _ fun _ => br_f rfl ?_)
  clear hK K
  have htab : tabTo C S.col < C := by unfold tabTo; omega
  refine ⟨_, floA fun w' s' g' => c104 w' s R C S (h1.non g'), _, rfl, _, rdc (d := [.int .i64 S.row, .int .i64 S.col, .bool S.pend]) h1.scr (by rfl) (by (first | exact Nat.le_of_ble_eq_true rfl | (simp; done) | omega)), _, _, floAI fun w' s' g' => c188 R C S.row S.col S.pend (tabTo C S.col) w' hR.2 (by omega) h.hrow h.hcol h.hpend htab, _, rfl, all_below ?_⟩
  intro w2 s2 g2
  have h2 := h1.non g2
  refine ⟨rfl, one_lit rfl, fw h2.scr (by (first | exact Nat.le_of_ble_eq_true rfl | (simp; done) | omega)), putsL (l' := scrL R C S.pr S.hi S.row (tabTo C S.col) false S.stp S.pushed) h2.scr (by (first | exact Nat.le_of_ble_eq_true rfl | (simp; done) | omega)) (by rfl) ?_⟩
  intro w3 s3 b3 g3
  obtain ⟨h3, st3⟩ := h2.own S.row (tabTo C S.col) false S.pushed b3 g3 h.hrow htab (fun hh => by cases hh)
  exact ⟨_, rfl, h3, (SStep.non (g1.trans g2)).trans st3, rfl, rfl, rfl, rfl, rfl, rfl⟩

theorem c107b (w : World) (s R C : Nat) (S : SS) (h : Scr w s R C S) :
    Calls Tryz.prog 107 #[.pointer (some ⟨s, 0, none⟩), .int .i32 8] w fun e w' => ∃ S', e = .returned (.int .i64 0) ∧ Scr w' s R C S' ∧ SStep s w S w' S' ∧ Cur S S' (S.col - 1) S.row := by
  have hC := h.hC
  have hR := h.hR
  have hcol := h.hcol
  refine r107 _ _ _ _ ?_
  unfold V107
  intro K hK
  refine br_t rfl ⟨_, floA fun w' s' g' => c104 w' s R C S (h.non g'), _, rfl, _, rdc (d := [.int .i64 S.row, .int .i64 S.col, .bool S.pend]) h.scr (by rfl) (by (first | exact Nat.le_of_ble_eq_true rfl | (simp; done) | omega)), _, _, floAI fun w' s' g' => c140 R C S.row S.col S.pend w' hR.2 (by omega) h.hrow h.hcol h.hpend, _, rfl, all_below ?_⟩
  intro w2 s2 g2
  have h2 := h.non g2
  refine ⟨rfl, one_lit rfl, fw h2.scr (by (first | exact Nat.le_of_ble_eq_true rfl | (simp; done) | omega)), putsL (l' := scrL R C S.pr S.hi S.row (S.col - 1) false S.stp S.pushed) h2.scr (by (first | exact Nat.le_of_ble_eq_true rfl | (simp; done) | omega)) (by rfl) ?_⟩
  intro w3 s3 b3 g3
  obtain ⟨h3, st3⟩ := h2.own S.row (S.col - 1) false S.pushed b3 g3 h.hrow (by omega) (fun hh => by cases hh)
  refine hK _ _ fun _ => ?_
  exact ⟨_, rfl, h3, (SStep.non g2).trans st3, rfl, rfl, rfl, rfl, rfl, rfl⟩
theorem c107t (w : World) (s R C : Nat) (S : SS) (h : Scr w s R C S) :
    Calls Tryz.prog 107 #[.pointer (some ⟨s, 0, none⟩), .int .i32 9] w fun e w' => ∃ S', e = .returned (.int .i64 0) ∧ Scr w' s R C S' ∧ SStep s w S w' S' ∧ Cur S S' (tabTo C S.col) S.row := by
  refine r107 _ _ _ _ ?_
  unfold V107
  intro K hK
  refine br_f rfl (br_t rfl ?_)
  refine Calls.then (c141 w s R C S h) ?_
  rintro e w1 ⟨S', rfl, h1, st1, q⟩
  refine ⟨_, rfl, hK _ _ fun _ => ?_⟩
  exact ⟨S', rfl, h1, st1, q⟩
theorem c107n (w : World) (s R C : Nat) (S : SS) (h : Scr w s R C S) (gl : Glob w) (hn : (kept S.ss).length < 100) (hpu : S.pushed ≤ 1000) :
    Calls Tryz.prog 107 #[.pointer (some ⟨s, 0, none⟩), .int .i32 10] w fun e w' => ∃ S', e = .returned (.int .i64 0) ∧ Scr w' s R C S' ∧ SStep s w S w' S' ∧ Down R C S S' := by
  refine r107 _ _ _ _ ?_
  unfold V107
  intro K hK
  refine br_f rfl (br_f rfl ?_)
  intro K2 hK2
  refine br_t rfl (hK2 _ _ fun _ => br_t rfl ?_)
  refine Calls.then (c142 w s R C S h gl hn hpu) ?_
  rintro e w1 ⟨S', rfl, h1, st1, q⟩
  refine ⟨_, rfl, hK _ _ fun _ => ?_⟩
  exact ⟨S', rfl, h1, st1, q⟩
theorem c107r (w : World) (s R C : Nat) (S : SS) (h : Scr w s R C S) :
    Calls Tryz.prog 107 #[.pointer (some ⟨s, 0, none⟩), .int .i32 13] w fun e w' => ∃ S', e = .returned (.int .i64 0) ∧ Scr w' s R C S' ∧ SStep s w S w' S' ∧ Cur S S' 0 S.row := by
  have hC := h.hC
  have hR := h.hR
  have hcol := h.hcol
  refine r107 _ _ _ _ ?_
  unfold V107
  intro K hK
  refine br_f rfl (br_f rfl ?_)
  intro K2 hK2
  refine br_f rfl (br_f rfl (hK2 _ _ fun _ => br_f rfl (br_t rfl ?_)))
  refine ⟨_, floA fun w' s' g' => c104 w' s R C S (h.non g'), _, rfl, _, rdc (d := [.int .i64 S.row, .int .i64 S.col, .bool S.pend]) h.scr (by rfl) (by (first | exact Nat.le_of_ble_eq_true rfl | (simp; done) | omega)), _, _, floAI fun w' s' g' => c143 R C S.row S.col S.pend w' hR.2 (by omega) h.hrow h.hcol h.hpend, _, rfl, all_below ?_⟩
  intro w2 s2 g2
  have h2 := h.non g2
  refine ⟨rfl, one_lit rfl, fw h2.scr (by (first | exact Nat.le_of_ble_eq_true rfl | (simp; done) | omega)), putsL (l' := scrL R C S.pr S.hi S.row 0 false S.stp S.pushed) h2.scr (by (first | exact Nat.le_of_ble_eq_true rfl | (simp; done) | omega)) (by rfl) ?_⟩
  intro w3 s3 b3 g3
  obtain ⟨h3, st3⟩ := h2.own S.row 0 false S.pushed b3 g3 h.hrow (by omega) (fun hh => by cases hh)
  refine hK _ _ fun _ => ?_
  exact ⟨_, rfl, h3, (SStep.non g2).trans st3, rfl, rfl, rfl, rfl, rfl, rfl⟩

/-- A rune is where the cursor was. -/
structure PrintTo (C : Nat) (S S' : SS) (r : Int) : Prop where
  row : S'.row = S.row
  cur : (S.col + 1 < C ∧ S'.col = S.col + 1 ∧ S'.pend = false) ∨ (S.col + 1 = C ∧ S'.col = S.col ∧ S'.pend = true)
  runes : runes S' = (runes S).modify ((kept S.ss).length + S.row) (·.set S.col r)
  kept : (kept S'.ss).length = (kept S.ss).length
  pushed : S'.pushed = S.pushed

theorem modify_right {α : Type} (a b : List α) (f : α → α) : ∀ i, (a ++ b).modify (a.length + i) f = a ++ b.modify i f := by
  induction a with
  | nil => intro i; simp
  | cons x a ih => intro i; rw [List.cons_append, List.length_cons, show a.length + 1 + i = a.length + i + 1 by omega, List.modify_succ_cons, ih, List.cons_append]
theorem modify_map (l : List GRow) (i col : Nat) (r : Int) : (l.modify i fun x => { x with rs := x.rs.set col r }).map (·.rs) = (l.map (·.rs)).modify i (·.set col r) := by
  apply List.ext_getElem?
  intro j
  simp only [List.getElem?_map, List.getElem?_modify]
  cases l[j]? <;> simp
  split <;> rfl

/-- The print of a rune behind the wrap. -/
theorem do138 (w : World) (s R C : Nat) (S : SS) (r : Int) (k3 k5 : Nat) (h : Scr w s R C S) (gl : Glob w) (b3 : blk w k3 = some (.cells #[.pointer (some ⟨s, 0, none⟩)] 64)) (b5 : blk w k5 = some (.cells #[.int .i32 r] 21)) (hpn : S.pend = false) (hr1 : 32 ≤ r) (hr2 : r ≤ 126) :
    Calls Tryz.prog 132 #[.pointer (some ⟨S.pr, 0, none⟩), .func (.func 138) #[] #[.pointer (some ⟨k3, 0, none⟩), .pointer (some ⟨k5, 0, none⟩)]] w fun e w' => ∃ S', e = .returned (.int .i64 0) ∧ Scr w' s R C S' ∧ SStep s w S w' S' ∧ PrintTo C S S' r := by
  have hC := h.hC
  have hR := h.hR
  have hcol := h.hcol
  have hrow := h.hrow
  have hp := h.pair
  refine r132_138 _ _ _ _ _ ?_
  unfold V132_138
  (refine Calls.then (c84 _ _ _ hp) ?_; rintro e wA ⟨rfl, gA⟩; obtain ⟨bA, hbA⟩ := hp.non gA; refine ⟨_, rfl, br_f rfl ⟨_, rfl, _, rd1 hbA (by rfl), _, rfl, by omega, by omega, _, _, rfl, _, rd1 hbA (by rfl), all_below ?_⟩⟩; intro wB sB gB)
  have g2 : Chg Non w wB := gA.trans gB
  have h2 := h.non g2
  have b3' := g2.get b3 (not_non _)
  have b5' := g2.get b5 (not_non _)
  refine r138 _ _ _ _ _ ?_
  unfold V138
  refine ⟨_, rd1 b3' (by rfl), _, rd1 b3' (by rfl), _, rfl, _, rdc (d := [.int .i64 S.row, .int .i64 S.col, .bool S.pend]) h2.scr (by rfl) (by (first | exact Nat.le_of_ble_eq_true rfl | (simp; done) | omega)), _, rd1 b5' (by rfl), _, rd1 b3' (by rfl), _, rfl, _, rdc (d := penZ.toList) h2.scr (by rfl) (by (first | exact Nat.le_of_ble_eq_true rfl | (simp; done) | omega)), _, rd1 b3' (by rfl), _, rfl, _, rd1 h2.scr (by rfl), _, rd1 b3' (by rfl), _, rfl, _, rd1 h2.scr (by rfl), all_below ?_⟩
  intro w4 s4 g4
  have h4 := h2.non g4
  rw [hpn]
  have hrl : S.row < S.l.length := by rw [h.len]; exact hrow
  refine Calls.then (c139 w4 S.g S.rb S.rcap C S.l S.row S.col r (gl.non (g2.trans g4)) h4.grid hrl hcol (by omega) hr1 hr2) ?_
  rintro e w5 ⟨rfl, hg5, g5⟩
  obtain ⟨h5, st5⟩ := h4.rows _ g5 (fun j hj => .inr ⟨S.l[S.row], List.getElem_mem _, by unfold In at hj; rwa [List.mem_singleton] at hj⟩) hg5 (by rw [List.length_modify]; exact h.len) fun y hy => .inl (rowsame S.l S.row (fun x => { x with rs := x.rs.set S.col r }) (fun _ => rfl) y hy)
  have hrowB := h4.grid.rows.row S.l[S.row] (List.getElem_mem _)
  have b3'' := g4.get b3' (not_non _)
  have b3f := g5.get b3'' (not_in_cons (row_ne_lines hrowB b3'' (by decide)).symm (not_in_nil _))
  have hprun : runes { S with l := S.l.modify S.row fun x => { x with rs := x.rs.set S.col r } } = (runes S).modify ((kept S.ss).length + S.row) (·.set S.col r) := by
    unfold runes
    dsimp only
    rw [modify_map, show (kept S.ss).length = ((kept S.ss).map (·.rs)).length by simp, modify_right]
  by_cases hlt : S.col + 1 < C
  · rw [if_pos hlt]
    refine ⟨_, _, rfl, ⟨_, rd1 b3f (by rfl), rfl⟩, _, rfl, rfl, one_lit rfl, fw h5.scr (by (first | exact Nat.le_of_ble_eq_true rfl | (simp; done) | omega)), putsL (l' := scrL R C S.pr S.hi S.row (S.col + 1) false S.stp S.pushed) h5.scr (by (first | exact Nat.le_of_ble_eq_true rfl | (simp; done) | omega)) (by rfl) ?_⟩
    intro w6 s6 b6 g6
    obtain ⟨h6, st6⟩ := h5.own S.row (S.col + 1) false S.pushed b6 g6 hrow hlt (fun hh => by cases hh)
    refine ⟨⟨_, rd1 (g6.get b3f (not_in_cons (blk_ne b3f h5.scr (by decide)) (not_in_nil _))) (by rfl), rfl⟩, _, rfl, _, rfl, h6, (SStep.non (g2.trans g4)).trans (st5.trans st6), rfl, .inl ⟨hlt, rfl, rfl⟩, hprun, rfl, rfl⟩
  · rw [if_neg hlt]
    refine ⟨_, _, rfl, ⟨_, rd1 b3f (by rfl), rfl⟩, _, rfl, rfl, one_lit rfl, fw h5.scr (by (first | exact Nat.le_of_ble_eq_true rfl | (simp; done) | omega)), putsL (l' := scrL R C S.pr S.hi S.row (C - 1) true S.stp S.pushed) h5.scr (by (first | exact Nat.le_of_ble_eq_true rfl | (simp; done) | omega)) (by rfl) ?_⟩
    intro w6 s6 b6 g6
    obtain ⟨h6, st6⟩ := h5.own S.row (C - 1) true S.pushed b6 g6 hrow (by omega) (fun _ => rfl)
    refine ⟨⟨_, rd1 (g6.get b3f (not_in_cons (blk_ne b3f h5.scr (by decide)) (not_in_nil _))) (by rfl), rfl⟩, _, rfl, _, rfl, h6, (SStep.non (g2.trans g4)).trans (st5.trans st6), rfl, .inr ⟨by omega, by show C - 1 = S.col; omega, rfl⟩, hprun, rfl, rfl⟩
end Go.Proofs

namespace Go.Proofs
open Go Go.X Go.RowKit
set_option linter.unusedVariables false
set_option linter.unusedSimpArgs false
set_option maxRecDepth 100000

theorem c106 (w : World) (s R C : Nat) (S : SS) (r : Int) (h : Scr w s R C S) (gl : Glob w) (hr1 : 32 ≤ r) (hr2 : r ≤ 126) (hn : (kept S.ss).length < 100) (hpu : S.pushed ≤ 1000) :
    Calls Tryz.prog 106 #[.pointer (some ⟨s, 0, none⟩), .int .i32 r] w fun e w' => ∃ S1 S', e = .returned (.int .i64 0) ∧ Scr w' s R C S' ∧ SStep s w S w' S' ∧ ((S.pend = true ∧ Wrap R C S S1) ∨ (S.pend = false ∧ S1 = S)) ∧ PrintTo C S1 S' r := by
  have hC := h.hC
  have hR := h.hR
  have hcol := h.hcol
  have hrow := h.hrow
  have hslt := blk_lt h.scr
  refine r106 _ _ _ _ ?_
  unfold V106
  refine nw ?_
  intro k3 w1 e1 s1 b1 g1
  refine nw ?_
  intro k5 w2 e2 s2 b2 g2
  have h2 := (h.non g1).non g2
  have b1' := g2.get b1 (not_non _)
  refine ⟨_, rd1 b1' (by rfl), _, rfl, _, rdc (d := [.int .i64 0, .int .i64 0, .int .i64 0]) h2.scr (by rfl) (by (first | exact Nat.le_of_ble_eq_true rfl | (simp; done) | omega)), _, rd1 b2 (by rfl), _, floI fun w' s' g' => c130 w' r, all_below ?_⟩
  intro w3 s3 g3
  have h3 := h2.non g3
  have b1'' := g3.get b1' (not_non _)
  have b2' := g3.get b2 (not_non _)
  refine ⟨fw b2' (by (first | exact Nat.le_of_ble_eq_true rfl | (simp; done) | omega)), putL b2' (by rfl) ?_⟩
  intro w4 s4 b4 g4
  have h4 := h3.off g4 b2' (by decide)
  have st4 : SStep s w S w4 S := SStep.off (SStep.non ((g1.trans g2).trans g3)) g4 (by omega)
  have gl4 := h.glob gl st4.1
  have b14 := g4.get b1'' (not_in_cons (by omega) (not_in_nil _))
  refine ⟨_, rd1 b4 (by rfl), ?_⟩
  refine Calls.then (c131 r w4 gl4 hr1 hr2) ?_
  rintro e w5 ⟨rfl, g5⟩
  refine ⟨_, rfl, br_f rfl (br_f rfl (nw ?_))⟩
  intro k29 w6 e6 s6 b6 g6
  have h6 := (h4.non g5).non g6
  refine ⟨fw b6 (by (first | exact Nat.le_of_ble_eq_true rfl | (simp; done) | omega)), putL b6 (by rfl) ?_⟩
  intro w7 s7 b7 g7
  have h7 := h6.off g7 b6 (by decide)
  have s5 := g5.size
  have st7 : SStep s w S w7 S := SStep.off (st4.trans (SStep.non (g5.trans g6))) g7 (by omega)
  have gl7 := h.glob gl st7.1
  have b17 := g7.get (g6.get (g5.get b14 (not_non _)) (not_non _)) (not_in_cons (by omega) (not_in_nil _))
  have b57 := g7.get (g6.get (g5.get b4 (not_non _)) (not_non _)) (not_in_cons (by omega) (not_in_nil _))
  refine ⟨_, rd1 b17 (by rfl), _, rfl, _, rd1 h7.scr (by rfl), ?_⟩
  have hp := h7.pair
  refine r132_135 _ _ _ _ _ _ ?_
  unfold V132_135
  (refine Calls.then (c84 _ _ _ hp) ?_; rintro e wA ⟨rfl, gA⟩; obtain ⟨bA, hbA⟩ := hp.non gA; refine ⟨_, rfl, br_f rfl ⟨_, rfl, _, rd1 hbA (by rfl), _, rfl, by omega, by omega, _, _, rfl, _, rd1 hbA (by rfl), all_below ?_⟩⟩; intro wB sB gB)
  have g8 : Chg Non w7 wB := gA.trans gB
  have h8 := h7.non g8
  have b18 := g8.get b17 (not_non _)
  have b58 := g8.get b57 (not_non _)
  have b78 := g8.get b7 (not_non _)
  refine r135 _ _ _ _ _ _ ?_
  unfold V135
  refine ⟨_, rd1 b18 (by rfl), _, rfl, _, rdc (d := [.int .i64 S.row, .int .i64 S.col, .bool S.pend]) h8.scr (by rfl) (by (first | exact Nat.le_of_ble_eq_true rfl | (simp; done) | omega)), _, rd1 b58 (by rfl), _, rd1 b18 (by rfl), _, rfl, _, rd1 h8.scr (by rfl), _, _, floBI fun w' s' g' => c136 w' S.g C S.l.length S.rcap _ S.row S.col S.pend r (gl7.non (g8.trans g')) ((h8.non g').grid.grid) (by rw [h.len]; exact hrow) hcol h.hpend (by omega) hr1 hr2, all_below ?_⟩
  intro w9 s9 g9
  have h9 := h8.non g9
  have b19 := g9.get b18 (not_non _)
  have b59 := g9.get b58 (not_non _)
  have b79 := g9.get b78 (not_non _)
  refine ⟨fw b79 (by (first | exact Nat.le_of_ble_eq_true rfl | (simp; done) | omega)), putL b79 (by rfl) ?_⟩
  intro wa sa ba ga
  have ha := h9.off ga b79 (by decide)
  have sg8 := g8.size
  have sta : SStep s w S wa S := SStep.off (st7.trans (SStep.non (g8.trans g9))) ga (by omega)
  have gla := h.glob gl sta.1
  have b1a := ga.get b19 (not_in_cons (blk_ne b19 b79 (by decide)) (not_in_nil _))
  have b5a := ga.get b59 (not_in_cons (blk_ne b59 b79 (by decide)) (not_in_nil _))
  refine ⟨_, rfl, _, rfl, ?_⟩
  intro K hK
  have key : ∀ wb S1, Scr wb s R C S1 → SStep s w S wb S1 → ((S.pend = true ∧ Wrap R C S S1) ∨ (S.pend = false ∧ S1 = S)) → S1.pend = false → blk wb k3 = some (.cells #[.pointer (some ⟨s, 0, none⟩)] 64) → blk wb k5 = some (.cells #[.int .i32 r] 21) → K [.int .i64 0] wb := by
    intro wb S1 hb stb hw hpn b3b b5b
    refine hK _ _ fun _ => ?_
    clear hK K
    refine br_f rfl ⟨_, rd1 b3b (by rfl), _, rfl, _, rd1 hb.scr (by rfl), ?_⟩
    refine Calls.then (do138 wb s R C S1 r k3 k5 hb (h.glob gl stb.1) b3b b5b hpn hr1 hr2) ?_
    rintro e wc ⟨S', rfl, hc, stc, q⟩
    exact ⟨_, rfl, S1, S', rfl, hc, stb.trans stc, hw, q⟩
  clear hK
  refine br_t rfl ⟨_, rd1 ba (by rfl), ?_⟩
  refine br_bool (fun hpt => ?_) fun hpf => ?_
  · refine ⟨_, rd1 b1a (by rfl), ?_⟩
    refine Calls.then (c137 wa s R C S ha gla hn hpu) ?_
    rintro e wb ⟨S1, rfl, hb, stb, q⟩
    have nf := ha.not_sf b1a (by decide) (by decide) (by decide) (by decide) (by decide) (by decide)
    have nf2 := ha.not_sf b5a (by decide) (by decide) (by decide) (by decide) (by decide) (by decide)
    exact ⟨_, rfl, key wb S1 hb (sta.trans stb) (.inl ⟨hpt, q⟩) q.pend (stb.1.get b1a nf) (stb.1.get b5a nf2)⟩
  · exact key wa S ha sta (.inr ⟨hpf, rfl⟩) hpf b1a b5a
end Go.Proofs

namespace Go.Proofs
open Go Go.X Go.RowKit
set_option linter.unusedVariables false
set_option linter.unusedSimpArgs false
set_option maxRecDepth 100000

/-- Where the cursor goes by a final byte. -/
def moveRow (R row : Nat) (r : Int) : Nat := if r = 65 then row - 1 else if r = 66 then min (R - 1) (row + 1) else if r = 72 then 0 else row
def moveCol (C col : Nat) (r : Int) : Nat := if r = 67 then min (C - 1) (col + 1) else if r = 68 then col - 1 else if r = 72 then 0 else col

theorem c127i (w : World) (a : Option Addr) (i : Nat) (m : Int) : Calls Tryz.prog 127 #[.slice a 0 0, .int .i64 i, .int .i64 m] w fun e w' => e = .returned (.int .i64 m) ∧ Chg Non w w' := by
  refine r127 _ _ _ _ _ _ _ ?_
  unfold V127
  intro K hK
  exact br_f cp (br_t cp ⟨rfl, Chg.refl _ _⟩)
theorem c204 (w : World) (a : Option Addr) (i : Nat) : Calls Tryz.prog 204 #[.slice a 0 0, .int .i64 i] w fun e w' => e = .returned (.int .i64 1) ∧ Chg Non w w' := by
  refine r204 _ _ _ _ _ _ ?_
  unfold V204
  refine Calls.then (c127i w a i 0) ?_
  rintro e w1 ⟨rfl, g1⟩
  exact ⟨_, rfl, br_f rfl ⟨rfl, g1⟩⟩

theorem c157 (w : World) (s R C : Nat) (S : SS) (r : Int) (a : Option Addr) (h : Scr w s R C S) (gl : Glob w) (hr : r = 65 ∨ r = 66 ∨ r = 67 ∨ r = 68 ∨ r = 72) :
    Calls Tryz.prog 157 #[.pointer (some ⟨s, 0, none⟩), .int .i32 r, .slice a 0 0] w fun e w' => ∃ S', e = .returned (.tuple #[.bool true, .int .i64 0]) ∧ Scr w' s R C S' ∧ SStep s w S w' S' ∧ Cur S S' (moveCol C S.col r) (moveRow R S.row r) := by
  have hC := h.hC
  have hR := h.hR
  have hcol := h.hcol
  have hrow := h.hrow
  refine r157 _ _ _ _ _ _ _ ?_
  unfold V157
  refine ⟨1, floI fun w' s' g' => c204 w' a 0, _, floA fun w' s' g' => c104 w' s R C S (h.non g'), _, rfl, _, rdc (d := [.int .i64 S.row, .int .i64 S.col, .bool S.pend]) h.scr (by rfl) (by (first | exact Nat.le_of_ble_eq_true rfl | (simp; done) | omega)), ?_⟩
  rintro kA kB w1 ⟨⟨hb, hA, bA⟩, hB, bB⟩
  have g1 : Chg Non w w1 := .of_below hb
  have h1 := h.non g1
  have s1 := g1.size
  have hslt := blk_lt h.scr
  have hAB : kA ≠ kB := blk_ne bA bB (by decide)
  refine ⟨rfl, one_lit rfl, fw bA (by (first | exact Nat.le_of_ble_eq_true rfl | (simp; done) | omega)), puts0A bA (by rfl) ?_⟩
  intro w2 s2 b2 g2
  have hc2 := g2.get h1.scr (not_in_cons (by omega) (not_in_nil _))
  refine ⟨⟨_, rdc (d := [.int .i64 S.row, .int .i64 S.col, .bool S.pend]) hc2 (by rfl) (by (first | exact Nat.le_of_ble_eq_true rfl | (simp; done) | omega)), rfl⟩, rfl, one_lit rfl, fw (g2.get bB (not_in_cons (by omega) (not_in_nil _))) (by (first | exact Nat.le_of_ble_eq_true rfl | (simp; done) | omega)), puts0A (g2.get bB (not_in_cons (by omega) (not_in_nil _))) (by rfl) ?_⟩
  intro w3 s3 b3 g3
  have hc3 := g3.get hc2 (not_in_cons (by omega) (not_in_nil _))
  refine ⟨⟨_, rdc (d := [.int .i64 S.row, .int .i64 S.col, .bool S.pend]) hc3 (by rfl) (by (first | exact Nat.le_of_ble_eq_true rfl | (simp; done) | omega)), rfl⟩, ?_⟩
  have gg : Chg Non w w3 := (g1.trans' g2 (sub_new (by omega) (sub_nil _))).trans' g3 (sub_new (by omega) (sub_nil _))
  have h3 := h.non gg
  have b2' : blk w3 kA = some (.cells (arA R C) 207) := g3.get b2 (not_in_cons hAB (not_in_nil _))
  have b3' : blk w3 kB = some (.cells (curA S.row S.col S.pend) 30) := b3
  intro X hX
  -- the end: the new cursor is stored
  have fin : ∀ (row col : Nat) (w4 : World), row < R → col < C → Chg Non w3 w4 → row = moveRow R S.row r → col = moveCol C S.col r → (3 = 3 ∧ OneCells (curA row col false) ∧ FreeW w4 ⟨kB, 0, none⟩ 3 ∧ ∀ w5, Puts w4 ⟨kB, 0, none⟩ (curA row col false).1 w5 → X [.int .i64 0, .bool false] w5) := by
    intro row col w4 hr4 hc4 g4 er ec
    have bB4 := g4.get b3' (not_non _)
    refine ⟨rfl, one_lit rfl, fw bB4 (by (first | exact Nat.le_of_ble_eq_true rfl | (simp; done) | omega)), puts0A bB4 (by rfl) ?_⟩
    intro w5 s5 b5 g5
    refine hX _ _ _ fun _ Y hY => ?_
    refine br_t rfl (br_f (by rcases hr with rfl | rfl | rfl | rfl | rfl <;> rfl) (br_f (by rcases hr with rfl | rfl | rfl | rfl | rfl <;> rfl) ?_))
    refine hY _ _ fun _ Z hZ => ?_
    have h5 : Scr w5 s R C S := h.non ((gg.trans g4).trans' g5 (sub_new (by omega) (sub_nil _)))
    refine br_t rfl ⟨_, rdall b5 (by rfl), _, rfl, rfl, one_lit rfl, fw h5.scr (by (first | exact Nat.le_of_ble_eq_true rfl | (simp; done) | omega)), putsL (l' := scrL R C S.pr S.hi row col false S.stp S.pushed) h5.scr (by (first | exact Nat.le_of_ble_eq_true rfl | (simp; done) | omega)) (by rfl) ?_⟩
    intro w6 s6 b6 g6
    obtain ⟨h6, st6⟩ := h5.own row col false S.pushed b6 g6 hr4 hc4 (fun hh => by cases hh)
    refine hZ _ fun _ => ?_
    exact ⟨_, rfl, h6, (SStep.non ((gg.trans g4).trans' g5 (sub_new (by omega) (sub_nil _)))).trans st6, er, ec, rfl, rfl, rfl, rfl⟩
  intro U hU
  rcases hr with rfl | rfl | rfl | rfl | rfl
  · refine br_t rfl (hU _ _ fun _ => br_t rfl ⟨_, rdall b2' (by rfl), _, rdall b3' (by rfl), ?_⟩)
    refine Calls.then (c205 R C S.row S.col S.pend w3 hR.2 (by omega) h.hrow h.hcol h.hpend) ?_
    rintro e w4 ⟨rfl, g4⟩
    exact ⟨_, _, rfl, fin (S.row - 1) S.col w4 (by omega) hcol g4 rfl rfl⟩
  · refine br_f rfl (hU _ _ fun _ => br_f rfl fun V hV => br_t rfl (hV _ _ fun _ => br_t rfl ⟨_, rdall b2' (by rfl), _, rdall b3' (by rfl), ?_⟩))
    refine Calls.then (c206 R C S.row S.col S.pend w3 hR.2 (by omega) h.hrow h.hcol h.hpend) ?_
    rintro e w4 ⟨rfl, g4⟩
    exact ⟨_, _, rfl, fin (min (R - 1) (S.row + 1)) S.col w4 (by omega) hcol g4 rfl rfl⟩
  · refine br_f rfl (hU _ _ fun _ => br_f rfl fun V hV => br_f rfl (hV _ _ fun _ => br_f rfl (br_t rfl ⟨_, rdall b2' (by rfl), _, rdall b3' (by rfl), ?_⟩)))
    refine Calls.then (c207 R C S.row S.col S.pend w3 hR.2 (by omega) h.hrow h.hcol h.hpend) ?_
    rintro e w4 ⟨rfl, g4⟩
    exact ⟨_, _, rfl, fin S.row (min (C - 1) (S.col + 1)) w4 hrow (by omega) g4 rfl rfl⟩
  · refine br_f rfl (hU _ _ fun _ => br_f rfl fun V hV => br_f rfl (hV _ _ fun _ => br_f rfl (br_f rfl (br_t rfl ⟨_, rdall b2' (by rfl), _, rdall b3' (by rfl), ?_⟩))))
    refine Calls.then (c140 R C S.row S.col S.pend w3 hR.2 (by omega) h.hrow h.hcol h.hpend) ?_
    rintro e w4 ⟨rfl, g4⟩
    exact ⟨_, _, rfl, fin S.row (S.col - 1) w4 hrow (by omega) g4 rfl rfl⟩
  · refine br_f rfl (hU _ _ fun _ => br_f rfl fun V hV => br_f rfl (hV _ _ fun _ => br_f rfl (br_f rfl (br_f rfl (br_f rfl (br_f rfl fun T hT => br_t rfl (hT _ _ fun _ => br_t rfl ⟨_, rdall b2' (by rfl), by unfold inInt; omega, 1, floI fun w' s' g' => c204 w' a 1, by unfold inInt; omega, _, _, floAI fun w' s' g' => c209 R C w' hR.2 (by omega) (by omega) (by omega), all_below ?_⟩)))))))
    intro w4 s4 g4
    exact fin 0 0 w4 (by omega) (by omega) g4 rfl rfl
end Go.Proofs

namespace Go.Proofs
open Go Go.X Go.RowKit
set_option linter.unusedVariables false
set_option linter.unusedSimpArgs false
set_option maxRecDepth 100000

theorem c127 (w : World) (a : Option Addr) (m : Int) : Calls Tryz.prog 127 #[.slice a 0 0, .int .i64 0, .int .i64 m] w fun e w' => e = .returned (.int .i64 m) ∧ Chg Non w w' := by
  refine r127 _ _ _ _ _ _ _ ?_
  unfold V127
  intro K hK
  exact br_f rfl (br_t rfl ⟨rfl, Chg.refl _ _⟩)

theorem floSI {P : Program} {f : FuncId} {args : Array Value} {w : World} {K : IntKind} {b0 : ByteArray} {n0 : Int} (h : ∀ w', w.heap.size ≤ w'.heap.size → Chg Non w w' → Calls P f args w' fun e w2 => e = .returned (.tuple #[.string b0, .int K n0]) ∧ Chg Non w' w2) :
    ∀ w', Below w.heap.size w w' → Calls P f args w' fun e w2 => ∃ c n, e = .returned (.tuple #[.string c, .int K n]) ∧ Below w'.heap.size w' w2 ∧ Value.tuple #[.string c, .int K n] = Value.tuple #[.string b0, .int K n0] :=
  fun w' hb => Calls.then (h w' hb.size (.of_below hb)) fun e w2 he => ⟨b0, n0, he.1, he.2.below, rfl⟩

def ActOk (k r : Int) : Prop := (k = 1 ∧ 32 ≤ r ∧ r ≤ 126) ∨ (k = 2 ∧ (r = 8 ∨ r = 9 ∨ r = 10 ∨ r = 13)) ∨ (k = 4 ∧ (r = 65 ∨ r = 66 ∨ r = 67 ∨ r = 68 ∨ r = 72))

theorem c103 (w : World) (x : Act) (R C row col : Nat) (p : Bool) (ok : ActOk x.k x.r) :
    Calls Tryz.prog 103 #[.agg (actL x).toArray, .agg (arA R C), .agg (curA row col p), .agg modA] w fun e w' => e = .returned (.tuple #[.string emptyS, .int .i64 0]) ∧ Chg Non w w' := by
  obtain ⟨k, r, a⟩ := x
  refine r103 _ _ _ _ _ _ ?_
  unfold V103
  refine nw ?_
  intro k1 w1 e1 s1 b1 g1
  refine nw ?_
  intro k2 w2 e2 s2 b2 g2
  refine nw ?_
  intro k3 w3 e3 s3 b3 g3
  refine nw ?_
  intro k4 w4 e4 s4 b4 g4
  intro K hK
  have b1' : blk w4 k1 = some (.cells (actL ⟨k, r, a⟩).toArray 133) := by (repeat (first | assumption | refine Chg.get (by assumption) ?_ (by (repeat (first | exact not_non _ | exact not_in_nil _ | refine not_in_cons (by first | assumption | exact Ne.symm (by assumption) | omega) ?_)))))
  have gg : Chg Non w w4 := by (repeat (first | exact Chg.refl _ _ | refine Chg.step (by assumption) ?_ (by (first | exact sub_non _ | exact sub_nil _ | (repeat (first | exact sub_nil _ | refine sub_new (by omega) ?_ | refine sub_old (by first | assumption | exact in_head _ _ | exact in_tail (in_head _ _) | exact in_tail (in_tail (in_head _ _)) | simp [In]) ?_))))))
  have hk3 : k ≠ 3 := by rcases ok with ⟨q, _⟩ | ⟨q, _⟩ | ⟨q, _⟩ <;> (dsimp only at q; omega)
  have key : K [.string (ByteArray.mk #[]), .int .i64 0] w4 := by
    refine hK _ _ _ fun _ => ⟨_, rd1 b1' (by rfl), ?_⟩
    clear hK K
    by_cases h4 : k = 4
    · subst h4
      refine br_f rfl ⟨_, _, _, rd1 b1' (by rfl), ?_⟩
      refine Calls.then (c127 w4 a 0) ?_
      rintro e w5 ⟨rfl, g5⟩
      have b5 := g5.get b1' (not_non _)
      refine ⟨_, rfl, ?_⟩
      intro K2 hK2
      have hr : r = 65 ∨ r = 66 ∨ r = 67 ∨ r = 68 ∨ r = 72 := by rcases ok with ⟨q, _⟩ | ⟨q, _⟩ | ⟨_, q⟩ <;> first | (dsimp only at q; omega) | exact q
      have fin : K2 [.string (ByteArray.mk #[]), .int .i64 0] w5 := hK2 _ _ _ fun _ => ⟨rfl, gg.trans g5⟩
      rcases hr with rfl | rfl | rfl | rfl | rfl
      · exact ⟨_, rd1 (v := .string emptyS) b5 (by rfl), 65, rd1 b5 (by rfl), by decide, br_f (by kernel_rfl) (br_f (by kernel_rfl) (br_f (by kernel_rfl) fin))⟩
      · exact ⟨_, rd1 (v := .string emptyS) b5 (by rfl), 66, rd1 b5 (by rfl), by decide, br_f (by kernel_rfl) (br_f (by kernel_rfl) (br_f (by kernel_rfl) fin))⟩
      · exact ⟨_, rd1 (v := .string emptyS) b5 (by rfl), 67, rd1 b5 (by rfl), by decide, br_f (by kernel_rfl) (br_f (by kernel_rfl) (br_f (by kernel_rfl) fin))⟩
      · exact ⟨_, rd1 (v := .string emptyS) b5 (by rfl), 68, rd1 b5 (by rfl), by decide, br_f (by kernel_rfl) (br_f (by kernel_rfl) (br_f (by kernel_rfl) fin))⟩
      · exact ⟨_, rd1 (v := .string emptyS) b5 (by rfl), 72, rd1 b5 (by rfl), by decide, br_f (by kernel_rfl) (br_f (by kernel_rfl) (br_f (by kernel_rfl) fin))⟩
    · exact br_t (by simpa using h4) ⟨rfl, gg⟩
  clear hK
  exact ⟨_, rd1 b1' (by rfl), br_f (by simpa using hk3) key⟩

theorem c105 (w : World) (s R C : Nat) (S : SS) (h : Scr w s R C S) : Calls Tryz.prog 105 #[.pointer (some ⟨s, 0, none⟩), .string emptyS] w fun e w' => e = .returned (.tuple #[]) ∧ Scr w' s R C S ∧ SStep s w S w' S := by
  refine r105 _ _ _ _ ?_
  unfold V105
  refine ⟨_, rfl, emptyS, rd1 h.scr (by rfl), by unfold inInt; decide, br_t (by decide) ⟨_, rfl, emptyS, rd1 h.scr (by rfl), by decide, _, rfl, fw h.scr (by (first | exact Nat.le_of_ble_eq_true rfl | (simp; done) | omega)), ?_⟩⟩
  refine putL (l' := scrL R C S.pr S.hi S.row S.col S.pend S.stp S.pushed) h.scr (by rfl) ?_
  intro w1 s1 b1 g1
  obtain ⟨h1, st1⟩ := h.own S.row S.col S.pend S.pushed b1 g1 h.hrow h.hcol h.hpend
  exact ⟨rfl, h1, st1⟩

theorem c109 (w : World) (s R C : Nat) (S : SS) (r : Int) (a : Option Addr) (h : Scr w s R C S) (gl : Glob w) (hr : r = 65 ∨ r = 66 ∨ r = 67 ∨ r = 68 ∨ r = 72) :
    Calls Tryz.prog 109 #[.pointer (some ⟨s, 0, none⟩), .agg (actL ⟨4, r, a⟩).toArray] w fun e w' => ∃ S', e = .returned (.int .i64 0) ∧ Scr w' s R C S' ∧ SStep s w S w' S' ∧ Cur S S' (moveCol C S.col r) (moveRow R S.row r) := by
  refine r109 _ _ _ _ ?_
  unfold V109
  refine nw ?_
  intro k w1 e1 s1 b1 g1
  have h1 := h.non g1
  intro K hK
  have key : K [.int .i64 0] w1 := by
    refine hK _ _ fun _ => ?_
    clear hK K
    intro K hK
    clear hK
    refine ⟨_, rd1 b1 (by rfl), _, _, _, rd1 b1 (by rfl), ?_⟩
    refine Calls.then (c157 w1 s R C S r a h1 (gl.non g1) hr) ?_
    rintro e w2 ⟨S', rfl, h2, st2, q⟩
    exact ⟨_, _, rfl, br_t rfl ⟨S', rfl, h2, (SStep.non g1).trans st2, q⟩⟩
  clear hK
  refine ⟨_, rd1 (v := .string emptyS) b1 (by rfl), br_f (by kernel_rfl) ⟨_, rd1 (v := .string emptyS) b1 (by rfl), br_f (by kernel_rfl) ⟨_, rd1 b1 (by rfl), br_f (by simp; omega) ⟨_, rd1 b1 (by rfl), br_f (by simp; omega) ⟨_, rd1 b1 (by rfl), br_f rfl key⟩⟩⟩⟩⟩

/-- What an action does. -/
def ActTo (R C : Nat) (S S' : SS) (k r : Int) : Prop :=
  (k = 1 ∧ ∃ S1, ((S.pend = true ∧ Wrap R C S S1) ∨ (S.pend = false ∧ S1 = S)) ∧ PrintTo C S1 S' r) ∨
  (k = 2 ∧ ((r = 8 ∧ Cur S S' (S.col - 1) S.row) ∨ (r = 9 ∧ Cur S S' (tabTo C S.col) S.row) ∨ (r = 10 ∧ Down R C S S') ∨ (r = 13 ∧ Cur S S' 0 S.row))) ∨
  (k = 4 ∧ Cur S S' (moveCol C S.col r) (moveRow R S.row r))

theorem c78 (w : World) (s R C : Nat) (S : SS) (x : Act) (h : Scr w s R C S) (gl : Glob w) (ok : ActOk x.k x.r) (hn : (kept S.ss).length < 100) (hpu : S.pushed ≤ 1000) :
    Calls Tryz.prog 78 #[.pointer (some ⟨s, 0, none⟩), .agg (actL x).toArray] w fun e w' => ∃ S', e = .returned (.int .i64 0) ∧ Scr w' s R C S' ∧ SStep s w S w' S' ∧ ActTo R C S S' x.k x.r := by
  have hslt := blk_lt h.scr
  have hC := h.hC
  refine r78 _ _ _ _ ?_
  unfold V78
  refine nw ?_
  intro k w1 e1 s1 b1 g1
  have h1 := h.non g1
  intro K hK
  have key : K [.int .i64 0] w1 := by
    refine hK _ _ fun _ => ?_
    clear hK K
    refine ⟨_, rdall b1 (by rfl), _, floA fun w' s' g' => c104 w' s R C S (h1.non g'), _, rfl, _, rdc (d := [.int .i64 S.row, .int .i64 S.col, .bool S.pend]) h1.scr (by rfl) (by (first | exact Nat.le_of_ble_eq_true rfl | (simp; done) | omega)), _, rfl, _, rdc (d := modA.toList) h1.scr (by rfl) (by (first | exact Nat.le_of_ble_eq_true rfl | (simp; done) | omega)), _, _, floSI fun w' s' g' => c103 w' x R C S.row S.col S.pend ok, all_below ?_⟩
    intro w2 s2 g2
    refine br_f rfl ?_
    have h2 := h1.non g2
    refine Calls.then (c105 w2 s R C S h2) ?_
    rintro e w3 ⟨rfl, h3, st3⟩
    have st03 : SStep s w S w3 S := (SStep.non (g1.trans g2)).trans st3
    have gl3 := h.glob gl st03.1
    have b3 : blk w3 k = some (.cells (actL x).toArray 133) := st3.1.get (g2.get b1 (not_non _)) (h2.not_sf (g2.get b1 (not_non _)) (by decide) (by decide) (by decide) (by decide) (by decide) (by decide))
    obtain ⟨kk, r, a⟩ := x
    refine ⟨rfl, _, rd1 b3 (by rfl), ?_⟩
    rcases ok with ⟨q, q1, q2⟩ | ⟨q, q1⟩ | ⟨q, q1⟩ <;> dsimp only at q q1 <;> subst q
    · refine br_t rfl ⟨_, rd1 b3 (by rfl), ?_⟩
      refine Calls.then (c106 w3 s R C S r h3 gl3 q1 q2 hn hpu) ?_
      rintro e w4 ⟨S1, S', rfl, h4, st4, p1, p2⟩
      exact ⟨_, rfl, S', rfl, h4, st03.trans st4, .inl ⟨rfl, S1, p1, p2⟩⟩
    · refine br_f rfl (br_t rfl ⟨_, rd1 b3 (by rfl), ?_⟩)
      rcases q1 with rfl | rfl | rfl | rfl
      · refine Calls.then (c107b w3 s R C S h3) ?_
        rintro e w4 ⟨S', rfl, h4, st4, p⟩
        exact ⟨_, rfl, S', rfl, h4, st03.trans st4, .inr (.inl ⟨rfl, .inl ⟨rfl, p⟩⟩)⟩
      · refine Calls.then (c107t w3 s R C S h3) ?_
        rintro e w4 ⟨S', rfl, h4, st4, p⟩
        exact ⟨_, rfl, S', rfl, h4, st03.trans st4, .inr (.inl ⟨rfl, .inr (.inl ⟨rfl, p⟩)⟩)⟩
      · refine Calls.then (c107n w3 s R C S h3 gl3 hn hpu) ?_
        rintro e w4 ⟨S', rfl, h4, st4, p⟩
        exact ⟨_, rfl, S', rfl, h4, st03.trans st4, .inr (.inl ⟨rfl, .inr (.inr (.inl ⟨rfl, p⟩))⟩)⟩
      · refine Calls.then (c107r w3 s R C S h3) ?_
        rintro e w4 ⟨S', rfl, h4, st4, p⟩
        exact ⟨_, rfl, S', rfl, h4, st03.trans st4, .inr (.inl ⟨rfl, .inr (.inr (.inr ⟨rfl, p⟩))⟩)⟩
    · refine br_f rfl (br_f rfl (br_f rfl (br_t rfl ⟨_, rdall b3 (by rfl), ?_⟩)))
      refine Calls.then (c109 w3 s R C S r a h3 gl3 q1) ?_
      rintro e w4 ⟨S', rfl, h4, st4, p⟩
      exact ⟨_, rfl, S', rfl, h4, st03.trans st4, .inr (.inr ⟨rfl, p⟩)⟩
  clear hK
  have hk : 1 ≤ x.k ∧ x.k ≤ 5 := by rcases ok with ⟨q, _⟩ | ⟨q, _⟩ | ⟨q, _⟩ <;> omega
  exact ⟨_, rd1 b1 (by rfl), br_f (by simp; omega) ⟨_, rd1 b1 (by rfl), br_f (by simp; omega) key⟩⟩

theorem c47 (w : World) (s R C : Nat) (S : SS) (x : Act) (h : Scr w s R C S) (gl : Glob w) (ok : ActOk x.k x.r) (hn : (kept S.ss).length < 100) (hpu : S.pushed ≤ 1000) :
    Calls Tryz.prog 47 #[.pointer (some ⟨s, 0, none⟩), .agg (actL x).toArray] w fun e w' => ∃ S1 S' n, e = .returned (.tuple #[.int .i64 (n : Nat), .int .i64 0]) ∧ n ≤ 2000 ∧ Scr w' s R C S' ∧ SStep s w S w' S' ∧ ActTo R C S S1 x.k x.r ∧ S' = { S1 with pushed := 0 } := by
  refine r47 _ _ _ _ ?_
  unfold V47
  refine nw ?_
  intro k w1 e1 s1 b1 g1
  refine Calls.then (c49 w1 s R C S (h.non g1)) ?_
  rintro e w2 ⟨rfl, g2⟩
  refine ⟨_, rfl, br_f rfl ⟨_, rdall (g2.get b1 (not_non _)) (by rfl), ?_⟩⟩
  have gg := g1.trans g2
  refine Calls.then (c78 w2 s R C S x (h.non gg) (gl.non gg) ok hn hpu) ?_
  rintro e w3 ⟨S1, rfl, h3, st3, q⟩
  refine ⟨_, rfl, _, rfl, _, rd1 h3.scr (by rfl), _, rfl, fw h3.scr (by (first | exact Nat.le_of_ble_eq_true rfl | (simp; done) | omega)), ?_⟩
  refine putL (l' := scrL R C S1.pr S1.hi S1.row S1.col S1.pend S1.stp 0) h3.scr (by rfl) ?_
  intro w4 s4 b4 g4
  obtain ⟨h4, st4⟩ := h3.own S1.row S1.col S1.pend 0 b4 g4 h3.hrow h3.hcol h3.hpend
  refine ⟨S1, _, S1.pushed, rfl, ?_, h4, (SStep.non gg).trans (st3.trans st4), q, rfl⟩
  rcases q with ⟨_, S2, hw, hp⟩ | ⟨_, (⟨_, hp⟩ | ⟨_, hp⟩ | ⟨_, hp⟩ | ⟨_, hp⟩)⟩ | ⟨_, hp⟩
  · rw [hp.pushed]
    rcases hw with ⟨_, hw⟩ | ⟨_, rfl⟩
    · have := hw.pushed; omega
    · omega
  · rw [hp.pushed]; omega
  · rw [hp.pushed]; omega
  · have := hp.pushed; omega
  · rw [hp.pushed]; omega
  · rw [hp.pushed]; omega
end Go.Proofs

namespace Go.Proofs
open Go Go.X Go.RowKit
set_option linter.unusedVariables false
set_option linter.unusedSimpArgs false
set_option maxRecDepth 100000

def termA (p s vw : Nat) : Array Value := #[.pointer (some ⟨p, 0, none⟩), .pointer (some ⟨s, 0, none⟩), .pointer (some ⟨vw, 0, none⟩)]
structure TermAt (w : World) (t p s vw R C : Nat) (S : SS) : Prop where
  term : blk w t = some (.cells (termA p s vw) 80)
  par : ParAt w p 0
  scr : Scr w s R C S
  view : blk w vw = some (.cells #[.int .i64 R, .int .i64 0] 121)
  lo : 3 ≤ p
  pushed : S.pushed = 0
def TF (p s : Nat) (S : SS) (k : Nat) : Prop := k = p ∨ SF s S k
def TStep (p s : Nat) (w : World) (S : SS) (w' : World) (S' : SS) : Prop := Chg (TF p s S) w w' ∧ ∀ k, SF s S' k → SF s S k ∨ w.heap.size ≤ k
theorem TStep.refl (p s : Nat) (w : World) (S : SS) : TStep p s w S w S := ⟨Chg.refl _ _, fun k h => .inl h⟩
theorem TStep.trans {p s : Nat} {w w' w'' : World} {S S' S'' : SS} (h : TStep p s w S w' S') (k : TStep p s w' S' w'' S'') : TStep p s w S w'' S'' := by
  refine ⟨h.1.trans' k.1 fun i hi hf => ?_, fun i hi => ?_⟩
  · rcases hf with e | hf
    · exact .inl e
    · rcases h.2 i hf with q | q
      · exact .inr q
      · omega
  · rcases k.2 i hi with q | q
    · exact h.2 i q
    · have := h.1.size; exact .inr (by omega)
theorem TStep.of {p s : Nat} {w w' : World} {S S' : SS} (h : SStep s w S w' S') : TStep p s w S w' S' := ⟨h.1.mono fun k _ hk => .inr hk, h.2⟩
theorem TStep.non {p s : Nat} {w w' : World} {S : SS} (h : Chg Non w w') : TStep p s w S w' S := .of (SStep.non h)

theorem TermAt.not_tf {w : World} {t p s vw R C : Nat} {S : SS} (h : TermAt w t p s vw R C S) {k : Nat} {c : Array Value} {T : TypeId} {f : Nat × Nat} (hk : blk w k = some (.cells c T f)) (h0 : T ≠ 78) (h1 : T ≠ 189) (h2 : T ≠ 212) (h3 : T ≠ 259) (h4 : T ≠ 96) (h5 : T ≠ 118) (h6 : T ≠ 149) : ¬ TF p s S k := by
  rintro (rfl | e)
  · obtain ⟨lo, hi, hb⟩ := h.par; exact blk_ne hk hb h0 rfl
  · exact h.scr.not_sf hk h1 h2 h3 h4 h5 h6 e
theorem TermAt.glob {w w' : World} {t p s vw R C : Nat} {S : SS} (h : TermAt w t p s vw R C S) (g : Glob w) (k : Chg (TF p s S) w w') : Glob w' := by
  have hn : ∀ j, j < 3 → ¬ TF p s S j := by
    rintro j hj (rfl | (rfl | rfl | e | ⟨y, hy, rfl⟩))
    · have := h.lo; omega
    · have := h.scr.lo.1; omega
    · have := h.scr.lo.2.1; omega
    · have := h.scr.ring.lo j e; omega
    · have := h.scr.lo.2.2 y hy; omega
  exact g.next k (hn 1 (by decide)) (hn 2 (by decide))
theorem TermAt.non {w w' : World} {t p s vw R C : Nat} {S : SS} (h : TermAt w t p s vw R C S) (k : Chg Non w w') : TermAt w' t p s vw R C S :=
  { h with term := k.get h.term (not_non _), par := h.par.next k (not_non _), scr := h.scr.non k, view := k.get h.view (not_non _) }

theorem c23 (w : World) (t p s vw : Nat) (h : blk w t = some (.cells (termA p s vw) 80)) : Calls Tryz.prog 23 #[.pointer (some ⟨t, 0, none⟩)] w fun e w' => e = .returned (.bool false) ∧ Chg Non w w' := by
  refine r23 _ _ _ ?_
  unfold V23
  exact br_f rfl ⟨_, rfl, _, rd1 h (by rfl), rfl, Chg.refl _ _⟩
theorem c61 (w : World) (vw R : Nat) (h : blk w vw = some (.cells #[.int .i64 R, .int .i64 0] 121)) (h0 : R ≠ 0) : Calls Tryz.prog 61 #[.pointer (some ⟨vw, 0, none⟩)] w fun e w' => e = .returned (.bool false) ∧ Chg Non w w' := by
  refine r61 _ _ _ ?_
  unfold V61
  exact br_f rfl ⟨_, rfl, _, rd1 h (by rfl), by simp; omega, Chg.refl _ _⟩
theorem c32 (w : World) (vw R : Nat) (h : blk w vw = some (.cells #[.int .i64 R, .int .i64 0] 121)) (h0 : R ≠ 0) : Calls Tryz.prog 32 #[.pointer (some ⟨vw, 0, none⟩)] w fun e w' => e = .returned (.int .i64 0) ∧ Chg Non w w' := by
  refine r32 _ _ _ ?_
  unfold V32
  refine Calls.then (c61 w vw R h h0) ?_
  rintro e w1 ⟨rfl, g1⟩
  exact ⟨_, rfl, br_f rfl ⟨_, rfl, _, rd1 (g1.get h (not_non _)) (by rfl), rfl, g1⟩⟩
theorem c48 (w : World) (t p s vw R C : Nat) (S : SS) (n : Int) (h : TermAt w t p s vw R C S) : Calls Tryz.prog 48 #[.pointer (some ⟨t, 0, none⟩), .int .i64 n] w fun e w' => e = .returned (.int .i64 0) ∧ Chg Non w w' := by
  have hR := h.scr.hR
  refine r48 _ _ _ _ ?_
  unfold V48
  refine ⟨_, rfl, _, rd1 h.term (by rfl), ?_⟩
  refine Calls.then (c32 w vw R h.view (by omega)) ?_
  rintro e w1 ⟨rfl, g1⟩
  exact ⟨_, rfl, br_t rfl ⟨rfl, g1⟩⟩

/-- What some actions do, one after the other. -/
def Acts (R C : Nat) : SS → List (Int × Int) → SS → Prop
  | S, [], S' => S' = S
  | S, x :: l, S' => ∃ S1, ActTo R C S S1 x.1 x.2 ∧ Acts R C { S1 with pushed := 0 } l S'
theorem Acts.snoc {R C : Nat} : ∀ {l : List (Int × Int)} {S S1 S2 : SS} {x : Int × Int}, Acts R C S l S1 → ActTo R C S1 S2 x.1 x.2 → Acts R C S (l ++ [x]) { S2 with pushed := 0 }
  | [], S, S1, S2, x, h, k => by cases h; exact ⟨S2, k, rfl⟩
  | y :: l, S, S1, S2, x, ⟨S3, h1, h2⟩, k => ⟨S3, h1, h2.snoc k⟩
theorem ActTo.kept {R C : Nat} {S S' : SS} {k r : Int} (h : ActTo R C S S' k r) : (kept S'.ss).length ≤ (kept S.ss).length + 1 := by
  rcases h with ⟨_, S2, hw, hp⟩ | ⟨_, (⟨_, hp⟩ | ⟨_, hp⟩ | ⟨_, hp⟩ | ⟨_, hp⟩)⟩ | ⟨_, hp⟩
  · rw [hp.kept]
    rcases hw with ⟨_, hw⟩ | ⟨_, rfl⟩
    · rcases hw.to with ⟨_, _, _, q⟩ | ⟨_, _, _, q⟩ <;> omega
    · omega
  · rw [hp.kept]; omega
  · rw [hp.kept]; omega
  · rcases hp.to with ⟨_, _, _, q⟩ | ⟨_, _, _, q⟩ <;> omega
  · rw [hp.kept]; omega
  · rw [hp.kept]; omega
theorem Acts.kept {R C : Nat} : ∀ {l : List (Int × Int)} {S S1 : SS}, Acts R C S l S1 → (kept S1.ss).length ≤ (kept S.ss).length + l.length
  | [], S, S1, h => by cases h; simp
  | x :: l, S, S1, ⟨S3, h1, h2⟩ => by
    have q1 := h1.kept
    have q2 := h2.kept
    dsimp only at q2
    simp only [List.length_cons]; omega

theorem acts_at {cur : Array Value} {l : List Act} (h : cur.toList.take (l.length * 6) = actsL l) {i : Nat} (hi : i < l.length) : cur.extract (i * 6) (i * 6 + 6) = (actL l[i]).toArray := by
  have h1 : ∀ (l : List Act) (i : Nat) (hi : i < l.length), ((actsL l).drop (i * 6)).take 6 = actL l[i] := by
    intro l
    induction l with
    | nil => intro i hi; simp at hi
    | cons x l ih =>
      intro i hi
      have e : actsL (x :: l) = actL x ++ actsL l := by simp [actsL]
      cases i with
      | zero => simp [e, actL]
      | succ i =>
        rw [e, show (i + 1) * 6 = (actL x).length + i * 6 by simp [actL]; omega, List.drop_append, List.drop_of_length_le (by omega), List.nil_append, Nat.add_sub_cancel_left]
        simpa using ih i (by simpa using hi)
  have h2 := h1 l i hi
  have hl : l.length * 6 ≤ cur.size := by
    have := congrArg List.length h
    rw [actsL_length, List.length_take] at this
    simp only [Array.length_toList] at this; omega
  rw [← h, List.drop_take, List.take_take, show min 6 (l.length * 6 - i * 6) = 6 by omega] at h2
  apply Array.ext'
  rw [Array.toList_extract, List.extract_eq_take_drop, show i * 6 + 6 - i * 6 = 6 by omega, h2]

theorem c20 (w : World) (t p s vw R C : Nat) (S : SS) (bb cap : Nat) (bs : List Int) (cb : Array Value) (f : Nat × Nat) (h : TermAt w t p s vw R C S) (gl : Glob w) (hbb : blk w bb = some (.cells cb 5 f)) (hbs : ∀ i (hi : i < bs.length), cb[i]? = some (.int .u8 bs[i])) (h128 : ∀ b ∈ bs, 0 ≤ b ∧ b < 128) (hm : bs.length ≤ 100) (ok : pok 0 bs) (hend : pend 0 bs = 0) (hlens : ∀ j, (prun 0 (bs.take j)).length ≤ 100)
    (hacts : ∀ x ∈ prun 0 bs, ActOk x.1 x.2) (hkept : (kept S.ss).length + (prun 0 bs).length ≤ 100) :
    Calls Tryz.prog 20 #[.pointer (some ⟨t, 0, none⟩), .slice (some ⟨bb, 0, none⟩) bs.length cap] w fun e w' => ∃ S' n, e = .returned (.tuple #[.int .i64 n, .int .i64 0]) ∧ 0 ≤ n ∧ TermAt w' t p s vw R C S' ∧ TStep p s w S w' S' ∧ Acts R C S (prun 0 bs) S' := by
  refine r20 _ _ _ _ _ _ ?_
  unfold V20
  refine Calls.then (c23 w t p s vw h.term) ?_
  rintro e w1 ⟨rfl, g1⟩
  have h1 := h.non g1
  refine ⟨_, rfl, br_f rfl ⟨_, rfl, _, rd1 h1.term (by rfl), ?_⟩⟩
  have hlen100 : (prun 0 bs).length ≤ 100 := by have := hlens bs.length; rwa [List.take_length] at this
  refine Calls.then (c46 w1 p bb cap bs cb 5 f h1.par (g1.get hbb (not_non _)) (by decide) hbs h128 (by omega) ok (by omega) hend (fun j => by have := hlens j; omega)) ?_
  rintro e w2 ⟨v, l, rfl, hl, hlm, hp2, hv2, g2⟩
  obtain ⟨a0, c0, rfl, _⟩ := own_shape hl
  have hll : l.length = (prun 0 bs).length := by rw [← hlm]; simp
  have s1 := g1.size
  have s2 := g2.size
  have stp2 : TStep p s w S w2 S := by
    refine ⟨(g1.non.trans g2).mono fun k _ hk => ?_, fun k hk => .inl hk⟩
    unfold In at hk; rw [List.mem_singleton] at hk; exact .inl hk
  have hpb : ∃ lo hi, blk w1 p = some (.cells (parL lo hi 0).toArray 78) := h1.par
  have h2 : TermAt w2 t p s vw R C S := by
    obtain ⟨lo, hi, hpb⟩ := hpb
    exact ⟨g2.get h1.term (not_in_cons (blk_ne h1.term hpb (by decide)) (not_in_nil _)), hp2, h1.scr.off g2 hpb (by decide), g2.get h1.view (not_in_cons (blk_ne h1.view hpb (by decide)) (not_in_nil _)), h.lo, h.pushed⟩
  refine ⟨_, _, _, rfl, ?_⟩
  refine ⟨fun vs w' => ∃ (n17 n18 n : Int) (j : Nat) (S' : SS), vs = [.int .i64 n17, .int .i64 n18, .int .i64 n, .int .i64 j] ∧ j ≤ l.length ∧ 0 ≤ n ∧ n ≤ 2000 * j ∧ TermAt w' t p s vw R C S' ∧ TStep p s w S w' S' ∧ Acts R C S ((prun 0 bs).take j) S' ∧ ActsV w' (.slice a0 l.length c0) l,
    fun vs _ => match vs with | [_, _, _, .int _ j] => (l.length - j).toNat | _ => 0, ⟨0, 0, 0, 0, S, rfl, by omega, by omega, by omega, h2, stp2, rfl, hl⟩, ?_⟩
  rintro n17 n18 n19 n20 w3 _ ⟨m17, m18, n, j, S3, hv, hj, hn0, hnj, h3, st3, ha3, hav3⟩
  simp only [List.cons.injEq, Value.int.injEq, true_and, and_true] at hv
  obtain ⟨rfl, rfl, rfl, rfl⟩ := hv
  have hvb : ∀ b, (Value.slice a0 l.length c0).ownBlock = some b → w.heap.size ≤ b := fun b hb => by have := hv2 b hb; omega
  have s3 := st3.1.size
  refine br_dec (fun hlt => ?_) fun hge => ?_
  · have hi : j < l.length := by omega
    obtain ⟨b, cap', hve, hblt, cur, hcur, hsz, htk⟩ := own_cells hav3 (by omega)
    injection hve with q1 q2 q3
    subst q1; subst q3
    refine ⟨by omega, by omega, _, _, rfl, (actL l[j]).toArray, rdx hcur (by rw [Int.toNat_natCast, Nat.zero_add]; omega) (by rw [Int.toNat_natCast, Nat.zero_add]; exact acts_at htk hi), nw ?_⟩
    intro k w4 e4 s4 b4 g4
    refine ⟨rfl, one_lit rfl, fw b4 (by (first | exact Nat.le_of_ble_eq_true rfl | (simp; done) | omega)), puts0A b4 (by rfl) ?_⟩
    intro w5 s5 b5 g5
    have h4 := h3.non g4
    have hk5 : ∀ {i : Nat} {c : Array Value} {T : TypeId} {f : Nat × Nat}, blk w4 i = some (.cells c T f) → T ≠ 133 → ¬ In [k] i := fun hi hT => not_in_cons (blk_ne hi b4 hT) (not_in_nil _)
    obtain ⟨lo4, hi4, hpb4⟩ := h4.par
    have h5 : TermAt w5 t p s vw R C S3 := ⟨g5.get h4.term (hk5 h4.term (by decide)), ⟨lo4, hi4, g5.get hpb4 (hk5 hpb4 (by decide))⟩, h4.scr.off g5 b4 (by decide), g5.get h4.view (hk5 h4.view (by decide)), h.lo, h3.pushed⟩
    have st5 : TStep p s w S w5 S3 := by
      have q := st3.trans (TStep.non g4)
      exact ⟨q.1.trans' g5 (sub_new (by omega) (sub_nil _)), q.2⟩
    refine ⟨_, rfl, _, rd1 h5.term (by rfl), _, rdall b5 (by rfl), all_below ?_⟩
    intro w6 s6 g6
    have h6 := h5.non g6
    have st6 := st5.trans (TStep.non g6)
    have gl6 := h.glob gl st6.1
    have hmem : ((l[j]).k, (l[j]).r) ∈ prun 0 bs := by rw [← hlm]; exact List.mem_map.2 ⟨l[j], List.getElem_mem _, rfl⟩
    have hk3 := ha3.kept
    have htl : ((prun 0 bs).take j).length = j := by rw [List.length_take]; omega
    refine Calls.then (c47 w6 s R C S3 l[j] h6.scr gl6 (hacts _ hmem) (by omega) (by have := h3.pushed; omega)) ?_
    rintro e w7 ⟨S7, S8, m, rfl, hm2, h7, st7, hact, rfl⟩
    have h7t : TermAt w7 t p s vw R C { S7 with pushed := 0 } := by
      obtain ⟨lo6, hi6, hpb6⟩ := h6.par
      exact ⟨st7.1.get h6.term (h6.scr.not_sf h6.term (by decide) (by decide) (by decide) (by decide) (by decide) (by decide)), ⟨lo6, hi6, st7.1.get hpb6 (h6.scr.not_sf hpb6 (by decide) (by decide) (by decide) (by decide) (by decide) (by decide))⟩, h7, st7.1.get h6.view (h6.scr.not_sf h6.view (by decide) (by decide) (by decide) (by decide) (by decide) (by decide)), h.lo, rfl⟩
    have st70 := st6.trans (TStep.of (p := p) st7)
    refine ⟨_, _, rfl, br_f rfl ⟨by unfold inInt; omega, ?_⟩⟩
    refine Calls.then (c48 w7 t p s vw R C _ m h7t) ?_
    rintro e w8 ⟨rfl, g8⟩
    refine ⟨_, rfl, br_f rfl ⟨by unfold inInt; omega, ⟨n17, n18, _, j + 1, _, rfl, by omega, by omega, by omega, h7t.non g8, st70.trans (TStep.non g8), ?_, ?_⟩, ?_⟩⟩
    · have hsp : (prun 0 bs).take (j + 1) = (prun 0 bs).take j ++ [((l[j]).k, (l[j]).r)] := by
        rw [List.take_succ_eq_append_getElem (by omega)]
        congr 2
        have : (l.map (fun x => (x.k, x.r)))[j]'(by simpa using hi) = ((l[j]).k, (l[j]).r) := by simp
        rw [← this]
        congr 1
        exact hlm.symm
      rw [hsp]
      exact ha3.snoc (x := ((l[j]).k, (l[j]).r)) hact
    · have q4 : w4.ownsRow 0 133 6 (.slice (some ⟨b, 0, none⟩) l.length c0) l.length (actsL l) := own_non hav3 g4
      have q5 : w5.ownsRow 0 133 6 (.slice (some ⟨b, 0, none⟩) l.length c0) l.length (actsL l) := own_next q4 g5 fun g hg => not_in_cons (by
        simp only [Value.ownBlock, Option.some.injEq] at hg; omega) (not_in_nil _)
      have q6 := own_non q5 g6
      have q7 : w7.ownsRow 0 133 6 (.slice (some ⟨b, 0, none⟩) l.length c0) l.length (actsL l) := own_next q6 st7.1 fun g hg => by
        obtain ⟨cc, hcc⟩ := own_blk q6 hg
        exact h6.scr.not_sf hcc (by decide) (by decide) (by decide) (by decide) (by decide) (by decide)
      exact own_non q7 g8
    · show ((l.length : Int) - ((j : Int) + 1)).toNat < ((l.length : Int) - (j : Int)).toNat
      omega
  · have hjl : j = (prun 0 bs).length := by omega
    rw [hjl, List.take_length] at ha3
    exact ⟨S3, _, rfl, hn0, h3, st3, ha3⟩

theorem c7 (w : World) (t p s vw R C : Nat) (S : SS) (str : ByteArray) (bs : List Int) (hstr : str.data.toList.map (fun b => (b.toNat : Int)) = bs) (h : TermAt w t p s vw R C S) (gl : Glob w) (h128 : ∀ b ∈ bs, 0 ≤ b ∧ b < 128) (hm : bs.length ≤ 100) (ok : pok 0 bs) (hend : pend 0 bs = 0) (hlens : ∀ j, (prun 0 (bs.take j)).length ≤ 100)
    (hacts : ∀ x ∈ prun 0 bs, ActOk x.1 x.2) (hkept : (kept S.ss).length + (prun 0 bs).length ≤ 100) :
    Calls Tryz.prog 7 #[.pointer (some ⟨t, 0, none⟩), .string str] w fun e w' => ∃ S' n, e = .returned (.int .i64 n) ∧ 0 ≤ n ∧ TermAt w' t p s vw R C S' ∧ TStep p s w S w' S' ∧ Acts R C S (prun 0 bs) S' := by
  refine r7 _ _ _ _ ?_
  unfold V7
  have hconv := run_bytes_of_string (P := Tryz.prog) w 9 22 5 str (by kernel_rfl) (by kernel_rfl) (by kernel_rfl)
  have hsz : str.size = bs.length := by rw [← hstr]; simp
  rw [hsz] at hconv
  refine ⟨_, _, _, _, hconv, ?_⟩
  generalize hcap : grownCap w bs.length 0 5 = cap
  have b1 : blk (w.drew.alloc (.cells (bytesRow str cap) 5 ((bytesRow str cap).size, (bytesRow str cap).size + 1))) w.heap.size = some (.cells (bytesRow str cap) 5 ((bytesRow str cap).size, (bytesRow str cap).size + 1)) := blk_alloc_new w.drew _
  have g1 : Chg Non w (w.drew.alloc (.cells (bytesRow str cap) 5 ((bytesRow str cap).size, (bytesRow str cap).size + 1))) := by
    have q : Chg Non w w.drew := ⟨rfl, rfl, rfl, Nat.le_refl _, fun _ _ _ => rfl⟩
    exact q.alloc _
  generalize w.drew.alloc (.cells (bytesRow str cap) 5 ((bytesRow str cap).size, (bytesRow str cap).size + 1)) = w1 at b1 g1 ⊢
  refine Calls.then (c20 w1 t p s vw R C S w.heap.size cap bs _ _ (h.non g1) (gl.non g1) b1 ?_ h128 hm ok hend hlens hacts hkept) ?_
  · intro i hi
    unfold bytesRow
    rw [Array.getElem?_append_left (by first | (simp; done) | (simp; show i < str.size; omega))]
    have : (str.data.toList.map (fun b => (b.toNat : Int)))[i]? = some bs[i] := by rw [hstr]; simp
    simp only [List.getElem?_map] at this
    simp only [Array.getElem?_map]
    rw [← Array.getElem?_toList]
    cases hx : str.data.toList[i]? with
    | none => rw [hx] at this; cases this
    | some x => rw [hx] at this; simp only [Option.map_some, Option.some.injEq] at this ⊢; rw [this]
  · rintro e w2 ⟨S', n, rfl, hn, h2, st2, q⟩
    exact ⟨_, _, rfl, br_f rfl ⟨S', n, rfl, hn, h2, (TStep.non g1).trans st2, q⟩⟩
end Go.Proofs

namespace Go.Proofs
open Go Go.X Go.RowKit
set_option linter.unusedVariables false
set_option linter.unusedSimpArgs false
set_option maxRecDepth 100000

def keyA (k r : Int) : Array Value := #[.int .i64 k, .int .i32 r, .bool false, .bool false, .bool false]
def inA : Array Value := #[.bool false, .bool true, .bool true]
def KeyOk (k r : Int) : Prop := (k = 1 ∧ (r = 32 ∨ (97 ≤ r ∧ r ≤ 112))) ∨ (r = 0 ∧ (k = 2 ∨ k = 3 ∨ k = 4)) ∨ (r = 0 ∧ (k = 6 ∨ k = 7 ∨ k = 8 ∨ k = 9 ∨ k = 10))
/-- What a key sends. -/
def kbytes (k r : Int) : ByteArray :=
  if k = 1 then Utf8.encode r else if k = 2 then ⟨#[13, 10]⟩ else if k = 3 then ⟨#[9]⟩ else if k = 4 then ⟨#[8]⟩ else
  if k = 6 then ⟨#[27, 91, 65]⟩ else if k = 7 then ⟨#[27, 91, 66]⟩ else if k = 8 then ⟨#[27, 91, 67]⟩ else if k = 9 then ⟨#[27, 91, 68]⟩ else ⟨#[27, 91, 72]⟩

theorem empty_app (s : ByteArray) : (ByteArray.mk #[]) ++ s = s := by
  apply ByteArray.ext
  simp [ByteArray.data_append]
theorem c42 (w : World) (r : Int) (h : 0 ≤ r ∧ r < 55296) : Calls Tryz.prog 42 #[.int .i32 r] w fun e w' => e = .returned (.bool true) ∧ Chg Non w w' := by
  refine r42 _ _ _ ?_
  unfold V42
  intro K hK
  exact br_t cp (br_t cp ⟨rfl, Chg.refl _ _⟩)
theorem c18 (w : World) (k r : Int) (ok : KeyOk k r) : Calls Tryz.prog 18 #[.agg (keyA k r)] w fun e w' => e = .returned (.bool true) ∧ Chg Non w w' := by
  refine r18 _ _ _ ?_
  unfold V18
  refine nw ?_
  intro k1 w1 e1 s1 b1 g1
  refine ⟨_, rd1 b1 (by rfl), ?_⟩
  rcases ok with ⟨rfl, hr⟩ | ⟨rfl, hk⟩ | ⟨rfl, hk⟩
  · refine br_t rfl ⟨_, rd1 b1 (by rfl), br_t cp ⟨_, rd1 b1 (by rfl), br_t (by simp; omega) ⟨_, rd1 b1 (by rfl), ?_⟩⟩⟩
    refine Calls.then (c42 w1 r (by omega)) ?_
    rintro e w2 ⟨rfl, g2⟩
    exact ⟨_, rfl, rfl, g1.trans g2⟩
  · exact br_f (by simp; omega) ⟨_, rd1 b1 (by rfl), br_t (by simp; omega) ⟨_, rd1 b1 (by rfl), br_t (by simp; omega) ⟨_, rd1 b1 (by rfl), rfl, g1⟩⟩⟩
  · exact br_f (by simp; omega) ⟨_, rd1 b1 (by rfl), br_t (by simp; omega) ⟨_, rd1 b1 (by rfl), br_t (by simp; omega) ⟨_, rd1 b1 (by rfl), rfl, g1⟩⟩⟩
theorem c17 (w : World) (k r : Int) (ok : KeyOk k r) : Calls Tryz.prog 17 #[.agg (keyA k r)] w fun e w' => e = .returned (.bool false) ∧ Chg Non w w' := by
  refine r17 _ _ _ ?_
  unfold V17
  refine nw ?_
  intro k1 w1 e1 s1 b1 g1
  refine ⟨_, rdall b1 (by rfl), ?_⟩
  refine Calls.then (c18 w1 k r ok) ?_
  rintro e w2 ⟨rfl, g2⟩
  exact ⟨_, rfl, rfl, g1.trans g2⟩
theorem c41 (w : World) (k r : Int) (b : Nat) (f : Nat × Nat) (ok : KeyOk k r) (hb : blk w b = some (.cells (keyA k r) 35 f)) : Calls Tryz.prog 41 #[.slice (some ⟨b, 0, none⟩) 1 1, .func (.func 17) #[] #[]] w fun e w' => e = .returned (.int .i64 (-1)) ∧ Chg Non w w' := by
  refine r41_17 _ _ _ _ _ ?_
  unfold V41_17
  refine ⟨fun vs w' => Chg Non w w' ∧ ∃ (a : Int) (j : Nat), vs = [.int .i64 a, .int .i64 j] ∧ j ≤ 1, fun vs _ => match vs with | [_, .int _ j] => (1 - j).toNat | _ => 0, ⟨Chg.refl _ _, 0, 0, rfl, by omega⟩, ?_⟩
  rintro n7 n8 w1 _ ⟨g1, a, j, hv, hj⟩
  simp only [List.cons.injEq, Value.int.injEq, true_and, and_true] at hv
  obtain ⟨rfl, rfl⟩ := hv
  refine br_dec (fun hlt => ?_) fun hge => ⟨rfl, g1⟩
  have hj0 : j = 0 := by omega
  subst hj0
  refine ⟨by omega, by omega, _, _, rfl, _, rdall (g1.get hb (not_non _)) (by rfl), ?_⟩
  refine Calls.then (c17 w1 k r ok) ?_
  rintro e w2 ⟨rfl, g2⟩
  exact ⟨_, rfl, br_f rfl ⟨by unfold inInt; omega, ⟨g1.trans g2, n7, 1, by simp, by omega⟩, by show ((1 : Int) - (((0 : Nat) : Int) + 1)).toNat < ((1 : Int) - ((0 : Nat) : Int)).toNat; decide⟩⟩
theorem c16 (w : World) (k r : Int) (b : Nat) (f : Nat × Nat) (ok : KeyOk k r) (hb : blk w b = some (.cells (keyA k r) 35 f)) : Calls Tryz.prog 16 #[.slice (some ⟨b, 0, none⟩) 1 1, .func (.func 17) #[] #[]] w fun e w' => e = .returned (.bool false) ∧ Chg Non w w' := by
  refine r16_17 _ _ _ _ _ ?_
  unfold V16_17
  refine Calls.then (c41 w k r b f ok hb) ?_
  rintro e w1 ⟨rfl, g1⟩
  exact ⟨_, rfl, rfl, g1⟩
theorem c73 (w : World) (k r : Int) : Calls Tryz.prog 73 #[.agg (keyA k r)] w fun e w' => e = .returned (.int .i64 1) ∧ Chg Non w w' := by
  refine r73 _ _ _ ?_
  unfold V73
  refine nw ?_
  intro k1 w1 e1 s1 b1 g1
  intro K hK
  refine ⟨_, rd1 b1 (by rfl), br_f rfl (hK _ _ fun _ => ?_)⟩
  clear hK K
  intro K hK
  refine ⟨_, rd1 b1 (by rfl), br_f rfl (hK _ _ fun _ => ?_)⟩
  clear hK K
  intro K hK
  refine ⟨_, rd1 b1 (by rfl), br_f rfl (hK _ _ fun _ => ⟨rfl, g1⟩)⟩
theorem c43 (w : World) (k r : Int) (s : ByteArray) (hs : s.size ≤ 100) : Calls Tryz.prog 43 #[.agg (keyA k r), .string s, .bool false] w fun e w' => e = .returned (.string (⟨#[27, 91]⟩ ++ s)) ∧ Chg Non w w' := by
  refine r43 _ _ _ _ _ ?_
  unfold V43
  refine nw ?_
  intro k1 w1 e1 s1 b1 g1
  refine ⟨_, rdall b1 (by rfl), ?_⟩
  refine Calls.then (c73 w1 k r) ?_
  rintro e w2 ⟨rfl, g2⟩
  exact ⟨_, rfl, br_f rfl (br_f rfl ⟨by omega, rfl, g1.trans g2⟩)⟩
theorem c45 (w : World) (k r : Int) (ok : (k = 1 ∧ (r = 32 ∨ (97 ≤ r ∧ r ≤ 112))) ∨ (r = 0 ∧ (k = 2 ∨ k = 3 ∨ k = 4))) : Calls Tryz.prog 45 #[.agg (keyA k r), .agg inA] w fun e w' => e = .returned (.tuple #[.string (kbytes k r), .bool true]) ∧ Chg Non w w' := by
  refine r45 _ _ _ _ ?_
  unfold V45
  refine nw ?_
  intro k1 w1 e1 s1 b1 g1
  refine nw ?_
  intro k2 w2 e2 s2 b2 g2
  have b1' := g2.get b1 (not_non _)
  refine ⟨_, rd1 b1' (by rfl), ?_⟩
  rcases ok with ⟨rfl, hr⟩ | ⟨rfl, rfl | rfl | rfl⟩
  · exact br_f rfl (br_f rfl (br_f rfl (br_f rfl ⟨_, rd1 b1' (by rfl), br_f rfl ⟨_, rd1 b1' (by rfl), rfl, g1.trans g2⟩⟩)))
  · exact br_t rfl ⟨_, rd1 b2 (by rfl), br_t rfl ⟨rfl, g1.trans g2⟩⟩
  · exact br_f rfl (br_t rfl ⟨_, rd1 b1' (by rfl), br_f rfl ⟨rfl, g1.trans g2⟩⟩)
  · exact br_f rfl (br_f rfl (br_t rfl ⟨_, rd1 b2 (by rfl), _, rd1 b1' (by rfl), br_t rfl ⟨rfl, g1.trans g2⟩⟩))

theorem floS {P : Program} {f : FuncId} {args : Array Value} {w : World} {n0 : ByteArray} (h : ∀ w', w.heap.size ≤ w'.heap.size → Chg Non w w' → Calls P f args w' fun e w2 => e = .returned (.string n0) ∧ Chg Non w' w2) :
    ∀ w', Below w.heap.size w w' → Calls P f args w' fun e w2 => ∃ n, e = .returned (.string n) ∧ Below w'.heap.size w' w2 ∧ Value.string n = Value.string n0 :=
  fun w' hb => Calls.then (h w' hb.size (.of_below hb)) fun e w2 he => ⟨n0, he.1, he.2.below, rfl⟩

/-- Bytes in memory. -/
def bytesL (s : ByteArray) : List Value := s.data.toList.map fun b => .int .u8 b.toNat
theorem conv_bytes (w : World) (s : ByteArray) : ∃ cap w', Runs Tryz.prog (convert 9 22 (.string s)) w (.slice (some ⟨w.heap.size, 0, none⟩) s.size cap) w' ∧ (∃ c f, blk w' w.heap.size = some (.cells c 5 f) ∧ c.toList.take s.size = bytesL s) ∧ Chg Non w w' := by
  have hconv := run_bytes_of_string (P := Tryz.prog) w 9 22 5 s (by kernel_rfl) (by kernel_rfl) (by kernel_rfl)
  have q : Chg Non w w.drew := ⟨rfl, rfl, rfl, Nat.le_refl _, fun _ _ _ => rfl⟩
  refine ⟨_, _, hconv, ⟨_, _, blk_alloc_new w.drew _, ?_⟩, q.alloc _⟩
  unfold bytesRow bytesL
  rw [Array.toList_append, Array.toList_map]
  exact List.take_left' (by simp)

theorem c19 (w : World) (k r : Int) (ok : KeyOk k r) : Calls Tryz.prog 19 #[.agg (keyA k r), .agg inA] w fun e w' => ∃ b cap c f, e = .returned (.tuple #[.slice (some ⟨b, 0, none⟩) (kbytes k r).size cap, .int .i64 0]) ∧ blk w' b = some (.cells c 5 f) ∧ c.toList.take (kbytes k r).size = bytesL (kbytes k r) ∧ Chg Non w w' := by
  refine r19 _ _ _ _ ?_
  unfold V19
  refine nw ?_
  intro k1 w1 e1 s1 b1 g1
  refine nw ?_
  intro k2 w2 e2 s2 b2 g2
  refine ⟨_, rdall (g2.get b1 (not_non _)) (by rfl), ?_⟩
  refine Calls.then (c18 w2 k r ok) ?_
  rintro e w3 ⟨rfl, g3⟩
  refine ⟨_, rfl, br_f rfl (nw ?_)⟩
  intro k3 w4 e4 s4 b4 g4
  intro K hK
  have b14 := g4.get (g3.get (g2.get b1 (not_non _)) (not_non _)) (not_non _)
  have b24 := g4.get (g3.get b2 (not_non _)) (not_non _)
  have g04 : Chg Non w w4 := ((g1.trans g2).trans g3).trans g4
  have key : ∀ w5 s, s = kbytes k r → Chg Non w w5 → K [.string s, .slice none 0 0, .int .i64 0] w5 := by
    rintro w5 s rfl g5
    refine hK _ _ _ _ _ _ fun _ => ?_
    obtain ⟨cap, w6, hr, ⟨c, f, hc, hl⟩, g6⟩ := conv_bytes w5 (kbytes k r)
    exact ⟨_, _, _, w6, hr, _, cap, c, f, rfl, hc, hl, g5.trans g6⟩
  clear hK
  refine ⟨_, rd1 b14 (by rfl), ?_⟩
  rcases ok with h1 | h2 | ⟨rfl, hk⟩
  · have hk : k = 1 := h1.1
    subst hk
    refine br_f rfl (br_f rfl (br_f rfl (br_f rfl ⟨_, rdall b14 (by rfl), _, rdall b24 (by rfl), ?_⟩)))
    refine Calls.then (c45 w4 1 r (.inl h1)) ?_
    rintro e w5 ⟨rfl, g5⟩
    refine ⟨_, _, rfl, br_f rfl ?_⟩
    intro K2 hK2
    refine ⟨_, rd1 (g5.get b14 (not_non _)) (by rfl), br_f rfl (hK2 _ _ fun _ => ⟨?_, key w5 _ ?_ (g04.trans g5)⟩)⟩
    · have : (kbytes 1 r).size ≤ 4 := by
        rcases h1.2 with rfl | hr
        · decide
        · have : r = 97 ∨ r = 98 ∨ r = 99 ∨ r = 100 ∨ r = 101 ∨ r = 102 ∨ r = 103 ∨ r = 104 ∨ r = 105 ∨ r = 106 ∨ r = 107 ∨ r = 108 ∨ r = 109 ∨ r = 110 ∨ r = 111 ∨ r = 112 := by omega
          rcases this with rfl | rfl | rfl | rfl | rfl | rfl | rfl | rfl | rfl | rfl | rfl | rfl | rfl | rfl | rfl | rfl <;> decide
      show 0 + (kbytes 1 r).size ≤ _
      omega
    · exact empty_app _
  · obtain ⟨hr, hk⟩ := h2
    refine br_f (by simp; omega) (br_f (by simp; omega) (br_f (by simp; omega) (br_f (by simp; omega) ⟨_, rdall b14 (by rfl), _, rdall b24 (by rfl), ?_⟩)))
    refine Calls.then (c45 w4 k r (.inr ⟨hr, hk⟩)) ?_
    rintro e w5 ⟨rfl, g5⟩
    refine ⟨_, _, rfl, br_f rfl ?_⟩
    intro K2 hK2
    refine ⟨_, rd1 (g5.get b14 (not_non _)) (by rfl), br_f rfl (hK2 _ _ fun _ => ⟨?_, key w5 _ ?_ (g04.trans g5)⟩)⟩
    · subst hr
      rcases hk with rfl | rfl | rfl <;> decide
    · exact empty_app _
  · rcases hk with rfl | rfl | rfl | rfl | rfl
    all_goals
      refine br_t rfl (br_t rfl ⟨_, rdall b14 (by rfl), by unfold inInt; decide, by unfold inInt; decide, by unfold inInt; decide, by decide, by decide, by decide, _, rd1 b24 (by rfl), _, floS fun w' s' g' => c43 w' _ 0 _ (by decide), all_below ?_⟩)
      intro w5 s5 g5
      exact key w5 _ (by rfl) (g04.trans g5)
end Go.Proofs

namespace Go.Proofs
open Go Go.X Go.RowKit
set_option linter.unusedVariables false
set_option linter.unusedSimpArgs false
set_option maxRecDepth 100000

theorem elByte : Elem 22 5 1 1 := elem_of (by kernel_rfl) (by kernel_rfl) (by decide)
theorem bytesL_length (s : ByteArray) : (bytesL s).length = s.size := by unfold bytesL; simp
theorem bytesL_one (s : ByteArray) : ∀ u ∈ bytesL s, u.oneCell' = true := by
  intro u hu; unfold bytesL at hu; obtain ⟨x, _, rfl⟩ := List.mem_map.1 hu; rfl
theorem kbytes_size (k r : Int) (ok : KeyOk k r) : 1 ≤ (kbytes k r).size ∧ (kbytes k r).size ≤ 4 := by
  rcases ok with ⟨rfl, rfl | hr⟩ | ⟨rfl, rfl | rfl | rfl⟩ | ⟨rfl, rfl | rfl | rfl | rfl | rfl⟩
  · decide
  · have : r = 97 ∨ r = 98 ∨ r = 99 ∨ r = 100 ∨ r = 101 ∨ r = 102 ∨ r = 103 ∨ r = 104 ∨ r = 105 ∨ r = 106 ∨ r = 107 ∨ r = 108 ∨ r = 109 ∨ r = 110 ∨ r = 111 ∨ r = 112 := by omega
    rcases this with rfl | rfl | rfl | rfl | rfl | rfl | rfl | rfl | rfl | rfl | rfl | rfl | rfl | rfl | rfl | rfl <;> decide
  all_goals decide

theorem c6 (w : World) (k r : Int) (b : Nat) (ok : KeyOk k r) (hb : blk w b = some (.cells (keyA k r) 35)) :
    Calls Tryz.prog 6 #[.agg inA, .slice (some ⟨b, 0, none⟩) 1 1] w fun e w' => ∃ v, e = .returned (.tuple #[v, .int .i64 0]) ∧ w'.ownsRow 0 5 1 v (kbytes k r).size (bytesL (kbytes k r)) ∧ Chg Non w w' := by
  have hblt := blk_lt hb
  obtain ⟨hz1, hz2⟩ := kbytes_size k r ok
  refine r6 _ _ _ _ _ _ ?_
  unfold V6
  refine nw ?_
  intro k5 w1 e1 s1 b1 g1
  refine br_f rfl ?_
  refine Calls.then (c16 w1 k r b (0, 0) ok (g1.get hb (not_non _))) ?_
  rintro e w2 ⟨rfl, g2⟩
  refine ⟨_, rfl, br_f rfl ?_⟩
  refine ⟨fun vs w' => Chg Non w w' ∧ blk w' b = some (.cells (keyA k r) 35) ∧ blk w' k5 = some (.cells inA 41) ∧ ∃ (v0 : Value) (n0 : Int) (v : Value) (j : Nat), vs = [v0, .int .i64 n0, v, .int .i64 j] ∧ ((j = 0 ∧ v = .slice none 0 0) ∨ (j = 1 ∧ w'.ownsRow 0 5 1 v (kbytes k r).size (bytesL (kbytes k r)))),
    fun vs _ => match vs with | [_, _, _, .int _ j] => (1 - j).toNat | _ => 0, ⟨g1.trans g2, g2.get (g1.get hb (not_non _)) (not_non _), g2.get b1 (not_non _), _, 0, _, 0, rfl, .inl ⟨rfl, rfl⟩⟩, ?_⟩
  rintro p12 k13 k14 n15 p16 k17 k18 n19 w3 _ ⟨g3, b3, b3k, v0, n0, v, j, hv, hcase⟩
  simp only [List.cons.injEq, Value.int.injEq, true_and, and_true] at hv
  obtain ⟨rfl, rfl, rfl, rfl⟩ := hv
  have s3 := g3.size
  rcases hcase with ⟨rfl, hv⟩ | ⟨rfl, hown⟩
  · injection hv with q1 q2 q3
    subst q1; subst q2; subst q3
    refine br_t rfl ⟨by omega, by omega, _, _, rfl, _, rdall b3 (by rfl), nw ?_⟩
    intro k25 w4 e4 s4 b4 g4
    refine ⟨rfl, one_lit rfl, fw b4 (by (first | exact Nat.le_of_ble_eq_true rfl | (simp; done) | omega)), puts0A b4 (by rfl) ?_⟩
    intro w5 s5 b5 g5
    have b5k : blk w5 k5 = some (.cells inA 41) := g5.get (g4.get b3k (not_non _)) (not_in_cons (blk_ne (g4.get b3k (not_non _)) b4 (by decide)) (not_in_nil _))
    have b5b : blk w5 b = some (.cells (keyA k r) 35) := g5.get (g4.get b3 (not_non _)) (not_in_cons (by omega) (not_in_nil _))
    refine ⟨_, rdall b5 (by rfl), _, rdall b5k (by rfl), ?_⟩
    refine Calls.then (c19 w5 k r ok) ?_
    rintro e w6 ⟨bb, cap, c, f, rfl, hc, hl, g6⟩
    refine ⟨_, _, _, _, rfl, br_f rfl ?_⟩
    obtain ⟨hu, i, z, hi, hz, hsz, hzs, hby, hpos⟩ := elByte
    obtain ⟨v', w7, hr, ho, hc7, hnil, hblk⟩ := app_own (P := Tryz.prog) w6 22 22 5 i z 1 hu hi hz hsz hzs hpos (.slice none 0 0) 0 [] (World.ownsRow_nil _ _ _ _) ⟨bb, 0, none⟩ (kbytes k r).size cap (bytesL (kbytes k r)) (by rw [bytesL_length]; omega) (cells_of hc (by rw [bytesL_length, List.drop_zero]; exact hl)) (bytesL_one _) (by unfold maxLen; omega) (by rw [hby]; omega)
    obtain ⟨a', c', rfl, _⟩ := own_shape ho
    have g7 : Chg Non w6 w7 := hc7.mono fun j _ hj => by cases hj
    have gg : Chg Non w w5 := (g3.trans g4).trans' g5 (sub_new (by omega) (sub_nil _))
    refine ⟨_, _, _, w7, hr, by unfold inInt; omega, ⟨(gg.trans g6).trans g7, g7.get (g6.get b5b (not_non _)) (not_non _), g7.get (g6.get b5k (not_non _)) (not_non _), (.slice p12 k13 k14), n15, (.slice a' (0 + (kbytes k r).size) c'), 1, by simp, .inr ⟨rfl, by simpa using ho⟩⟩, by show ((1 : Int) - (((0 : Nat) : Int) + 1)).toNat < ((1 : Int) - ((0 : Nat) : Int)).toNat; decide⟩
  · exact br_f rfl ⟨_, rfl, hown, g3⟩

/-- The key of a byte. -/
def keyOf (b : Nat) : Int × Int :=
  match b % 16 with
  | 0 => (6, 0) | 1 => (7, 0) | 2 => (8, 0) | 3 => (9, 0) | 4 => (10, 0) | 5 => (2, 0) | 6 => (4, 0) | 7 => (3, 0) | 8 => (1, 32)
  | _ => (1, 97 + (b / 16 : Nat))
theorem keyOf_ok (b : Nat) (h : b < 256) : KeyOk (keyOf b).1 (keyOf b).2 := by
  unfold keyOf KeyOk
  split <;> first | (simp; done) | (dsimp only; left; refine ⟨rfl, .inr ?_⟩; omega)
theorem c5 (w : World) (b : Nat) (h : b < 256) : Calls Tryz.prog 5 #[.int .u8 b] w fun e w' => e = .returned (.agg (keyA (keyOf b).1 (keyOf b).2)) ∧ Chg Non w w' := by
  refine r5 _ _ _ ?_
  unfold V5
  refine nw ?_
  intro k1 w1 e1 s1 b1 g1
  have hm : (b : Int).tmod 16 = ((b % 16 : Nat) : Int) := by rw [Int.tmod_eq_emod_of_nonneg (by omega)]; omega
  rw [hm]
  have fin : ∀ (kk rr : Int), keyOf b = (kk, rr) → (5 = 5 ∧ OneCells #[.int .i64 kk, .int .i32 rr, .bool false, .bool false, .bool false] ∧ FreeW w1 ⟨k1, 0, none⟩ 5 ∧ ∀ w4, Puts w1 ⟨k1, 0, none⟩ [.int .i64 kk, .int .i32 rr, .bool false, .bool false, .bool false] w4 → ∃ c5, cellsW w4 ⟨k1, 0, none⟩ 5 = some c5 ∧ (Ending.returned (.agg c5) = .returned (.agg (keyA (keyOf b).1 (keyOf b).2)) ∧ Chg Non w w4)) := by
    intro kk rr hk
    rw [hk]
    refine ⟨rfl, one_lit rfl, fw b1 (by (first | exact Nat.le_of_ble_eq_true rfl | (simp; done) | omega)), puts0 b1 (by rfl) ?_⟩
    intro w2 s2 b2 g2
    exact ⟨_, rdall b2 (by rfl), rfl, by (repeat (first | exact Chg.refl _ _ | refine Chg.step (by assumption) ?_ (by (first | exact sub_non _ | exact sub_nil _ | (repeat (first | exact sub_nil _ | refine sub_new (by omega) ?_ | refine sub_old (by first | assumption | exact in_head _ _ | exact in_tail (in_head _ _) | exact in_tail (in_tail (in_head _ _)) | simp [In]) ?_))))))⟩
  have hlt : b % 16 < 16 := Nat.mod_lt _ (by decide)
  have hcs : b % 16 = 0 ∨ b % 16 = 1 ∨ b % 16 = 2 ∨ b % 16 = 3 ∨ b % 16 = 4 ∨ b % 16 = 5 ∨ b % 16 = 6 ∨ b % 16 = 7 ∨ b % 16 = 8 ∨ 9 ≤ b % 16 := by omega
  rcases hcs with q | q | q | q | q | q | q | q | q | q
  · rw [q]; exact br_t rfl (fin 6 0 (by unfold keyOf; simp [q]))
  · rw [q]; exact br_f rfl (br_t rfl (fin 7 0 (by unfold keyOf; simp [q])))
  · rw [q]; exact br_f rfl (br_f rfl (br_t rfl (fin 8 0 (by unfold keyOf; simp [q]))))
  · rw [q]; exact br_f rfl (br_f rfl (br_f rfl (br_t rfl (fin 9 0 (by unfold keyOf; simp [q])))))
  · rw [q]; exact br_f rfl (br_f rfl (br_f rfl (br_f rfl (br_t rfl (fin 10 0 (by unfold keyOf; simp [q]))))))
  · rw [q]; exact br_f rfl (br_f rfl (br_f rfl (br_f rfl (br_f rfl (br_t rfl (fin 2 0 (by unfold keyOf; simp [q])))))))
  · rw [q]; exact br_f rfl (br_f rfl (br_f rfl (br_f rfl (br_f rfl (br_f rfl (br_t rfl (fin 4 0 (by unfold keyOf; simp [q]))))))))
  · rw [q]; exact br_f rfl (br_f rfl (br_f rfl (br_f rfl (br_f rfl (br_f rfl (br_f rfl (br_t rfl (fin 3 0 (by unfold keyOf; simp [q])))))))))
  · rw [q]; exact br_f rfl (br_f rfl (br_f rfl (br_f rfl (br_f rfl (br_f rfl (br_f rfl (br_f rfl (br_t rfl (fin 1 32 (by unfold keyOf; simp [q]))))))))))
  · have hd : (b : Int).tdiv 16 = ((b / 16 : Nat) : Int) := by rw [Int.tdiv_eq_ediv_of_nonneg (by omega)]; omega
    have hw8 : ∀ n : Int, IntKind.u8.wrap n = n % 256 := fun n => by simp [IntKind.wrap, IntKind.bits, IntKind.signed]
    have hb : (b / 16 : Nat) < 16 := by omega
    have e1 : IntKind.i32.wrap (IntKind.u8.wrap (97 + IntKind.u8.wrap ((b : Int).tdiv 16))) = 97 + ((b / 16 : Nat) : Int) := by
      rw [hd, hw8, hw8, IntKind.wrap_i32]; omega
    rw [e1]
    refine br_f (by simp; omega) (br_f (by simp; omega) (br_f (by simp; omega) (br_f (by simp; omega) (br_f (by simp; omega) (br_f (by simp; omega) (br_f (by simp; omega) (br_f (by simp; omega) (br_f (by simp; omega) (fin 1 _ ?_)))))))))
    unfold keyOf
    split <;> first | omega | rfl
end Go.Proofs
