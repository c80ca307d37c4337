/-
Contracts: the history's lines, the view, All, Snapshot, New, the sheet; the function TopEchoes answers true.
-/
import Derived.Test.YtkmfcnoackhilaaGreatDoorL
import Derived.Laws.IdiomStrings
import Derived.Lib.SlBytesConst
set_option linter.unusedVariables false
set_option linter.unusedSimpArgs false
namespace Go.Proofs
open Go Go.X Go.RowKit
set_option linter.unusedVariables false
set_option linter.unusedSimpArgs false
set_option maxRecDepth 100000

/-- A history of a ring. -/
structure HisAt (w : World) (hi rg C : Nat) (pv : Value) (ss : List Sht) : Prop where
  his : blk w hi = some (.cells (hisA rg) 141)
  ring : RingAt w rg C pv ss
  hss : ss.length ≤ 100
  hn : (kept ss).length ≤ 100
theorem HisAt.non {w w' : World} {hi rg C : Nat} {pv : Value} {ss : List Sht} (h : HisAt w hi rg C pv ss) (k : Chg Non w w') : HisAt w' hi rg C pv ss := ⟨k.get h.his (not_non _), h.ring.non k, h.hss, h.hn⟩

theorem c50 (w : World) (hi rg C : Nat) (pv : Value) (ss : List Sht) (h : HisAt w hi rg C pv ss) (h0 : C ≠ 0) (hC : C ≤ 1000) (h3 : 3 ≤ w.heap.size) :
    Calls Tryz.prog 50 #[.pointer (some ⟨hi, 0, none⟩)] w fun e w' => ∃ hi' rg' pv' ss', e = .returned (.pointer (some ⟨hi', 0, none⟩)) ∧ HisAt w' hi' rg' C pv' ss' ∧ txts (kept ss') = txts (kept ss) ∧ Chg Non w w' := by
  refine r50 _ _ _ ?_
  unfold V50
  refine Calls.then (c54 w hi rg h.his) ?_
  rintro e w3 ⟨rfl, g3⟩
  have h1 := h.non g3
  have s3 := g3.size
  refine ⟨_, rfl, br_f rfl ⟨_, rfl, _, rd1 h1.his (by rfl), ?_⟩⟩
  refine Calls.then (c81 w3 rg C pv ss h1.ring h0 hC (by have := h.hn; omega) h.hss (by omega)) ?_
  rintro e w8 ⟨rg', pv', ss', rfl, hr, ht, hl, g8⟩
  refine ⟨_, rfl, nw ?_⟩
  intro k10 w11 e11 s11 b11 g11
  have hlen : (kept ss').length = (kept ss).length := by have := congrArg List.length ht; rwa [txts_length, txts_length] at this
  exact ⟨k10, rg', pv', ss', rfl, ⟨b11, hr.non g11, by rw [hl]; exact h.hss, by rw [hlen]; exact h.hn⟩, ht, (g3.trans g8).trans g11⟩

theorem Scr.hisAt {w : World} {s R C : Nat} {S : SS} (h : Scr w s R C S) (hn : (kept S.ss).length ≤ 100) : HisAt w S.hi S.rg C S.pv S.ss := ⟨h.his, h.ring, by have := h.hss; omega, hn⟩

theorem c24 (w : World) (s R C : Nat) (S : SS) (h : Scr w s R C S) (hn : (kept S.ss).length ≤ 100) (h3 : 3 ≤ w.heap.size) :
    Calls Tryz.prog 24 #[.pointer (some ⟨s, 0, none⟩)] w fun e w' => ∃ hi' rg' pv' ss', e = .returned (.pointer (some ⟨hi', 0, none⟩)) ∧ HisAt w' hi' rg' C pv' ss' ∧ txts (kept ss') = txts (kept S.ss) ∧ Chg Non w w' := by
  have hC := h.hC
  refine r24 _ _ _ ?_
  unfold V24
  refine Calls.then (c49 w s R C S h) ?_
  rintro e w3 ⟨rfl, g3⟩
  have h1 := h.non g3
  have s3 := g3.size
  refine ⟨_, rfl, br_f rfl ⟨_, rfl, _, rd1 h1.scr (by rfl), ?_⟩⟩
  refine Calls.then (c50 w3 S.hi S.rg C S.pv S.ss (h1.hisAt hn) (by omega) (by omega) (by omega)) ?_
  rintro e w8 ⟨hi', rg', pv', ss', rfl, hr, ht, g8⟩
  exact ⟨_, rfl, hi', rg', pv', ss', rfl, hr, ht, g3.trans g8⟩

theorem c33 (w : World) (hi rg C : Nat) (pv : Value) (ss : List Sht) (h : HisAt w hi rg C pv ss) : Calls Tryz.prog 33 #[.pointer (some ⟨hi, 0, none⟩)] w fun e w' => e = .returned (.int .i64 (kept ss).length) ∧ Chg Non w w' := by
  refine r33 _ _ _ ?_
  unfold V33
  refine Calls.then (c54 w hi rg h.his) ?_
  rintro e w3 ⟨rfl, g3⟩
  have h1 := h.non g3
  refine ⟨_, rfl, br_f rfl ⟨_, rfl, _, rd1 h1.his (by rfl), ?_⟩⟩
  refine Calls.then (c66 w3 rg _ pv h1.ring.ring (by have := h.hn; omega)) ?_
  rintro e w8 ⟨rfl, g8⟩
  exact ⟨_, rfl, rfl, g3.trans g8⟩
theorem c27 (w : World) (hi rg C : Nat) (pv : Value) (ss : List Sht) (h : HisAt w hi rg C pv ss) : Calls Tryz.prog 27 #[.pointer (some ⟨hi, 0, none⟩)] w fun e w' => e = .returned (.int .i64 0) ∧ Chg Non w w' := by
  refine r27 _ _ _ ?_
  unfold V27
  refine Calls.then (c54 w hi rg h.his) ?_
  rintro e w3 ⟨rfl, g3⟩
  have h1 := h.non g3
  refine ⟨_, rfl, br_f rfl ⟨_, rfl, _, rd1 h1.his (by rfl), ?_⟩⟩
  refine Calls.then (c55 w3 rg _ pv h1.ring.ring) ?_
  rintro e w8 ⟨rfl, g8⟩
  exact ⟨_, rfl, rfl, g3.trans g8⟩
theorem c65 (w : World) (hi rg C : Nat) (pv : Value) (ss : List Sht) (h : HisAt w hi rg C pv ss) : Calls Tryz.prog 65 #[.pointer (some ⟨hi, 0, none⟩)] w fun e w' => e = .returned (.int .i64 (kept ss).length) ∧ Chg Non w w' := by
  refine r65 _ _ _ ?_
  unfold V65
  refine Calls.then (c54 w hi rg h.his) ?_
  rintro e w3 ⟨rfl, g3⟩
  have h1 := h.non g3
  refine ⟨_, rfl, br_f rfl ⟨_, rfl, _, rd1 h1.his (by rfl), ?_⟩⟩
  refine Calls.then (c83 w3 rg _ pv h1.ring.ring) ?_
  rintro e w8 ⟨rfl, g8⟩
  exact ⟨_, rfl, rfl, g3.trans g8⟩

theorem c51z (w : World) (hi rg C : Nat) (pv : Value) (ss : List Sht) (h : HisAt w hi rg C pv ss) : Calls Tryz.prog 51 #[.pointer (some ⟨hi, 0, none⟩), .int .i64 0] w fun e w' => e = .returned (.slice none 0 0) ∧ Chg Non w w' := by
  refine r51 _ _ _ _ ?_
  unfold V51
  intro X hX
  refine Calls.then (c54 w hi rg h.his) ?_
  rintro e w3 ⟨rfl, g3⟩
  exact ⟨_, rfl, br_f rfl (br_t rfl ⟨rfl, g3⟩)⟩

/-- Lines that were made not before n₀. -/
structure NewLines (w : World) (n₀ C : Nat) (v : Value) (t : List (List Int × Bool)) : Prop where
  ex : ∃ l, LinesV w v l ∧ RowsAt w C l ∧ txts l = t ∧ (∀ x ∈ l, n₀ ≤ x.b) ∧ ∀ g, v.ownBlock = some g → n₀ ≤ g
theorem NewLines.non {w w' : World} {n₀ C : Nat} {v : Value} {t : List (List Int × Bool)} (h : NewLines w n₀ C v t) (k : Chg Non w w') : NewLines w' n₀ C v t := by
  obtain ⟨l, h1, h2, h3, h4, h5⟩ := h.ex
  exact ⟨l, h1.non k, h2.non k, h3, h4, h5⟩
theorem NewLines.mono {w : World} {n₀ n C : Nat} {v : Value} {t : List (List Int × Bool)} (h : NewLines w n C v t) (hn : n₀ ≤ n) : NewLines w n₀ C v t := by
  obtain ⟨l, h1, h2, h3, h4, h5⟩ := h.ex
  exact ⟨l, h1, h2, h3, fun x hx => Nat.le_trans hn (h4 x hx), fun g hg => Nat.le_trans hn (h5 g hg)⟩
theorem NewLines.grows (n₀ C : Nat) (v : Value) (t : List (List Int × Bool)) : Grows fun w => NewLines w n₀ C v t := fun w w' h hb => h.non (.of_below hb)
theorem NewLines.slice {w : World} {n₀ C : Nat} {v : Value} {t : List (List Int × Bool)} (h : NewLines w n₀ C v t) : ∃ a c, v = .slice a t.length c := by
  obtain ⟨l, h1, h2, h3, _⟩ := h.ex
  obtain ⟨a, c, rfl⟩ := h1.slice
  exact ⟨a, c, by rw [← h3, txts_length]⟩

theorem c51 (w : World) (hi rg C : Nat) (pv : Value) (ss : List Sht) (h : HisAt w hi rg C pv ss) (h0 : C ≠ 0) (hC : C ≤ 1000) :
    Calls Tryz.prog 51 #[.pointer (some ⟨hi, 0, none⟩), .int .i64 1048576] w fun e w' => ∃ v, e = .returned v ∧ NewLines w' w.heap.size C v (txts (kept ss)) ∧ Chg Non w w' := by
  have hn := h.hn
  refine r51 _ _ _ _ ?_
  unfold V51
  intro X hX
  refine Calls.then (c54 w hi rg h.his) ?_
  rintro e w3 ⟨rfl, g3⟩
  have h1 := h.non g3
  have s3 := g3.size
  refine ⟨_, rfl, br_f rfl (br_f rfl (hX _ _ _ _ fun _ => ⟨_, rfl, _, rd1 h1.his (by rfl), _, rfl, _, rd1 h1.his (by rfl), _, floI fun w' s' g' => c83 w' rg _ pv (h1.non g').ring.ring, _, rfl, _, rd1 h1.his (by rfl), _, floI fun w' s' g' => c66 w' rg _ pv (h1.non g').ring.ring (by omega), by unfold inInt; omega, _, rfl, _, rd1 h1.his (by rfl), _, floI fun w' s' g' => c83 w' rg _ pv (h1.non g').ring.ring, ?_⟩))⟩
  have e0 : ((kept ss).length : Int) - min 1048576 ((kept ss).length : Int) = 0 := by omega
  rw [e0]
  refine ⟨fun v w' => ∃ u n, v = .tuple #[u, .int .i64 n] ∧ NewLines w' w.heap.size C u (txts (kept ss)), ?_, ?_, ?_⟩
  · rintro v a b ⟨u, n, e, hN⟩ hb
    exact ⟨u, n, e, hN.non (.of_below hb)⟩
  · refine all_below ?_
    intro w4 s4 g4
    refine Calls.then (c82 w4 rg C pv ss (h1.non g4).ring h0 hC (by omega) h.hss) ?_
    rintro e w5 ⟨v, l, rfl, q1, q2, q3, q4, q5, g5⟩
    obtain ⟨a, c, rfl⟩ := q1.slice
    exact ⟨_, _, _, _, rfl, g5.below, _, _, rfl, ⟨l, q1, q2, q3, fun x hx => by have := q4 x hx; omega, fun g hg => by have := q5 g hg; omega⟩⟩
  · rintro p k43 k44 n45 w46 ⟨hb, u, n, e, hN⟩
    simp only [Value.tuple.injEq, Array.mk.injEq, List.cons.injEq] at e
    obtain ⟨rfl, _⟩ := e
    exact ⟨_, rfl, hN, g3.trans (.of_below hb)⟩

theorem c25 (w : World) (hi rg C : Nat) (pv : Value) (ss : List Sht) (h : HisAt w hi rg C pv ss) (h0 : C ≠ 0) (hC : C ≤ 1000) :
    Calls Tryz.prog 25 #[.pointer (some ⟨hi, 0, none⟩)] w fun e w' => ∃ v, e = .returned v ∧ NewLines w' w.heap.size C v (txts (kept ss)) ∧ Chg Non w w' := by
  refine r25 _ _ _ ?_
  unfold V25
  refine Calls.then (c51 w hi rg C pv ss h h0 hC) ?_
  rintro e w3 ⟨v, rfl, hN, g3⟩
  obtain ⟨a, c, rfl⟩ := hN.slice
  exact ⟨_, _, _, rfl, _, rfl, hN, g3⟩

theorem c26 (w : World) (s R C : Nat) (S : SS) (h : Scr w s R C S) :
    Calls Tryz.prog 26 #[.pointer (some ⟨s, 0, none⟩)] w fun e w' => ∃ v, e = .returned v ∧ NewLines w' w.heap.size C v (txts S.l) ∧ Chg Non w w' := by
  have hC := h.hC
  have hR := h.hR
  have hl := h.len
  refine r26 _ _ _ ?_
  unfold V26
  refine Calls.then (c49 w s R C S h) ?_
  rintro e w3 ⟨rfl, g3⟩
  have h1 := h.non g3
  have s3 := g3.size
  refine ⟨_, rfl, br_f rfl ⟨_, rfl, _, rd1 h1.scr (by rfl), ?_⟩⟩
  refine Calls.then (c52 w3 S.pr S.g S.rb S.rcap C S.l h1.pair h1.grid.r (by omega) (by omega) (by omega) (by omega)) ?_
  rintro e w8 ⟨g', rb', rcap', l', rfl, hg, ht, g8⟩
  have s8 := g8.size
  have hll : l'.length = S.l.length := by have := congrArg List.length ht; rwa [txts_length, txts_length] at this
  refine ⟨_, rfl, ?_⟩
  refine Calls.then (c53 w8 g' rb' rcap' C l' hg (by omega) (by omega) (by omega)) ?_
  rintro e w11 ⟨v, l2, rfl, q1, q2, q3, q4, q5, g11⟩
  obtain ⟨a, c, rfl⟩ := q1.slice
  exact ⟨_, _, _, rfl, _, rfl, ⟨l2, q1, q2, q3.trans ht, fun x hx => by have := q4 x hx; omega, fun g hg => by have := q5 g hg; omega⟩, (g3.trans g8).trans g11⟩

theorem c31 (w : World) (s R C : Nat) (S : SS) (h : Scr w s R C S) : Calls Tryz.prog 31 #[.pointer (some ⟨s, 0, none⟩)] w fun e w' => e = .returned (.int .i64 C) ∧ Chg Non w w' := by
  refine r31 _ _ _ ?_
  unfold V31
  refine Calls.then (c49 w s R C S h) ?_
  rintro e w3 ⟨rfl, g3⟩
  exact ⟨_, rfl, br_f rfl ⟨_, rfl, _, rd1 (h.non g3).scr (by rfl), rfl, g3⟩⟩
theorem c37 (w : World) (s R C : Nat) (S : SS) (h : Scr w s R C S) : Calls Tryz.prog 37 #[.pointer (some ⟨s, 0, none⟩)] w fun e w' => e = .returned (.string emptyS) ∧ Chg Non w w' := by
  refine r37 _ _ _ ?_
  unfold V37
  refine Calls.then (c49 w s R C S h) ?_
  rintro e w3 ⟨rfl, g3⟩
  exact ⟨_, rfl, br_f rfl ⟨_, rfl, _, rd1 (h.non g3).scr (by rfl), rfl, g3⟩⟩
theorem c34 (w : World) (s R C : Nat) (S : SS) (h : Scr w s R C S) : Calls Tryz.prog 34 #[.pointer (some ⟨s, 0, none⟩)] w fun e w' => e = .returned (.agg (curA S.row S.col S.pend)) ∧ Chg Non w w' := by
  refine r34 _ _ _ ?_
  unfold V34
  refine nw ?_
  intro k2 w3 e3 s3 b3 g3
  refine Calls.then (c49 w3 s R C S (h.non g3)) ?_
  rintro e w5 ⟨rfl, g5⟩
  have h5 := (h.non g3).non g5
  have b5 := g5.get b3 (not_non _)
  refine ⟨_, rfl, br_f rfl ⟨_, rfl, _, rdc (d := [.int .i64 S.row, .int .i64 S.col, .bool S.pend]) h5.scr (by rfl) (by (first | exact Nat.le_of_ble_eq_true rfl | (simp; done) | omega)), rfl, one_lit rfl, fw b5 (by (first | exact Nat.le_of_ble_eq_true rfl | (simp; done) | omega)), puts0A b5 (by rfl) ?_⟩⟩
  intro w11 s11 b11 g11
  have gg : Chg Non w w11 := (g3.trans g5).trans' g11 (sub_new (by omega) (sub_nil _))
  exact ⟨_, rdall b11 (by rfl), rfl, gg⟩
theorem c35 (w : World) (s R C : Nat) (S : SS) (h : Scr w s R C S) : Calls Tryz.prog 35 #[.pointer (some ⟨s, 0, none⟩)] w fun e w' => e = .returned (.agg modA) ∧ Chg Non w w' := by
  refine r35 _ _ _ ?_
  unfold V35
  refine nw ?_
  intro k2 w3 e3 s3 b3 g3
  refine Calls.then (c49 w3 s R C S (h.non g3)) ?_
  rintro e w5 ⟨rfl, g5⟩
  have h5 := (h.non g3).non g5
  have b5 := g5.get b3 (not_non _)
  refine ⟨_, rfl, br_f rfl ⟨_, rfl, modA, rdc (d := [.bool true, .bool false, .bool false, .bool true, .bool false, .bool false, .bool false, .int .i64 0, .int .i64 0]) h5.scr (by rfl) (by (first | exact Nat.le_of_ble_eq_true rfl | (simp; done) | omega)), rfl, one_lit rfl, fw b5 (by (first | exact Nat.le_of_ble_eq_true rfl | (simp; done) | omega)), puts0A b5 (by rfl) ?_⟩⟩
  intro w11 s11 b11 g11
  have gg : Chg Non w w11 := (g3.trans g5).trans' g11 (sub_new (by omega) (sub_nil _))
  exact ⟨_, rdall b11 (by rfl), rfl, gg⟩
theorem c36 (w : World) (s R C : Nat) (S : SS) (h : Scr w s R C S) : Calls Tryz.prog 36 #[.pointer (some ⟨s, 0, none⟩)] w fun e w' => e = .returned (.agg penZ) ∧ Chg Non w w' := by
  refine r36 _ _ _ ?_
  unfold V36
  refine nw ?_
  intro k2 w3 e3 s3 b3 g3
  refine Calls.then (c49 w3 s R C S (h.non g3)) ?_
  rintro e w5 ⟨rfl, g5⟩
  have h5 := (h.non g3).non g5
  have b5 := g5.get b3 (not_non _)
  refine ⟨_, rfl, br_f rfl ⟨_, rfl, penZ, rdc (d := [.int .i64 0, .int .u8 0, .int .u8 0, .int .u8 0, .int .u8 0, .int .i64 0, .int .u8 0, .int .u8 0, .int .u8 0, .int .u8 0, .int .u8 0]) h5.scr (by rfl) (by (first | exact Nat.le_of_ble_eq_true rfl | (simp; done) | omega)), rfl, one_lit rfl, fw b5 (by (first | exact Nat.le_of_ble_eq_true rfl | (simp; done) | omega)), puts0A b5 (by rfl) ?_⟩⟩
  intro w11 s11 b11 g11
  have gg : Chg Non w w11 := (g3.trans g5).trans' g11 (sub_new (by omega) (sub_nil _))
  exact ⟨_, rdall b11 (by rfl), rfl, gg⟩

theorem c62 (w : World) (hi rg C : Nat) (pv : Value) (ss : List Sht) (h : HisAt w hi rg C pv ss) (h0 : C ≠ 0) (hC : C ≤ 1000) (h3 : 3 ≤ w.heap.size) : Calls Tryz.prog 62 #[.pointer (some ⟨hi, 0, none⟩)] w fun e w' => e = .returned (.bool false) ∧ Chg Non w w' := by
  refine r62 _ _ _ ?_
  unfold V62
  refine Calls.then (c50 w hi rg C pv ss h h0 hC h3) ?_
  rintro e w3 ⟨hi', rg', pv', ss', rfl, _, _, g3⟩
  exact ⟨_, rfl, rfl, g3⟩
theorem c63 (w : World) (n : Nat) : Calls Tryz.prog 63 #[.agg #[.int .i64 0, .int .i64 n]] w fun e w' => e = .returned (.int .i64 0) ∧ Chg Non w w' := by
  refine r63 _ _ _ ?_
  unfold V63
  refine nw ?_
  intro k2 w3 e3 s3 b3 g3
  intro X hX Y hY
  refine ⟨by omega, by omega, _, _, rfl, _, rd1 b3 (by rfl), br_f rfl ⟨by omega, by omega, _, _, rfl, _, rd1 b3 (by rfl), by omega, by omega, _, _, rfl, _, rd1 b3 (by rfl), br_f cp (hX _ fun _ => ⟨by omega, by omega, _, _, rfl, _, rd1 b3 (by rfl), rfl, g3⟩)⟩⟩
end Go.Proofs

namespace Go.Proofs
open Go Go.X Go.RowKit
set_option linter.unusedVariables false
set_option linter.unusedSimpArgs false
set_option maxRecDepth 100000

theorem hdrs_cat (a b : List GRow) : hdrs (a ++ b) = hdrs a ++ hdrs b := hdrs_append a b
/-- Lines behind lines. -/
theorem app_lines (w : World) (n₀ C : Nat) (a b' : Option Addr) (k c m cap : Nat) (t u : List (List Int × Bool)) (h1 : NewLines w n₀ C (.slice a k c) t) (h2 : NewLines w n₀ C (.slice b' m cap) u) (hu : u.length ≠ 0) (ht : t.length + u.length ≤ 10000) (hn : n₀ ≤ w.heap.size) :
    ∃ a' k' c' w', Runs Tryz.prog (Builtin.append_ #[44, 44] 44 #[.slice a k c, .slice b' m cap]) w (.slice a' k' c') w' ∧ NewLines w' n₀ C (.slice a' k' c') (t ++ u) ∧ Below n₀ w w' := by
  obtain ⟨l1, q1, q2, q3, q4, q5⟩ := h1.ex
  obtain ⟨l2, r1, r2, r3, r4, r5⟩ := h2.ex
  have e1 : l1.length = t.length := by rw [← q3, txts_length]
  have e2 : l2.length = u.length := by rw [← r3, txts_length]
  obtain ⟨hu', i, z, hi, hz, hsz, hzs, hby, hpos⟩ := elLine
  obtain ⟨g, cap', cur, hv, hg, p1, p2, p3, p4⟩ := own_slice r1 (by omega)
  simp only [Value.slice.injEq] at hv
  obtain ⟨rfl, rfl, rfl⟩ := hv
  obtain ⟨v', w', hr, ho, hc, hnil, hblk⟩ := app_own (P := Tryz.prog) w 44 44 96 i z 2 hu' hi hz hsz hzs hpos _ l1.length (hdrs l1) q1 ⟨g, 0, none⟩ l2.length cap (hdrs l2) (by rw [hdrs_length]) (cells_of hg (by rw [List.drop_zero, hdrs_length]; exact p4)) (hdrs_one l2) (by unfold maxLen; omega) (by rw [hby]; omega)
  obtain ⟨a', c', rfl, _⟩ := own_shape ho
  refine ⟨_, _, _, w', hr, ⟨l1 ++ l2, ?_, ⟨fun x hx => ?_, fun x hx => ?_⟩, by rw [txts_append, q3, r3], fun x hx => ?_, fun j hj => ?_⟩, below_of hc (fun j hj => q5 j hj.symm) hn⟩
  · unfold LinesV
    rw [List.length_append, hdrs_append]; exact ho
  · have hx' : RowAt w x.b x.cap x.rs := by
      rcases List.mem_append.1 hx with hx | hx
      · exact q2.row x hx
      · exact r2.row x hx
    refine hx'.next hc ?_
    obtain ⟨cc, hcc, _⟩ := hx'.ex
    exact own_ne q1 hcc (by decide)
  · rcases List.mem_append.1 hx with hx | hx
    · exact q2.len x hx
    · exact r2.len x hx
  · rcases List.mem_append.1 hx with hx | hx
    · exact q4 x hx
    · exact r4 x hx
  · rcases hblk j hj with q | q
    · exact q5 j q
    · omega

theorem c9 (w : World) (t p s vw R C : Nat) (S : SS) (h : TermAt w t p s vw R C S) (hn : (kept S.ss).length ≤ 100) (h3 : 3 ≤ w.heap.size) :
    Calls Tryz.prog 9 #[.pointer (some ⟨t, 0, none⟩)] w fun e w' => ∃ v, e = .returned (.tuple #[v, .int .i64 0, .int .i64 0]) ∧ NewLines w' w.heap.size C v (txts (kept S.ss) ++ txts S.l) ∧ Chg Non w w' := by
  have hC := h.scr.hC
  have hR := h.scr.hR
  have hl := h.scr.len
  refine r9 _ _ _ ?_
  unfold V9
  refine Calls.then (c23 w t p s vw h.term) ?_
  rintro e w3 ⟨rfl, g3⟩
  have h1 := h.non g3
  have s3 := g3.size
  refine ⟨_, rfl, br_f rfl ⟨_, rfl, _, rd1 h1.term (by rfl), ?_⟩⟩
  refine Calls.then (c24 w3 s R C S h1.scr hn (by omega)) ?_
  rintro e w8 ⟨hi', rg', pv', ss', rfl, hH, ht, g8⟩
  have h8 := h1.non g8
  have s8 := g8.size
  refine ⟨_, rfl, _, rfl, _, rd1 h8.term (by rfl), fun v w' => NewLines w' w8.heap.size C v (txts (kept S.ss)), fun v => NewLines.grows _ _ _ _, ?_, ?_⟩
  · refine all_below ?_
    intro w15 s15 g15
    refine Calls.then (c25 w15 hi' rg' C pv' ss' (hH.non g15) (by omega) (by omega)) ?_
    rintro e w17 ⟨v, rfl, hN, g17⟩
    rw [ht] at hN
    obtain ⟨a, c, rfl⟩ := hN.slice
    exact ⟨_, _, _, rfl, g17.below, hN.mono (by omega)⟩
  intro p21 k22 k23
  refine ⟨fun v w' => NewLines w' w8.heap.size C v (txts S.l), fun v => NewLines.grows _ _ _ _, ?_, ?_⟩
  · rintro w26 ⟨hb26, _⟩
    have g26 : Chg Non w8 w26 := .of_below hb26
    have s26 := g26.size
    refine Calls.then (c26 w26 s R C S (h8.non g26).scr) ?_
    rintro e w28 ⟨v, rfl, hN, g28⟩
    obtain ⟨a, c, rfl⟩ := hN.slice
    exact ⟨_, _, _, rfl, g28.below, hN.mono (by omega)⟩
  · rintro p32 k33 k34 w35 ⟨⟨hb35, hN1⟩, hN2⟩
    have g35 : Chg Non w8 w35 := .of_below hb35
    have s35 := g35.size
    obtain ⟨a', k', c', w39, hr, hN, hb⟩ := app_lines w35 w8.heap.size C p21 p32 k22 k23 k33 k34 (txts (kept S.ss)) (txts S.l) hN1 hN2 (by rw [txts_length]; omega) (by rw [txts_length, txts_length]; omega) (by omega)
    refine ⟨_, _, _, w39, hr, ?_⟩
    have g39 : Chg Non w8 w39 := chg_below g35 hb
    refine Calls.then (c27 w39 hi' rg' C pv' ss' (hH.non g39)) ?_
    rintro e w41 ⟨rfl, g41⟩
    exact ⟨_, rfl, _, rfl, (hN.mono (by omega)).non g41, ((g3.trans g8).trans g39).trans g41⟩
end Go.Proofs

namespace Go.Proofs
open Go Go.X Go.RowKit
set_option linter.unusedVariables false
set_option linter.unusedSimpArgs false
set_option maxRecDepth 100000

theorem c30 (w : World) (vw hi rg R C b cap : Nat) (pv : Value) (ss : List Sht) (l : List GRow) (hv : blk w vw = some (.cells #[.int .i64 R, .int .i64 0] 121)) (hH : HisAt w hi rg C pv ss) (h : LinesV w (.slice (some ⟨b, 0, none⟩) l.length cap) l) (hr : RowsAt w C l) (hl : l.length = R) (hR : 1 ≤ R ∧ R ≤ 1000) (hC : 1 ≤ C ∧ C ≤ 1000) (h3 : 3 ≤ w.heap.size) :
    Calls Tryz.prog 30 #[.pointer (some ⟨vw, 0, none⟩), .pointer (some ⟨hi, 0, none⟩), .slice (some ⟨b, 0, none⟩) R cap] w fun e w' => ∃ a k c n, e = .returned (.tuple #[.slice a k c, .int .i64 n, .int .i64 0]) ∧ Chg Non w w' := by
  refine r30 _ _ _ _ _ _ _ ?_
  unfold V30
  intro X hX
  refine Calls.then (c61 w vw R hv (by omega)) ?_
  rintro e w1 ⟨rfl, g1⟩
  have s1 := g1.size
  refine ⟨_, rfl, br_f rfl ?_⟩
  refine Calls.then (c62 w1 hi rg C pv ss (hH.non g1) (by omega) (by omega) (by omega)) ?_
  rintro e w2 ⟨rfl, g2⟩
  have hv2 : blk w2 vw = some (.cells #[.int .i64 R, .int .i64 0] 121) := by (repeat (first | assumption | refine Chg.get (by assumption) ?_ (by (repeat (first | exact not_non _ | exact not_in_nil _ | refine not_in_cons (by first | assumption | exact Ne.symm (by assumption) | omega) ?_)))))
  refine ⟨_, rfl, br_f rfl ⟨_, rfl, _, rd1 hv2 (by rfl), br_f (by simp) (hX _ _ _ _ _ _ fun _ => ?_)⟩⟩
  have g02 : Chg Non w w2 := g1.trans g2
  have hH2 := hH.non g02
  refine ⟨_, rfl, _, rd1 hv2 (by rfl), _, floI fun w' s' g' => c33 w' hi rg C pv ss (hH2.non g'), _, floI fun w' s' g' => c63 w' _, all_below ?_⟩
  intro w3 s3 g3
  refine Calls.then (c51z w3 hi rg C pv ss (hH2.non g3)) ?_
  rintro e w4 ⟨rfl, g4⟩
  have g04 : Chg Non w w4 := (g02.trans g3).trans g4
  have s4 := g04.size
  have hv4 : blk w4 vw = some (.cells #[.int .i64 R, .int .i64 0] 121) := g4.get (g3.get hv2 (not_non _)) (not_non _)
  refine ⟨_, _, _, rfl, fun vs w' => w' = w4 ∧ vs = [.slice none 0 0, .int .i64 0], fun _ _ => 0, ⟨rfl, rfl⟩, ?_⟩
  rintro p35 k36 k37 n38 w5 _ ⟨rfl, hj⟩
  simp only [List.cons.injEq, Value.slice.injEq, Value.int.injEq, true_and, and_true] at hj
  obtain ⟨⟨rfl, rfl, rfl⟩, rfl⟩ := hj
  have hcapl : l.length ≤ cap := by
    rcases h.2 with ⟨q, _⟩ | ⟨g, cap', cur, q, _, _, q2, _⟩
    · cases q
    · injection q with _ _ q3; omega
  have eR : ((R : Int) - ((0 : Nat) : Int)) = (R : Int) := by omega
  refine br_f rfl ⟨_, rfl, _, rd1 hv4 (by rfl), by unfold inInt; omega, by omega, by omega, ?_⟩
  rw [eR, Int.toNat_natCast]
  refine ⟨fun vs w' => Chg Non w w' ∧ ∃ (v : Value) (l' : List GRow), vs = [v, .int .i64 l'.length] ∧ l'.length ≤ R ∧ LinesV w' v l' ∧ ∀ g, v.ownBlock = some g → w.heap.size ≤ g, fun vs _ => match vs with | [_, .int _ j] => (1000 - j).toNat | _ => 0, ⟨g04, _, [], rfl, Nat.zero_le _, LinesV.nil _, by intro g hg; cases hg⟩, ?_⟩
  rintro p66 k67 k68 n69 w70 _ ⟨g70, v, l', hj, hle, hL, hob⟩
  simp only [List.cons.injEq, Value.int.injEq, true_and, and_true] at hj
  obtain ⟨rfl, rfl⟩ := hj
  have s70 := g70.size
  refine br_dec (fun hlt => ?_) fun hge => ?_
  · have hi : l'.length < l.length := by omega
    refine ⟨by omega, by omega, _, _, rfl, _, by rw [Nat.zero_add, Int.toNat_natCast]; exact (h.non g70).line hi, ?_⟩
    refine nw ?_
    intro k75 w76 e76 s76 b76 g76
    refine ⟨rfl, one_lit rfl, fw b76 (by (first | exact Nat.le_of_ble_eq_true rfl | (simp; done) | omega)), puts0A b76 (by rfl) ?_⟩
    intro w77 s77 b77 g77
    have gg : Chg Non w70 w77 := g76.trans' g77 (sub_new (by omega) (sub_nil _))
    have hrow := (hr.non (g70.trans gg)).row l[l'.length] (List.getElem_mem _)
    have hlen := hr.len l[l'.length] (List.getElem_mem _)
    refine ⟨_, _, _, rd1 b77 (by rfl), _, rd1 b77 (by rfl), fun v w' => ∃ b cap, v = .slice (some ⟨b, 0, none⟩) l[l'.length].rs.length cap, ?_, ?_, ?_⟩
    · rintro v a b hh _; exact hh
    · refine all_below ?_
      intro w2 s2 g2
      refine Calls.then (c64 w2 _ _ _ (hrow.non g2) (by omega) (by omega)) ?_
      rintro e w3 ⟨b', cap', rfl, q⟩
      exact ⟨_, _, _, rfl, Chg.below (by obtain ⟨_, _, q⟩ := q; exact q), _, _, rfl⟩
    · intro p91 k92 k93
      refine ⟨fun v w' => ∃ k, v = .slice (some ⟨k, 0, none⟩) 1 1 ∧ blk w' k = some (.cells #[.slice p91 k92 k93, .bool l[l'.length].so] 96) ∧ w.heap.size ≤ k, fun v => grows_blk v _ _ _, ?_, ?_⟩
      · rintro w96 ⟨hb96, _⟩
        have g96 : Chg Non w77 w96 := .of_below hb96
        have s96 := g96.size
        have s77' := gg.size
        refine ⟨rfl, nw ?_⟩
        intro k w' e s b g
        exact ⟨g.below, k, rfl, b, by omega⟩
      · rintro p99 k100 k101 w102 ⟨⟨hb102, b2, cap2, hx⟩, kk, hkk, bk, lk⟩
        simp only [Value.slice.injEq] at hx hkk
        obtain ⟨rfl, rfl, rfl⟩ := hx
        obtain ⟨rfl, rfl, rfl⟩ := hkk
        have g102 : Chg Non w w102 := (g70.trans gg).trans (.of_below hb102)
        have s102 := g102.size
        have hL102 := hL.non (gg.trans (.of_below hb102))
        obtain ⟨b', cap', w106, hrun, hl2, hc2, hnew⟩ := app_line w102 _ l' ⟨b2, k93, l[l'.length].rs, l[l'.length].so⟩ kk 1 hL102 bk (by omega)
        obtain ⟨a0, c0, hv0⟩ := hL.slice
        refine ⟨_, _, _, w106, hrun, by unfold inInt; omega, ⟨g102.trans' hc2 fun j hj hf => absurd (hob j hf.symm) (by omega), _, l' ++ [⟨b2, k93, l[l'.length].rs, l[l'.length].so⟩], ?_, by simp; omega, hl2, ?_⟩, by show ((1000 : Int) - ((l'.length : Int) + 1)).toNat < ((1000 : Int) - (l'.length : Int)).toNat; omega⟩
        · simp
        · intro g hg
          simp only [Value.ownBlock, Option.some.injEq] at hg
          subst hg
          rcases hnew with q | q
          · exact hob _ q
          · omega
  · refine Calls.then (c65 w70 hi rg C pv ss (hH.non g70)) ?_
    rintro e w108 ⟨rfl, g108⟩
    have := hH.hn
    exact ⟨_, rfl, by unfold inInt; omega, _, _, _, _, rfl, g70.trans g108⟩

def snapL (v : Value) (C n k row col : Int) (pend : Bool) : List Value := [v, .int .i64 C, .int .i64 n, .int .i64 0, .int .i64 k, .int .i64 row, .int .i64 col, .bool pend, .bool true, .bool false, .bool false, .bool true, .bool false, .bool false, .bool false, .int .i64 0, .int .i64 0, .int .i64 0, .int .u8 0, .int .u8 0, .int .u8 0, .int .u8 0, .int .i64 0, .int .u8 0, .int .u8 0, .int .u8 0, .int .u8 0, .int .u8 0, .string emptyS]

theorem floSt {P : Program} {f : FuncId} {args : Array Value} {w : World} {n0 : ByteArray} (h : ∀ w', w.heap.size ≤ w'.heap.size → Chg Non w w' → Calls P f args w' fun e w2 => e = .returned (.string n0) ∧ Chg Non w' w2) :
    ∀ w', Below w.heap.size w w' → Calls P f args w' fun e w2 => ∃ n, e = .returned (.string n) ∧ Below w'.heap.size w' w2 ∧ Value.string n = Value.string n0 :=
  fun w' hb => Calls.then (h w' hb.size (.of_below hb)) fun e w2 he => ⟨n0, he.1, he.2.below, rfl⟩

theorem c11 (w : World) (t p s vw R C : Nat) (S : SS) (h : TermAt w t p s vw R C S) (hn : (kept S.ss).length ≤ 100) (h3 : 3 ≤ w.heap.size) :
    Calls Tryz.prog 11 #[.pointer (some ⟨t, 0, none⟩)] w fun e w' => ∃ v n, e = .returned (.agg (snapL v C n (kept S.ss).length S.row S.col S.pend).toArray) ∧ Chg Non w w' := by
  have hC := h.scr.hC
  have hR := h.scr.hR
  have hl := h.scr.len
  refine r11 _ _ _ ?_
  unfold V11
  refine nw ?_
  intro k2 w3 e3 s3 b3 g3
  refine Calls.then (c23 w3 t p s vw (g3.get h.term (not_non _))) ?_
  rintro e w5 ⟨rfl, g5⟩
  have h5 := (h.non g3).non g5
  have s5 := g5.size
  refine ⟨_, rfl, br_f rfl ⟨_, rfl, _, rd1 h5.term (by rfl), ?_⟩⟩
  refine Calls.then (c24 w5 s R C S h5.scr hn (by omega)) ?_
  rintro e w12 ⟨hi', rg', pv', ss', rfl, hH, ht, g12⟩
  have h12 := h5.non g12
  have s12 := g12.size
  have hkl : (kept ss').length = (kept S.ss).length := by have := congrArg List.length ht; rwa [txts_length, txts_length] at this
  refine ⟨_, rfl, _, rfl, _, rd1 h12.term (by rfl), _, rfl, _, rd1 h12.term (by rfl), fun v w' => NewLines w' w.heap.size C v (txts S.l), fun v => NewLines.grows _ _ _ _, ?_, ?_⟩
  · refine all_below ?_
    intro w21 s21 g21
    refine Calls.then (c26 w21 s R C S (h12.non g21).scr) ?_
    rintro e w23 ⟨v, rfl, hN, g23⟩
    obtain ⟨a, c, rfl⟩ := hN.slice
    exact ⟨_, _, _, rfl, g23.below, hN.mono (by omega)⟩
  intro p27 k28 k29
  refine ⟨fun v w' => True, fun v w w' _ _ => trivial, ?_, ?_⟩
  · rintro w32 ⟨hb32, hN⟩
    have g32 : Chg Non w12 w32 := .of_below hb32
    have s32 := g32.size
    obtain ⟨l, q1, q2, q3, q4, q5⟩ := hN.ex
    have hll : l.length = R := by have := congrArg List.length q3; rw [txts_length, txts_length] at this; omega
    obtain ⟨g, cap, cur, hv, _⟩ := own_slice q1 (by omega)
    simp only [Value.slice.injEq] at hv
    obtain ⟨rfl, rfl, rfl⟩ := hv
    rw [hll]
    refine Calls.then (c30 w32 vw hi' rg' R C g k29 pv' ss' l ((h12.non g32).view) (hH.non g32) q1 q2 hll hR (by omega) (by omega)) ?_
    rintro e w34 ⟨a, k, c, n, rfl, g34⟩
    exact ⟨_, _, _, _, _, rfl, g34.below, trivial⟩
  · rintro p40 k41 k42 n43 n44 w45 ⟨⟨hb45, _⟩, _⟩
    have g45 : Chg Non w12 w45 := .of_below hb45
    have h45 := h12.non g45
    have hH45 := hH.non g45
    have s45 := g45.size
    have b45 : blk w45 k2 = some (.cells (snapL (.slice none 0 0) 0 0 0 0 0 false |>.set 8 (.bool false) |>.set 11 (.bool false)).toArray 59) := g45.get (g12.get (g5.get b3 (not_non _)) (not_non _)) (not_non _)
    refine ⟨_, rfl, _, rd1 h45.term (by rfl), _, floI fun w' s' g' => c31 w' s R C S (h45.non g').scr, _, rfl, _, rd1 h45.term (by rfl), _, floI fun w' s' g' => c32 w' vw R (h45.non g').view (by omega), _, floI fun w' s' g' => c33 w' hi' rg' C pv' ss' (hH45.non g'), _, rfl, _, rd1 h45.term (by rfl), _, floA fun w' s' g' => c34 w' s R C S (h45.non g').scr, _, rfl, _, rd1 h45.term (by rfl), _, floA fun w' s' g' => c35 w' s R C S (h45.non g').scr, _, rfl, _, rd1 h45.term (by rfl), _, floA fun w' s' g' => c36 w' s R C S (h45.non g').scr, _, rfl, _, rd1 h45.term (by rfl), _, floSt fun w' s' g' => c37 w' s R C S (h45.non g').scr, rfl, rfl, rfl, all_below ?_⟩
    intro w94 s94 g94
    rw [hkl]
    refine ⟨rfl, one_lit rfl, fw (g94.get b45 (not_non _)) (by (first | exact Nat.le_of_ble_eq_true rfl | (simp; done) | omega)), puts0 (vs := snapL (.slice p40 k41 k42) C n43 (kept S.ss).length S.row S.col S.pend) (g94.get b45 (not_non _)) (by rfl) ?_⟩
    intro w95 s95 b95 g95
    refine ⟨_, rdall b95 (by rfl), _, _, rfl, ?_⟩
    exact ((((g3.trans g5).trans g12).trans g45).trans g94).trans' g95 (sub_new (by omega) (sub_nil _))
end Go.Proofs

namespace Go.Proofs
open Go Go.X Go.RowKit
set_option linter.unusedVariables false
set_option linter.unusedSimpArgs false
set_option maxRecDepth 100000

theorem GridAt.next {F : Nat → Prop} {w w' : World} {g rb rcap C : Nat} {l : List GRow} (h : GridAt w g rb rcap C l) (k : Chg F w w') (hF : ∀ j c T f, blk w j = some (.cells c T f) → T ≠ 118 → ¬ F j) : GridAt w' g rb rcap C l :=
  ⟨k.get h.grid (hF _ _ _ _ h.grid (by decide)), h.hd.next k (fun j hj => by obtain ⟨cur, hc⟩ := own_blk h.hd hj; exact hF _ _ _ _ hc (by decide)), h.rows.next k (fun x hx => by obtain ⟨c, hc, _⟩ := (h.rows.row x hx).ex; exact hF _ _ _ _ hc (by decide)), h.nodup⟩

theorem ring_new {w : World} {rg C : Nat} (h : blk w rg = some (.cells (ringA 0 (.slice none 0 0)) 189)) (h3 : 3 ≤ rg) : RingAt w rg C (.slice none 0 0) [] := by
  refine ⟨h, World.ownsRow_nil _ _ _ _, by simp, by simp, List.Pairwise.nil, ?_⟩
  rintro k (rfl | hk | ⟨s, hs, _⟩)
  · exact h3
  · cases hk
  · cases hs

theorem sf_new {s rg n : Nat} (S : SS) (h1 : S.ss = []) (h2 : S.pv = .slice none 0 0) (h3 : S.rg = rg) (h4 : n ≤ S.rb) (h5 : ∀ y ∈ S.l, n ≤ y.b) : ∀ j, SF s S j → j = s ∨ j = rg ∨ n ≤ j := by
  intro j hj
  unfold SF RB OwnB at hj
  rcases hj with e | e | (e | e | ⟨x, hx, _⟩) | ⟨y, hy, e⟩
  · exact .inl e
  · exact .inr (.inr (by omega))
  · exact .inr (.inl (e.trans h3))
  · rw [h2] at e; cases e
  · rw [h1] at hx; cases hx
  · have := h5 y hy; exact .inr (.inr (by omega))

theorem c40 (w : World) (s R C hi rg : Nat) (hs : blk w s = some (.cells (scr0L R C hi).toArray 118)) (hh : blk w hi = some (.cells (hisA rg) 141)) (hr : blk w rg = some (.cells (ringA 0 (.slice none 0 0)) 189)) (hR : 1 ≤ R ∧ R ≤ 1000) (hC : 1 ≤ C ∧ C ≤ 16) (l3 : 3 ≤ s ∧ 3 ≤ rg ∧ 3 ≤ w.heap.size) :
    Calls Tryz.prog 40 #[.pointer (some ⟨s, 0, none⟩)] w fun e w' => ∃ S, e = .returned (.int .i64 0) ∧ Scr w' s R C S ∧ runes S = List.replicate R (List.replicate C 0) ∧ kept S.ss = [] ∧ S.row = 0 ∧ S.col = 0 ∧ S.pend = false ∧ S.pushed = 0 ∧ (∀ j, SF s S j → j = s ∨ j = rg ∨ w.heap.size ≤ j) ∧ Chg (In [s]) w w' := by
  refine r40 _ _ _ ?_
  unfold V40
  refine ⟨_, rfl, _, rd1 hs (by rfl), _, rfl, _, rd1 hs (by rfl), fun v w' => ∃ pr g rb rcap l, v = .tuple #[.pointer (some ⟨pr, 0, none⟩), .int .i64 0] ∧ PairAt w' pr g ∧ GridAt w' g rb rcap C l ∧ GFresh w.heap.size C R g rb l ∧ w.heap.size ≤ pr, ?_, ?_, ?_⟩
  · rintro v a b ⟨pr, g, rb, rcap, l, e, h1, h2, h3, h4⟩ hb
    exact ⟨pr, g, rb, rcap, l, e, h1.non (.of_below hb), h2.non (.of_below hb), h3, h4⟩
  · refine all_below ?_
    intro w9 s9 g9
    refine Calls.then (c68 w9 R C hR (by omega)) ?_
    rintro e w11 ⟨pr, g, rb, rcap, l, rfl, h1, h2, h3, h4, g11⟩
    exact ⟨_, _, rfl, g11.below, pr, g, rb, rcap, l, rfl, h1, h2, ⟨h3.len, fun x hx => by obtain ⟨a, b, c⟩ := h3.rows x hx; exact ⟨a, b, by omega⟩, by have := h3.g; omega, by have := h3.rb; omega⟩, by omega⟩
  rintro p14 n15
  refine ⟨_, rfl, ?_⟩
  rintro w17 ⟨hb17, pr, g, rb, rcap, l, e, hP, hG, hF, hpr⟩
  simp only [Value.tuple.injEq, Array.mk.injEq, List.cons.injEq, Value.pointer.injEq, Value.int.injEq, true_and, and_true] at e
  obtain ⟨rfl, rfl⟩ := e
  have g17 : Chg Non w w17 := .of_below hb17
  have s17 := g17.size
  have b17 := g17.get hs (not_non _)
  have slt := blk_lt hs
  refine ⟨fw b17 (by (first | exact Nat.le_of_ble_eq_true rfl | (simp; done) | omega)), putL (l' := [.int .i64 R, .int .i64 C, .pointer (some ⟨pr, 0, none⟩), .pointer (some ⟨hi, 0, none⟩), .int .i64 0, .int .i64 0, .bool false, .int .i64 0, .int .u8 0, .int .u8 0, .int .u8 0, .int .u8 0, .int .i64 0, .int .u8 0, .int .u8 0, .int .u8 0, .int .u8 0, .int .u8 0, .bool false, .bool false, .bool false, .bool false, .bool false, .bool false, .bool false, .int .i64 0, .int .i64 0, .int .i64 0, .int .i64 0, .pointer none, .int .i64 0, .int .i64 0, .int .i64 0, .int .i64 0, .int .i64 0, .bool false, .int .i64 0, .int .u8 0, .int .u8 0, .int .u8 0, .int .u8 0, .int .i64 0, .int .u8 0, .int .u8 0, .int .u8 0, .int .u8 0, .int .u8 0, .bool false, .int .i64 0, .int .i64 0, .int .i64 0, .int .i64 0, .int .i64 0, .bool false, .int .i64 0, .int .u8 0, .int .u8 0, .int .u8 0, .int .u8 0, .int .i64 0, .int .u8 0, .int .u8 0, .int .u8 0, .int .u8 0, .int .u8 0, .bool false, .int .i64 0, .int .i64 0, .int .i64 0, .string emptyS, .string emptyS, .string emptyS, .int .i64 0]) b17 (by rfl) ?_⟩
  intro w18 s18 b18 g18
  refine br_f rfl ⟨_, rfl, _, rd1 b18 (by rfl), ?_⟩
  refine Calls.then (c69 w18 C hC.1 hC.2) ?_
  rintro e w22 ⟨st, sm, rfl, hSt, hst1, hst2, hst3, g22⟩
  refine ⟨_, _, rfl, _, rfl, fw (g22.get b18 (not_non _)) (by (first | exact Nat.le_of_ble_eq_true rfl | (simp; done) | omega)), putL (l' := [.int .i64 R, .int .i64 C, .pointer (some ⟨pr, 0, none⟩), .pointer (some ⟨hi, 0, none⟩), .int .i64 0, .int .i64 0, .bool false, .int .i64 0, .int .u8 0, .int .u8 0, .int .u8 0, .int .u8 0, .int .i64 0, .int .u8 0, .int .u8 0, .int .u8 0, .int .u8 0, .int .u8 0, .bool false, .bool false, .bool false, .bool false, .bool false, .bool false, .bool false, .int .i64 0, .int .i64 0, .int .i64 0, .int .i64 0, .pointer (some ⟨st, 0, none⟩), .int .i64 0, .int .i64 0, .int .i64 0, .int .i64 0, .int .i64 0, .bool false, .int .i64 0, .int .u8 0, .int .u8 0, .int .u8 0, .int .u8 0, .int .i64 0, .int .u8 0, .int .u8 0, .int .u8 0, .int .u8 0, .int .u8 0, .bool false, .int .i64 0, .int .i64 0, .int .i64 0, .int .i64 0, .int .i64 0, .bool false, .int .i64 0, .int .u8 0, .int .u8 0, .int .u8 0, .int .u8 0, .int .i64 0, .int .u8 0, .int .u8 0, .int .u8 0, .int .u8 0, .int .u8 0, .bool false, .int .i64 0, .int .i64 0, .int .i64 0, .string emptyS, .string emptyS, .string emptyS, .int .i64 0]) (g22.get b18 (not_non _)) (by rfl) ?_⟩
  intro w26 s26 b26 g26
  refine br_f rfl ⟨_, rfl, _, rd1 b26 (by rfl), ?_⟩
  refine Calls.then (c70 R w26 hR.2 hR.1) ?_
  rintro e w30 ⟨rfl, g30⟩
  refine ⟨_, _, rfl, _, rfl, rfl, one_lit rfl, fw (g30.get b26 (not_non _)) (by (first | exact Nat.le_of_ble_eq_true rfl | (simp; done) | omega)), putsL (l' := [.int .i64 R, .int .i64 C, .pointer (some ⟨pr, 0, none⟩), .pointer (some ⟨hi, 0, none⟩), .int .i64 0, .int .i64 0, .bool false, .int .i64 0, .int .u8 0, .int .u8 0, .int .u8 0, .int .u8 0, .int .i64 0, .int .u8 0, .int .u8 0, .int .u8 0, .int .u8 0, .int .u8 0, .bool false, .bool false, .bool false, .bool false, .bool false, .bool false, .bool false, .int .i64 0, .int .i64 0, .int .i64 0, .int .i64 ((R : Int) - 1), .pointer (some ⟨st, 0, none⟩), .int .i64 0, .int .i64 0, .int .i64 0, .int .i64 0, .int .i64 0, .bool false, .int .i64 0, .int .u8 0, .int .u8 0, .int .u8 0, .int .u8 0, .int .i64 0, .int .u8 0, .int .u8 0, .int .u8 0, .int .u8 0, .int .u8 0, .bool false, .int .i64 0, .int .i64 0, .int .i64 0, .int .i64 0, .int .i64 0, .bool false, .int .i64 0, .int .u8 0, .int .u8 0, .int .u8 0, .int .u8 0, .int .i64 0, .int .u8 0, .int .u8 0, .int .u8 0, .int .u8 0, .int .u8 0, .bool false, .int .i64 0, .int .i64 0, .int .i64 0, .string emptyS, .string emptyS, .string emptyS, .int .i64 0]) (g30.get b26 (not_non _)) (by (first | exact Nat.le_of_ble_eq_true rfl | (simp; done) | omega)) (by rfl) ?_⟩
  intro w34 s34 b34 g34
  refine Calls.then (c71 w34) ?_
  rintro e w36 ⟨rfl, g36⟩
  refine ⟨_, rfl, _, rfl, rfl, one_lit rfl, fw (g36.get b34 (not_non _)) (by (first | exact Nat.le_of_ble_eq_true rfl | (simp; done) | omega)), putsL (l' := [.int .i64 R, .int .i64 C, .pointer (some ⟨pr, 0, none⟩), .pointer (some ⟨hi, 0, none⟩), .int .i64 0, .int .i64 0, .bool false, .int .i64 0, .int .u8 0, .int .u8 0, .int .u8 0, .int .u8 0, .int .i64 0, .int .u8 0, .int .u8 0, .int .u8 0, .int .u8 0, .int .u8 0, .bool false, .bool false, .bool false, .bool false, .bool false, .bool false, .bool false, .int .i64 0, .int .i64 0, .int .i64 0, .int .i64 ((R : Int) - 1), .pointer (some ⟨st, 0, none⟩), .int .i64 0, .int .i64 0, .int .i64 0, .int .i64 0, .int .i64 0, .bool false, .int .i64 0, .int .u8 0, .int .u8 0, .int .u8 0, .int .u8 0, .int .i64 0, .int .u8 0, .int .u8 0, .int .u8 0, .int .u8 0, .int .u8 0, .bool false, .int .i64 0, .int .i64 0, .int .i64 0, .int .i64 0, .int .i64 0, .bool false, .int .i64 0, .int .u8 0, .int .u8 0, .int .u8 0, .int .u8 0, .int .i64 0, .int .u8 0, .int .u8 0, .int .u8 0, .int .u8 0, .int .u8 0, .bool false, .int .i64 0, .int .i64 0, .int .i64 0, .string emptyS, .string emptyS, .string emptyS, .int .i64 0]) (g36.get b34 (not_non _)) (by (first | exact Nat.le_of_ble_eq_true rfl | (simp; done) | omega)) (by rfl) ?_⟩
  intro w39 s39 b39 g39
  refine ⟨_, rfl, rfl, one_lit rfl, fw b39 (by (first | exact Nat.le_of_ble_eq_true rfl | (simp; done) | omega)), putsL (l' := [.int .i64 R, .int .i64 C, .pointer (some ⟨pr, 0, none⟩), .pointer (some ⟨hi, 0, none⟩), .int .i64 0, .int .i64 0, .bool false, .int .i64 0, .int .u8 0, .int .u8 0, .int .u8 0, .int .u8 0, .int .i64 0, .int .u8 0, .int .u8 0, .int .u8 0, .int .u8 0, .int .u8 0, .bool false, .bool false, .bool false, .bool false, .bool false, .bool false, .bool false, .int .i64 0, .int .i64 0, .int .i64 0, .int .i64 ((R : Int) - 1), .pointer (some ⟨st, 0, none⟩), .int .i64 0, .int .i64 0, .int .i64 0, .int .i64 0, .int .i64 0, .bool false, .int .i64 0, .int .u8 0, .int .u8 0, .int .u8 0, .int .u8 0, .int .i64 0, .int .u8 0, .int .u8 0, .int .u8 0, .int .u8 0, .int .u8 0, .bool false, .int .i64 0, .int .i64 0, .int .i64 0, .int .i64 0, .int .i64 0, .bool false, .int .i64 0, .int .u8 0, .int .u8 0, .int .u8 0, .int .u8 0, .int .i64 0, .int .u8 0, .int .u8 0, .int .u8 0, .int .u8 0, .int .u8 0, .bool false, .int .i64 0, .int .i64 0, .int .i64 0, .string emptyS, .string emptyS, .string emptyS, .int .i64 0]) b39 (by (first | exact Nat.le_of_ble_eq_true rfl | (simp; done) | omega)) (by rfl) ?_⟩
  intro w41 s41 b41 g41
  refine ⟨_, rfl, rfl, one_lit rfl, fw b41 (by (first | exact Nat.le_of_ble_eq_true rfl | (simp; done) | omega)), putsL (l' := [.int .i64 R, .int .i64 C, .pointer (some ⟨pr, 0, none⟩), .pointer (some ⟨hi, 0, none⟩), .int .i64 0, .int .i64 0, .bool false, .int .i64 0, .int .u8 0, .int .u8 0, .int .u8 0, .int .u8 0, .int .i64 0, .int .u8 0, .int .u8 0, .int .u8 0, .int .u8 0, .int .u8 0, .bool true, .bool false, .bool false, .bool true, .bool false, .bool false, .bool false, .int .i64 0, .int .i64 0, .int .i64 0, .int .i64 ((R : Int) - 1), .pointer (some ⟨st, 0, none⟩), .int .i64 0, .int .i64 0, .int .i64 0, .int .i64 0, .int .i64 0, .bool false, .int .i64 0, .int .u8 0, .int .u8 0, .int .u8 0, .int .u8 0, .int .i64 0, .int .u8 0, .int .u8 0, .int .u8 0, .int .u8 0, .int .u8 0, .bool false, .int .i64 0, .int .i64 0, .int .i64 0, .int .i64 0, .int .i64 0, .bool false, .int .i64 0, .int .u8 0, .int .u8 0, .int .u8 0, .int .u8 0, .int .i64 0, .int .u8 0, .int .u8 0, .int .u8 0, .int .u8 0, .int .u8 0, .bool false, .int .i64 0, .int .i64 0, .int .i64 0, .string emptyS, .string emptyS, .string emptyS, .int .i64 0]) b41 (by (first | exact Nat.le_of_ble_eq_true rfl | (simp; done) | omega)) (by rfl) ?_⟩
  intro w43 s43 b43 g43
  refine ⟨_, rfl, rfl, one_lit rfl, fw b43 (by (first | exact Nat.le_of_ble_eq_true rfl | (simp; done) | omega)), putsL (l' := [.int .i64 R, .int .i64 C, .pointer (some ⟨pr, 0, none⟩), .pointer (some ⟨hi, 0, none⟩), .int .i64 0, .int .i64 0, .bool false, .int .i64 0, .int .u8 0, .int .u8 0, .int .u8 0, .int .u8 0, .int .i64 0, .int .u8 0, .int .u8 0, .int .u8 0, .int .u8 0, .int .u8 0, .bool true, .bool false, .bool false, .bool true, .bool false, .bool false, .bool false, .int .i64 0, .int .i64 0, .int .i64 0, .int .i64 ((R : Int) - 1), .pointer (some ⟨st, 0, none⟩), .int .i64 0, .int .i64 0, .int .i64 0, .int .i64 0, .int .i64 0, .bool false, .int .i64 0, .int .u8 0, .int .u8 0, .int .u8 0, .int .u8 0, .int .i64 0, .int .u8 0, .int .u8 0, .int .u8 0, .int .u8 0, .int .u8 0, .bool false, .int .i64 0, .int .i64 0, .int .i64 0, .int .i64 0, .int .i64 0, .bool false, .int .i64 0, .int .u8 0, .int .u8 0, .int .u8 0, .int .u8 0, .int .i64 0, .int .u8 0, .int .u8 0, .int .u8 0, .int .u8 0, .int .u8 0, .bool false, .int .i64 0, .int .i64 0, .int .i64 0, .string emptyS, .string emptyS, .string emptyS, .int .i64 0]) b43 (by (first | exact Nat.le_of_ble_eq_true rfl | (simp; done) | omega)) (by rfl) ?_⟩
  intro w45 s45 b45 g45
  refine Calls.then (c72 w45) ?_
  rintro e w47 ⟨rfl, g47⟩
  refine ⟨_, rfl, ?_⟩
  refine Calls.then (c72 w47) ?_
  rintro e w50 ⟨rfl, g50⟩
  have b50 := g50.get (g47.get b45 (not_non _)) (not_non _)
  refine ⟨_, rfl, rfl, rfl, _, rfl, rfl, one_lit rfl, fw b50 (by (first | exact Nat.le_of_ble_eq_true rfl | (simp; done) | omega)), putsL (l' := [.int .i64 R, .int .i64 C, .pointer (some ⟨pr, 0, none⟩), .pointer (some ⟨hi, 0, none⟩), .int .i64 0, .int .i64 0, .bool false, .int .i64 0, .int .u8 0, .int .u8 0, .int .u8 0, .int .u8 0, .int .i64 0, .int .u8 0, .int .u8 0, .int .u8 0, .int .u8 0, .int .u8 0, .bool true, .bool false, .bool false, .bool true, .bool false, .bool false, .bool false, .int .i64 0, .int .i64 0, .int .i64 0, .int .i64 ((R : Int) - 1), .pointer (some ⟨st, 0, none⟩), .int .i64 0, .int .i64 0, .int .i64 0, .int .i64 0, .int .i64 0, .bool false, .int .i64 0, .int .u8 0, .int .u8 0, .int .u8 0, .int .u8 0, .int .i64 0, .int .u8 0, .int .u8 0, .int .u8 0, .int .u8 0, .int .u8 0, .bool false, .int .i64 0, .int .i64 0, .int .i64 0, .int .i64 0, .int .i64 0, .bool false, .int .i64 0, .int .u8 0, .int .u8 0, .int .u8 0, .int .u8 0, .int .i64 0, .int .u8 0, .int .u8 0, .int .u8 0, .int .u8 0, .int .u8 0, .bool false, .int .i64 0, .int .i64 0, .int .i64 0, .string emptyS, .string emptyS, .string emptyS, .int .i64 0]) b50 (by (first | exact Nat.le_of_ble_eq_true rfl | (simp; done) | omega)) (by rfl) ?_⟩
  intro w53 s53 b53 g53
  refine ⟨_, rfl, fw b53 (by (first | exact Nat.le_of_ble_eq_true rfl | (simp; done) | omega)), putL (l' := [.int .i64 R, .int .i64 C, .pointer (some ⟨pr, 0, none⟩), .pointer (some ⟨hi, 0, none⟩), .int .i64 0, .int .i64 0, .bool false, .int .i64 0, .int .u8 0, .int .u8 0, .int .u8 0, .int .u8 0, .int .i64 0, .int .u8 0, .int .u8 0, .int .u8 0, .int .u8 0, .int .u8 0, .bool true, .bool false, .bool false, .bool true, .bool false, .bool false, .bool false, .int .i64 0, .int .i64 0, .int .i64 0, .int .i64 ((R : Int) - 1), .pointer (some ⟨st, 0, none⟩), .int .i64 0, .int .i64 0, .int .i64 0, .int .i64 0, .int .i64 0, .bool false, .int .i64 0, .int .u8 0, .int .u8 0, .int .u8 0, .int .u8 0, .int .i64 0, .int .u8 0, .int .u8 0, .int .u8 0, .int .u8 0, .int .u8 0, .bool false, .int .i64 0, .int .i64 0, .int .i64 0, .int .i64 0, .int .i64 0, .bool false, .int .i64 0, .int .u8 0, .int .u8 0, .int .u8 0, .int .u8 0, .int .i64 0, .int .u8 0, .int .u8 0, .int .u8 0, .int .u8 0, .int .u8 0, .bool false, .int .i64 0, .int .i64 0, .int .i64 0, .string emptyS, .string emptyS, .string emptyS, .int .i64 0]) b53 (by rfl) ?_⟩
  intro w55 s55 b55 g55
  have G26 : Chg (In [s]) w26 w55 := (((((((((g30.non.trans g34).trans g36.non).trans g39).trans g41).trans g43).trans g45).trans g47.non).trans g50.non).trans g53).trans g55
  have G22 : Chg (In [s]) w22 w55 := g26.trans G26
  have G17 : Chg (In [s]) w17 w55 := (g18.trans g22.non).trans G22
  have G : Chg (In [s]) w w55 := g17.non.trans G17
  have s22 := g22.size
  have bfin : blk w55 s = some (.cells (scrL R C pr hi 0 0 false st 0).toArray 118) := b55
  have hne : ∀ {j : Nat} {c : Array Value} {T : TypeId} {f : Nat × Nat}, blk w17 j = some (.cells c T f) → T ≠ 118 → ¬ In [s] j := fun hj hT => not_in_cons (blk_ne hj b17 hT) (not_in_nil _)
  have hF' : ∀ y ∈ l, 3 ≤ y.b := fun y hy => by have := (hF.rows y hy).2.2; omega
  obtain ⟨pb, hpb⟩ := hP
  refine ⟨⟨pr, g, rb, rcap, hi, rg, st, sm, .slice none 0 0, [], l, 0, 0, false, 0⟩, rfl, ⟨bfin, ⟨pb, G17.get hpb (hne hpb (by decide))⟩, hG.next G17 (fun j c T f hj hT => hne hj hT), hF.len, G.get hh (not_in_cons (blk_ne hh hs (by decide)) (not_in_nil _)), ring_new (G.get hr (not_in_cons (blk_ne hr hs (by decide)) (not_in_nil _))) l3.2.1, hSt.next G22 (not_in_cons (by omega) (not_in_nil _)) (not_in_cons (by omega) (not_in_nil _)), by simp, ?_, ⟨l3.1, by have := hF.rb; dsimp only; omega, hF'⟩, hR.1, hC.1, (fun h => by cases h), hR, hC, by simp⟩, ?_, rfl, rfl, rfl, rfl, rfl, ?_, G⟩
  · intro x hx; cases hx
  · unfold runes
    show [] ++ l.map (·.rs) = _
    rw [List.nil_append, List.eq_replicate_iff]
    refine ⟨by rw [List.length_map]; exact hF.len, fun b hb => ?_⟩
    obtain ⟨x, hx, rfl⟩ := List.mem_map.1 hb
    exact (hF.rows x hx).1
  · exact sf_new _ rfl rfl rfl hF.rb fun y hy => (hF.rows y hy).2.2

theorem c38 (w : World) (R C : Nat) (hR : 1 ≤ R ∧ R ≤ 1000) (hC : 1 ≤ C ∧ C ≤ 16) : Calls Tryz.prog 38 #[.agg #[.int .i64 R, .int .i64 C, .int .i64 100]] w fun e w' => e = .returned (.bool true) ∧ Chg Non w w' := by
  refine r38 _ _ _ ?_
  unfold V38
  refine nw ?_
  intro k2 w3 e3 s3 b3 g3
  refine ⟨_, rd1 b3 (by rfl), br_t (by simp; omega) ⟨_, rd1 b3 (by rfl), br_t (by simp; omega) ⟨_, rd1 b3 (by rfl), br_t (by simp; omega) ⟨_, rd1 b3 (by rfl), br_t (by simp; omega) ⟨_, rd1 b3 (by rfl), br_t rfl ⟨_, rd1 b3 (by rfl), rfl, g3⟩⟩⟩⟩⟩⟩

theorem c14 (w : World) (R C : Nat) (hR : 1 ≤ R ∧ R ≤ 1000) (hC : 1 ≤ C ∧ C ≤ 16) (h3 : 3 ≤ w.heap.size) :
    Calls Tryz.prog 14 #[.agg #[.int .i64 R, .int .i64 C, .int .i64 100]] w fun e w' => ∃ s S, e = .returned (.tuple #[.pointer (some ⟨s, 0, none⟩), .int .i64 0]) ∧ Scr w' s R C S ∧ runes S = List.replicate R (List.replicate C 0) ∧ kept S.ss = [] ∧ S.row = 0 ∧ S.col = 0 ∧ S.pend = false ∧ S.pushed = 0 ∧ (∀ j, SF s S j → w.heap.size ≤ j) ∧ Chg Non w w' := by
  refine r14 _ _ _ ?_
  unfold V14
  refine nw ?_
  intro k2 w3 e3 s3 b3 g3
  refine ⟨_, rdall b3 (by rfl), ?_⟩
  refine Calls.then (c38 w3 R C hR hC) ?_
  rintro e w6 ⟨rfl, g6⟩
  have b6 := g6.get b3 (not_non _)
  have s6 := g6.size
  refine ⟨_, rfl, br_f rfl ⟨_, rd1 b6 (by rfl), ?_⟩⟩
  refine Calls.then (c39 w6) ?_
  rintro e w10 ⟨hi, rg, rfl, hh, hr, l1, l2, g10⟩
  have b10 := g10.get b6 (not_non _)
  have s10 := g10.size
  refine ⟨_, _, rfl, br_f rfl ⟨_, rd1 b10 (by rfl), _, rd1 b10 (by rfl), nw ?_⟩⟩
  intro k15 w16 e16 s16 b16 g16
  refine Calls.then (c40 w16 k15 R C hi rg b16 (g16.get hh (not_non _)) (g16.get hr (not_non _)) hR hC ⟨by omega, by omega, by omega⟩) ?_
  rintro e w18 ⟨S, rfl, hS, q1, q2, q3, q4, q5, q6, q7, g18⟩
  exact ⟨_, rfl, k15, S, rfl, hS, q1, q2, q3, q4, q5, q6, fun j hj => by (rcases q7 j hj with rfl | rfl | q <;> omega), (((g3.trans g6).trans g10).trans g16).trans' g18 (sub_new (by omega) (sub_nil _))⟩

theorem c15 (w : World) (R : Nat) (hR : 1 ≤ R ∧ R ≤ 1000) : Calls Tryz.prog 15 #[.int .i64 R] w fun e w' => ∃ k, e = .returned (.tuple #[.pointer (some ⟨k, 0, none⟩), .int .i64 0]) ∧ blk w' k = some (.cells #[.int .i64 R, .int .i64 0] 121) ∧ k = w.heap.size ∧ Chg Non w w' := by
  refine r15 _ _ _ ?_
  unfold V15
  intro X hX
  refine br_f (by simp; omega) (br_f (by simp; omega) (hX _ _ _ fun _ => nw ?_))
  intro k w1 e1 s1 b1 g1
  exact ⟨k, rfl, b1, e1, g1⟩

theorem c13 (w : World) (n lo hi : Int) : Calls Tryz.prog 13 #[.int .i64 n, .int .i64 lo, .int .i64 hi] w fun e w' => e = .returned (.int .i64 (max lo (min n hi))) ∧ Chg Non w w' := by
  refine r13 _ _ _ _ _ ?_
  unfold V13
  exact ⟨rfl, Chg.refl _ _⟩

theorem c4 (w : World) (R C : Nat) (hR : 1 ≤ R ∧ R ≤ 1000) (hC : 1 ≤ C ∧ C ≤ 16) (h3 : 3 ≤ w.heap.size) :
    Calls Tryz.prog 4 #[.agg #[.int .i64 R, .int .i64 C, .int .i64 100]] w fun e w' => ∃ t p s vw S, e = .returned (.pointer (some ⟨t, 0, none⟩)) ∧ TermAt w' t p s vw R C S ∧ runes S = List.replicate R (List.replicate C 0) ∧ kept S.ss = [] ∧ S.row = 0 ∧ S.col = 0 ∧ S.pend = false ∧ w.heap.size ≤ t ∧ w.heap.size ≤ p ∧ w.heap.size ≤ vw ∧ (∀ j, SF s S j → w.heap.size ≤ j) ∧ Chg Non w w' := by
  refine r4 _ _ _ ?_
  unfold V4
  refine nw ?_
  intro k2 w3 e3 s3 b3 g3
  have m1 : max 1 (min (R : Int) 1000) = R := by omega
  have m2 : max 1 (min (C : Int) 1000) = C := by omega
  refine ⟨_, rd1 b3 (by rfl), (R : Int), floI fun w' s' g' => by have := c13 w' R 1 1000; rwa [m1] at this, _, rd1 b3 (by rfl), (C : Int), floI fun w' s' g' => by have := c13 w' C 1 1000; rwa [m2] at this, _, rd1 b3 (by rfl), 100, floI fun w' s' g' => c13 w' 100 0 1048576, all_below ?_⟩
  intro w23 s23 g23
  have b23 := g23.get b3 (not_non _)
  refine ⟨rfl, one_lit rfl, fw b23 (by (first | exact Nat.le_of_ble_eq_true rfl | (simp; done) | omega)), puts0 b23 (by rfl) ?_⟩
  intro w24 s24 b24 g24
  refine ⟨_, rdall b24 (by rfl), ?_⟩
  have gg : Chg Non w w24 := (g3.trans g23).trans' g24 (sub_new (by omega) (sub_nil _))
  have ss24 := gg.size
  refine Calls.then (c14 w24 R C hR hC (by omega)) ?_
  rintro e w27 ⟨s, S, rfl, hS, q1, q2, q3, q4, q5, q6, q7, g27⟩
  have b27 := g27.get b24 (not_non _)
  have s27 := g27.size
  refine ⟨_, _, rfl, _, rd1 b27 (by rfl), ?_⟩
  refine Calls.then (c15 w27 R hR) ?_
  rintro e w32 ⟨vw, rfl, bv, ev, g32⟩
  have s32 := g32.size
  refine ⟨_, _, rfl, ?_⟩
  intro X hX
  refine br_f rfl (br_f rfl (hX _ _ fun _ => nw ?_))
  intro k39 w40 e40 s40 b40 g40
  refine nw ?_
  intro k41 w42 e42 s42 b42 g42
  refine ⟨k41, k39, s, vw, S, rfl, ⟨b42, ?_, ((hS.non g32).non g40).non g42, g42.get (g40.get bv (not_non _)) (not_non _), by omega, q6⟩, q1, q2, q3, q4, q5, by omega, by omega, by omega, fun j hj => by (have := q7 j hj; omega), (((gg.trans g27).trans g32).trans g40).trans g42⟩
  exact ⟨_, _, g42.get b40 (not_non _)⟩
end Go.Proofs

namespace Go.Proofs
open Go Go.X Go.RowKit
set_option linter.unusedVariables false
set_option linter.unusedSimpArgs false
set_option maxRecDepth 100000

theorem elByt : Elem 28 22 1 24 := elem_of (by kernel_rfl) (by kernel_rfl) (by decide)

structure MRow where
  b : Nat
  bs : List Int
def mhdr (C : Nat) (x : MRow) : Value := .slice (some ⟨x.b, 0, none⟩) C C
def mcel (bs : List Int) : List Value := bs.map (.int .u8)
structure MAt (w : World) (n₀ k R C : Nat) (v : Value) (L : List MRow) (row col : Nat) (pend : Bool) : Prop where
  blk : blk w k = some (.cells #[v, .int .i64 R, .int .i64 C, .int .i64 row, .int .i64 col, .bool pend] 32)
  own : w.ownsRow 0 22 1 v L.length (L.map (mhdr C))
  rows : ∀ x ∈ L, Go.X.blk w x.b = some (.cells (mcel x.bs).toArray 5)
  len : ∀ x ∈ L, x.bs.length = C
  nodup : (L.map (·.b)).Nodup
  lo : n₀ ≤ k ∧ (∀ g, v.ownBlock = some g → n₀ ≤ g) ∧ ∀ x ∈ L, n₀ ≤ x.b
  hrow : row < R
  hcol : col < C
  hlen : R ≤ L.length ∧ L.length ≤ 1000
  hR : R ≤ 1000
  hC : C ≤ 1000

/-- A block that the sheet may be made of. -/
def MC (n₀ : Nat) (w : World) (j : Nat) : Prop := n₀ ≤ j ∧ ∃ c T f, blk w j = some (.cells c T f) ∧ (T = 32 ∨ T = 22 ∨ T = 5)
theorem mc_not {n₀ : Nat} {w : World} {j : Nat} {c : Array Value} {T : TypeId} {f : Nat × Nat} (h : blk w j = some (.cells c T f)) (h1 : T ≠ 32) (h2 : T ≠ 22) (h3 : T ≠ 5) : ¬ MC n₀ w j := by
  rintro ⟨_, c', T', f', h', q⟩
  rw [h] at h'
  simp only [Option.some.injEq, Obj.cells.injEq] at h'
  obtain ⟨_, rfl, _⟩ := h'
  rcases q with q | q | q
  · exact h1 q
  · exact h2 q
  · exact h3 q
theorem mc_trans {n₀ : Nat} {a b c : World} (h : Chg (MC n₀ a) a b) (k : Chg (MC n₀ b) b c) : Chg (MC n₀ a) a c := by
  refine h.trans' k fun j hj hm => ?_
  rcases Classical.em (MC n₀ a j) with q | q
  · exact q
  · have e := h.block j hj q
    obtain ⟨h1, c, T, f, h2, h3⟩ := hm
    exact ⟨h1, c, T, f, e.symm.trans h2, h3⟩
theorem mc_non {n₀ : Nat} {a b : World} (h : Chg Non a b) : Chg (MC n₀ a) a b := h.mono fun _ _ h => h.elim

theorem MAt.next {F : Nat → Prop} {w w' : World} {n₀ k R C : Nat} {v : Value} {L : List MRow} {row col : Nat} {pend : Bool} (h : MAt w n₀ k R C v L row col pend) (g : Chg F w w') (hF : ∀ j c T f, Go.X.blk w j = some (.cells c T f) → (T = 32 ∨ T = 22 ∨ T = 5) → ¬ F j) : MAt w' n₀ k R C v L row col pend :=
  { h with blk := g.get h.blk (hF _ _ _ _ h.blk (.inl rfl)), own := own_next h.own g fun j hj => by (obtain ⟨cur, hc⟩ := own_blk h.own hj; exact hF _ _ _ _ hc (.inr (.inl rfl))), rows := fun x hx => g.get (h.rows x hx) (hF _ _ _ _ (h.rows x hx) (.inr (.inr rfl))) }
theorem MAt.non {w w' : World} {n₀ k R C : Nat} {v : Value} {L : List MRow} {row col : Nat} {pend : Bool} (h : MAt w n₀ k R C v L row col pend) (g : Chg Non w w') : MAt w' n₀ k R C v L row col pend := h.next g fun _ _ _ _ _ _ => not_non _
theorem MAt.slice {w : World} {n₀ k R C : Nat} {v : Value} {L : List MRow} {row col : Nat} {pend : Bool} (h : MAt w n₀ k R C v L row col pend) : ∃ g cap cur, v = .slice (some ⟨g, 0, none⟩) L.length cap ∧ Go.X.blk w g = some (.cells cur 22) ∧ cur.toList.take L.length = L.map (mhdr C) := by
  obtain ⟨g, cap, cur, h1, h2, _, _, _, h3⟩ := own_slice h.own (by have := h.hlen; have := h.hrow; omega)
  exact ⟨g, cap, cur, h1, h2, by rwa [Nat.mul_one] at h3⟩

/-- A store into the sheet's own block. -/
theorem MAt.own1 {w w' : World} {n₀ k R C : Nat} {v : Value} {L : List MRow} {row col : Nat} {pend : Bool} (h : MAt w n₀ k R C v L row col pend) (row' col' : Nat) (pend' : Bool) (b : Go.X.blk w' k = some (.cells #[v, .int .i64 R, .int .i64 C, .int .i64 row', .int .i64 col', .bool pend'] 32)) (g : Chg (In [k]) w w') (hr : row' < R) (hc : col' < C) :
    MAt w' n₀ k R C v L row' col' pend' ∧ Chg (MC n₀ w) w w' := by
  have hne : ∀ {j : Nat} {c : Array Value} {T : TypeId} {f : Nat × Nat}, Go.X.blk w j = some (.cells c T f) → T ≠ 32 → ¬ In [k] j := fun hj hT => not_in_cons (blk_ne hj h.blk hT) (not_in_nil _)
  refine ⟨{ h with blk := b, own := own_next h.own g fun j hj => by (obtain ⟨cur, hc⟩ := own_blk h.own hj; exact hne hc (by decide)), rows := fun x hx => g.get (h.rows x hx) (hne (h.rows x hx) (by decide)), hrow := hr, hcol := hc }, g.mono fun j _ hj => ?_⟩
  unfold In at hj; rw [List.mem_singleton] at hj; subst hj
  exact ⟨h.lo.1, _, _, _, h.blk, .inl rfl⟩

structure MS where
  rows : List (List Int)
  row : Nat
  col : Nat
  pend : Bool
def mdown (R C : Nat) (m : MS) : MS := if m.row + 1 = R then { m with rows := m.rows ++ [List.replicate C 0], pend := false } else { m with row := m.row + 1, pend := false }
def mwrap (R C : Nat) (m : MS) : MS := if m.pend then { mdown R C m with col := 0 } else m
def mput (R C : Nat) (b : Int) (m : MS) : MS :=
  { rows := (mwrap R C m).rows.modify ((mwrap R C m).rows.length - R + (mwrap R C m).row) (·.set (mwrap R C m).col b), row := (mwrap R C m).row, col := if (mwrap R C m).col + 1 = C then (mwrap R C m).col else (mwrap R C m).col + 1, pend := decide ((mwrap R C m).col + 1 = C) }
def mpress (R C : Nat) (k r : Int) (m : MS) : MS :=
  if k = 1 then mput R C r m else if k = 6 then { m with row := m.row - 1, pend := false } else if k = 7 then { m with row := min (R - 1) (m.row + 1), pend := false } else if k = 8 then { m with col := min (C - 1) (m.col + 1), pend := false } else
  if k = 9 ∨ k = 4 then { m with col := m.col - 1, pend := false } else if k = 10 then { m with row := 0, col := 0, pend := false } else if k = 3 then { m with col := tabTo C m.col, pend := false } else { mdown R C { m with pend := false } with col := 0 }

/-- The sheet in memory that is m. -/
def MIs (w : World) (n₀ k R C : Nat) (m : MS) : Prop := ∃ v L, MAt w n₀ k R C v L m.row m.col m.pend ∧ L.map (·.bs) = m.rows

theorem zero_bytes (n : Nat) : zeroRow #[Value.int .u8 0] n = (mcel (List.replicate n 0)).toArray := by
  unfold zeroRow mcel
  apply Array.ext
  · simp
  · intro i h1 h2
    simp [Nat.mod_one]

theorem c22 (w : World) (n₀ k R C : Nat) (m : MS) (h : MIs w n₀ k R C m) (hl : m.rows.length < 1000) (hn : n₀ ≤ w.heap.size) :
    Calls Tryz.prog 22 #[.pointer (some ⟨k, 0, none⟩)] w fun e w' => e = .returned (.tuple #[]) ∧ MIs w' n₀ k R C (mdown R C m) ∧ Chg (MC n₀ w) w w' := by
  obtain ⟨v, L, hM, hL⟩ := h
  have hrow := hM.hrow
  have hcol := hM.hcol
  have hR := hM.hR
  have hC := hM.hC
  have hLl : L.length = m.rows.length := by rw [← hL, List.length_map]
  refine r22 _ _ _ ?_
  unfold V22
  intro X hX
  refine ⟨_, rfl, _, rd1 hM.blk (by rfl), _, rfl, _, rd1 hM.blk (by rfl), by unfold inInt; omega, all_below ?_⟩
  intro w12 s12 g12
  have hM12 := hM.non g12
  by_cases hlast : m.row + 1 = R
  · refine br_t (by rw [beq_iff_eq]; omega) ?_
    obtain ⟨g, cap, cur, hv, hg, htk⟩ := hM12.slice
    have hb12 := hM12.blk
    rw [hv] at hb12
    refine ⟨_, rfl, _, _, _, rd1 hb12 (by rfl), _, rfl, _, rd1 hb12 (by rfl), fun u w' => ∃ q, u = .slice (some ⟨q, 0, none⟩) C C ∧ blk w' q = some (.cells (mcel (List.replicate C 0)).toArray 5) ∧ w12.heap.size ≤ q, ?_, ?_, ?_⟩
    · rintro u a b ⟨q, e, h1, h2⟩ hb
      exact ⟨q, e, (Chg.of_below hb).get h1 (not_non _), h2⟩
    · refine all_below ?_
      intro w22 s22 g22
      refine ⟨by omega, by omega, by omega, by omega, nw ?_⟩
      intro q w' e s b g
      refine ⟨g.below, q, by rw [Int.toNat_natCast], ?_, by omega⟩
      rw [b, Int.toNat_natCast, Nat.mul_one, zero_bytes]
    intro p25 k26 k27
    refine ⟨fun u w' => ∃ q, u = .slice (some ⟨q, 0, none⟩) 1 1 ∧ blk w' q = some (.cells #[.slice p25 k26 k27] 22) ∧ w12.heap.size ≤ q, fun u => grows_blk u _ _ _, ?_, ?_⟩
    · rintro w30 ⟨hb30, _⟩
      have := hb30.size
      refine nw ?_
      intro q w' e s b g
      exact ⟨g.below, q, rfl, b, by omega⟩
    · rintro p33 k34 k35 w36 ⟨⟨hb36, q, hq, bq, lq⟩, qq, hqq, bqq, lqq⟩
      simp only [Value.slice.injEq] at hq hqq
      obtain ⟨rfl, rfl, rfl⟩ := hq
      obtain ⟨rfl, rfl, rfl⟩ := hqq
      have g36 : Chg Non w12 w36 := .of_below hb36
      have hM36 := hM12.non g36
      have s36 := g36.size
      obtain ⟨hu, i0, z, hi0, hz, hsz, hzs, hby, hpos⟩ := elByt
      obtain ⟨v', w40, hrun, ho, hc, hnil, hblk⟩ := app_own (P := Tryz.prog) w36 28 28 22 i0 z 1 hu hi0 hz hsz hzs hpos v L.length (L.map (mhdr k27)) hM36.own ⟨qq, 0, none⟩ 1 1 [.slice (some ⟨q, 0, none⟩) k27 k27] rfl (cells_of bqq (by rfl))
        (by intro u hu; rw [List.mem_singleton] at hu; subst hu; rfl) (by unfold maxLen; omega) (by rw [hby]; omega)
      obtain ⟨a', c', rfl, _⟩ := own_shape ho
      have nv : ∀ {j : Nat} {c : Array Value} {T : TypeId} {f : Nat × Nat}, blk w36 j = some (.cells c T f) → T ≠ 22 → ¬ OwnB v j := fun hj hT => own_ne hM36.own hj hT
      have b40 := hc.get hM36.blk (nv hM36.blk (by decide))
      refine ⟨a', L.length + 1, c', w40, by rw [← hv]; exact hrun, _, rfl, fw b40 (by (first | exact Nat.le_of_ble_eq_true rfl | (simp; done) | omega)), putL (l' := [.slice a' (L.length + 1) c', .int .i64 R, .int .i64 k27, .int .i64 m.row, .int .i64 m.col, .bool m.pend]) b40 (by rfl) ?_⟩
      intro w42 s42 b42 g42
      refine hX _ fun _ => ⟨_, rfl, fw b42 (by (first | exact Nat.le_of_ble_eq_true rfl | (simp; done) | omega)), putL (l' := [.slice a' (L.length + 1) c', .int .i64 R, .int .i64 k27, .int .i64 m.row, .int .i64 m.col, .bool false]) b42 (by rfl) ?_⟩
      intro w6 s6 b6 g6
      have gk : Chg (In [k]) w40 w6 := g42.trans g6
      have nk : ∀ {j : Nat} {c : Array Value} {T : TypeId} {f : Nat × Nat}, blk w40 j = some (.cells c T f) → T ≠ 32 → ¬ In [k] j := fun hj hT => not_in_cons (blk_ne hj b40 hT) (not_in_nil _)
      have bq6 : blk w6 q = some (.cells (mcel (List.replicate k27 0)).toArray 5) := gk.get (hc.get bq (nv bq (by decide))) (nk (hc.get bq (nv bq (by decide))) (by decide))
      have hqn : ∀ x ∈ L, x.b ≠ q := fun x hx e => by have := blk_lt (hM12.rows x hx); omega
      have hmd : mdown R k27 m = { m with rows := m.rows ++ [List.replicate k27 0], pend := false } := by unfold mdown; rw [if_pos hlast]
      have gF : Chg (fun j => OwnB v j ∨ j = k) w w6 := ((g12.trans g36).mono fun j _ hj => hj.elim).trans' (hc.mono fun j _ hj => .inl hj) (fun j _ hj => hj) |>.trans' gk fun j _ hj => .inr (by unfold In at hj; rwa [List.mem_singleton] at hj)
      rw [hmd]
      refine ⟨rfl, ⟨_, L ++ [⟨q, List.replicate k27 0⟩], ⟨b6, ?_, ?_, ?_, ?_, ⟨hM.lo.1, ?_, ?_⟩, hrow, hcol, ⟨by rw [List.length_append]; have := hM.hlen; omega, by rw [List.length_append, List.length_singleton]; omega⟩, hR, hC⟩, by rw [List.map_append, hL]; rfl⟩, gF.mono fun j hj hf => ?_⟩
      · rw [List.length_append, List.map_append]
        refine own_next ho gk fun j hj => ?_
        obtain ⟨cur, hcur⟩ := own_blk ho hj
        exact nk hcur (by decide)
      · intro x hx
        rcases List.mem_append.1 hx with hx | hx
        · have h1 := hM36.rows x hx
          have h2 := hc.get h1 (nv h1 (by decide))
          exact gk.get h2 (nk h2 (by decide))
        · rw [List.mem_singleton] at hx; subst hx; exact bq6
      · intro x hx
        rcases List.mem_append.1 hx with hx | hx
        · exact hM.len x hx
        · rw [List.mem_singleton] at hx; subst hx; simp
      · rw [List.map_append, List.nodup_append]
        refine ⟨hM.nodup, by simp, fun x hx y hy => ?_⟩
        obtain ⟨z, hz, rfl⟩ := List.mem_map.1 hx
        simp at hy; subst hy
        exact hqn z hz
      · intro j hj
        rcases hblk j hj with e | e
        · exact hM.lo.2.1 j e
        · have := g12.size; omega
      · intro x hx
        rcases List.mem_append.1 hx with hx | hx
        · exact hM.lo.2.2 x hx
        · rw [List.mem_singleton] at hx; subst hx
          have := g12.size; show n₀ ≤ q; omega
      · rcases hf with hf | rfl
        · obtain ⟨cur, hcur⟩ := own_blk hM.own hf.symm
          exact ⟨hM.lo.2.1 j hf.symm, _, _, _, hcur, .inr (.inl rfl)⟩
        · exact ⟨hM.lo.1, _, _, _, hM.blk, .inl rfl⟩
  · have hmd : mdown R C m = { m with row := m.row + 1, pend := false } := by unfold mdown; rw [if_neg hlast]
    refine br_f (by rw [beq_eq_false_iff_ne]; omega) ⟨_, rfl, _, rd1 hM12.blk (by rfl), by unfold inInt; omega, _, rfl, fw hM12.blk (by (first | exact Nat.le_of_ble_eq_true rfl | (simp; done) | omega)), putL (l' := [v, .int .i64 R, .int .i64 C, .int .i64 ((m.row + 1 : Nat) : Int), .int .i64 m.col, .bool m.pend]) hM12.blk (by rfl) ?_⟩
    intro w46 s46 b46 g46
    obtain ⟨h46, gm⟩ := hM12.own1 (m.row + 1) m.col m.pend b46 g46 (by omega) hcol
    refine hX _ fun _ => ⟨_, rfl, fw b46 (by (first | exact Nat.le_of_ble_eq_true rfl | (simp; done) | omega)), putL (l' := [v, .int .i64 R, .int .i64 C, .int .i64 ((m.row + 1 : Nat) : Int), .int .i64 m.col, .bool false]) b46 (by rfl) ?_⟩
    intro w6 s6 b6 g6
    obtain ⟨h6, gm6⟩ := h46.own1 (m.row + 1) m.col false b6 g6 (by omega) hcol
    rw [hmd]
    exact ⟨rfl, ⟨v, L, h6, hL⟩, mc_trans (mc_trans (mc_non g12) gm) gm6⟩
end Go.Proofs

namespace Go.Proofs
open Go Go.X Go.RowKit
set_option linter.unusedVariables false
set_option linter.unusedSimpArgs false
set_option maxRecDepth 100000

theorem mdown_len (R C : Nat) (m : MS) : (mdown R C m).rows.length ≤ m.rows.length + 1 := by
  unfold mdown; split <;> simp
theorem mwrap_len (R C : Nat) (m : MS) : (mwrap R C m).rows.length ≤ m.rows.length + 1 := by
  unfold mwrap; split
  · exact mdown_len R C m
  · omega
theorem MIs.non {w w' : World} {n₀ k R C : Nat} {m : MS} (h : MIs w n₀ k R C m) (g : Chg Non w w') : MIs w' n₀ k R C m := by
  obtain ⟨v, L, hM, hL⟩ := h; exact ⟨v, L, hM.non g, hL⟩
/-- A store into the sheet's own block. -/
theorem MIs.own1 {w w' : World} {n₀ k R C : Nat} {m : MS} (h : MIs w n₀ k R C m) (row' col' : Nat) (pend' : Bool) (hb : ∀ v, blk w k = some (.cells #[v, .int .i64 R, .int .i64 C, .int .i64 m.row, .int .i64 m.col, .bool m.pend] 32) → blk w' k = some (.cells #[v, .int .i64 R, .int .i64 C, .int .i64 row', .int .i64 col', .bool pend'] 32)) (g : Chg (In [k]) w w') (hr : row' < R) (hc : col' < C) :
    MIs w' n₀ k R C { m with row := row', col := col', pend := pend' } ∧ Chg (MC n₀ w) w w' := by
  obtain ⟨v, L, hM, hL⟩ := h
  obtain ⟨h1, h2⟩ := hM.own1 row' col' pend' (hb v hM.blk) g hr hc
  exact ⟨⟨v, L, h1, hL⟩, h2⟩

theorem put_row (w : World) (n₀ k R C : Nat) (m : MS) (b : Int) (h : MIs w n₀ k R C m) (hp : m.pend = false) (hn : n₀ ≤ w.heap.size) (T : World → Prop)
    (hT : ∀ w', MIs w' n₀ k R C { rows := m.rows.modify (m.rows.length - R + m.row) (·.set m.col b), row := m.row, col := if m.col + 1 = C then m.col else m.col + 1, pend := decide (m.col + 1 = C) } → Chg (MC n₀ w) w w' → T w') :
    ∃ (v : Value) (L : List MRow) (g cap : Nat), v = .slice (some ⟨g, 0, none⟩) L.length cap ∧ blk w k = some (.cells #[v, .int .i64 R, .int .i64 C, .int .i64 m.row, .int .i64 m.col, .bool m.pend] 32) ∧ L.length = m.rows.length ∧ R ≤ L.length ∧ m.row < R ∧ m.col < C ∧ C ≤ 1000 ∧ L.length ≤ 1000 ∧
      ∃ q, w.cell? ⟨g, L.length - R + m.row, none⟩ = some (.slice (some ⟨q, 0, none⟩) C C) ∧ ∃ bs : List Int, blk w q = some (.cells (mcel bs).toArray 5) ∧ bs.length = C ∧
        ∀ w1, Chg Non w w1 → ∀ w2, blk w2 q = some (.cells ((mcel bs).set m.col (.int .u8 b)).toArray 5) → Chg (In [q]) w1 w2 → blk w2 k = some (.cells #[v, .int .i64 R, .int .i64 C, .int .i64 m.row, .int .i64 m.col, .bool m.pend] 32) ∧
          ∀ w3, Chg Non w2 w3 → ∀ w4, blk w4 k = some (.cells #[v, .int .i64 R, .int .i64 C, .int .i64 m.row, .int .i64 ((if m.col + 1 = C then m.col else m.col + 1 : Nat) : Int), .bool (decide (m.col + 1 = C))] 32) → Chg (In [k]) w3 w4 → T w4 := by
  obtain ⟨v, L, hM, hL⟩ := h
  obtain ⟨g, cap, cur, hv, hg, htk⟩ := hM.slice
  have hLl : L.length = m.rows.length := by rw [← hL, List.length_map]
  have hrow := hM.hrow
  have hcol := hM.hcol
  have hlen := hM.hlen
  have hi : L.length - R + m.row < L.length := by omega
  have hmem := List.getElem_mem (l := L) hi
  have hrw := hM.rows _ hmem
  have hbl := hM.len _ hmem
  refine ⟨v, L, g, cap, hv, hM.blk, hLl, hlen.1, hrow, hcol, hM.hC, hlen.2, L[L.length - R + m.row].b, ?_, L[L.length - R + m.row].bs, hrw, hbl, ?_⟩
  · refine rd1 hg ?_
    have h1 : (cur.toList.take L.length)[L.length - R + m.row]? = some (mhdr C L[L.length - R + m.row]) := by rw [htk]; simp [hi]
    rw [List.getElem?_take_of_lt hi] at h1
    simpa [mhdr] using h1
  intro w1 g1 w2 b2 g2
  have hM1 := hM.non g1
  have nq : ∀ {j : Nat} {c : Array Value} {T : TypeId} {f : Nat × Nat}, blk w1 j = some (.cells c T f) → T ≠ 5 → ¬ In [L[L.length - R + m.row].b] j := fun hj hT => not_in_cons (blk_ne hj (hM1.rows _ hmem) hT) (not_in_nil _)
  have k2 := g2.get hM1.blk (nq hM1.blk (by decide))
  refine ⟨k2, ?_⟩
  intro w3 g3 w4 b4 g4
  have hM2 : MAt w2 n₀ k R C v (L.modify (L.length - R + m.row) fun x => ⟨x.b, x.bs.set m.col b⟩) m.row m.col m.pend := by
    have hbm : (L.modify (L.length - R + m.row) fun x => (⟨x.b, x.bs.set m.col b⟩ : MRow)).map (·.b) = L.map (·.b) := by
      apply List.ext_getElem?
      intro i
      rw [List.getElem?_map, List.getElem?_modify, List.getElem?_map]
      by_cases e : L.length - R + m.row = i
      · simp only [e, if_true]
        cases L[i]? <;> rfl
      · simp only [e, if_false]
        cases L[i]? <;> rfl
    have hhm : (L.modify (L.length - R + m.row) fun x => (⟨x.b, x.bs.set m.col b⟩ : MRow)).map (mhdr C) = L.map (mhdr C) := by
      have : ∀ (l : List MRow), l.map (mhdr C) = (l.map (·.b)).map fun b => Value.slice (some ⟨b, 0, none⟩) C C := fun l => by rw [List.map_map]; rfl
      rw [this, hbm, ← this]
    have hmm : ∀ x ∈ (L.modify (L.length - R + m.row) fun x => (⟨x.b, x.bs.set m.col b⟩ : MRow)), (x = ⟨L[L.length - R + m.row].b, L[L.length - R + m.row].bs.set m.col b⟩) ∨ (x ∈ L ∧ x.b ≠ L[L.length - R + m.row].b) := by
      intro x hx
      obtain ⟨i, hix⟩ := List.mem_iff_getElem?.1 hx
      rw [List.getElem?_modify] at hix
      by_cases e : L.length - R + m.row = i
      · subst e
        rw [List.getElem?_eq_getElem hi] at hix
        simp only [if_true, Option.map_eq_map, Option.map_some, Option.some.injEq] at hix
        exact .inl hix.symm
      · simp only [e, if_false] at hix
        have hix' : L[i]? = some x := by cases hq : L[i]? with
          | none => rw [hq] at hix; cases hix
          | some y => rw [hq] at hix; exact hix
        refine .inr ⟨List.mem_iff_getElem?.2 ⟨i, hix'⟩, fun eb => ?_⟩
        have hil : i < L.length := (List.getElem?_eq_some_iff.1 hix').1
        have hxi : x = L[i] := by rw [List.getElem?_eq_getElem hil] at hix'; exact (Option.some.inj hix').symm
        have h1 : (L.map (·.b))[i]'(by simpa using hil) = (L.map (·.b))[L.length - R + m.row]'(by simpa using hi) := by
          simp only [List.getElem_map]; rw [← hxi]; exact eb
        exact e ((List.getElem_inj hM.nodup).1 h1).symm
    refine ⟨k2, ?_, ?_, ?_, by rw [hbm]; exact hM.nodup, ⟨hM.lo.1, hM.lo.2.1, ?_⟩, hrow, hcol, by rw [List.length_modify]; exact hlen, hM.hR, hM.hC⟩
    · rw [List.length_modify, hhm]
      refine own_next hM1.own g2 fun j hj => ?_
      obtain ⟨cur', hc'⟩ := own_blk hM1.own hj
      exact nq hc' (by decide)
    · intro x hx
      rcases hmm x hx with rfl | ⟨hx, hne⟩
      · show blk w2 _ = _
        rw [b2]
        unfold mcel
        rw [List.map_set]
      · exact g2.get (hM1.rows x hx) (not_in_cons hne (not_in_nil _))
    · intro x hx
      rcases hmm x hx with rfl | ⟨hx, hne⟩
      · show (List.set _ _ _).length = C
        rw [List.length_set]; exact hbl
      · exact hM.len x hx
    · intro x hx
      rcases hmm x hx with rfl | ⟨hx, hne⟩
      · show n₀ ≤ L[L.length - R + m.row].b; exact hM.lo.2.2 _ hmem
      · exact hM.lo.2.2 x hx
  have hI2 : MIs w2 n₀ k R C { m with rows := m.rows.modify (m.rows.length - R + m.row) (·.set m.col b) } := by
    refine ⟨v, _, hM2, ?_⟩
    show _ = m.rows.modify (m.rows.length - R + m.row) (·.set m.col b)
    rw [← hLl, ← hL]
    apply List.ext_getElem?
    intro i
    rw [List.getElem?_map, List.getElem?_modify, List.getElem?_modify, List.getElem?_map]
    cases L[i]? <;> simp <;> split <;> rfl
  have gq : Chg (MC n₀ w1) w1 w2 := g2.mono fun j _ hj => by
    unfold In at hj; rw [List.mem_singleton] at hj; subst hj
    exact ⟨hM.lo.2.2 _ hmem, _, _, _, hM1.rows _ hmem, .inr (.inr rfl)⟩
  have hI3 := hI2.non g3
  obtain ⟨h5, g5⟩ := hI3.own1 m.row (if m.col + 1 = C then m.col else m.col + 1) (decide (m.col + 1 = C)) (fun v' hv' => by
    have : v' = v := by
      have h1 := (g3.get k2 (not_non _)).symm.trans hv'
      simp only [Option.some.injEq, Obj.cells.injEq, Array.mk.injEq, List.cons.injEq] at h1
      exact h1.1.1.symm
    rw [this]; exact b4) g4 hrow (by split <;> omega)
  exact hT w4 h5 (mc_trans (mc_trans (mc_trans (mc_non g1) gq) (mc_non g3)) g5)

theorem c21 (w : World) (n₀ k R C : Nat) (m : MS) (b : Int) (h : MIs w n₀ k R C m) (hl : m.rows.length < 999) (hn : n₀ ≤ w.heap.size) :
    Calls Tryz.prog 21 #[.pointer (some ⟨k, 0, none⟩), .int .u8 b] w fun e w' => e = .returned (.tuple #[]) ∧ MIs w' n₀ k R C (mput R C b m) ∧ Chg (MC n₀ w) w w' := by
  refine r21 _ _ _ _ ?_
  unfold V21
  intro X hX
  have main : ∀ w1, MIs w1 n₀ k R C (mwrap R C m) → (mwrap R C m).pend = false → Chg (MC n₀ w) w w1 → X [] w1 := by
    intro w1 h1 hp g1
    have hs1 := g1.size
    refine hX _ fun _ => ?_
    obtain ⟨v, L, g, cap, hv, hb, hLl, hRL, hrow, hcol, hC, hL1, q, hq, bs, hbq, hbs, hrest⟩ := put_row w1 n₀ k R C (mwrap R C m) b h1 hp (by omega) (fun w' => MIs w' n₀ k R C (mput R C b m) ∧ Chg (MC n₀ w) w w') (fun w' h' g' => ⟨h', mc_trans g1 g'⟩)
    subst hv
    have e1 : ((L.length : Int) - (R : Int) + ((mwrap R C m).row : Int)) = ((L.length - R + (mwrap R C m).row : Nat) : Int) := by omega
    refine ⟨_, rfl, _, _, _, rd1 hb (by rfl), _, rfl, _, _, _, rd1 hb (by rfl), _, rfl, _, rd1 hb (by rfl), by unfold inInt; omega, _, rfl, _, rd1 hb (by rfl), by unfold inInt; omega, by omega, by omega, _, _, rfl, _, _, _, by rw [e1, Int.toNat_natCast, Nat.mul_one, Nat.zero_add]; exact hq, _, rfl, _, rd1 hb (by rfl), by omega, by omega, _, _, rfl, all_below ?_⟩
    intro w28 s28 g28
    refine ⟨by rw [Int.toNat_natCast, Nat.mul_one, Nat.zero_add]; exact fw (g28.get hbq (not_non _)) (by unfold mcel; simp; omega), ?_⟩
    rw [Int.toNat_natCast, Nat.mul_one, Nat.zero_add]
    refine putL (l' := (mcel bs).set (mwrap R C m).col (.int .u8 b)) (g28.get hbq (not_non _)) rfl ?_
    intro w29 s29 b29 g29
    obtain ⟨hk29, hrest⟩ := hrest w28 g28 w29 b29 g29
    refine ⟨_, rfl, _, rd1 hk29 (by rfl), _, rfl, _, rd1 hk29 (by rfl), by unfold inInt; omega, all_below ?_⟩
    intro w35 s35 g35
    have hk35 := g35.get hk29 (not_non _)
    have hrest := hrest w35 g35
    by_cases hlast : (mwrap R C m).col + 1 = C
    · rw [if_pos hlast, decide_eq_true hlast] at hrest
      refine br_t (by rw [beq_iff_eq]; omega) ⟨_, rfl, fw hk35 (by (first | exact Nat.le_of_ble_eq_true rfl | (simp; done) | omega)), putL (l' := [.slice (some ⟨g, 0, none⟩) L.length cap, .int .i64 R, .int .i64 C, .int .i64 (mwrap R C m).row, .int .i64 (mwrap R C m).col, .bool true]) hk35 (by rfl) ?_⟩
      intro w37 s37 b37 g37
      exact ⟨rfl, hrest w37 b37 g37⟩
    · rw [if_neg hlast, decide_eq_false hlast] at hrest
      rw [hp] at hk35
      refine br_f (by rw [beq_eq_false_iff_ne]; omega) ⟨_, rfl, _, rd1 hk35 (by rfl), by unfold inInt; omega, _, rfl, fw hk35 (by (first | exact Nat.le_of_ble_eq_true rfl | (simp; done) | omega)), putL (l' := [.slice (some ⟨g, 0, none⟩) L.length cap, .int .i64 R, .int .i64 C, .int .i64 (mwrap R C m).row, .int .i64 (((mwrap R C m).col + 1 : Nat) : Int), .bool false]) hk35 (by rfl) ?_⟩
      intro w37 s37 b37 g37
      exact ⟨rfl, hrest w37 b37 g37⟩
  obtain ⟨v, L, hM, hL⟩ := id h
  have hrow := hM.hrow
  have hcol := hM.hcol
  refine ⟨_, rfl, _, rd1 hM.blk (by rfl), ?_⟩
  cases hp : m.pend with
  | true =>
    have hw : mwrap R C m = { mdown R C m with col := 0 } := by unfold mwrap; rw [if_pos hp]
    refine br_t rfl ?_
    refine Calls.then (c22 w n₀ k R C m h (by omega) hn) ?_
    rintro e w45 ⟨rfl, h45, g45⟩
    obtain ⟨v', L', hM', hL'⟩ := id h45
    have hrow' := hM'.hrow
    refine ⟨rfl, _, rfl, fw hM'.blk (by (first | exact Nat.le_of_ble_eq_true rfl | (simp; done) | omega)), putL (l' := [v', .int .i64 R, .int .i64 C, .int .i64 (mdown R C m).row, .int .i64 ((0 : Nat) : Int), .bool (mdown R C m).pend]) hM'.blk (by rfl) ?_⟩
    intro w47 s47 b47 g47
    obtain ⟨h47, gm⟩ := hM'.own1 (mdown R C m).row 0 (mdown R C m).pend b47 g47 hrow' (by omega)
    refine main w47 ?_ ?_ (mc_trans g45 gm)
    · rw [hw]; exact ⟨v', L', h47, hL'⟩
    · rw [hw]; unfold mdown; split <;> rfl
  | false =>
    have hw : mwrap R C m = m := by unfold mwrap; rw [hp]; rfl
    refine br_f rfl (main w ?_ ?_ (Chg.refl _ _))
    · rw [hw]; exact h
    · rw [hw]; exact hp
end Go.Proofs

namespace Go.Proofs
open Go Go.X Go.RowKit
set_option linter.unusedVariables false
set_option linter.unusedSimpArgs false
set_option maxRecDepth 100000

theorem c8 (w : World) (n₀ p R C : Nat) (m : MS) (k r : Int) (ok : KeyOk k r) (h : MIs w n₀ p R C m) (hl : m.rows.length < 999) (hn : n₀ ≤ w.heap.size) :
    Calls Tryz.prog 8 #[.pointer (some ⟨p, 0, none⟩), .agg (keyA k r)] w fun e w' => e = .returned (.tuple #[]) ∧ MIs w' n₀ p R C (mpress R C k r m) ∧ Chg (MC n₀ w) w w' := by
  refine r8 _ _ _ _ ?_
  unfold V8
  refine nw ?_
  intro k3 w4 e4 s4 b4 g4
  have h4 := h.non g4
  refine ⟨_, rd1 b4 (by rfl), ?_⟩
  by_cases hk1 : k = 1
  · subst hk1
    have hr : IntKind.u8.wrap r = r := by
      rcases ok with ⟨_, q⟩ | ⟨_, q⟩ | ⟨_, q⟩
      · simp [IntKind.wrap, IntKind.bits, IntKind.signed]; omega
      · omega
      · omega
    refine br_t rfl ⟨_, rd1 b4 (by rfl), ?_⟩
    rw [hr]
    refine Calls.then (c21 w4 n₀ p R C m r h4 hl (by omega)) ?_
    rintro e w8 ⟨rfl, h8, g8⟩
    exact ⟨rfl, rfl, h8, mc_trans (mc_non g4) g8⟩
  · obtain ⟨v, L, hM, hL⟩ := id h4
    have hrow := hM.hrow
    have hcol := hM.hcol
    have hR := hM.hR
    have hC := hM.hC
    refine br_f (by rw [beq_eq_false_iff_ne]; exact hk1) ⟨_, rfl, fw hM.blk (by (first | exact Nat.le_of_ble_eq_true rfl | (simp; done) | omega)), putL (l' := [v, .int .i64 R, .int .i64 C, .int .i64 m.row, .int .i64 m.col, .bool false]) hM.blk (by rfl) ?_⟩
    intro w10 s10 b10 g10
    obtain ⟨hM10, gm⟩ := hM.own1 m.row m.col false b10 g10 hrow hcol
    have g010 : Chg (MC n₀ w) w w10 := mc_trans (mc_non g4) gm
    have b4' : blk w10 k3 = some (.cells (keyA k r) 35) := g10.get b4 (not_in_cons (blk_ne b4 hM.blk (by decide)) (not_in_nil _))
    have h10 : MIs w10 n₀ p R C { m with pend := false } := ⟨v, L, hM10, hL⟩
    have hs10 := g010.size
    -- a store of another cursor
    have fin : ∀ (w1 : World) (row col : Nat), Chg Non w10 w1 → row < R → col < C → ∀ w2, blk w2 p = some (.cells #[v, .int .i64 R, .int .i64 C, .int .i64 row, .int .i64 col, .bool false] 32) → Chg (In [p]) w1 w2 → MIs w2 n₀ p R C { m with row := row, col := col, pend := false } ∧ Chg (MC n₀ w) w w2 := by
      intro w1 row col g1 h1 h2 w2 b2 g2
      obtain ⟨h5, g5⟩ := (hM10.non g1).own1 row col false b2 g2 h1 h2
      exact ⟨⟨v, L, h5, hL⟩, mc_trans (mc_trans g010 (mc_non g1)) g5⟩
    have hkk : k = 2 ∨ k = 3 ∨ k = 4 ∨ k = 6 ∨ k = 7 ∨ k = 8 ∨ k = 9 ∨ k = 10 := by
      rcases ok with ⟨q, _⟩ | ⟨_, q⟩ | ⟨_, q⟩ <;> omega
    refine ⟨_, rd1 b4' (by rfl), ?_⟩
    have left : ∀ (X : List Value → World → Prop) (kk : Int), (kk = 9 ∨ kk = 4) → kk = k →
        ∃ a36 : Addr, some (⟨p, 0, none⟩ : Addr) = some a36 ∧ ∃ n37 : Int, w10.cell? ⟨a36.block, a36.off + 3 + 1, none⟩ = some (.int .i64 n37) ∧ inInt (n37 - 1) ∧ ∃ a38 : Addr, some (⟨p, 0, none⟩ : Addr) = some a38 ∧ FreeW w10 ⟨a38.block, a38.off + 3 + 1, none⟩ 1 ∧ ∀ w39, Put w10 ⟨a38.block, a38.off + 3 + 1, none⟩ (.int .i64 (max 0 (n37 - 1))) w39 → Ending.returned (.tuple #[]) = .returned (.tuple #[]) ∧ MIs w39 n₀ p R C (mpress R C k r m) ∧ Chg (MC n₀ w) w w39 := by
      intro X kk hkk ek
      have e1 : max 0 ((m.col : Int) - 1) = ((m.col - 1 : Nat) : Int) := by omega
      have em : mpress R C k r m = { m with row := m.row, col := m.col - 1, pend := false } := by
        unfold mpress; rw [if_neg hk1, if_neg (by omega), if_neg (by omega), if_neg (by omega), if_pos (by omega)]
      refine ⟨_, rfl, _, rd1 b10 (by rfl), by unfold inInt; omega, _, rfl, fw b10 (by (first | exact Nat.le_of_ble_eq_true rfl | (simp; done) | omega)), ?_⟩
      rw [e1, em]
      refine putL (l' := [v, .int .i64 R, .int .i64 C, .int .i64 m.row, .int .i64 ((m.col - 1 : Nat) : Int), .bool false]) b10 (by rfl) ?_
      intro w39 s39 b39 g39
      exact ⟨rfl, fin w10 m.row (m.col - 1) (Chg.refl _ _) hrow (by omega) w39 b39 g39⟩
    rcases hkk with rfl | rfl | rfl | rfl | rfl | rfl | rfl | rfl
    · -- Enter
      refine br_f rfl (br_f rfl (br_f rfl ?_))
      intro X hX
      refine br_f rfl (hX _ _ fun _ => br_f rfl (br_f rfl (br_f rfl (br_t rfl ?_))))
      refine Calls.then (c22 w10 n₀ p R C _ h10 (by show m.rows.length < 1000; omega) (by omega)) ?_
      rintro e w51 ⟨rfl, h51, g51⟩
      obtain ⟨v', L', hM', hL'⟩ := id h51
      refine ⟨rfl, _, rfl, fw hM'.blk (by (first | exact Nat.le_of_ble_eq_true rfl | (simp; done) | omega)), putL (l' := [v', .int .i64 R, .int .i64 C, .int .i64 (mdown R C { m with pend := false }).row, .int .i64 ((0 : Nat) : Int), .bool (mdown R C { m with pend := false }).pend]) hM'.blk (by rfl) ?_⟩
      intro w53 s53 b53 g53
      obtain ⟨h53, gm53⟩ := hM'.own1 _ 0 _ b53 g53 hM'.hrow (by omega)
      exact ⟨rfl, ⟨v', L', h53, hL'⟩, mc_trans (mc_trans g010 g51) gm53⟩
    · -- Tab
      refine br_f rfl (br_f rfl (br_f rfl ?_))
      intro X hX
      have ht : (m.col : Int).tdiv 8 = ((m.col / 8 : Nat) : Int) := by rw [Int.tdiv_eq_ediv_of_nonneg (by omega)]; omega
      have hw : IntKind.i64.wrap ((m.col / 8 : Nat) : Int) = ((m.col / 8 : Nat) : Int) := by
        rw [IntKind.wrap_i64]; omega
      have e1 : min ((C : Int) - 1) (((m.col / 8 : Nat) : Int) * 8 + 8) = ((tabTo C m.col : Nat) : Int) := by unfold tabTo; omega
      have htab : tabTo C m.col < C := by unfold tabTo; omega
      refine br_f rfl (hX _ _ fun _ => br_f rfl (br_f rfl (br_t rfl ⟨_, rfl, _, rd1 b10 (by rfl), by unfold inInt; omega, _, rfl, _, rd1 b10 (by rfl), ?_⟩)))
      rw [ht, hw]
      refine ⟨by unfold inInt; omega, by unfold inInt; omega, _, rfl, all_below ?_⟩
      intro w48 s48 g48
      rw [e1]
      refine ⟨fw (g48.get b10 (not_non _)) (by (first | exact Nat.le_of_ble_eq_true rfl | (simp; done) | omega)), putL (l' := [v, .int .i64 R, .int .i64 C, .int .i64 m.row, .int .i64 (tabTo C m.col : Nat), .bool false]) (g48.get b10 (not_non _)) (by rfl) ?_⟩
      intro w49 s49 b49 g49
      exact ⟨rfl, fin w48 m.row (tabTo C m.col) g48 hrow htab w49 b49 g49⟩
    · -- Backspace
      refine br_f rfl (br_f rfl (br_f rfl ?_))
      intro X hX
      exact br_f rfl (hX _ _ fun _ => br_t rfl (left X 4 (.inr rfl) rfl))
    · -- Up
      have e1 : max 0 ((m.row : Int) - 1) = ((m.row - 1 : Nat) : Int) := by omega
      refine br_t rfl ⟨_, rfl, _, rd1 b10 (by rfl), by unfold inInt; omega, _, rfl, fw b10 (by (first | exact Nat.le_of_ble_eq_true rfl | (simp; done) | omega)), ?_⟩
      rw [e1]
      refine putL (l' := [v, .int .i64 R, .int .i64 C, .int .i64 ((m.row - 1 : Nat) : Int), .int .i64 m.col, .bool false]) b10 (by rfl) ?_
      intro w15 s15 b15 g15
      exact ⟨rfl, fin w10 (m.row - 1) m.col (Chg.refl _ _) (by omega) hcol w15 b15 g15⟩
    · -- Down
      have e1 : min ((R : Int) - 1) ((m.row : Int) + 1) = ((min (R - 1) (m.row + 1) : Nat) : Int) := by omega
      refine br_f rfl (br_t rfl ⟨_, rfl, _, rd1 b10 (by rfl), by unfold inInt; omega, _, rfl, _, rd1 b10 (by rfl), by unfold inInt; omega, _, rfl, all_below ?_⟩)
      intro w22 s22 g22
      rw [e1]
      refine ⟨fw (g22.get b10 (not_non _)) (by (first | exact Nat.le_of_ble_eq_true rfl | (simp; done) | omega)), putL (l' := [v, .int .i64 R, .int .i64 C, .int .i64 ((min (R - 1) (m.row + 1) : Nat) : Int), .int .i64 m.col, .bool false]) (g22.get b10 (not_non _)) (by rfl) ?_⟩
      intro w23 s23 b23 g23
      exact ⟨rfl, fin w22 (min (R - 1) (m.row + 1)) m.col g22 (by omega) hcol w23 b23 g23⟩
    · -- Right
      have e1 : min ((C : Int) - 1) ((m.col : Int) + 1) = ((min (C - 1) (m.col + 1) : Nat) : Int) := by omega
      refine br_f rfl (br_f rfl (br_t rfl ⟨_, rfl, _, rd1 b10 (by rfl), by unfold inInt; omega, _, rfl, _, rd1 b10 (by rfl), by unfold inInt; omega, _, rfl, all_below ?_⟩))
      intro w30 s30 g30
      rw [e1]
      refine ⟨fw (g30.get b10 (not_non _)) (by (first | exact Nat.le_of_ble_eq_true rfl | (simp; done) | omega)), putL (l' := [v, .int .i64 R, .int .i64 C, .int .i64 m.row, .int .i64 ((min (C - 1) (m.col + 1) : Nat) : Int), .bool false]) (g30.get b10 (not_non _)) (by rfl) ?_⟩
      intro w31 s31 b31 g31
      exact ⟨rfl, fin w30 m.row (min (C - 1) (m.col + 1)) g30 hrow (by omega) w31 b31 g31⟩
    · -- Left
      refine br_f rfl (br_f rfl (br_f rfl ?_))
      intro X hX
      exact br_t rfl (hX _ _ fun _ => br_t rfl (left X 9 (.inl rfl) rfl))
    · -- Home
      refine br_f rfl (br_f rfl (br_f rfl ?_))
      intro X hX
      refine br_f rfl (hX _ _ fun _ => br_f rfl (br_t rfl ⟨_, rfl, rfl, one_lit rfl, fw b10 (by (first | exact Nat.le_of_ble_eq_true rfl | (simp; done) | omega)), putsL (l' := [v, .int .i64 R, .int .i64 C, .int .i64 ((0 : Nat) : Int), .int .i64 ((0 : Nat) : Int), .bool false]) b10 (by (first | exact Nat.le_of_ble_eq_true rfl | (simp; done) | omega)) (by rfl) ?_⟩))
      intro w41 s41 b41 g41
      exact ⟨rfl, fin w10 0 0 (Chg.refl _ _) (by omega) (by omega) w41 b41 g41⟩

/-! ### written -/
theorem tbyte_of (r : Int) (h : 32 ≤ r) : tbyte r = UInt8.ofNat r.toNat := by unfold tbyte; rw [if_neg (by omega)]

theorem c12 (w : World) (b C : Nat) (bs : List Int) (hb : blk w b = some (.cells (mcel bs).toArray 5)) (hl : bs.length = C) (hC : C ≤ 1000) (ok : ∀ r ∈ bs, Ru r) :
    Calls Tryz.prog 12 #[.slice (some ⟨b, 0, none⟩) C C] w fun e w' => e = .returned (.string (txt bs)) ∧ Chg Non w w' := by
  subst hl
  refine r12 _ _ _ _ _ ?_
  unfold V12
  have hcell : ∀ i (hi : i < bs.length), w.cell? ⟨b, i, none⟩ = some (.int .u8 bs[i]) := fun i hi => rd1 hb (by unfold mcel; simp [hi])
  refine ⟨fun vs w' => w' = w ∧ ∃ i n : Nat, vs = [.string (textB bs n), .int .i64 i] ∧ i ≤ bs.length ∧ n ≤ i ∧ IsUsed (bs.take i) n, fun vs _ => match vs with | [_, .int _ j] => (1000 - j).toNat | _ => 0, ⟨rfl, 0, 0, rfl, by omega, by omega, ⟨by simp, by omega, by simp⟩⟩, ?_⟩
  rintro s6 n7 w8 _ ⟨rfl, i, n, hv, hle, hni, hu⟩
  simp only [List.cons.injEq, Value.int.injEq, Value.string.injEq, true_and, and_true] at hv
  obtain ⟨rfl, rfl⟩ := hv
  refine br_dec (fun hlt => ?_) fun hge => ?_
  · intro X hX
    have hi : i < bs.length := by omega
    refine ⟨by omega, by omega, _, _, rfl, _, by rw [Int.toNat_natCast, Nat.mul_one, Nat.zero_add]; exact hcell i hi, ?_⟩
    have hlt' : (bs.take i).length = i := by simp; omega
    by_cases hz : bs[i] = 0
    · refine br_f (by simp [hz]) (hX _ _ fun _ => ⟨by unfold inInt; omega, ⟨rfl, i + 1, n, by simp, by omega, by omega, ?_⟩, by show ((1000 : Int) - ((i : Int) + 1)).toNat < ((1000 : Int) - (i : Int)).toNat; omega⟩)
      refine ⟨by simp; omega, fun j hj => ?_, fun j h1 h2 => ?_⟩
      · have := hu.last j hj
        rw [List.getElem?_take_of_lt (by omega)] at this ⊢; exact this
      · have hj : j < i + 1 := by simp at h2; omega
        rw [List.getElem?_take_of_lt hj]
        rcases Nat.lt_or_ge j i with q | q
        · have := hu.rest j h1 (by omega)
          rwa [List.getElem?_take_of_lt q] at this
        · have : j = i := by omega
          subst this; rw [List.getElem?_eq_getElem hi, hz]
    · have hr := ok bs[i] (List.getElem_mem _)
      have hr' : 32 ≤ bs[i] ∧ bs[i] ≤ 126 := by rcases hr with q | q; exact absurd q hz; exact q
      have hzero : ∀ j, n ≤ j → j < i → bs[j]? = some 0 := fun j h1 h2 => by
        have := hu.rest j h1 (by omega)
        rwa [List.getElem?_take_of_lt h2] at this
      refine br_t (by simp [hz]) ⟨fun vs w' => w' = w8 ∧ ∃ q : Nat, vs = [.string (textB bs q)] ∧ n ≤ q ∧ q ≤ i, fun vs _ => match vs with | [.string s] => 1000 - s.size | _ => 0, ⟨rfl, n, rfl, Nat.le_refl _, hni⟩, ?_⟩
      rintro s19 w20 _ ⟨rfl, q, hq, h1, h2⟩
      simp only [List.cons.injEq, Value.string.injEq, and_true] at hq
      subst hq
      have hsz : (textB bs q).size = q := by
        show (text bs q).toArray.size = q
        rw [List.size_toArray, text_length _ _ (by omega)]
      have happ : ∀ u : UInt8, q < bs.length → tbyte (bs[q]?.getD 0) = u → textB bs q ++ ByteArray.mk #[u] = textB bs (q + 1) := by
        intro u hq hu'
        unfold textB
        rw [text_succ _ _ hq]
        rw [List.getElem?_eq_getElem hq] at hu'
        simp only [Option.getD_some] at hu'
        rw [hu']
        apply ByteArray.ext
        simp [ByteArray.data_append]
      refine br_dec (fun hlt2 => ?_) fun hge2 => ?_
      · have hqi : q < i := by omega
        refine ⟨by rw [hsz]; omega, ⟨rfl, q + 1, ?_, by omega, by omega⟩, ?_⟩
        · exact congrArg (fun z => [Value.string z]) (happ 32 (by omega) (by rw [hzero q h1 hqi]; rfl))
        · have e := happ 32 (by omega) (by rw [hzero q h1 hqi]; rfl)
          show 1000 - (textB bs q ++ ByteArray.mk #[32]).size < 1000 - (textB bs q).size
          rw [e]
          have hsz1 : (textB bs (q + 1)).size = q + 1 := by
            show (text bs (q + 1)).toArray.size = q + 1
            rw [List.size_toArray, text_length _ _ (by omega)]
          omega
      · have hqi : q = i := by omega
        subst hqi
        have hwr : IntKind.i32.wrap bs[q] = bs[q] := by rw [IntKind.wrap_i32]; omega
        refine ⟨by omega, by omega, _, _, rfl, bs[q], by rw [Int.toNat_natCast, Nat.mul_one, Nat.zero_add]; exact hcell q hi, ?_⟩
        rw [hwr, encode_small _ hr'.1 hr'.2]
        refine ⟨by rw [hsz]; show q + 1 ≤ _; omega, hX _ _ fun _ => ⟨by unfold inInt; omega, ⟨rfl, q + 1, q + 1, ?_, by omega, by omega, ?_⟩, by show ((1000 : Int) - ((q : Int) + 1)).toNat < ((1000 : Int) - (q : Int)).toNat; omega⟩⟩
        · rw [happ _ hi (by rw [List.getElem?_eq_getElem hi]; exact tbyte_of _ hr'.1)]
          simp
        · refine ⟨by simp; omega, fun j hj => ?_, fun j h3 h4 => ?_⟩
          · have : j = q := by omega
            subst this
            rw [List.getElem?_take_of_lt (by omega), List.getElem?_eq_getElem hi]
            simpa using hz
          · simp at h4; omega
  · have hi : i = bs.length := by omega
    subst hi
    rw [List.take_length] at hu
    refine ⟨?_, Chg.refl _ _⟩
    rw [hu.uniq (usedN_ok bs)]; rfl
end Go.Proofs

namespace Go.Proofs
open Go Go.X Go.RowKit
set_option linter.unusedVariables false
set_option linter.unusedSimpArgs false
set_option maxRecDepth 100000

structure Rel (R : Nat) (S : SS) (m : MS) : Prop where
  rows : runes S = m.rows
  row : S.row = m.row
  col : S.col = m.col
  pend : S.pend = m.pend
  len : m.rows.length = (kept S.ss).length + R

def kb (k r : Int) : List Int :=
  if k = 1 then [r] else if k = 2 then [13, 10] else if k = 3 then [9] else if k = 4 then [8] else
  if k = 6 then [27, 91, 65] else if k = 7 then [27, 91, 66] else if k = 8 then [27, 91, 67] else if k = 9 then [27, 91, 68] else [27, 91, 72]
def ka (k r : Int) : List (Int × Int) :=
  if k = 1 then [(1, r)] else if k = 2 then [(2, 13), (2, 10)] else if k = 3 then [(2, 9)] else if k = 4 then [(2, 8)] else
  if k = 6 then [(4, 65)] else if k = 7 then [(4, 66)] else if k = 8 then [(4, 67)] else if k = 9 then [(4, 68)] else [(4, 72)]

theorem key_cases {k r : Int} (ok : KeyOk k r) : (k = 1 ∧ 32 ≤ r ∧ r ≤ 126) ∨ (k = 2 ∨ k = 3 ∨ k = 4 ∨ k = 6 ∨ k = 7 ∨ k = 8 ∨ k = 9 ∨ k = 10) := by
  rcases ok with ⟨q, h⟩ | ⟨_, q⟩ | ⟨_, q⟩
  · exact .inl ⟨q, by omega, by omega⟩
  · right; omega
  · right; omega

theorem kb_list {k r : Int} (ok : KeyOk k r) : (kbytes k r).data.toList.map (fun b => (b.toNat : Int)) = kb k r := by
  rcases key_cases ok with ⟨rfl, h1, h2⟩ | h | h | h | h | h | h | h | h
  · unfold kbytes kb
    rw [if_pos rfl, if_pos rfl, encode_small r h1 h2]
    have : r.toNat < 256 := by omega
    simp
    omega
  all_goals (subst h; rfl)
theorem kb_run {k r : Int} (ok : KeyOk k r) : prun 0 (kb k r) = ka k r ∧ pend 0 (kb k r) = 0 ∧ pok 0 (kb k r) ∧ (∀ b ∈ kb k r, 0 ≤ b ∧ b < 128) ∧ (kb k r).length ≤ 3 ∧ (ka k r).length ≤ 2 ∧ (∀ x ∈ ka k r, ActOk x.1 x.2) ∧ ∀ j, (prun 0 ((kb k r).take j)).length ≤ 100 := by
  have take3 : ∀ (l : List Int), l.length ≤ 3 → (∀ j, j ≤ 3 → (prun 0 (l.take j)).length ≤ 100) → ∀ j, (prun 0 (l.take j)).length ≤ 100 := by
    intro l hl h j
    rcases Nat.lt_or_ge 3 j with q | q
    · rw [List.take_of_length_le (by omega)]
      have := h 3 (Nat.le_refl _)
      rwa [List.take_of_length_le hl] at this
    · exact h j q
  rcases key_cases ok with ⟨rfl, h1, h2⟩ | h | h | h | h | h | h | h | h
  · have e : prun 0 [r] = [(1, r)] := by
      unfold prun pacts prun
      rw [if_pos rfl, if_neg (by omega), if_neg (by omega)]; rfl
    refine ⟨e, ?_, ?_, ?_, by show 1 ≤ 3; omega, by show 1 ≤ 2; omega, ?_, take3 _ (by show 1 ≤ 3; omega) ?_⟩
    · show pst 0 r = 0
      unfold pst; rw [if_pos rfl, if_neg (by omega)]
    · exact ⟨.inl ⟨rfl, .inl ⟨h1, h2⟩⟩, trivial⟩
    · intro b hb
      have : b = r := by simpa [kb] using hb
      omega
    · intro x hx
      have : x = (1, r) := by simpa [ka] using hx
      subst this
      exact .inl ⟨rfl, h1, h2⟩
    · intro j hj
      rcases j with _ | j
      · exact Nat.zero_le _
      · show (prun 0 (r :: ([] : List Int).take j)).length ≤ 100
        rw [List.take_nil, e]; show 1 ≤ 100; omega
  all_goals
    subst h
    refine ⟨rfl, rfl, ?_, ?_, Nat.le_of_ble_eq_true rfl, Nat.le_of_ble_eq_true rfl, ?_, take3 _ (Nat.le_of_ble_eq_true rfl) ?_⟩
    · simp [kb, pok, Ok, pst]
    · intro b hb
      simp [kb] at hb
      omega
    · intro x hx
      simp [ka] at hx
      first
        | (subst hx; simp [ActOk]; done)
        | (rcases hx with rfl | rfl <;> (simp [ActOk]; done))
    · intro j hj
      rcases (show j = 0 ∨ j = 1 ∨ j = 2 ∨ j = 3 by omega) with rfl | rfl | rfl | rfl <;> exact Nat.le_of_ble_eq_true rfl

theorem cur_rel {R : Nat} {S S' : SS} {m : MS} {col row : Nat} (h : Rel R S m) (c : Cur S S' col row) : Rel R S' { m with row := row, col := col, pend := false } :=
  ⟨c.runes.trans h.rows, c.row, c.col, c.pend, by show m.rows.length = _; rw [h.len, c.kept]⟩
theorem push_rel {R : Nat} {S : SS} {m : MS} (h : Rel R S m) : Rel R { S with pushed := 0 } m := ⟨h.rows, h.row, h.col, h.pend, h.len⟩

theorem wrap_rel {R C : Nat} {S S1 : SS} {m : MS} (h : Rel R S m) (hw : (S.pend = true ∧ Wrap R C S S1) ∨ (S.pend = false ∧ S1 = S)) : Rel R S1 (mwrap R C m) := by
  unfold mwrap
  rcases hw with ⟨hp, w⟩ | ⟨hp, rfl⟩
  · rw [← h.pend, hp, if_pos rfl]
    unfold mdown
    rcases w.to with ⟨h1, h2, h3, h4⟩ | ⟨h1, h2, h3, h4⟩
    · rw [if_neg (by rw [← h.row]; omega)]
      exact ⟨h3.trans h.rows, by rw [h2, h.row], w.col, w.pend, by show m.rows.length = _; rw [h.len, h4]⟩
    · rw [if_pos (by rw [← h.row]; omega)]
      exact ⟨by rw [h3, h.rows], by rw [h2, h.row], w.col, w.pend, by show (m.rows ++ _).length = _; rw [List.length_append, h.len, h4]; simp; omega⟩
  · rw [← h.pend, hp]
    exact h
theorem down_rel {R C : Nat} {S S1 : SS} {m : MS} (h : Rel R S m) (w : Down R C S S1) : Rel R S1 (mdown R C m) := by
  unfold mdown
  rcases w.to with ⟨h1, h2, h3, h4⟩ | ⟨h1, h2, h3, h4⟩
  · rw [if_neg (by rw [← h.row]; omega)]
    exact ⟨h3.trans h.rows, by rw [h2, h.row], by rw [w.col, h.col], w.pend, by show m.rows.length = _; rw [h.len, h4]⟩
  · rw [if_pos (by rw [← h.row]; omega)]
    exact ⟨by rw [h3, h.rows], by rw [h2, h.row], by rw [w.col, h.col], w.pend, by show (m.rows ++ _).length = _; rw [List.length_append, h.len, h4]; simp; omega⟩

theorem print_rel {R C : Nat} {S S1 : SS} {m : MS} {r : Int} (h : Rel R S m) (p : PrintTo C S S1 r) :
    Rel R S1 { rows := m.rows.modify (m.rows.length - R + m.row) (·.set m.col r), row := m.row, col := if m.col + 1 = C then m.col else m.col + 1, pend := decide (m.col + 1 = C) } := by
  have e : m.rows.length - R + m.row = (kept S.ss).length + S.row := by rw [h.len, h.row]; omega
  have hc := h.col
  rcases p.cur with ⟨h1, h2, h3⟩ | ⟨h1, h2, h3⟩
  · refine ⟨by rw [p.runes, h.rows, e, h.col], by rw [p.row, h.row], ?_, ?_, ?_⟩
    · show S1.col = if m.col + 1 = C then m.col else m.col + 1
      rw [if_neg (by omega)]; omega
    · show S1.pend = decide (m.col + 1 = C)
      rw [h3, decide_eq_false (by omega)]
    · show (m.rows.modify _ _).length = _
      rw [List.length_modify, h.len, p.kept]
  · refine ⟨by rw [p.runes, h.rows, e, h.col], by rw [p.row, h.row], ?_, ?_, ?_⟩
    · show S1.col = if m.col + 1 = C then m.col else m.col + 1
      rw [if_pos (by omega)]; omega
    · show S1.pend = decide (m.col + 1 = C)
      rw [h3, decide_eq_true (by omega)]
    · show (m.rows.modify _ _).length = _
      rw [List.length_modify, h.len, p.kept]

theorem act4 {R C : Nat} {S S' : SS} {k r : Int} (h : ActTo R C S S' k r) (hk : k = 4) : Cur S S' (moveCol C S.col r) (moveRow R S.row r) := by
  rcases h with ⟨q, _⟩ | ⟨q, _⟩ | ⟨_, h⟩
  · omega
  · omega
  · exact h
theorem act2 {R C : Nat} {S S' : SS} {k r : Int} (h : ActTo R C S S' k r) (hk : k = 2) : (r = 8 ∧ Cur S S' (S.col - 1) S.row) ∨ (r = 9 ∧ Cur S S' (tabTo C S.col) S.row) ∨ (r = 10 ∧ Down R C S S') ∨ (r = 13 ∧ Cur S S' 0 S.row) := by
  rcases h with ⟨q, _⟩ | ⟨_, h⟩ | ⟨q, _⟩
  · omega
  · exact h
  · omega
theorem acts1 {R C : Nat} {S S' : SS} {x : Int × Int} (h : Acts R C S [x] S') : ∃ S1, ActTo R C S S1 x.1 x.2 ∧ S' = { S1 with pushed := 0 } := h

theorem press_rel {R C : Nat} {S S' : SS} {m : MS} {k r : Int} (ok : KeyOk k r) (h : Rel R S m) (ha : Acts R C S (ka k r) S') : Rel R S' (mpress R C k r m) := by
  have hr := h.row
  have hc := h.col
  rcases key_cases ok with ⟨rfl, h1, h2⟩ | hk | hk | hk | hk | hk | hk | hk | hk
  · obtain ⟨S1, h1, rfl⟩ := acts1 ha
    have em : mpress R C 1 r m = mput R C r m := by unfold mpress; rw [if_pos rfl]
    rw [em]
    refine push_rel ?_
    rcases h1 with ⟨_, S2, hw, hp⟩ | ⟨q, _⟩ | ⟨q, _⟩
    · exact print_rel (wrap_rel h hw) hp
    · cases q
    · cases q
  · subst hk
    obtain ⟨S1, h1, S2, h2, rfl⟩ := ha
    have em : mpress R C 2 r m = { mdown R C { m with pend := false } with col := 0 } := rfl
    rw [em]
    refine push_rel ?_
    rcases act2 h1 rfl with ⟨q, _⟩ | ⟨q, _⟩ | ⟨q, _⟩ | ⟨_, c1⟩
    · cases q
    · cases q
    · cases q
    rcases act2 h2 rfl with ⟨q, _⟩ | ⟨q, _⟩ | ⟨_, d2⟩ | ⟨q, _⟩
    · cases q
    · cases q
    · have e1 := push_rel (cur_rel h c1)
      have e2 := down_rel e1 d2
      rw [hr] at e2
      have e3 : mdown R C { m with row := m.row, col := 0, pend := false } = { mdown R C { m with pend := false } with col := 0 } := by
        unfold mdown; dsimp only; split <;> rfl
      rw [← e3]; exact e2
    · cases q
  · subst hk
    obtain ⟨S1, h1, rfl⟩ := acts1 ha
    refine push_rel ?_
    rcases act2 h1 rfl with ⟨q, _⟩ | ⟨_, c⟩ | ⟨q, _⟩ | ⟨q, _⟩
    · cases q
    · have := cur_rel h c
      rw [hr, hc] at this; exact this
    · cases q
    · cases q
  · subst hk
    obtain ⟨S1, h1, rfl⟩ := acts1 ha
    refine push_rel ?_
    rcases act2 h1 rfl with ⟨_, c⟩ | ⟨q, _⟩ | ⟨q, _⟩ | ⟨q, _⟩
    · have := cur_rel h c
      rw [hr, hc] at this; exact this
    · cases q
    · cases q
    · cases q
  all_goals
    subst hk
    obtain ⟨S1, h1, rfl⟩ := acts1 ha
    refine push_rel ?_
    have := cur_rel h (act4 h1 rfl)
    rw [hr, hc] at this
    exact this
end Go.Proofs

namespace Go.Proofs
open Go Go.X Go.RowKit
set_option linter.unusedVariables false
set_option linter.unusedSimpArgs false
set_option maxRecDepth 100000

theorem TermAt.mc {w w' : World} {n₀ t p s vw R C : Nat} {S : SS} (h : TermAt w t p s vw R C S) (k : Chg (MC n₀ w) w w') : TermAt w' t p s vw R C S := by
  have own : ∀ {e : TypeId} {size : Nat} {v : Value} {n : Nat} {xs : List Value}, w.ownsRow 0 e size v n xs → e ≠ 32 → e ≠ 22 → e ≠ 5 → ∀ g, v.ownBlock = some g → ¬ MC n₀ w g := by
    intro e size v n xs ho h1 h2 h3 g hg
    obtain ⟨cur, hc⟩ := own_blk ho hg
    exact mc_not hc h1 h2 h3
  have row : ∀ {b cap : Nat} {rs : List Int}, RowAt w b cap rs → ¬ MC n₀ w b := by
    intro b cap rs hr
    obtain ⟨c, hc, _⟩ := hr.ex
    exact mc_not hc (by decide) (by decide) (by decide)
  obtain ⟨lo, hi, hp⟩ := h.par
  obtain ⟨pb, hpb⟩ := h.scr.pair
  obtain ⟨ck, hm⟩ := h.scr.stops.m
  have hS := h.scr
  have hstops : StopAt w' S.stp S.stm C := hS.stops.next k (mc_not hS.stops.s (by decide) (by decide) (by decide)) (by rintro ⟨_, c, T, f, h', _⟩; rw [hm] at h'; cases h')
  have hgrid : GridAt w' S.g S.rb S.rcap C S.l := ⟨k.get hS.grid.grid (mc_not hS.grid.grid (by decide) (by decide) (by decide)), hS.grid.hd.next k (own hS.grid.hd (by decide) (by decide) (by decide)), hS.grid.rows.next k (fun x hx => row (hS.grid.rows.row x hx)), hS.grid.nodup⟩
  have hring : RingAt w' S.rg C S.pv S.ss := by
    refine hS.ring.next k ?_ ?_
    · rintro j (rfl | e | ⟨s', hs', rfl | e⟩)
      · exact mc_not hS.ring.ring (by decide) (by decide) (by decide)
      · exact own hS.ring.pages (by decide) (by decide) (by decide) j e.symm
      · exact mc_not (hS.ring.sheets s' hs').blk (by decide) (by decide) (by decide)
      · exact own (hS.ring.sheets s' hs').lines (by decide) (by decide) (by decide) j e.symm
    · intro x hx
      obtain ⟨s', hs', hx'⟩ := List.mem_flatMap.1 hx
      exact row ((hS.ring.sheets s' hs').rows.row x hx')
  have hscr : Scr w' s R C S := { hS with scr := k.get hS.scr (mc_not hS.scr (by decide) (by decide) (by decide)), pair := hS.pair.next k (mc_not hpb (by decide) (by decide) (by decide)), his := k.get hS.his (mc_not hS.his (by decide) (by decide) (by decide)), grid := hgrid, ring := hring, stops := hstops }
  exact { h with term := k.get h.term (mc_not h.term (by decide) (by decide) (by decide)), par := h.par.next k (mc_not hp (by decide) (by decide) (by decide)), view := k.get h.view (mc_not h.view (by decide) (by decide) (by decide)), scr := hscr }

theorem glob_mc {w w' : World} {n₀ : Nat} (g : Glob w) (k : Chg (MC n₀ w) w w') (h : 3 ≤ n₀) : Glob w' :=
  g.next k (fun q => by have := q.1; omega) (fun q => by have := q.1; omega)
theorem chg_mc {w0 w w' : World} (g : Chg Non w0 w) (k : Chg (MC w0.heap.size w) w w') : Chg Non w0 w' :=
  g.trans' k fun j hj q => by have := q.1; omega
theorem chg_tf {w0 w w' : World} {p s : Nat} {S : SS} (g : Chg Non w0 w) (k : Chg (TF p s S) w w') (hp : w0.heap.size ≤ p) (hs : ∀ j, SF s S j → w0.heap.size ≤ j) : Chg Non w0 w' :=
  g.trans' k fun j hj q => by
    rcases q with rfl | q
    · omega
    · have := hs j q; omega
theorem MIs.tf {w w' : World} {n₀ k t p s vw R C R' C' : Nat} {S : SS} {m : MS} (h : MIs w n₀ k R C m) (hT : TermAt w t p s vw R' C' S) (g : Chg (TF p s S) w w') : MIs w' n₀ k R C m := by
  obtain ⟨v, L, hM, hL⟩ := h
  refine ⟨v, L, hM.next g ?_, hL⟩
  intro j c T f hj hT'
  rcases hT' with rfl | rfl | rfl <;> exact hT.not_tf hj (by decide) (by decide) (by decide) (by decide) (by decide) (by decide) (by decide)

/-- The sheet while its rows are being made. -/
structure MP (w : World) (n₀ k R C : Nat) (v : Value) (L : List MRow) : Prop where
  blk : blk w k = some (.cells #[v, .int .i64 R, .int .i64 C, .int .i64 0, .int .i64 0, .bool false] 32)
  own : w.ownsRow 0 22 1 v L.length (L.map (mhdr C))
  rows : ∀ x ∈ L, Go.X.blk w x.b = some (.cells (mcel x.bs).toArray 5)
  zero : ∀ x ∈ L, x.bs = List.replicate C 0
  nodup : (L.map (·.b)).Nodup
  lo : n₀ ≤ k ∧ (∀ g, v.ownBlock = some g → n₀ ≤ g) ∧ ∀ x ∈ L, n₀ ≤ x.b
theorem MP.next {F : Nat → Prop} {w w' : World} {n₀ k R C : Nat} {v : Value} {L : List MRow} (h : MP w n₀ k R C v L) (g : Chg F w w') (hF : ∀ j c T f, Go.X.blk w j = some (.cells c T f) → (T = 32 ∨ T = 22 ∨ T = 5) → ¬ F j) : MP w' n₀ k R C v L :=
  { h with blk := g.get h.blk (hF _ _ _ _ h.blk (.inl rfl)), own := own_next h.own g fun j hj => by (obtain ⟨cur, hc⟩ := own_blk h.own hj; exact hF _ _ _ _ hc (.inr (.inl rfl))), rows := fun x hx => g.get (h.rows x hx) (hF _ _ _ _ (h.rows x hx) (.inr (.inr rfl))) }
theorem MP.non {w w' : World} {n₀ k R C : Nat} {v : Value} {L : List MRow} (h : MP w n₀ k R C v L) (g : Chg Non w w') : MP w' n₀ k R C v L := h.next g fun _ _ _ _ _ _ => not_non _
theorem MP.done {w : World} {n₀ k R C : Nat} {v : Value} {L : List MRow} (h : MP w n₀ k R C v L) (hL : L.length = R) (hR : 1 ≤ R ∧ R ≤ 1000) (hC : 1 ≤ C ∧ C ≤ 1000) : MIs w n₀ k R C ⟨List.replicate R (List.replicate C 0), 0, 0, false⟩ := by
  refine ⟨v, L, ⟨h.blk, h.own, h.rows, fun x hx => by rw [h.zero x hx, List.length_replicate], h.nodup, h.lo, ?_, ?_, ⟨by omega, by omega⟩, hR.2, hC.2⟩, ?_⟩
  · exact hR.1
  · exact hC.1
  · show L.map (·.bs) = List.replicate R (List.replicate C 0)
    rw [List.eq_replicate_iff]
    refine ⟨by rw [List.length_map]; exact hL, fun b hb => ?_⟩
    obtain ⟨x, hx, rfl⟩ := List.mem_map.1 hb
    exact h.zero x hx

theorem isEq30 : ∀ row < 6, ∀ col < 16, ∀ pend : Bool, Is Tryz.prog (Op.equal 30 (.agg (curA (row : Nat) (col : Nat) pend)) (.agg (curA (row : Nat) (col : Nat) pend))) true := by
  unfold Is; decide +kernel

/-- The bytes of a slice as a string. -/
theorem conv_back (w : World) (s : ByteArray) (v : Value) (hs : s.size ≠ 0) (h : w.ownsRow 0 5 1 v s.size (bytesL s)) : Runs Tryz.prog (convert 22 9 v) w (.string s) w := by
  obtain ⟨g, cap, cur, rfl, hg, _, _, _, htk⟩ := own_slice h hs
  have hl : s.data.toList.length = s.size := by rw [Array.length_toList]; rfl
  have h1 := run_convert_bytes_back (P := Tryz.prog) w 22 9 5 ⟨g, 0, none⟩ cap s.data.toList Tryz.underlying22 Tryz.underlying5 Tryz.underlying9 (fun j hj => by
    refine cells_of (l := bytesL s) hg ?_ j _ ?_
    · rw [List.drop_zero]
      unfold bytesL at htk ⊢
      rw [List.length_map, hl]
      simpa using htk
    · unfold bytesL
      rw [List.getElem?_map, List.getElem?_eq_getElem hj]; rfl)
  rw [hl] at h1
  exact h1
end Go.Proofs

namespace Go.Proofs
open Go Go.X Go.RowKit
set_option linter.unusedVariables false
set_option linter.unusedSimpArgs false
set_option maxRecDepth 100000

/-- The argument's bytes, which no call changes. -/
def BytesArg (w : World) (p : Option Addr) (n : Nat) : Prop :=
  ∀ j, j < n → ∃ b : Nat, b < 256 ∧ ∃ kb ko, p = some ⟨kb, ko, none⟩ ∧ ∀ w', Chg Non w w' → w'.cell? ⟨kb, ko + j, none⟩ = some (.int .u8 b)
theorem BytesArg.next {w w' : World} {p : Option Addr} {n : Nat} (h : BytesArg w p n) (g : Chg Non w w') : BytesArg w' p n := fun j hj => by
  obtain ⟨b, hb, kb, ko, hp, hc⟩ := h j hj
  exact ⟨b, hb, kb, ko, hp, fun w2 g2 => hc w2 (g.trans g2)⟩

/-- What holds before each byte. -/
structure Inv (w0 : World) (t p s vw k R C : Nat) (i : Nat) (w : World) (S : SS) (m : MS) : Prop where
  term : TermAt w t p s vw R C S
  sheet : MIs w w0.heap.size k R C m
  rel : Rel R S m
  glob : Glob w
  chg : Chg Non w0 w
  hkept : (kept S.ss).length ≤ i
  sf : ∀ j, SF s S j → w0.heap.size ≤ j
  hp : w0.heap.size ≤ p

theorem mpress_len (R C : Nat) (k r : Int) (m : MS) : (mpress R C k r m).rows.length ≤ m.rows.length + 1 := by
  have h1 : (mput R C r m).rows.length ≤ m.rows.length + 1 := by
    unfold mput
    rw [List.length_modify]
    exact mwrap_len R C m
  unfold mpress
  repeat' split
  all_goals first | exact h1 | exact Nat.le_succ _ | exact mdown_len R C { m with pend := false }

/-- One key: the screen and the sheet behind it. -/
theorem Inv.press {w0 w w1 w2 : World} {t p s vw k R C i : Nat} {S S' : SS} {m : MS} {kk r : Int} (ok : KeyOk kk r) (h : Inv w0 t p s vw k R C i w S m) (g1 : Chg Non w0 w1) (hT : TermAt w1 t p s vw R C S') (hst : TStep p s w S w1 S')
    (hA : Acts R C S (ka kk r) S') (h3 : 3 ≤ w0.heap.size) (hM : MIs w2 w0.heap.size k R C (mpress R C kk r m)) (g2 : Chg (MC w0.heap.size w1) w1 w2) (gl : Glob w1) :
    Inv w0 t p s vw k R C (i + 1) w2 S' (mpress R C kk r m) := by
  have hrel := press_rel ok h.rel hA
  have hl := mpress_len R C kk r m
  refine ⟨hT.mc g2, hM, hrel, glob_mc gl g2 h3, chg_mc g1 g2, ?_, ?_, h.hp⟩
  · have e1 := hrel.len
    have e2 := h.rel.len
    have := h.hkept
    omega
  · intro j hj
    rcases hst.2 j hj with q | q
    · exact h.sf j q
    · have := h.chg.size; omega

theorem snap_cur (v : Value) (C n k : Int) (row col : Nat) (pend : Bool) : (snapL v C n k row col pend).toArray.extract 5 8 = curA row col pend := rfl

def otherB : List Nat := [10, 27, 44, 61, 78, 0, 95, 5, 10, 7, 27, 6, 3, 44, 5, 5, 8, 61]
theorem other_at (i : Nat) (hi : i < 18) : ∃ x : Nat, x < 256 ∧ (#[Value.int .u8 10, .int .u8 27, .int .u8 44, .int .u8 61, .int .u8 78, .int .u8 0, .int .u8 95, .int .u8 5, .int .u8 10, .int .u8 7, .int .u8 27, .int .u8 6, .int .u8 3, .int .u8 44, .int .u8 5, .int .u8 5, .int .u8 8, .int .u8 61] : Array Value)[i]? = some (.int .u8 x) := by
  have e : (#[Value.int .u8 10, .int .u8 27, .int .u8 44, .int .u8 61, .int .u8 78, .int .u8 0, .int .u8 95, .int .u8 5, .int .u8 10, .int .u8 7, .int .u8 27, .int .u8 6, .int .u8 3, .int .u8 44, .int .u8 5, .int .u8 5, .int .u8 8, .int .u8 61] : Array Value) = (otherB.map fun x => Value.int .u8 (x : Nat)).toArray := rfl
  have hb : ∀ x ∈ otherB, x < 256 := by decide
  have hl : i < otherB.length := hi
  refine ⟨otherB[i], hb _ (List.getElem_mem hl), ?_⟩
  rw [e, List.getElem?_toArray, List.getElem?_map, List.getElem?_eq_getElem hl]
  rfl

theorem c3 (w : World) (n1 n2 : Int) (p3 : Option Addr) (k4 k5 : Nat) (gl : Glob w) (h3 : 3 ≤ w.heap.size) (ha : BytesArg w p3 k4) :
    Calls Tryz.prog 3 #[.int .i64 n1, .int .i64 n2, .slice p3 k4 k5] w fun e w' => e = .returned (.bool true) ∧ Chg Non w w' := by
  refine r3 _ _ _ _ _ _ _ ?_
  unfold V3
  intro X6 hX6
  have key : ∀ (R C : Nat) (p9 : Option Addr) (k10 k11 : Nat) (w12 : World), 1 ≤ R ∧ R ≤ 6 → 1 ≤ C ∧ C ≤ 16 → k10 ≤ 80 → Chg Non w w12 → BytesArg w12 p9 k10 → X6 [.int .i64 R, .int .i64 C, .slice p9 k10 k11] w12 := by
    intro R C p9 k10 k11 w12 hR hC hk g12 harg
    refine hX6 _ _ _ _ _ _ fun _ => ?_
    clear hX6
    have s12 := g12.size
    have gl12 := gl.non g12
    refine Calls.then (c4 w12 R C (by omega) hC (by omega)) ?_
    rintro e w15 ⟨t, p, s, vw, S, rfl, hT, hru, hke, hr0, hc0, hp0, lt, lp, lvw, lsf, g15⟩
    refine ⟨_, rfl, nw ?_⟩
    intro k17 w18 e18 s18 b18 g18
    have s15 := g15.size
    refine br_f rfl ?_
    refine ⟨fun vs w' => ∃ n : Nat, vs = [.int .i64 n] ∧ n ≤ R ∧ TermAt w' t p s vw R C S ∧ Glob w' ∧ Chg Non w12 w' ∧ ∃ v L, MP w' w12.heap.size k17 R C v L ∧ L.length = n, fun vs _ => match vs with | [.int _ j] => (1000 - j).toNat | _ => 0, ?_, ?_⟩
    · refine ⟨0, rfl, by omega, hT.non g18, (gl12.non g15).non g18, g15.trans g18, .slice none 0 0, [], ⟨b18, World.ownsRow_nil _ _ _ _, by simp, by simp, List.Pairwise.nil, by omega, ?_, by simp⟩, rfl⟩
      intro g hg; cases hg
    rintro n21 w22 _ ⟨n, hn, hnR, hT22, gl22, g22, v, L, hM22, hLn⟩
    simp only [List.cons.injEq, Value.int.injEq, true_and, and_true] at hn
    subst hn
    have s22 := g22.size
    refine br_dec (fun hlt => ?_) fun hge => ?_
    · -- a row more
      obtain ⟨a, c, hv, _⟩ := own_shape hM22.own
      have hb22 := hM22.blk
      rw [hv] at hb22
      refine ⟨_, rfl, _, _, _, rd1 hb22 (by rfl), fun _ => True, fun u w' => ∃ q, u = .slice (some ⟨q, 0, none⟩) C C ∧ blk w' q = some (.cells (mcel (List.replicate C 0)).toArray 5) ∧ w22.heap.size ≤ q, ?_, ?_, ?_⟩
      · rintro u a b ⟨q, e, h1, h2⟩ hb
        exact ⟨q, e, (Chg.of_below hb).get h1 (not_non _), h2⟩
      · refine all_below ?_
        intro w32 s32 g32
        refine ⟨by omega, by omega, by omega, by omega, nw ?_⟩
        intro q w' e s b g
        refine ⟨g.below, trivial, q, by rw [Int.toNat_natCast], ?_, by omega⟩
        rw [b, Int.toNat_natCast, Nat.mul_one, zero_bytes]
      rintro p35 k36 k37 _
      refine ⟨fun _ => True, fun u w' => ∃ q, u = .slice (some ⟨q, 0, none⟩) 1 1 ∧ blk w' q = some (.cells #[.slice p35 k36 k37] 22) ∧ w22.heap.size ≤ q, fun u => grows_blk u _ _ _, ?_, ?_⟩
      · rintro w41 ⟨hb41, _⟩
        have := hb41.size
        refine nw ?_
        intro q w' e s b g
        exact ⟨g.below, trivial, q, rfl, b, by omega⟩
      rintro p44 k45 k46 _ w47 ⟨⟨hb47, q, hq, bq, lq⟩, qq, hqq, bqq, lqq⟩
      simp only [Value.slice.injEq] at hq hqq
      obtain ⟨rfl, rfl, rfl⟩ := hq
      obtain ⟨rfl, rfl, rfl⟩ := hqq
      have g47 : Chg Non w22 w47 := .of_below hb47
      have hM47 := hM22.non g47
      have hT47 := hT22.non g47
      have s47 := g47.size
      obtain ⟨hu, i0, z, hi0, hz, hsz, hzs, hby, hpos⟩ := elByt
      obtain ⟨v', w51, hrun, ho, hc, hnil, hblk⟩ := app_own (P := Tryz.prog) w47 28 28 22 i0 z 1 hu hi0 hz hsz hzs hpos v L.length (L.map (mhdr k37)) hM47.own ⟨qq, 0, none⟩ 1 1 [.slice (some ⟨q, 0, none⟩) k37 k37] rfl (cells_of bqq (by rfl))
        (by intro u hu; rw [List.mem_singleton] at hu; subst hu; rfl) (by unfold maxLen; omega) (by rw [hby]; omega)
      obtain ⟨a', c', rfl, _⟩ := own_shape ho
      have nv : ∀ {j : Nat} {c : Array Value} {T : TypeId} {f : Nat × Nat}, blk w47 j = some (.cells c T f) → T ≠ 22 → ¬ OwnB v j := fun hj hT => own_ne hM47.own hj hT
      have b51 := hc.get hM47.blk (nv hM47.blk (by decide))
      refine ⟨a', L.length + 1, c', w51, by rw [← hv]; exact hrun, _, rfl, fw b51 (by (first | exact Nat.le_of_ble_eq_true rfl | (simp; done) | omega)), putL (l' := [.slice a' (L.length + 1) c', .int .i64 R, .int .i64 k37, .int .i64 0, .int .i64 0, .bool false]) b51 (by rfl) ?_⟩
      intro w53 s53 b53 g53
      have nk : ∀ {j : Nat} {c : Array Value} {T : TypeId} {f : Nat × Nat}, blk w51 j = some (.cells c T f) → T ≠ 32 → ¬ In [k17] j := fun hj hT => not_in_cons (blk_ne hj b51 hT) (not_in_nil _)
      have bq53 : blk w53 q = some (.cells (mcel (List.replicate k37 0)).toArray 5) := g53.get (hc.get bq (nv bq (by decide))) (nk (hc.get bq (nv bq (by decide))) (by decide))
      have hqn : ∀ x ∈ L, x.b ≠ q := fun x hx e => by have := blk_lt (hM22.rows x hx); omega
      have gF : Chg (MC w12.heap.size w47) w47 w53 := by
        refine (hc.mono fun j hj hf => ?_ : Chg (MC w12.heap.size w47) w47 w51).trans' g53 fun j hj hf => ?_
        · obtain ⟨cur, hcur⟩ := own_blk hM47.own hf.symm
          exact ⟨hM22.lo.2.1 j hf.symm, _, _, _, hcur, .inr (.inl rfl)⟩
        · unfold In at hf; rw [List.mem_singleton] at hf; subst hf
          exact ⟨hM22.lo.1, _, _, _, hM47.blk, .inl rfl⟩
      have sF := gF.size
      refine ⟨by unfold inInt; omega, ⟨n + 1, by simp, by omega, hT47.mc gF, glob_mc (gl22.non g47) gF (by omega), chg_mc (g22.trans g47) gF, _, L ++ [⟨q, List.replicate k37 0⟩], ⟨b53, ?_, ?_, ?_, ?_, ⟨hM22.lo.1, ?_, ?_⟩⟩, by rw [List.length_append, hLn]; rfl⟩, by show ((1000 : Int) - ((n : Int) + 1)).toNat < ((1000 : Int) - (n : Int)).toNat; omega⟩
      · rw [List.length_append, List.map_append]
        refine own_next ho g53 fun j hj => ?_
        obtain ⟨cur, hcur⟩ := own_blk ho hj
        exact nk hcur (by decide)
      · intro x hx
        rcases List.mem_append.1 hx with hx | hx
        · have h1 := hM47.rows x hx
          have h2 := hc.get h1 (nv h1 (by decide))
          exact g53.get h2 (nk h2 (by decide))
        · rw [List.mem_singleton] at hx; subst hx; exact bq53
      · intro x hx
        rcases List.mem_append.1 hx with hx | hx
        · exact hM22.zero x hx
        · rw [List.mem_singleton] at hx; subst hx; rfl
      · rw [List.map_append, List.nodup_append]
        refine ⟨hM22.nodup, by simp, fun x hx y hy => ?_⟩
        obtain ⟨z, hz, rfl⟩ := List.mem_map.1 hx
        simp at hy; subst hy
        exact hqn z hz
      · intro j hj
        rcases hblk j hj with e | e
        · exact hM22.lo.2.1 j e
        · omega
      · intro x hx
        rcases List.mem_append.1 hx with hx | hx
        · exact hM22.lo.2.2 x hx
        · rw [List.mem_singleton] at hx; subst hx
          show w12.heap.size ≤ q; omega
    -- the bytes, one after the other
    have hnR' : n = R := by omega
    have hI0 : Inv w12 t p s vw k17 R C 0 w22 S ⟨List.replicate R (List.replicate C 0), 0, 0, false⟩ :=
      ⟨hT22, hM22.done (by omega) (by omega) (by omega), ⟨hru, hr0, hc0, hp0, by rw [hke]; simp⟩, gl22, g22, by rw [hke]; exact Nat.le_refl _, lsf, lp⟩
    refine ⟨fun vs w' => ∃ (b : Bool) (i : Nat) (S : SS) (m : MS), vs = [.bool b, .int .i64 i] ∧ i ≤ k10 ∧ Inv w12 t p s vw k17 R C i w' S m, fun vs _ => match vs with | [_, .int _ j] => (1000 - j).toNat | _ => 0, ⟨false, 0, S, _, rfl, by omega, hI0⟩, ?_⟩
    clear hI0 hT22 hT hru hke hr0 hc0 hp0 lsf b18 g18 hM22
    rintro b56 n57 w58 _ ⟨b, i, S, m, hbi, hik, hI⟩
    simp only [List.cons.injEq, Value.int.injEq, Value.bool.injEq, true_and, and_true] at hbi
    obtain ⟨rfl, rfl⟩ := hbi
    refine br_dec (fun hlt => ?_) fun hge => ⟨rfl, g12.trans hI.chg⟩
    obtain ⟨bt, hbt, kab, koff, rfl, hcell⟩ := harg i (by omega)
    refine ⟨by omega, hlt, _, _, rfl, _, by rw [Int.toNat_natCast, Nat.mul_one]; exact hcell w58 hI.chg, ?_⟩
    have s58 := hI.chg.size
    have ok := keyOf_ok bt hbt
    have h5 := c5 w58 bt hbt
    generalize (keyOf bt).1 = kk at ok h5
    generalize (keyOf bt).2 = r at ok h5
    refine Calls.then h5 ?_
    clear h5
    rintro e w64 ⟨rfl, g64⟩
    refine ⟨_, rfl, nw ?_⟩
    intro k66 w67 e67 s67 b67 g67
    refine ⟨rfl, one_lit rfl, fw b67 (by (first | exact Nat.le_of_ble_eq_true rfl | (simp; done) | omega)), puts0 b67 (by rfl) ?_⟩
    intro w68 s68 b68 g68
    have g68' : Chg Non w58 w68 := (g64.trans g67).trans' g68 (by
      intro j hj q
      have := g64.size
      rcases List.mem_singleton.1 q with rfl
      omega)
    refine ⟨_, rdall b68 (by rfl), rfl, nw ?_⟩
    intro k70 w71 e71 s71 b71 g71
    refine Calls.then (c6 w71 kk r k70 ok b71) ?_
    rintro e w73 ⟨v73, rfl, ho73, g73⟩
    obtain ⟨a73, c73, rfl, _⟩ := own_shape ho73
    refine ⟨_, _, _, _, rfl, ?_⟩
    intro X78 hX78
    have hconv := conv_back w73 (kbytes kk r) _ (by have := (kbytes_size kk r ok).1; omega) ho73
    refine br_f rfl ⟨_, _, hconv, ?_⟩
    have g5873 : Chg Non w58 w73 := (g68'.trans g71).trans g73
    have hT73 := hI.term.non g5873
    have gl73 := hI.glob.non g5873
    obtain ⟨q1, q2, q3, q4, q5, q6, q7, q8⟩ := kb_run ok
    refine Calls.then (c7 w73 t p s vw R C S (kbytes kk r) (kb kk r) (kb_list ok) hT73 gl73 q4 (by omega) q3 q2 q8 (by rw [q1]; exact q7) (by rw [q1]; have := hI.hkept; omega)) ?_
    rintro e w151 ⟨S', n152, rfl, hn152, hT151, hst, hacts⟩
    rw [q1] at hacts
    refine ⟨_, rfl, br_f (by simp; omega) (hX78 _ _ fun _ => ?_)⟩
    have b73 : blk w73 k66 = some (.cells (keyA kk r) 35) := (g71.trans g73).get b68 (not_non _)
    have b151 : blk w151 k66 = some (.cells (keyA kk r) 35) := hst.1.get b73 (hT73.not_tf b73 (by decide) (by decide) (by decide) (by decide) (by decide) (by decide) (by decide))
    have hM151 : MIs w151 w12.heap.size k17 R C m := (hI.sheet.non g5873).tf hT73 hst.1
    have gl151 := hT73.glob gl73 hst.1
    have g151 : Chg Non w12 w151 := chg_tf (hI.chg.trans g5873) hst.1 hI.hp hI.sf
    have s151 := g151.size
    refine ⟨_, rdall b151 (by rfl), ?_⟩
    have hlen : m.rows.length < 999 := by have := hI.rel.len; have := hI.hkept; omega
    refine Calls.then (c8 w151 w12.heap.size k17 R C m kk r ok hM151 hlen s151) ?_
    rintro e w84 ⟨rfl, hM84, g84⟩
    have hst' : TStep p s w58 S w151 S' := (TStep.non g5873).trans hst
    have hI' := hI.press ok g151 hT151 hst' hacts (by omega) hM84 g84 gl151
    generalize mpress R C kk r m = m' at hM84 hI'
    have hkept' := hI'.hkept
    have hlen' := hI'.rel.len
    have s84 := hI'.chg.size
    refine ⟨rfl, ?_⟩
    refine Calls.then (c9 w84 t p s vw R C S' hI'.term (by omega) (by omega)) ?_
    rintro e w86 ⟨v86, rfl, hnl, g86⟩
    obtain ⟨l, hl1, hl2, hl3, _, _⟩ := hnl.ex
    have htx : l.map (·.rs) = m'.rows := by
      have h1 : (txts l).map (·.1) = l.map (·.rs) := by unfold txts; rw [List.map_map]; rfl
      rw [← h1, hl3, List.map_append, ← hI'.rel.rows]
      unfold txts runes
      rw [List.map_map, List.map_map]; rfl
    have hll : l.length = m'.rows.length := by rw [← htx, List.length_map]
    obtain ⟨g86b, cap86, cur86, rfl, _⟩ := own_slice hl1 (by omega)
    refine ⟨_, _, _, _, _, rfl, ?_⟩
    refine Calls.then (c10 w86 C g86b cap86 l (hI'.glob.non g86) hl1 hl2 (by omega) (by omega)) ?_
    rintro e w93 ⟨v93, rfl, ho93, _, g93⟩
    obtain ⟨g93b, cap93, cur93, rfl, hb93, _, _, _, htk93⟩ := own_slice ho93 (by omega)
    rw [Nat.mul_one] at htk93
    refine ⟨_, _, _, _, rfl, ?_⟩
    intro X98 hX98
    have g8493 := g86.trans g93
    have hM93 := hI'.sheet.non g8493
    obtain ⟨vM, L', hMA, hLr⟩ := id hM93
    obtain ⟨gM, capM, curM, rfl, hbM, htkM⟩ := hMA.slice
    have hLl : L'.length = m'.rows.length := by rw [← hLr, List.length_map]
    refine br_f rfl (br_f rfl (br_f rfl ⟨_, rfl, _, _, _, rd1 hMA.blk (by rfl), br_f (by simp; omega) ⟨_, rfl, curA m'.row m'.col m'.pend, rdx hMA.blk (by (first | exact Nat.le_of_ble_eq_true rfl | (simp; done) | omega)) (by rfl), ?_⟩⟩))
    have hT93 := hI'.term.non g8493
    have s93 := g8493.size
    refine ⟨fun u => ∃ v n, u = .agg (snapL v C n (kept S'.ss).length S'.row S'.col S'.pend).toArray, fun _ _ => True, fun _ _ _ _ _ => trivial, ?_, ?_⟩
    · refine all_below ?_
      intro w141 s141 g141
      refine Calls.then (c11 w141 t p s vw R C S' (hT93.non g141) (by omega) (by omega)) ?_
      rintro e w143 ⟨v, n, rfl, g143⟩
      exact ⟨_, rfl, g143.below, ⟨v, n, rfl⟩, trivial⟩
    rintro c145 ⟨v, n, hc145⟩
    rw [Value.agg.injEq] at hc145
    subst hc145
    refine ⟨true, ?_, ?_⟩
    · rw [snap_cur, hI'.rel.row, hI'.rel.col, hI'.rel.pend]
      exact isEq30 _ (by have := hMA.hrow; omega) _ (by have := hMA.hcol; omega) _
    rintro w147 ⟨hb147, _⟩
    refine br_f rfl (hX98 _ _ fun _ => ?_)
    have g147 : Chg Non w84 w147 := g8493.trans (.of_below hb147)
    have g93147 : Chg Non w93 w147 := .of_below hb147
    refine ⟨fun vs w' => ∃ (b : Bool) (j : Nat), vs = [.bool b, .int .i64 j] ∧ j ≤ l.length ∧ Chg Non w93 w', fun vs _ => match vs with | [_, .int _ j] => (1000 - j).toNat | _ => 0, ⟨_, 0, rfl, by omega, g93147⟩, ?_⟩
    rintro b104 n105 w106 _ ⟨bb, j, hbj, hjl, g106⟩
    simp only [List.cons.injEq, Value.int.injEq, Value.bool.injEq, true_and, and_true] at hbj
    obtain ⟨rfl, rfl⟩ := hbj
    refine br_dec (fun hlt2 => ?_) fun hge2 => ?_
    · have hj : j < l.length := by omega
      have hjL : j < L'.length := by omega
      have erow : l[j].rs = L'[j].bs := by
        have h1 : (l.map (·.rs))[j]'(by simpa using hj) = (L'.map (·.bs))[j]'(by simpa using hjL) := by
          simp only [htx, hLr]
        simpa using h1
      have h1 : w106.cell? ⟨g93b, j, none⟩ = some (.string (txt l[j].rs)) := by
        refine rd1 (g106.get hb93 (not_non _)) ?_
        have h1 : (cur93.toList.take l.length)[j]? = some (.string (txt l[j].rs)) := by rw [htk93]; unfold strs; simp [hj]
        rw [List.getElem?_take_of_lt hj] at h1
        simpa using h1
      have h2 : w106.cell? ⟨gM, j, none⟩ = some (mhdr C L'[j]) := by
        refine rd1 (g106.get hbM (not_non _)) ?_
        have h1 : (curM.toList.take L'.length)[j]? = some (mhdr C L'[j]) := by rw [htkM]; simp [hjL]
        rw [List.getElem?_take_of_lt hjL] at h1
        simpa using h1
      have hmem := List.getElem_mem hjL
      have hru : ∀ r ∈ L'[j].bs, Ru r := by
        rw [← erow]
        obtain ⟨c, hc, hin, _⟩ := (hl2.row _ (List.getElem_mem hj)).ex
        exact hin.ok
      refine ⟨by omega, by omega, _, _, rfl, _, by rw [Int.toNat_natCast, Nat.mul_one, Nat.zero_add]; exact h1, _, rfl, _, _, _, rd1 (g106.get hMA.blk (not_non _)) (by rfl), by omega, by omega, _, _, rfl, _, _, _, by rw [Int.toNat_natCast, Nat.mul_one, Nat.zero_add]; exact h2, txt L'[j].bs, ?_, ?_⟩
      · refine all_below ?_
        intro w122 s122 g122
        refine Calls.then (c12 w122 L'[j].b C L'[j].bs (g122.get (g106.get (hMA.rows _ hmem) (not_non _)) (not_non _)) (hMA.len _ hmem) (by omega) hru) ?_
        rintro e w124 ⟨rfl, g124⟩
        exact ⟨_, rfl, g124.below, rfl⟩
      · refine all_below ?_
        intro w126 s126 g126
        refine br_f (by rw [erow, beq_self_eq_true]; rfl) ⟨by unfold inInt; omega, ⟨b104, j + 1, by simp, by omega, g106.trans g126⟩, by show ((1000 : Int) - ((j : Int) + 1)).toNat < ((1000 : Int) - (j : Int)).toNat; omega⟩
    · have g106' := g8493.trans g106
      exact ⟨by unfold inInt; omega, ⟨b104, i + 1, S', m', by simp, by omega, ⟨hI'.term.non g106', hI'.sheet.non g106', hI'.rel, hI'.glob.non g106', hI'.chg.trans g106', hI'.hkept, hI'.sf, hI'.hp⟩⟩, by show ((1000 : Int) - ((i : Int) + 1)).toNat < ((1000 : Int) - (i : Int)).toNat; omega⟩
  have other : ∀ (k : Nat) (w' : World), New w (.cells #[.int .u8 10, .int .u8 27, .int .u8 44, .int .u8 61, .int .u8 78, .int .u8 0, .int .u8 95, .int .u8 5, .int .u8 10, .int .u8 7, .int .u8 27, .int .u8 6, .int .u8 3, .int .u8 44, .int .u8 5, .int .u8 5, .int .u8 8, .int .u8 61] 5) k w' → ∃ (p : Option Addr) (n c : Nat) (w'' : World), Runs Tryz.prog (convert 22 22 (.slice (some ⟨k, 0, none⟩) 18 18)) w' (.slice p n c) w'' ∧ X6 [.int .i64 2, .int .i64 4, .slice p n c] w'' := by
    rintro _ _ ⟨rfl, rfl⟩
    refine ⟨_, _, _, _, Lib.run_convert_bytes_const w 22 5 _ 18 18 Tryz.underlying22 Tryz.underlying5, key 2 4 _ 18 18 _ (by omega) (by omega) (by omega) ((Chg.refl _ _).alloc _) ?_⟩
    intro j hj
    obtain ⟨x, hx, hxx⟩ := other_at j hj
    exact ⟨x, hx, _, 0, rfl, fun w2 g2 => rd1 (g2.get (blk_alloc_new _ _) (not_non _)) (by rw [Nat.zero_add]; exact hxx)⟩
  refine br_dec (fun _ => other) fun h1 => br_dec (fun _ => other) fun h2 => br_dec (fun _ => other) fun h3 => br_dec (fun _ => other) fun h4 => br_dec (fun _ => other) fun h5 => ?_
  have e1 : n1 = ((n1.toNat : Nat) : Int) := by omega
  have e2 : n2 = ((n2.toNat : Nat) : Int) := by omega
  rw [e1, e2]
  exact key n1.toNat n2.toNat p3 k4 k5 w (by omega) (by omega) (by omega) (Chg.refl _ _) ha
end Go.Proofs
