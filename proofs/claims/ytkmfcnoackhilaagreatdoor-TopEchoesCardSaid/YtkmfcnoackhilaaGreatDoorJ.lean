/-
Contracts: the parser, the ring, the history, the screen.
-/
import Derived.Test.YtkmfcnoackhilaaGreatDoorI
set_option linter.unusedVariables false
set_option linter.unusedSimpArgs false
namespace Go.Proofs
open Go Go.X Go.RowKit
set_option linter.unusedVariables false
set_option linter.unusedSimpArgs false
set_option maxRecDepth 100000

theorem own_ne {w : World} {e : TypeId} {size : Nat} {v : Value} {n : Nat} {xs : List Value} {k : Nat} {c : Array Value} {T : TypeId} {f : Nat × Nat} (h : w.ownsRow 0 e size v n xs) (hk : blk w k = some (.cells c T f)) (hT : T ≠ e) : ¬ OwnB v k := by
  intro ho
  rcases h.2 with ⟨rfl, _⟩ | ⟨g, cap, cur, rfl, _, hg, _⟩
  · cases ho
  · simp only [OwnB, Value.ownBlock, Option.some.injEq] at ho
    subst ho
    have hg' : blk w k = some (.cells cur e) := hg
    rw [hk] at hg'
    injection hg' with e; injection e with e1 e2; exact hT e2
theorem own_ne_own {w : World} {e e2 : TypeId} {size size2 : Nat} {v v2 : Value} {n n2 : Nat} {xs xs2 : List Value} (h : w.ownsRow 0 e size v n xs) (h2 : w.ownsRow 0 e2 size2 v2 n2 xs2) (hT : e2 ≠ e) : ∀ g, v2.ownBlock = some g → ¬ OwnB v g := by
  intro g hg
  rcases h2.2 with ⟨rfl, _⟩ | ⟨g2, cap, cur, rfl, _, hg2, _⟩
  · cases hg
  · simp only [Value.ownBlock, Option.some.injEq] at hg
    subst hg
    exact own_ne h hg2 hT

theorem c120 (w : World) (p : Nat) (lo hi st : Int) (c : Int) (hb : blk w p = some (.cells (parL lo hi st).toArray 78)) (h0 : 0 ≤ c) (h1 : c < 128) :
    Calls Tryz.prog 120 #[.pointer (some ⟨p, 0, none⟩), .int .u8 c] w fun e w' => ∃ k, e = .returned (.slice (some ⟨k, 0, none⟩) 1 1) ∧ blk w' k = some (.cells #[.int .i32 c] 21) ∧ w.heap.size ≤ k ∧ ParAt w' p st ∧ Chg (In [p]) w w' := by
  have hlt := blk_lt hb
  refine r120 _ _ _ _ ?_
  unfold V120
  refine ⟨_, rfl, fw hb (by (first | exact Nat.le_of_ble_eq_true rfl | (simp; done) | omega)), putL hb (by rfl) ?_⟩
  intro w1 s1 b1 g1
  refine ⟨_, rfl, fw b1 (by (first | exact Nat.le_of_ble_eq_true rfl | (simp; done) | omega)), putL b1 (by rfl) ?_⟩
  intro w2 s2 b2 g2
  refine ⟨_, rfl, fw b2 (by (first | exact Nat.le_of_ble_eq_true rfl | (simp; done) | omega)), putL b2 (by rfl) ?_⟩
  intro w3 s3 b3 g3
  intro K hK
  clear hK
  refine br_t cp (nw ?_)
  intro k w4 e4 s4 b4 g4
  have hw : IntKind.i32.wrap c = c := by rw [IntKind.wrap_i32]; omega
  rw [hw] at b4
  exact ⟨k, rfl, b4, by omega, ⟨_, _, g4.get b3 (not_non _)⟩, ((g1.trans g2).trans g3).trans g4.non⟩

theorem c95 (w : World) (p : Nat) (st c : Int) (h : ParAt w p st) (h0 : 0 ≤ c) (h1 : c < 128) :
    Calls Tryz.prog 95 #[.pointer (some ⟨p, 0, none⟩), .int .u8 c] w fun e w' => ∃ k, e = .returned (.slice (some ⟨k, 0, none⟩) 1 1) ∧ blk w' k = some (.cells #[.int .i32 c] 21) ∧ w.heap.size ≤ k ∧ ParAt w' p st ∧ Chg (In [p]) w w' := by
  obtain ⟨lo, hi, hb⟩ := h
  refine r95 _ _ _ _ ?_
  unfold V95
  refine br_f rfl ?_
  intro K hK
  clear hK
  refine ⟨_, rfl, _, _, _, rd1 hb (by rfl), br_t rfl ?_⟩
  refine Calls.then (c120 w p lo hi st c hb h0 h1) ?_
  rintro e w1 ⟨k, rfl, q⟩
  exact ⟨_, _, _, rfl, k, rfl, q⟩

theorem c76 (w : World) (p bb cap : Nat) (st : Int) (bs : List Int) (cb : Array Value) (T : TypeId) (f : Nat × Nat) (h : ParAt w p st) (hbb : blk w bb = some (.cells cb T f)) (hT : T ≠ 78) (hbs : ∀ i (hi : i < bs.length), cb[i]? = some (.int .u8 bs[i])) (h128 : ∀ b ∈ bs, 0 ≤ b ∧ b < 128) (hm : bs.length ≤ 1000000) :
    Calls Tryz.prog 76 #[.pointer (some ⟨p, 0, none⟩), .slice (some ⟨bb, 0, none⟩) bs.length cap] w fun e w' => ∃ v, e = .returned v ∧ w'.ownsRow 0 21 1 v bs.length (bs.map (.int .i32)) ∧ (∀ b, v.ownBlock = some b → w.heap.size ≤ b) ∧ ParAt w' p st ∧ Chg (In [p]) w w' := by
  have hplt := h.lt
  have hbp : bb ≠ p := by
    obtain ⟨lo, hi, hb⟩ := h
    rintro rfl; rw [hbb] at hb; injection hb with e; injection e with _ e; exact hT e
  have hblt := blk_lt hbb
  refine r76 _ _ _ _ _ _ ?_
  unfold V76
  refine ⟨fun vs w' => ∃ (v : Value) (j : Nat), vs = [v, .int .i64 j] ∧ j ≤ bs.length ∧ w'.ownsRow 0 21 1 v j ((bs.take j).map (.int .i32)) ∧ (∀ b, v.ownBlock = some b → w.heap.size ≤ b) ∧ ParAt w' p st ∧ Chg (In [p]) w w',
    fun vs _ => match vs with | [_, .int _ j] => (bs.length - j).toNat | _ => 0, ⟨_, 0, rfl, by omega, World.ownsRow_nil _ _ _ _, (fun b hb => by cases hb), h, Chg.refl _ _⟩, ?_⟩
  rintro a k1 k2 n w1 _ ⟨v, j, hv, hj, hown, hvb, hp1, g1⟩
  simp only [List.cons.injEq, Value.int.injEq, true_and, and_true] at hv
  obtain ⟨rfl, rfl⟩ := hv
  have s1 := g1.size
  refine br_dec (fun hlt => ?_) fun hge => ?_
  · have hi : j < bs.length := by omega
    have hb1 : blk w1 bb = _ := g1.get hbb (not_in_cons hbp (not_in_nil _))
    refine ⟨by omega, by omega, _, _, rfl, _, rd1 hb1 (by rw [Int.toNat_natCast]; simpa using hbs j hi), ?_⟩
    refine Calls.then (c95 w1 p st bs[j] hp1 (h128 _ (List.getElem_mem _)).1 (h128 _ (List.getElem_mem _)).2) ?_
    rintro e w2 ⟨k, rfl, hk, hkn, hp2, g2⟩
    have s2 := g2.size
    have hown2 : w2.ownsRow 0 21 1 (.slice a k1 k2) j ((bs.take j).map (.int .i32)) := own_next hown g2 fun g hg => not_in_cons (by
      have := hvb g hg; omega) (not_in_nil _)
    obtain ⟨v', w3, hr, ho3, hb3, g3⟩ := app_loc elRune w.heap.size hown2 hvb (by omega) _ 1 [.int .i32 bs[j]] (own_one hk rfl) (by intro u hu; rw [List.mem_singleton] at hu; subst hu; rfl) (by omega) (by unfold maxLen; omega)
    obtain ⟨a', c', rfl, _⟩ := own_shape ho3
    refine ⟨_, _, _, rfl, _, _, _, w3, hr, by unfold inInt; omega, ⟨_, j + 1, by simp, by omega, ?_, hb3, ?_, ?_⟩, ?_⟩
    · have : (bs.take (j + 1)).map (Value.int .i32) = (bs.take j).map (.int .i32) ++ [.int .i32 bs[j]] := by
        rw [List.take_succ_eq_append_getElem hi, List.map_append]; rfl
      rw [this]; exact ho3
    · obtain ⟨lo, hi', hpb⟩ := hp2
      exact ⟨lo, hi', g3.get hpb (own_ne hown2 hpb (by decide))⟩
    · refine (g1.trans g2).trans' g3 fun i hi' ho => ?_
      have := hvb i (by unfold OwnB at ho; exact ho.symm)
      omega
    · show ((bs.length : Int) - ((j : Int) + 1)).toNat < ((bs.length : Int) - (j : Int)).toNat
      omega
  · have : j = bs.length := by omega
    subst this
    exact ⟨_, rfl, by simpa using hown, hvb, hp1, g1⟩

def Ok (st r : Int) : Prop := (st = 0 ∧ ((32 ≤ r ∧ r ≤ 126) ∨ (r = 8 ∨ r = 9 ∨ r = 10 ∨ r = 13) ∨ r = 27)) ∨ (st = 1 ∧ r = 91) ∨ (st = 3 ∧ 64 ≤ r ∧ r ≤ 126)
def pst (st r : Int) : Int := if st = 0 then (if r = 27 then 1 else 0) else if st = 1 then 3 else 0
def pacts (st r : Int) : List (Int × Int) := if st = 0 then (if r = 27 then [] else if r < 32 then [(2, r)] else [(1, r)]) else if st = 1 then [] else [(4, r)]
def prun : Int → List Int → List (Int × Int)
  | _, [] => []
  | st, r :: rs => pacts st r ++ prun (pst st r) rs
def pend : Int → List Int → Int
  | st, [] => st
  | st, r :: rs => pend (pst st r) rs
def pok : Int → List Int → Prop
  | _, [] => True
  | st, r :: rs => Ok st r ∧ pok (pst st r) rs
theorem prun_append : ∀ (a : List Int) (st : Int) (b : List Int), prun st (a ++ b) = prun st a ++ prun (pend st a) b
  | [], st, b => rfl
  | r :: a, st, b => by simp only [List.cons_append, prun, pend, prun_append a, List.append_assoc]
theorem pend_append : ∀ (a : List Int) (st : Int) (b : List Int), pend st (a ++ b) = pend (pend st a) b
  | [], st, b => rfl
  | r :: a, st, b => by simp only [List.cons_append, pend, pend_append a]
theorem pok_append : ∀ (a : List Int) (st : Int) (b : List Int), pok st (a ++ b) → pok (pend st a) b
  | [], st, b, h => h
  | r :: a, st, b, h => pok_append a _ b h.2

theorem c77 (w : World) (p : Nat) (st r : Int) (h : ParAt w p st) (ok : Ok st r) : Calls Tryz.prog 77 #[.pointer (some ⟨p, 0, none⟩), .int .i32 r] w fun e w' => StepTo w p (pst st r) (pacts st r) e w' := by
  rcases ok with ⟨rfl, h1 | h1 | rfl⟩ | ⟨rfl, rfl⟩ | ⟨rfl, h1, h2⟩
  · have : pst 0 r = 0 := by unfold pst; rw [if_pos rfl, if_neg (by omega)]
    rw [this]
    have : pacts 0 r = [(1, r)] := by unfold pacts; rw [if_pos rfl, if_neg (by omega), if_neg (by omega)]
    rw [this]
    exact c77p w p r h h1.1 h1.2
  · have : pst 0 r = 0 := by unfold pst; rw [if_pos rfl, if_neg (by omega)]
    rw [this]
    have : pacts 0 r = [(2, r)] := by unfold pacts; rw [if_pos rfl, if_neg (by omega), if_pos (by omega)]
    rw [this]
    exact c77x w p r h h1
  · exact c77e w p h
  · exact c77b w p h
  · exact c77f w p r h h1 h2

theorem actsL_append (a b : List Act) : actsL (a ++ b) = actsL a ++ actsL b := by unfold actsL; rw [List.flatMap_append]

theorem c46 (w : World) (p bb cap : Nat) (bs : List Int) (cb : Array Value) (T : TypeId) (f : Nat × Nat) (h : ParAt w p 0) (hbb : blk w bb = some (.cells cb T f)) (hT : T ≠ 78) (hbs : ∀ i (hi : i < bs.length), cb[i]? = some (.int .u8 bs[i])) (h128 : ∀ b ∈ bs, 0 ≤ b ∧ b < 128) (hm : bs.length ≤ 1000) (ok : pok 0 bs) (hlen : (prun 0 bs).length ≤ 1000) (hend : pend 0 bs = 0) (hlens : ∀ j, (prun 0 (bs.take j)).length ≤ 1000) :
    Calls Tryz.prog 46 #[.pointer (some ⟨p, 0, none⟩), .slice (some ⟨bb, 0, none⟩) bs.length cap] w fun e w' => StepTo w p 0 (prun 0 bs) e w' := by
  have hplt := h.lt
  refine r46 _ _ _ _ _ _ ?_
  unfold V46
  refine br_f rfl ⟨_, rfl, ?_⟩
  refine Calls.then (c76 w p bb cap 0 bs cb T f h hbb hT hbs h128 (by omega)) ?_
  rintro e w1 ⟨v0, rfl, hr1, hv0, hp1, g1⟩
  obtain ⟨a0, c0, rfl, _⟩ := own_shape hr1
  have s1 := g1.size
  refine ⟨_, _, _, rfl, ?_⟩
  refine ⟨fun vs w' => ∃ (v : Value) (j : Nat) (l : List Act), vs = [v, .int .i64 j] ∧ j ≤ bs.length ∧ ActsV w' v l ∧ l.map (fun x => (x.k, x.r)) = prun 0 (bs.take j) ∧ (∀ b, v.ownBlock = some b → w.heap.size ≤ b) ∧ ParAt w' p (pend 0 (bs.take j)) ∧ w'.ownsRow 0 21 1 (.slice a0 bs.length c0) bs.length (bs.map (.int .i32)) ∧ Chg (In [p]) w w',
    fun vs _ => match vs with | [_, .int _ j] => (bs.length - j).toNat | _ => 0, ⟨_, 0, [], rfl, by omega, acts_nil _, rfl, (fun b hb => by cases hb), hp1, hr1, g1⟩, ?_⟩
  rintro a k1 k2 n w2 _ ⟨v, j, l, hv, hj, hacts, hl, hvb, hp2, hr2, g2⟩
  simp only [List.cons.injEq, Value.int.injEq, true_and, and_true] at hv
  obtain ⟨rfl, rfl⟩ := hv
  have s2 := g2.size
  refine br_dec (fun hlt => ?_) fun hge => ?_
  · have hi : j < bs.length := by omega
    obtain ⟨b, cap', hve, hblt, cur, hcur, hsz, htk⟩ := own_cells hr2 (by omega)
    injection hve with q1 q2 q3
    subst q1; subst q3
    have hcell : cur[j]? = some (.int .i32 bs[j]) := by
      have : (cur.toList.take (bs.length * 1))[j]? = some (.int .i32 bs[j]) := by rw [htk]; simp [hi]
      rw [List.getElem?_take, if_pos (by omega)] at this
      simpa using this
    refine ⟨by omega, by omega, _, _, rfl, _, rd1 hcur (by rw [Int.toNat_natCast]; simpa using hcell), ?_⟩
    have hsplit : bs.take (j + 1) = bs.take j ++ [bs[j]] := List.take_succ_eq_append_getElem hi
    have hok : Ok (pend 0 (bs.take j)) bs[j] := by
      have h1 : pok 0 (bs.take j ++ (bs[j] :: bs.drop (j + 1))) := by
        rw [← List.drop_eq_getElem_cons hi, List.take_append_drop]; exact ok
      exact (pok_append _ _ _ h1).1
    refine Calls.then (c77 w2 p _ bs[j] hp2 hok) ?_
    rintro e w3 ⟨v3, l3, rfl, hacts3, hl3, hp3, hvb3, g3⟩
    have s3 := g3.size
    obtain ⟨a3, c3, rfl, _⟩ := own_shape hacts3
    have hacts' : ActsV w3 (.slice a k1 k2) l := own_next hacts g3 fun g hg => not_in_cons (by have := hvb g hg; omega) (not_in_nil _)
    have hll : l.length = (prun 0 (bs.take j)).length := by rw [← hl]; simp
    have hl3l : l3.length = (pacts (pend 0 (bs.take j)) bs[j]).length := by rw [← hl3]; simp
    have hpa : (pacts (pend 0 (bs.take j)) bs[j]).length ≤ 1 := by unfold pacts; repeat' split
                                                                   all_goals simp
    have hj1 := hlens j
    obtain ⟨v', w4, hr4, ho4, hb4, g4⟩ := app_loc elAct w.heap.size hacts' hvb (by omega) _ l3.length (actsL l3) hacts3 (actsL_one l3) (by omega) (by unfold maxLen; omega)
    obtain ⟨a', c', rfl, _⟩ := own_shape ho4
    have hr3 : w3.ownsRow 0 21 1 (.slice (some ⟨b, 0, none⟩) bs.length c0) bs.length (bs.map (.int .i32)) := own_next hr2 g3 fun g hg => not_in_cons (by
      have := hv0 g hg; omega) (not_in_nil _)
    refine ⟨_, _, _, rfl, _, _, _, w4, hr4, by unfold inInt; omega, ⟨.slice a' (l.length + l3.length) c', j + 1, l ++ l3, by simp, by omega, ?_, ?_, hb4, ?_, ?_, ?_⟩, ?_⟩
    · unfold ActsV
      rw [List.length_append, actsL_append]; exact ho4
    · rw [hsplit, prun_append, List.map_append, hl, hl3]; simp [prun]
    · rw [hsplit, pend_append]
      obtain ⟨lo, hi', hpb⟩ := hp3
      exact ⟨lo, hi', g4.get hpb (own_ne hacts' hpb (by decide))⟩
    · exact own_next hr3 g4 (own_ne_own hacts' hr3 (by decide))
    · refine (g2.trans g3).trans' g4 fun i hi' ho => ?_
      have := hvb i (by unfold OwnB at ho; exact ho.symm)
      omega
    · show ((bs.length : Int) - ((j : Int) + 1)).toNat < ((bs.length : Int) - (j : Int)).toNat
      omega
  · have hjl : j = bs.length := by omega
    subst hjl
    rw [List.take_length] at hl hp2
    rw [hend] at hp2
    exact ⟨_, l, rfl, hacts, hl, hp2, hvb, g2⟩
end Go.Proofs

namespace Go.Proofs
open Go Go.X Go.RowKit
set_option linter.unusedVariables false
set_option linter.unusedSimpArgs false
set_option maxRecDepth 100000

structure Sht where
  sb : Nat
  v : Value
  l : List GRow
def shtA (v : Value) : Array Value := #[.int .i64 64, .int .i64 0, v]
structure ShtAt (w : World) (C : Nat) (s : Sht) : Prop where
  blk : blk w s.sb = some (.cells (shtA s.v) 259)
  lines : LinesV w s.v s.l
  rows : RowsAt w C s.l
theorem ShtAt.next {F : Nat → Prop} {w w' : World} {C : Nat} {s : Sht} (h : ShtAt w C s) (k : Chg F w w') (h1 : ¬ F s.sb) (h2 : ∀ g, s.v.ownBlock = some g → ¬ F g) (h3 : ∀ x ∈ s.l, ¬ F x.b) : ShtAt w' C s :=
  ⟨k.get h.blk h1, h.lines.next k h2, h.rows.next k h3⟩
theorem ShtAt.non {w w' : World} {C : Nat} {s : Sht} (h : ShtAt w C s) (k : Chg Non w w') : ShtAt w' C s := h.next k (not_non _) (fun g _ => not_non _) (fun x _ => not_non _)

theorem c160 (w : World) (sb : Nat) (v : Value) (hb : blk w sb = some (.cells (shtA v) 259)) : Calls Tryz.prog 160 #[.pointer (some ⟨sb, 0, none⟩)] w fun e w' => e = .returned (.bool false) ∧ Chg Non w w' := by
  refine r160 _ _ _ ?_
  unfold V160
  exact br_f rfl ⟨_, rfl, _, rd1 hb (by rfl), rfl, Chg.refl _ _⟩
theorem c113 (w : World) (sb : Nat) (v : Value) (l : List GRow) (hb : blk w sb = some (.cells (shtA v) 259)) (hl : LinesV w v l) : Calls Tryz.prog 113 #[.pointer (some ⟨sb, 0, none⟩)] w fun e w' => e = .returned (.int .i64 l.length) ∧ Chg Non w w' := by
  refine r113 _ _ _ ?_
  unfold V113
  refine Calls.then (c160 w sb v hb) ?_
  rintro e w1 ⟨rfl, g1⟩
  obtain ⟨a, c, rfl⟩ := hl.slice
  exact ⟨_, rfl, br_f rfl ⟨_, rfl, _, _, _, rd1 (g1.get hb (not_non _)) (by rfl), rfl, g1⟩⟩
theorem c347 (w : World) (sb : Nat) (v : Value) (hb : blk w sb = some (.cells (shtA v) 259)) : Calls Tryz.prog 347 #[.pointer (some ⟨sb, 0, none⟩)] w fun e w' => e = .returned (.int .i64 64) ∧ Chg Non w w' := by
  refine r347 _ _ _ ?_
  unfold V347
  refine Calls.then (c160 w sb v hb) ?_
  rintro e w1 ⟨rfl, g1⟩
  exact ⟨_, rfl, br_f rfl ⟨_, rfl, _, rd1 (g1.get hb (not_non _)) (by rfl), rfl, g1⟩⟩
theorem c348 (w : World) (sb : Nat) (v : Value) (hb : blk w sb = some (.cells (shtA v) 259)) : Calls Tryz.prog 348 #[.pointer (some ⟨sb, 0, none⟩)] w fun e w' => e = .returned (.int .i64 0) ∧ Chg Non w w' := by
  refine r348 _ _ _ ?_
  unfold V348
  refine Calls.then (c160 w sb v hb) ?_
  rintro e w1 ⟨rfl, g1⟩
  exact ⟨_, rfl, br_f rfl ⟨_, rfl, _, rd1 (g1.get hb (not_non _)) (by rfl), rfl, g1⟩⟩
theorem c335 (w : World) (sb : Nat) (v : Value) (l : List GRow) (hb : blk w sb = some (.cells (shtA v) 259)) (hl : LinesV w v l) (hm : l.length ≤ 64) : Calls Tryz.prog 335 #[.pointer (some ⟨sb, 0, none⟩)] w fun e w' => e = .returned (.int .i64 ((64 - l.length : Nat) : Int)) ∧ Chg Non w w' := by
  refine r335 _ _ _ ?_
  unfold V335
  refine Calls.then (c347 w sb v hb) ?_
  rintro e w1 ⟨rfl, g1⟩
  refine ⟨_, rfl, ?_⟩
  refine Calls.then (c348 w1 sb v kp) ?_
  rintro e w2 ⟨rfl, g2⟩
  refine ⟨_, rfl, by unfold inInt; omega, ?_⟩
  refine Calls.then (c113 w2 sb v l kp ((hl.non g1).non g2)) ?_
  rintro e w3 ⟨rfl, g3⟩
  refine ⟨_, rfl, by unfold inInt; omega, ?_, by (repeat (first | exact Chg.refl _ _ | refine Chg.step (by assumption) ?_ (by (first | exact sub_non _ | exact sub_nil _ | (repeat (first | exact sub_nil _ | refine sub_new (by omega) ?_ | refine sub_old (by first | assumption | exact in_head _ _ | exact in_tail (in_head _ _) | exact in_tail (in_tail (in_head _ _)) | simp [In]) ?_))))))⟩
  congr 2; omega
theorem c336 (w : World) : Calls Tryz.prog 336 #[.int .i64 64] w fun e w' => ∃ k, e = .returned (.tuple #[.pointer (some ⟨k, 0, none⟩), .int .i64 0]) ∧ blk w' k = some (.cells (shtA (.slice none 0 0)) 259) ∧ k = w.heap.size ∧ w'.heap.size = w.heap.size + 1 ∧ Chg Non w w' := by
  refine r336 _ _ _ ?_
  unfold V336
  intro K hK
  refine br_f rfl (br_f rfl (hK _ _ _ fun _ => nw ?_))
  intro k w1 e1 s1 b1 g1
  exact ⟨k, rfl, b1, e1, s1, g1⟩

theorem RowAt.cells {w : World} {b cap : Nat} {rs : List Int} (h : RowAt w b cap rs) : ∃ c, blk w b = some (.cells c 149) ∧ CellsIn c rs := by obtain ⟨c, h1, h2, _⟩ := h.ex; exact ⟨c, h1, h2⟩

theorem c56r (w : World) (b cap : Nat) (rs : List Int) (so : Bool) (g : Glob w) (h : RowAt w b cap rs) (hm : rs.length ≤ 1000) :
    Calls Tryz.prog 56 #[.agg #[.slice (some ⟨b, 0, none⟩) rs.length cap, .bool so]] w fun e w' => e = .returned (.bool true) ∧ Chg Non w w' := by
  obtain ⟨c, h1, h2⟩ := h.cells
  exact c56 b rs w c 149 cap so g h1 h2 hm

theorem grows_line (v : Value) (n N : Nat) (so : Bool) (rs : List Int) : Grows fun w => ∃ b cap, v = .agg #[.slice (some ⟨b, 0, none⟩) n cap, .bool so] ∧ RowAt w b cap rs ∧ N ≤ b := by
  rintro w w' ⟨b, cap, h1, h2, h3⟩ hb
  exact ⟨b, cap, h1, h2.non (.of_below hb), h3⟩

theorem c337 (w : World) (C : Nat) (s : Sht) (x : GRow) (gl : Glob w) (h : ShtAt w C s) (hx : RowAt w x.b x.cap x.rs) (hC : x.rs.length = C) (h0 : C ≠ 0) (hC' : C ≤ 1000) (hl : s.l.length < 64) :
    Calls Tryz.prog 337 #[.pointer (some ⟨s.sb, 0, none⟩), .agg (hdr x).toArray] w fun e w' => ∃ v' y, e = .returned (.int .i64 0) ∧ ShtAt w' C ⟨s.sb, v', s.l ++ [y]⟩ ∧ y.rs = x.rs ∧ y.so = x.so ∧ w.heap.size ≤ y.b ∧
      (∀ g, v'.ownBlock = some g → s.v.ownBlock = some g ∨ w.heap.size ≤ g) ∧ Chg (fun k => k = s.sb ∨ OwnB s.v k) w w' := by
  obtain ⟨sb, v, l⟩ := s
  obtain ⟨hb, hlv, hrows⟩ := h
  dsimp only at hb hlv hrows hl ⊢
  have hsb := blk_lt hb
  subst hC
  refine r337 _ _ _ _ ?_
  unfold V337
  refine nw ?_
  intro k1 w1 e1 s1 b1 g1
  refine Calls.then (c160 w1 sb v kp) ?_
  rintro e w2 ⟨rfl, g2⟩
  refine ⟨_, rfl, br_f rfl ⟨_, rdall kp (by rfl), ?_⟩⟩
  refine Calls.then (c56r w2 x.b x.cap x.rs x.so ((gl.non g1).non g2) ((hx.non g1).non g2) hC') ?_
  rintro e w3 ⟨rfl, g3⟩
  refine ⟨_, rfl, br_f rfl ?_⟩
  refine Calls.then (c335 w3 sb v l kp (((hlv.non g1).non g2).non g3) (by omega)) ?_
  rintro e w4 ⟨rfl, g4⟩
  obtain ⟨va, vc, rfl⟩ := hlv.slice
  refine ⟨_, rfl, br_f cp ⟨_, rfl, _, _, _, rd1 kp (by rfl), _, rdall kp (by rfl), _, fun v => grows_line v x.rs.length w4.heap.size x.so x.rs, float fun w5 s5 g5 => ?_, fun c => ⟨_, fun v => grows_blk v c 96 w4.heap.size, ?_, ?_⟩⟩⟩
  · refine Calls.then (c87 w5 x.b x.cap x.rs x.so (((((hx.non g1).non g2).non g3).non g4).non g5) h0 hC') ?_
    rintro e w6 ⟨b, cap, rfl, hr, hbb, g6⟩
    exact ⟨_, rfl, g6.below, b, cap, rfl, hr, by omega⟩
  · rintro w5 ⟨hbel, b, cap, hc, hr, hbb⟩
    have := hbel.size
    injection hc with hc
    subst hc
    refine ⟨rfl, nwC ?_⟩
    intro k' w6 e6 s6 b6 g6
    exact ⟨g6.below, k', rfl, b6, by omega⟩
  · rintro pp kk kk' w5 ⟨⟨hbel, b, cap, hc, hr, hbb⟩, k', hk', hbk, hk0⟩
    have g5 := Chg.of_below hbel
    have s2 := g2.size
    have s3 := g3.size
    have s4 := g4.size
    have s5 := g5.size
    injection hc with hc
    injection hk' with q1 q2 q3
    subst hc; subst q1; subst q2; subst q3
    have hlv5 := ((((hlv.non g1).non g2).non g3).non g4).non g5
    have b5 : blk w5 sb = some (.cells (shtA (.slice va l.length vc)) 259) := by (repeat (first | assumption | refine Chg.get (by assumption) ?_ (by (repeat (first | exact not_non _ | exact not_in_nil _ | refine not_in_cons (by first | assumption | exact Ne.symm (by assumption) | omega) ?_)))))
    have gg : Chg Non w w5 := by (repeat (first | exact Chg.refl _ _ | refine Chg.step (by assumption) ?_ (by (first | exact sub_non _ | exact sub_nil _ | (repeat (first | exact sub_nil _ | refine sub_new (by omega) ?_ | refine sub_old (by first | assumption | exact in_head _ _ | exact in_tail (in_head _ _) | exact in_tail (in_tail (in_head _ _)) | simp [In]) ?_))))))
    obtain ⟨rb, rcap, w6, hr6, hv6, g6, hf6⟩ := app_line w5 _ l ⟨b, cap, x.rs, x.so⟩ k' 1 hlv5 hbk (by omega)
    refine ⟨_, _, _, w6, hr6, _, rfl, ?_⟩
    dsimp only
    have b6 := g6.get b5 (hlv5.ne b5 (by decide))
    refine ⟨fw b6 (by (first | exact Nat.le_of_ble_eq_true rfl | (simp; done) | omega)), putL b6 (by rfl) ?_⟩
    intro w7 s7 b7 g7
    have hrbsb : rb ≠ sb := by
      rintro rfl
      exact hv6.ne b6 (by decide) rfl
    refine ⟨_, ⟨b, cap, x.rs, x.so⟩, rfl, ⟨b7, hv6.next g7 fun j hj => not_in_cons ?_ (not_in_nil _), ⟨fun q hq => ?_, fun q hq => ?_⟩⟩, rfl, rfl, by show w.heap.size ≤ b; omega, fun g hg => ?_, ?_⟩
    · simp only [Value.ownBlock, Option.some.injEq] at hj; omega
    · have hq5 : RowAt w5 q.b q.cap q.rs := by
        rcases List.mem_append.1 hq with hq | hq
        · exact (hrows.row q hq).non gg
        · rw [List.mem_singleton] at hq; subst hq; exact hr
      obtain ⟨cc, hcc, _⟩ := hq5.ex
      refine (hq5.next g6 (hlv5.ne hcc (by decide))).next g7 (not_in_cons (row_ne_lines hq5 b5 (by decide)) (not_in_nil _))
    · rcases List.mem_append.1 hq with hq | hq
      · exact hrows.len q hq
      · rw [List.mem_singleton] at hq; subst hq; rfl
    · simp only [Value.ownBlock, Option.some.injEq] at hg
      subst hg
      rcases hf6 with hf | hf
      · exact .inl hf
      · exact .inr (by omega)
    · refine (gg.non.trans' (F' := OwnB (.slice va l.length vc)) g6 fun i _ hi => .inr hi).trans' g7 ?_
      intro i hi hm
      unfold In at hm
      rw [List.mem_singleton] at hm
      exact .inl hm
end Go.Proofs

namespace Go.Proofs
open Go Go.X Go.RowKit
set_option linter.unusedVariables false
set_option linter.unusedSimpArgs false
set_option maxRecDepth 100000

def ringA (n : Nat) (pv : Value) : Array Value := #[.int .i64 100, .int .i64 64, .int .i64 0, .int .i64 n, pv]
def ptrs (ss : List Sht) : List Value := ss.map fun s => .pointer (some ⟨s.sb, 0, none⟩)
def kept (ss : List Sht) : List GRow := ss.flatMap (·.l)
def Apart (a b : Sht) : Prop := a.sb ≠ b.sb ∧ ∀ g, a.v.ownBlock = some g → b.v.ownBlock ≠ some g
/-- The blocks of a ring that a push may change. -/
def RB (rg : Nat) (pv : Value) (ss : List Sht) (k : Nat) : Prop := k = rg ∨ OwnB pv k ∨ ∃ s ∈ ss, k = s.sb ∨ OwnB s.v k
structure RingAt (w : World) (rg C : Nat) (pv : Value) (ss : List Sht) : Prop where
  ring : blk w rg = some (.cells (ringA (kept ss).length pv) 189)
  pages : w.ownsRow 0 212 1 pv ss.length (ptrs ss)
  sheets : ∀ s ∈ ss, ShtAt w C s
  le : ∀ s ∈ ss, s.l.length ≤ 64
  apart : ss.Pairwise Apart
  lo : ∀ k, RB rg pv ss k → 3 ≤ k

theorem RingAt.next {F : Nat → Prop} {w w' : World} {rg C : Nat} {pv : Value} {ss : List Sht} (h : RingAt w rg C pv ss) (k : Chg F w w') (h1 : ∀ j, RB rg pv ss j → ¬ F j) (h2 : ∀ x ∈ kept ss, ¬ F x.b) : RingAt w' rg C pv ss :=
  ⟨k.get h.ring (h1 _ (.inl rfl)), own_next h.pages k fun g hg => h1 _ (.inr (.inl hg.symm)), fun s hs => (h.sheets s hs).next k (h1 _ (.inr (.inr ⟨s, hs, .inl rfl⟩))) (fun g hg => h1 _ (.inr (.inr ⟨s, hs, .inr hg.symm⟩))) fun x hx => h2 x (List.mem_flatMap.2 ⟨s, hs, hx⟩), h.le, h.apart, h.lo⟩
theorem RingAt.non {w w' : World} {rg C : Nat} {pv : Value} {ss : List Sht} (h : RingAt w rg C pv ss) (k : Chg Non w w') : RingAt w' rg C pv ss := h.next k (fun _ _ => not_non _) (fun _ _ => not_non _)
theorem RingAt.lt {w : World} {rg C : Nat} {pv : Value} {ss : List Sht} (h : RingAt w rg C pv ss) {k : Nat} (hk : RB rg pv ss k) : k < w.heap.size := by
  rcases hk with rfl | hk | ⟨s, hs, rfl | hk⟩
  · exact blk_lt h.ring
  · exact own_lt h.pages hk.symm
  · exact blk_lt (h.sheets s hs).blk
  · exact (h.sheets s hs).lines.lt hk.symm

theorem elPtr : Elem 187 212 1 8 := elem_of (by kernel_rfl) (by kernel_rfl) (by decide)

theorem c88 (w : World) (rg n : Nat) (pv : Value) (h : blk w rg = some (.cells (ringA n pv) 189)) : Calls Tryz.prog 88 #[.pointer (some ⟨rg, 0, none⟩)] w fun e w' => e = .returned (.bool false) ∧ Chg Non w w' := by
  refine r88 _ _ _ ?_
  unfold V88
  exact br_f rfl ⟨_, rfl, _, rd1 h (by rfl), rfl, Chg.refl _ _⟩
theorem c55 (w : World) (rg n : Nat) (pv : Value) (h : blk w rg = some (.cells (ringA n pv) 189)) : Calls Tryz.prog 55 #[.pointer (some ⟨rg, 0, none⟩)] w fun e w' => e = .returned (.int .i64 0) ∧ Chg Non w w' := by
  refine r55 _ _ _ ?_
  unfold V55
  refine Calls.then (c88 w rg n pv h) ?_
  rintro e w1 ⟨rfl, g1⟩
  exact ⟨_, rfl, br_f rfl ⟨_, rfl, _, rd1 (g1.get h (not_non _)) (by rfl), rfl, g1⟩⟩
theorem c83 (w : World) (rg n : Nat) (pv : Value) (h : blk w rg = some (.cells (ringA n pv) 189)) : Calls Tryz.prog 83 #[.pointer (some ⟨rg, 0, none⟩)] w fun e w' => e = .returned (.int .i64 n) ∧ Chg Non w w' := by
  refine r83 _ _ _ ?_
  unfold V83
  refine Calls.then (c88 w rg n pv h) ?_
  rintro e w1 ⟨rfl, g1⟩
  exact ⟨_, rfl, br_f rfl ⟨_, rfl, _, rd1 (g1.get h (not_non _)) (by rfl), rfl, g1⟩⟩
theorem c66 (w : World) (rg n : Nat) (pv : Value) (h : blk w rg = some (.cells (ringA n pv) 189)) (hm : n ≤ 1000) : Calls Tryz.prog 66 #[.pointer (some ⟨rg, 0, none⟩)] w fun e w' => e = .returned (.int .i64 n) ∧ Chg Non w w' := by
  refine r66 _ _ _ ?_
  unfold V66
  refine Calls.then (c83 w rg n pv h) ?_
  rintro e w1 ⟨rfl, g1⟩
  refine ⟨_, rfl, ?_⟩
  refine Calls.then (c55 w1 rg n pv (g1.get h (not_non _))) ?_
  rintro e w2 ⟨rfl, g2⟩
  exact ⟨_, rfl, by unfold inInt; omega, by simp, by (repeat (first | exact Chg.refl _ _ | refine Chg.step (by assumption) ?_ (by (first | exact sub_non _ | exact sub_nil _ | (repeat (first | exact sub_nil _ | refine sub_new (by omega) ?_ | refine sub_old (by first | assumption | exact in_head _ _ | exact in_tail (in_head _ _) | exact in_tail (in_tail (in_head _ _)) | simp [In]) ?_))))))⟩
theorem c67 (w : World) : Calls Tryz.prog 67 #[.int .i64 100, .int .i64 64] w fun e w' => ∃ k, e = .returned (.tuple #[.pointer (some ⟨k, 0, none⟩), .int .i64 0]) ∧ blk w' k = some (.cells (ringA 0 (.slice none 0 0)) 189) ∧ k = w.heap.size ∧ w'.heap.size = w.heap.size + 1 ∧ Chg Non w w' := by
  refine r67 _ _ _ _ ?_
  unfold V67
  intro K hK
  refine br_f rfl (br_f rfl (br_f rfl (br_f rfl (hK _ _ _ fun _ => nw ?_))))
  intro k w1 e1 s1 b1 g1
  exact ⟨k, rfl, b1, e1, s1, g1⟩
theorem c338 (w : World) (rg n : Nat) (a : Option Addr) (m c : Nat) (h : blk w rg = some (.cells (ringA n (.slice a m c)) 189)) (hn : n ≤ 100) : Calls Tryz.prog 338 #[.pointer (some ⟨rg, 0, none⟩)] w fun e w' => e = .returned (.tuple #[]) ∧ Chg Non w w' := by
  refine r338 _ _ _ ?_
  unfold V338
  refine ⟨fun _ w' => w' = w, fun _ _ => 0, rfl, ?_⟩
  rintro w1 _ rfl
  intro K hK
  clear hK
  refine ⟨_, rfl, _, rd1 h (by rfl), _, rfl, _, rd1 h (by rfl), by unfold inInt; omega, _, rfl, _, rd1 h (by rfl), br_f cp (all_below ?_)⟩
  intro w2 s2 g2
  exact ⟨rfl, g2⟩

theorem ptrs_get (ss : List Sht) (i : Nat) (h : i < ss.length) : (ptrs ss)[i]? = some (.pointer (some ⟨ss[i].sb, 0, none⟩)) := by unfold ptrs; simp [h]
theorem kept_snoc (fs : List Sht) (s : Sht) : kept (fs ++ [s]) = kept fs ++ s.l := by unfold kept; simp

/-- A push to the last page. -/
theorem push_last (w w2 : World) (rg C : Nat) (pv : Value) (fs : List Sht) (last : Sht) (v' : Value) (y : GRow) (h : RingAt w rg C pv (fs ++ [last])) (hsz : 3 ≤ w.heap.size) (hy : last.l.length < 64)
    (hs : ShtAt w2 C ⟨last.sb, v', last.l ++ [y]⟩) (hv : ∀ g, v'.ownBlock = some g → last.v.ownBlock = some g ∨ w.heap.size ≤ g) (g : Chg (fun k => k = last.sb ∨ OwnB last.v k) w w2) (w3 : World)
    (b3 : blk w2 rg = some (.cells (ringA (kept (fs ++ [last])).length pv) 189) → blk w3 rg = some (.cells (ringA ((kept (fs ++ [last])).length + 1) pv) 189)) (g3 : Chg (In [rg]) w2 w3) :
    RingAt w3 rg C pv (fs ++ [⟨last.sb, v', last.l ++ [y]⟩]) ∧ blk w2 rg = some (.cells (ringA (kept (fs ++ [last])).length pv) 189) := by
  have hl := h.sheets last (by simp)
  have hpw := List.pairwise_append.1 h.apart
  have hring : blk w2 rg = some (.cells (ringA (kept (fs ++ [last])).length pv) 189) := g.get h.ring (by
    rintro (e | e)
    · have h1 := h.ring; rw [e, hl.blk] at h1; injection h1 with h1; injection h1 with _ h1; cases h1
    · exact hl.lines.ne h.ring (by decide) e)
  have nrg : ∀ {k : Nat} {c : Array Value} {T : TypeId} {f : Nat × Nat}, blk w2 k = some (.cells c T f) → T ≠ 189 → ¬ In [rg] k := fun {k c T f} hk hT => not_in_cons (by
    rintro rfl; rw [hring] at hk; injection hk with e; injection e with _ e; exact hT e.symm) (not_in_nil _)
  have nrgL : ∀ {v : Value} {l : List GRow}, LinesV w2 v l → ∀ j, v.ownBlock = some j → ¬ In [rg] j := fun {v l} hL j hj => by
    rcases hL.2 with ⟨rfl, _⟩ | ⟨g', cap, cur, rfl, _, hg', _⟩
    · cases hj
    · simp only [Value.ownBlock, Option.some.injEq] at hj
      subst hj
      exact nrg hg' (by decide)
  have nrgR : ∀ {x : GRow}, RowAt w2 x.b x.cap x.rs → ¬ In [rg] x.b := fun {x} hx => by obtain ⟨c, hc, _⟩ := hx.ex; exact nrg hc (by decide)
  have keepS : ∀ s, ShtAt w2 C s → ShtAt w3 C s := fun s hs => hs.next g3 (nrg hs.blk (by decide)) (nrgL hs.lines) fun x hx => nrgR (hs.rows.row x hx)
  have hfs : ∀ s ∈ fs, ShtAt w2 C s := fun s hsm => by
    have h1 := h.sheets s (by simp [hsm])
    have hap := hpw.2.2 s hsm last (by simp)
    refine h1.next g ?_ ?_ ?_
    · rintro (e | e)
      · exact hap.1 e
      · exact hl.lines.ne h1.blk (by decide) e
    · rintro j hj (e | e)
      · subst e
        exact h1.lines.ne hl.blk (by decide) hj.symm
      · exact hap.2 j hj e.symm
    · rintro x hx (e | e)
      · exact row_ne_lines (h1.rows.row x hx) hl.blk (by decide) e
      · obtain ⟨c, hc, _⟩ := (h1.rows.row x hx).ex
        exact hl.lines.ne hc (by decide) e
  have hkl : (kept (fs ++ [⟨last.sb, v', last.l ++ [y]⟩])).length = (kept (fs ++ [last])).length + 1 := by rw [kept_snoc, kept_snoc]; simp; omega
  have hlen : (fs ++ [(⟨last.sb, v', last.l ++ [y]⟩ : Sht)]).length = (fs ++ [last]).length := by simp
  have hptr : ptrs (fs ++ [⟨last.sb, v', last.l ++ [y]⟩]) = ptrs (fs ++ [last]) := by unfold ptrs; simp
  have hpg2 : w2.ownsRow 0 212 1 pv (fs ++ [last]).length (ptrs (fs ++ [last])) := own_next h.pages g fun j hj => by
    rintro (e | e)
    · subst e; exact own_ne h.pages hl.blk (by decide) hj.symm
    · exact own_ne_own hl.lines h.pages (by decide) j hj e
  refine ⟨⟨by rw [hkl]; exact b3 hring, ?_, ?_, ?_, ?_, ?_⟩, hring⟩
  · rw [hlen, hptr]
    refine own_next hpg2 g3 fun j hj => ?_
    rcases hpg2.2 with ⟨rfl, _⟩ | ⟨g', cap, cur, rfl, _, hg', _⟩
    · cases hj
    · simp only [Value.ownBlock, Option.some.injEq] at hj
      subst hj
      exact nrg hg' (by decide)
  · intro s hsm
    rcases List.mem_append.1 hsm with hsm | hsm
    · exact keepS s (hfs s hsm)
    · rw [List.mem_singleton] at hsm; subst hsm; exact keepS _ hs
  · intro s hsm
    rcases List.mem_append.1 hsm with hsm | hsm
    · exact h.le s (by simp [hsm])
    · rw [List.mem_singleton] at hsm; subst hsm; simp; omega
  · rw [List.pairwise_append]
    refine ⟨hpw.1, by simp, fun a ha b hb => ?_⟩
    rw [List.mem_singleton] at hb; subst hb
    have hap := hpw.2.2 a ha last (by simp)
    refine ⟨hap.1, fun j hj hj' => ?_⟩
    rcases hv j hj' with e | e
    · exact hap.2 j hj e
    · have := (h.sheets a (by simp [ha])).lines.lt hj
      omega
  · rintro k (hk | hk | ⟨s, hsm, hk⟩)
    · exact h.lo k (.inl hk)
    · exact h.lo k (.inr (.inl hk))
    · rcases List.mem_append.1 hsm with hsm | hsm
      · exact h.lo k (.inr (.inr ⟨s, by simp [hsm], hk⟩))
      · rw [List.mem_singleton] at hsm; subst hsm
        rcases hk with hk | hk
        · exact h.lo k (.inr (.inr ⟨last, by simp, .inl hk⟩))
        · rcases hv k hk.symm with e | e
          · exact h.lo k (.inr (.inr ⟨last, by simp, .inr e.symm⟩))
          · omega
theorem Glob.size {w : World} (g : Glob w) : 3 ≤ w.heap.size := by obtain ⟨T, h⟩ := g.wide; have := blk_lt h; omega
end Go.Proofs

namespace Go.Proofs
open Go Go.X Go.RowKit
set_option linter.unusedVariables false
set_option linter.unusedSimpArgs false
set_option maxRecDepth 100000

theorem blk_ne {w : World} {j k : Nat} {c d : Array Value} {T U : TypeId} {f f' : Nat × Nat} (h1 : blk w j = some (.cells c T f)) (h2 : blk w k = some (.cells d U f')) (h : T ≠ U) : j ≠ k := by
  rintro rfl; rw [h1] at h2; injection h2 with e; injection e with _ e; exact h e
theorem own_blk {w : World} {e : TypeId} {size : Nat} {v : Value} {n : Nat} {xs : List Value} (h : w.ownsRow 0 e size v n xs) {j : Nat} (hj : v.ownBlock = some j) : ∃ cur, blk w j = some (.cells cur e) := by
  rcases h.2 with ⟨rfl, _⟩ | ⟨g', cap, cur, rfl, _, hg', _⟩
  · cases hj
  · simp only [Value.ownBlock, Option.some.injEq] at hj
    subst hj
    exact ⟨cur, hg'⟩

/-- A new page. -/
theorem new_page (w : World) (rg C : Nat) (pv : Value) (ss : List Sht) (k kp : Nat) (h : RingAt w rg C pv ss) (hk : blk w k = some (.cells (shtA (.slice none 0 0)) 259)) (hkn : ∀ s ∈ ss, s.sb ≠ k) (hkp : blk w kp = some (.cells #[.pointer (some ⟨k, 0, none⟩)] 212)) (hm : ss.length ≤ 1000) (hk3 : 3 ≤ k) (hsz : 3 ≤ w.heap.size) :
    ∃ a c w1, Runs Tryz.prog (Builtin.append_ #[187, 187] 187 #[pv, .slice (some ⟨kp, 0, none⟩) 1 1]) w (.slice a (ss.length + 1) c) w1 ∧ blk w1 rg = some (.cells (ringA (kept ss).length pv) 189) ∧ Chg (OwnB pv) w w1 ∧ (∀ j, OwnB (.slice a (ss.length + 1) c) j → OwnB pv j ∨ w.heap.size ≤ j) ∧
      ∀ w2, blk w2 rg = some (.cells (ringA (kept ss).length (.slice a (ss.length + 1) c)) 189) → Chg (In [rg]) w1 w2 → RingAt w2 rg C (.slice a (ss.length + 1) c) (ss ++ [⟨k, .slice none 0 0, []⟩]) := by
  obtain ⟨hu, i, z, hi, hz, hsz, hzs, hby, hpos⟩ := elPtr
  obtain ⟨v', w1, hr, ho, hc, hn, hb⟩ := app_own (P := Tryz.prog) w 187 187 212 i z 1 hu hi hz hsz hzs hpos pv ss.length (ptrs ss) h.pages ⟨kp, 0, none⟩ 1 1 [.pointer (some ⟨k, 0, none⟩)] rfl (cells_of hkp (by rfl))
    (by intro u hu; rw [List.mem_singleton] at hu; subst hu; rfl) (by unfold maxLen; omega) (by rw [hby]; omega)
  obtain ⟨a, c, rfl, _⟩ := own_shape ho
  have hring := hc.get h.ring (own_ne h.pages h.ring (by decide))
  refine ⟨a, c, w1, hr, hring, hc, fun j hj => (hb j hj.symm).imp Eq.symm id, fun w2 b2 g2 => ?_⟩
  have nrg : ∀ {k : Nat} {c : Array Value} {T : TypeId} {f : Nat × Nat}, blk w1 k = some (.cells c T f) → T ≠ 189 → ¬ In [rg] k := fun {k c T f} hk hT => not_in_cons (blk_ne hk hring hT) (not_in_nil _)
  have keep : ∀ {j : Nat} {c : Array Value} {T : TypeId}, blk w j = some (.cells c T) → T ≠ 189 → T ≠ 212 → blk w2 j = some (.cells c T) := fun {j c T} hj h1 h2 => g2.get (hc.get hj (own_ne h.pages hj h2)) (nrg (hc.get hj (own_ne h.pages hj h2)) h1)
  have keepN : ∀ {j : Nat} {c : Array Value} {T : TypeId}, blk w j = some (.cells c T) → T ≠ 189 → T ≠ 212 → ¬ OwnB pv j ∧ ¬ In [rg] j := fun {j c T} hj h1 h2 => ⟨own_ne h.pages hj h2, nrg (hc.get hj (own_ne h.pages hj h2)) h1⟩
  refine ⟨by rw [kept_snoc]; simpa using b2, ?_, fun s hs => ?_, fun s hs => ?_, ?_, ?_⟩
  · have hp : ptrs (ss ++ [⟨k, .slice none 0 0, []⟩]) = ptrs ss ++ [.pointer (some ⟨k, 0, none⟩)] := by unfold ptrs; simp
    rw [hp, List.length_append, List.length_singleton]
    refine own_next ho g2 fun j hj => ?_
    obtain ⟨cur, hcur⟩ := own_blk ho hj
    exact nrg hcur (by decide)
  · rcases List.mem_append.1 hs with hs | hs
    · have h1 := h.sheets s hs
      have n1 := keepN h1.blk (by decide) (by decide)
      refine (h1.next hc n1.1 (fun j hj => ?_) fun x hx => ?_).next g2 n1.2 (fun j hj => ?_) fun x hx => ?_
      · obtain ⟨cur, hcur⟩ := own_blk h1.lines hj
        exact (keepN hcur (by decide) (by decide)).1
      · obtain ⟨cur, hcur, _⟩ := (h1.rows.row x hx).ex
        exact (keepN hcur (by decide) (by decide)).1
      · obtain ⟨cur, hcur⟩ := own_blk h1.lines hj
        exact (keepN hcur (by decide) (by decide)).2
      · obtain ⟨cur, hcur, _⟩ := (h1.rows.row x hx).ex
        exact (keepN hcur (by decide) (by decide)).2
    · rw [List.mem_singleton] at hs; subst hs
      exact ⟨keep hk (by decide) (by decide), LinesV.nil _, ⟨by simp, by simp⟩⟩
  · rcases List.mem_append.1 hs with hs | hs
    · exact h.le s hs
    · rw [List.mem_singleton] at hs; subst hs; simp
  · rw [List.pairwise_append]
    refine ⟨h.apart, by simp, fun s hs b hb => ?_⟩
    rw [List.mem_singleton] at hb; subst hb
    exact ⟨hkn s hs, fun g _ hg => by cases hg⟩
  · rintro j (hj | hj | ⟨s, hs, hj⟩)
    · exact h.lo j (.inl hj)
    · rcases hb j hj.symm with e | e
      · exact h.lo j (.inr (.inl e.symm))
      · omega
    · rcases List.mem_append.1 hs with hs | hs
      · exact h.lo j (.inr (.inr ⟨s, hs, hj⟩))
      · rw [List.mem_singleton] at hs; subst hs
        rcases hj with hj | hj
        · dsimp only at hj; omega
        · cases hj

theorem c315 (w : World) (rg C : Nat) (pv : Value) (ss : List Sht) (x : GRow) (gl : Glob w) (h : RingAt w rg C pv ss) (hx : RowAt w x.b x.cap x.rs) (hC : x.rs.length = C) (h0 : C ≠ 0) (hC' : C ≤ 1000) (hn : (kept ss).length < 100) (hss : ss.length ≤ 100) :
    Calls Tryz.prog 315 #[.pointer (some ⟨rg, 0, none⟩), .agg (hdr x).toArray] w fun e w' => ∃ n pv' ss' y, e = .returned (.tuple #[.int .i64 n, .int .i64 0]) ∧ RingAt w' rg C pv' ss' ∧ kept ss' = kept ss ++ [y] ∧ y.rs = x.rs ∧ y.so = x.so ∧ w.heap.size ≤ y.b ∧
      (∀ k, RB rg pv' ss' k → RB rg pv ss k ∨ w.heap.size ≤ k) ∧ ss'.length ≤ ss.length + 1 ∧ Chg (RB rg pv ss) w w' := by
  have hring := h.ring
  subst hC
  refine r315 _ _ _ _ ?_
  unfold V315
  refine nw ?_
  intro k3 w1 e1 s1 b1 g1
  refine Calls.then (c88 w1 rg _ pv (g1.get hring (not_non _))) ?_
  rintro e w2 ⟨rfl, g2⟩
  refine ⟨_, rfl, br_f rfl ⟨_, rdall kp (by rfl), ?_⟩⟩
  refine Calls.then (c56r w2 x.b x.cap x.rs x.so ((gl.non g1).non g2) ((hx.non g1).non g2) hC') ?_
  rintro e w3 ⟨rfl, g3⟩
  refine ⟨_, rfl, br_f rfl ?_⟩
  have b3 : blk w3 k3 = some (.cells (hdr x).toArray 96) := by (repeat (first | assumption | refine Chg.get (by assumption) ?_ (by (repeat (first | exact not_non _ | exact not_in_nil _ | refine not_in_cons (by first | assumption | exact Ne.symm (by assumption) | omega) ?_)))))
  have s2 := g2.size
  have s3 := g3.size
  have gg : Chg Non w w3 := by (repeat (first | exact Chg.refl _ _ | refine Chg.step (by assumption) ?_ (by (first | exact sub_non _ | exact sub_nil _ | (repeat (first | exact sub_nil _ | refine sub_new (by omega) ?_ | refine sub_old (by first | assumption | exact in_head _ _ | exact in_tail (in_head _ _) | exact in_tail (in_tail (in_head _ _)) | simp [In]) ?_))))))
  have h3 := h.non gg
  have hx3 := hx.non gg
  have gl3 := gl.non gg
  have hringlt := blk_lt hring
  intro K hK
  have key : ∀ w15 pv1 fs last, RingAt w15 rg x.rs.length pv1 (fs ++ [last]) → last.l.length < 64 → kept (fs ++ [last]) = kept ss → (∀ k, RB rg pv1 (fs ++ [last]) k → RB rg pv ss k ∨ w3.heap.size ≤ k) → (fs ++ [last]).length ≤ ss.length + 1 → Chg (RB rg pv ss) w3 w15 → blk w15 k3 = some (.cells (hdr x).toArray 96) → RowAt w15 x.b x.cap x.rs → Glob w15 → K [.int .i64 0, .int .i64 0] w15 := by
    intro w15 pv1 fs last hR hll hkept hRB hfl g15 bk3 hx15 gl15
    refine hK _ _ _ fun _ => ?_
    clear hK K
    have hr15 := hR.ring
    have s15 := g15.size
    obtain ⟨pb, pcap, rfl, hpb, cur, hcur, hcs, hct⟩ := own_cells hR.pages (by simp)
    have hlast : cur[fs.length]? = some (.pointer (some ⟨last.sb, 0, none⟩)) := by
      have h1 := ptrs_get (fs ++ [last]) fs.length (by simp)
      rw [← hct, List.getElem?_take, if_pos (by simp)] at h1
      simpa using h1
    have hfl' : (fs ++ [last]).length = fs.length + 1 := by simp
    refine ⟨_, rfl, _, _, _, rd1 hr15 (by rfl), _, rfl, _, _, _, rd1 hr15 (by rfl), by unfold inInt; rw [hfl']; omega, by rw [hfl']; omega, by rw [hfl']; omega, _, _, rfl, _, rd1 hcur (by rw [hfl', show (((fs.length + 1 : Nat) : Int) - 1).toNat = fs.length by omega]; simpa using hlast), _, rdall bk3 (by rfl), all_below ?_⟩
    intro w16 s16 g16
    have hR16 := hR.non g16
    have hl16 := hR16.sheets last (by simp)
    refine Calls.then (c337 w16 x.rs.length last x (gl15.non g16) hl16 (hx15.non g16) rfl h0 hC' hll) ?_
    rintro e w17 ⟨v', y, rfl, hs17, hy1, hy2, hy3, hv17, g17⟩
    have s17 := g17.size
    have hring16 := hR16.ring
    have hring17 : blk w17 rg = some (.cells (ringA (kept (fs ++ [last])).length (.slice (some ⟨pb, 0, none⟩) (fs ++ [last]).length pcap)) 189) := g17.get hring16 (by
      rintro (e | e)
      · exact blk_ne hring16 hl16.blk (by decide) e
      · exact hl16.lines.ne hring16 (by decide) e)
    have hkn : (kept (fs ++ [last])).length < 100 := by rw [hkept]; exact hn
    refine ⟨_, rfl, br_f rfl ⟨_, rfl, _, rd1 hring17 (by rfl), by unfold inInt; omega, _, rfl, fw hring17 (by (first | exact Nat.le_of_ble_eq_true rfl | (simp; done) | omega)), putL hring17 (by ((try simp only [List.set_cons_zero, List.set_cons_succ]); rfl)) ?_⟩⟩
    intro w18 s18 b18 g18
    have hsz16 := (gl15.non g16).size
    obtain ⟨hR18, _⟩ := push_last w16 w17 rg x.rs.length _ fs last v' y hR16 hsz16 hll hs17 hv17 g17 w18 (fun _ => b18) g18
    refine Calls.then (c338 w18 rg ((kept (fs ++ [last])).length + 1) _ _ _ b18 (by omega)) ?_
    rintro e w19 ⟨rfl, g19⟩
    refine ⟨rfl, _, rfl, _, rd1 (g19.get b18 (not_non _)) (by rfl), by unfold inInt; omega, _, _, _, y, rfl, hR18.non g19, ?_, hy1, hy2, by omega, ?_, by simpa using hfl, ?_⟩
    · rw [kept_snoc, ← hkept, kept_snoc, List.append_assoc]
    · intro k hk
      have : RB rg (.slice (some ⟨pb, 0, none⟩) (fs ++ [last]).length pcap) (fs ++ [last]) k ∨ w16.heap.size ≤ k := by
        rcases hk with hk | hk | ⟨s, hs, hk⟩
        · exact .inl (.inl hk)
        · exact .inl (.inr (.inl hk))
        · rcases List.mem_append.1 hs with hs | hs
          · exact .inl (.inr (.inr ⟨s, by simp [hs], hk⟩))
          · rw [List.mem_singleton] at hs; subst hs
            rcases hk with hk | hk
            · exact .inl (.inr (.inr ⟨last, by simp, .inl hk⟩))
            · rcases hv17 k hk.symm with hh | hh
              · exact .inl (.inr (.inr ⟨last, by simp, .inr hh.symm⟩))
              · exact .inr hh
      rcases this with hh | hh
      · rcases hRB k hh with q | q
        · exact .inl q
        · exact .inr (by omega)
      · exact .inr (by omega)
    · have q1 : Chg (RB rg pv ss) w w16 := (gg.non.trans g15).trans g16.non
      have q2 : Chg (RB rg pv ss) w w17 := q1.trans' g17 fun i hi hh => by
        have hi' : RB rg (.slice (some ⟨pb, 0, none⟩) (fs ++ [last]).length pcap) (fs ++ [last]) i := .inr (.inr ⟨last, by simp, hh⟩)
        rcases hRB i hi' with q | q
        · exact q
        · omega
      refine (q2.trans' g18 fun i hi hh => ?_).trans g19.non
      unfold In at hh; rw [List.mem_singleton] at hh
      exact .inl hh
  clear hK
  -- a new page
  have page : ∀ w4, w3.heap.size ≤ w4.heap.size → Chg Non w3 w4 → Calls Tryz.prog 336 #[.int .i64 64] w4 fun e48 w49 => ∃ k, e48 = .returned (.tuple #[.pointer (some ⟨k, 0, none⟩), .int .i64 0]) ∧
      ∃ a n c, blk w49 rg = some (.cells (ringA (kept ss).length (.slice a n c)) 189) ∧ ∀ k56 w57, New w49 (.cells #[.pointer (some ⟨k, 0, none⟩)] 212) k56 w57 → ∃ p58 k59 k60 w61, Runs Tryz.prog (Builtin.append_ #[187, 187] 187 #[.slice a n c, .slice (some ⟨k56, 0, none⟩) 1 1]) w57 (.slice p58 k59 k60) w61 ∧
        FreeW w61 ⟨rg, 4, none⟩ 1 ∧ ∀ w63, Put w61 ⟨rg, 4, none⟩ (.slice p58 k59 k60) w63 → K [.int .i64 0, .int .i64 0] w63 := by
    intro w4 s4 g4
    refine Calls.then (c336 w4) ?_
    rintro e w5 ⟨k, rfl, b5, e5, s5, g5⟩
    have h5 := (h3.non g4).non g5
    obtain ⟨a, c, hpv, _⟩ := own_shape h5.pages
    refine ⟨k, rfl, a, ss.length, c, by rw [← hpv]; exact h5.ring, nw ?_⟩
    intro kp w6 e6 s6 b6 g6
    rw [← hpv]
    have h6 := h5.non g6
    obtain ⟨a', c', w7, hr, hring7, g7, hob, hfin⟩ := new_page w6 rg x.rs.length pv ss k kp h6 (g6.get b5 (not_non _)) (fun s hs => by have := blk_lt ((h3.non g4).sheets s hs).blk; omega) b6 (by omega) (by have := gl3.size; omega) (by have := gl3.size; omega)
    refine ⟨_, _, _, w7, hr, fw hring7 (by (first | exact Nat.le_of_ble_eq_true rfl | (simp; done) | omega)), putL hring7 (by ((try simp only [List.set_cons_zero, List.set_cons_succ]); rfl)) ?_⟩
    intro w8 s8 b8 g8
    have hR8 := hfin w8 b8 g8
    have s7 := g7.size
    have bk6 : blk w6 k3 = some (.cells (hdr x).toArray 96) := g6.get (g5.get (g4.get b3 (not_non _)) (not_non _)) (not_non _)
    have bk7 := g7.get bk6 (own_ne h6.pages bk6 (by decide))
    obtain ⟨cx, hcx, _⟩ := (((hx3.non g4).non g5).non g6).ex
    have hx6 := (((hx3.non g4).non g5).non g6)
    have hx7 := hx6.next g7 (own_ne h6.pages hcx (by decide))
    have gl6 := ((gl3.non g4).non g5).non g6
    have nglob : ∀ j, j = 1 ∨ j = 2 → ¬ OwnB pv j ∧ j ≠ rg := by
      intro j hj
      refine ⟨fun hh => ?_, fun hh => ?_⟩
      · have := h.lo j (.inr (.inl hh)); omega
      · have := h.lo j (.inl hh); omega
    have q1 : Chg (RB rg pv ss) w3 w6 := ((g4.non.trans g5.non).trans g6.non)
    have q2 : Chg (RB rg pv ss) w3 w8 := (q1.trans' g7 fun i _ hi => .inr (.inl hi)).trans' g8 fun i _ hi => by
      unfold In at hi; rw [List.mem_singleton] at hi; exact .inl hi
    refine key w8 _ ss ⟨k, .slice none 0 0, []⟩ hR8 (by simp) (by rw [kept_snoc]; simp) ?_ (by simp) q2 (g8.get bk7 (not_in_cons (blk_ne bk7 hring7 (by decide)) (not_in_nil _))) (hx7.next g8 (not_in_cons (row_ne_lines hx7 hring7 (by decide)) (not_in_nil _))) ?_
    · intro j hj
      rcases hj with hj | hj | ⟨s, hs, hj⟩
      · exact .inl (.inl hj)
      · rcases hob j hj with q | q
        · exact .inl (.inr (.inl q))
        · exact .inr (by omega)
      · rcases List.mem_append.1 hs with hs | hs
        · exact .inl (.inr (.inr ⟨s, hs, hj⟩))
        · rw [List.mem_singleton] at hs; subst hs
          rcases hj with hj | hj
          · exact .inr (by dsimp only at hj; omega)
          · cases hj
    · exact (gl6.next g7 (nglob 1 (.inl rfl)).1 (nglob 2 (.inr rfl)).1).next g8 (not_in_cons (nglob 1 (.inl rfl)).2 (not_in_nil _)) (not_in_cons (nglob 2 (.inr rfl)).2 (not_in_nil _))
  obtain ⟨pa, pc, rfl, _⟩ := own_shape h3.pages
  have hring3 := h3.ring
  refine ⟨_, rfl, _, _, _, rd1 hring3 (by rfl), ?_⟩
  rcases List.eq_nil_or_concat ss with rfl | ⟨fs, last, rfl⟩
  · refine br_t rfl ⟨_, rfl, _, rd1 hring3 (by rfl), ?_⟩
    refine Calls.then (page w3 (Nat.le_refl _) (Chg.refl _ _)) ?_
    rintro e w5 ⟨k, rfl, a, n, c, hr5, hfin⟩
    refine ⟨_, _, rfl, br_f rfl ⟨_, rfl, _, _, _, rd1 hr5 (by rfl), fun k56 w57 hnew => ?_⟩⟩
    obtain ⟨p58, k59, k60, w61, q1, q2, q3⟩ := hfin k56 w57 hnew
    exact ⟨p58, k59, k60, w61, q1, _, rfl, q2, q3⟩
  · rw [List.concat_eq_append] at *
    have hlen : (fs ++ [last]).length = fs.length + 1 := by simp
    have hlast := h3.sheets last (by simp)
    have hll := h3.le last (by simp)
    obtain ⟨pb, pcap, hpve, hpb, cur, hcur, hcs, hct⟩ := own_cells h3.pages (by simp)
    injection hpve with q1 q2 q3
    subst q1; subst q3
    have hlastc : cur[fs.length]? = some (.pointer (some ⟨last.sb, 0, none⟩)) := by
      have h1 := ptrs_get (fs ++ [last]) fs.length (by simp)
      rw [← hct, List.getElem?_take, if_pos (by simp)] at h1
      simpa using h1
    refine br_f (by simp; omega) ⟨_, rfl, _, _, _, rd1 hring3 (by rfl), by unfold inInt; rw [hlen]; omega, by rw [hlen]; omega, by rw [hlen]; omega, _, _, rfl, _, rd1 hcur (by rw [hlen, show (((fs.length + 1 : Nat) : Int) - 1).toNat = fs.length by omega]; simpa using hlastc), ?_⟩
    refine Calls.then (c335 w3 last.sb last.v last.l hlast.blk hlast.lines hll) ?_
    rintro e w4 ⟨rfl, g4⟩
    have s4 := g4.size
    refine ⟨_, rfl, ?_⟩
    by_cases hfull : last.l.length = 64
    · refine br_t (by rw [hfull]; rfl) ⟨_, rfl, _, rd1 (g4.get hring3 (not_non _)) (by rfl), ?_⟩
      refine Calls.then (page w4 s4 g4) ?_
      rintro e w5 ⟨k, rfl, a, n, c, hr5, hfin⟩
      refine ⟨_, _, rfl, br_f rfl ⟨_, rfl, _, _, _, rd1 hr5 (by rfl), fun k56 w57 hnew => ?_⟩⟩
      obtain ⟨p58, k59, k60, w61, q1, q2, q3⟩ := hfin k56 w57 hnew
      exact ⟨p58, k59, k60, w61, q1, _, rfl, q2, q3⟩
    · refine br_f (by simp; omega) ?_
      exact key w4 _ fs last (h3.non g4) (by omega) rfl (fun k hk => .inl hk) (by omega) g4.non (g4.get b3 (not_non _)) (hx3.non g4) (gl3.non g4)
end Go.Proofs

namespace Go.Proofs
open Go Go.X Go.RowKit
set_option linter.unusedVariables false
set_option linter.unusedSimpArgs false
set_option maxRecDepth 100000

def hisA (rg : Nat) : Array Value := #[.pointer (some ⟨rg, 0, none⟩)]
theorem c54 (w : World) (hi rg : Nat) (h : blk w hi = some (.cells (hisA rg) 141)) : Calls Tryz.prog 54 #[.pointer (some ⟨hi, 0, none⟩)] w fun e w' => e = .returned (.bool false) ∧ Chg Non w w' := by
  refine r54 _ _ _ ?_
  unfold V54
  exact br_f rfl ⟨_, rfl, _, rd1 h (by rfl), rfl, Chg.refl _ _⟩
theorem c39 (w : World) : Calls Tryz.prog 39 #[.int .i64 100] w fun e w' => ∃ hi rg, e = .returned (.tuple #[.pointer (some ⟨hi, 0, none⟩), .int .i64 0]) ∧ blk w' hi = some (.cells (hisA rg) 141) ∧ blk w' rg = some (.cells (ringA 0 (.slice none 0 0)) 189) ∧ w.heap.size ≤ hi ∧ w.heap.size ≤ rg ∧ Chg Non w w' := by
  refine r39 _ _ _ ?_
  unfold V39
  refine Calls.then (c67 w) ?_
  rintro e w1 ⟨rg, rfl, b1, e1, s1, g1⟩
  refine ⟨_, _, rfl, br_f rfl (nw ?_)⟩
  intro k w2 e2 s2 b2 g2
  exact ⟨k, rg, rfl, b2, g2.get b1 (not_non _), by omega, by omega, by (repeat (first | exact Chg.refl _ _ | refine Chg.step (by assumption) ?_ (by (first | exact sub_non _ | exact sub_nil _ | (repeat (first | exact sub_nil _ | refine sub_new (by omega) ?_ | refine sub_old (by first | assumption | exact in_head _ _ | exact in_tail (in_head _ _) | exact in_tail (in_tail (in_head _ _)) | simp [In]) ?_))))))⟩

theorem c284 (w : World) (b cap C : Nat) (l : List GRow) (gl : Glob w) (h : LinesV w (.slice (some ⟨b, 0, none⟩) l.length cap) l) (hr : RowsAt w C l) (hC : C ≤ 1000) (hm : l.length ≤ 1000) :
    Calls Tryz.prog 284 #[.slice (some ⟨b, 0, none⟩) l.length cap] w fun e w' => e = .returned (.bool true) ∧ Chg Non w w' := by
  refine r284 _ _ _ _ _ ?_
  unfold V284
  refine ⟨fun vs w' => Chg Non w w' ∧ ∃ (b : Bool) (j : Nat), vs = [.bool b, .int .i64 j] ∧ j ≤ l.length, fun vs _ => match vs with | [_, .int _ j] => (l.length - j).toNat | _ => 0, ⟨Chg.refl _ _, false, 0, rfl, by omega⟩, ?_⟩
  rintro b6 n w1 _ ⟨g1, _, j, hj, hjl⟩
  simp only [List.cons.injEq, Value.int.injEq, Value.bool.injEq, true_and, and_true] at hj
  obtain ⟨rfl, rfl⟩ := hj
  refine br_dec (fun hlt => ?_) fun hge => ⟨rfl, g1⟩
  have hi : j < l.length := by omega
  have hrow := (hr.non g1).row l[j] (List.getElem_mem _)
  have hlen := hr.len l[j] (List.getElem_mem _)
  have s1 := g1.size
  refine ⟨by omega, by omega, _, _, rfl, _, by rw [Nat.zero_add, Int.toNat_natCast]; exact (h.non g1).line hi, nw ?_⟩
  intro k w2 e2 s2 b2 g2
  refine ⟨rfl, one_lit rfl, fw b2 (by (first | exact Nat.le_of_ble_eq_true rfl | (simp; done) | omega)), puts0A b2 (by rfl) ?_⟩
  intro w3 s3 b3 g3
  refine ⟨_, rdall b3 (by rfl), ?_⟩
  have gg : Chg Non w w3 := by (repeat (first | exact Chg.refl _ _ | refine Chg.step (by assumption) ?_ (by (first | exact sub_non _ | exact sub_nil _ | (repeat (first | exact sub_nil _ | refine sub_new (by omega) ?_ | refine sub_old (by first | assumption | exact in_head _ _ | exact in_tail (in_head _ _) | exact in_tail (in_tail (in_head _ _)) | simp [In]) ?_))))))
  have hrow3 := (hrow.non g2).next g3 (not_in_cons (by have := hrow.lt; omega) (not_in_nil _))
  refine Calls.then (c56r w3 _ _ _ _ (gl.non gg) hrow3 (by omega)) ?_
  rintro e w4 ⟨rfl, g4⟩
  refine ⟨_, rfl, br_f rfl ⟨by unfold inInt; omega, ⟨gg.trans g4, b6, j + 1, by simp, by omega⟩, ?_⟩⟩
  show ((l.length : Int) - ((j : Int) + 1)).toNat < ((l.length : Int) - (j : Int)).toNat
  omega

theorem c285 (w : World) (hi rg C : Nat) (pv : Value) (ss : List Sht) (x : GRow) (b cap : Nat) (gl : Glob w) (hh : blk w hi = some (.cells (hisA rg) 141)) (hR : RingAt w rg C pv ss) (h : LinesV w (.slice (some ⟨b, 0, none⟩) 1 cap) [x]) (hx : RowAt w x.b x.cap x.rs) (hC : x.rs.length = C) (h0 : C ≠ 0) (hC' : C ≤ 1000) (hn : (kept ss).length < 100) (hss : ss.length ≤ 100) :
    Calls Tryz.prog 285 #[.pointer (some ⟨hi, 0, none⟩), .slice (some ⟨b, 0, none⟩) 1 cap] w fun e w' => ∃ pv' ss' y, e = .returned (.tuple #[]) ∧ RingAt w' rg C pv' ss' ∧ kept ss' = kept ss ++ [y] ∧ y.rs = x.rs ∧ y.so = x.so ∧ w.heap.size ≤ y.b ∧
      (∀ k, RB rg pv' ss' k → RB rg pv ss k ∨ w.heap.size ≤ k) ∧ ss'.length ≤ ss.length + 1 ∧ Chg (RB rg pv ss) w w' := by
  refine r285 _ _ _ _ _ _ ?_
  unfold V285
  have hhlt := blk_lt hh
  refine ⟨fun vs w' => (vs = [.int .i64 0] ∧ w' = w) ∨ (vs = [.int .i64 1] ∧ ∃ pv' ss' y, RingAt w' rg C pv' ss' ∧ kept ss' = kept ss ++ [y] ∧ y.rs = x.rs ∧ y.so = x.so ∧ w.heap.size ≤ y.b ∧ (∀ k, RB rg pv' ss' k → RB rg pv ss k ∨ w.heap.size ≤ k) ∧ ss'.length ≤ ss.length + 1 ∧ Chg (RB rg pv ss) w w'),
    fun vs _ => match vs with | [.int _ j] => (1 - j).toNat | _ => 0, .inl ⟨rfl, rfl⟩, ?_⟩
  rintro n w1 _ (⟨hn0, rfl⟩ | ⟨hn1, pv', ss', y, q⟩)
  · simp only [List.cons.injEq, Value.int.injEq, true_and, and_true] at hn0
    subst hn0
    have hi0 := h.line (i := 0) (by simp)
    refine br_t rfl ⟨by omega, by omega, _, _, rfl, _, hi0, nw ?_⟩
    intro k w2 e2 s2 b2 g2
    refine ⟨rfl, one_lit rfl, fw b2 (by (first | exact Nat.le_of_ble_eq_true rfl | (simp; done) | omega)), puts0A b2 (by rfl) ?_⟩
    intro w3 s3 b3 g3
    have hhne : hi ≠ k := by omega
    refine ⟨_, rfl, _, rd1 kp (by rfl), _, rdall b3 (by rfl), all_below ?_⟩
    intro w4 s4 g4
    have gg : Chg Non w1 w4 := by (repeat (first | exact Chg.refl _ _ | refine Chg.step (by assumption) ?_ (by (first | exact sub_non _ | exact sub_nil _ | (repeat (first | exact sub_nil _ | refine sub_new (by omega) ?_ | refine sub_old (by first | assumption | exact in_head _ _ | exact in_tail (in_head _ _) | exact in_tail (in_tail (in_head _ _)) | simp [In]) ?_))))))
    refine Calls.then (c315 w4 rg C pv ss x (gl.non gg) (hR.non gg) (hx.non gg) hC h0 hC' hn hss) ?_
    rintro e w5 ⟨m, pv', ss', y, rfl, p1, p2, p3, p4, p5, p6, p7, g5⟩
    have sg := gg.size
    refine ⟨_, _, rfl, by unfold inInt; omega, .inr ⟨rfl, pv', ss', y, p1, p2, p3, p4, by omega, fun k hk => (p6 k hk).imp id fun q => by omega, p7, gg.non.trans g5⟩, by show ((1 : Int) - (0 + 1)).toNat < ((1 : Int) - 0).toNat; decide⟩
  · simp only [List.cons.injEq, Value.int.injEq, true_and, and_true] at hn1
    subst hn1
    exact br_f rfl ⟨pv', ss', y, rfl, q⟩

theorem c246 (w : World) (hi rg C : Nat) (pv : Value) (ss : List Sht) (x : GRow) (b cap : Nat) (gl : Glob w) (hh : blk w hi = some (.cells (hisA rg) 141)) (hR : RingAt w rg C pv ss) (h : LinesV w (.slice (some ⟨b, 0, none⟩) 1 cap) [x]) (hx : RowAt w x.b x.cap x.rs) (hC : x.rs.length = C) (h0 : C ≠ 0) (hC' : C ≤ 1000) (hn : (kept ss).length < 100) (hss : ss.length ≤ 100) :
    Calls Tryz.prog 246 #[.pointer (some ⟨hi, 0, none⟩), .slice (some ⟨b, 0, none⟩) 1 cap] w fun e w' => ∃ pv' ss' y, e = .returned (.int .i64 0) ∧ RingAt w' rg C pv' ss' ∧ kept ss' = kept ss ++ [y] ∧ y.rs = x.rs ∧ y.so = x.so ∧ w.heap.size ≤ y.b ∧
      (∀ k, RB rg pv' ss' k → RB rg pv ss k ∨ w.heap.size ≤ k) ∧ ss'.length ≤ ss.length + 1 ∧ Chg (RB rg pv ss) w w' := by
  refine r246 _ _ _ _ _ _ ?_
  unfold V246
  refine Calls.then (c54 w hi rg hh) ?_
  rintro e w1 ⟨rfl, g1⟩
  refine ⟨_, rfl, br_f rfl ?_⟩
  have hrs : RowsAt w1 C [x] := ⟨fun y hy => by rw [List.mem_singleton] at hy; subst hy; exact hx.non g1, fun y hy => by rw [List.mem_singleton] at hy; subst hy; exact hC⟩
  refine Calls.then (c284 w1 b cap C [x] (gl.non g1) (h.non g1) hrs hC' (by simp)) ?_
  rintro e w2 ⟨rfl, g2⟩
  refine ⟨_, rfl, br_f rfl ?_⟩
  have gg := g1.trans g2
  have sg := gg.size
  refine Calls.then (c285 w2 hi rg C pv ss x b cap (gl.non gg) (gg.get hh (not_non _)) (hR.non gg) (h.non gg) (hx.non gg) hC h0 hC' hn hss) ?_
  rintro e w3 ⟨pv', ss', y, rfl, p1, p2, p3, p4, p5, p6, p7, g3⟩
  exact ⟨rfl, pv', ss', y, rfl, p1, p2, p3, p4, by omega, fun k hk => (p6 k hk).imp id fun q => by omega, p7, gg.non.trans g3⟩
end Go.Proofs

namespace Go.Proofs
open Go Go.X Go.RowKit
set_option linter.unusedVariables false
set_option linter.unusedSimpArgs false
set_option maxRecDepth 100000

def pairA (a b : Option Addr) : Array Value := #[.pointer a, .pointer b, .int .i64 0, .int .i64 0, .pointer none]
def PairAt (w : World) (pr g : Nat) : Prop := ∃ b, blk w pr = some (.cells (pairA (some ⟨g, 0, none⟩) b) 183)
theorem PairAt.next {F : Nat → Prop} {w w' : World} {pr g : Nat} (h : PairAt w pr g) (k : Chg F w w') (hf : ¬ F pr) : PairAt w' pr g := by obtain ⟨b, h⟩ := h; exact ⟨b, k.get h hf⟩
theorem PairAt.non {w w' : World} {pr g : Nat} (h : PairAt w pr g) (k : Chg Non w w') : PairAt w' pr g := h.next k (not_non _)

structure GFresh (n C R : Nat) (g rb : Nat) (l : List GRow) : Prop where
  len : l.length = R
  rows : ∀ x ∈ l, x.rs = List.replicate C 0 ∧ x.so = false ∧ n ≤ x.b
  g : n ≤ g
  rb : n ≤ rb

theorem c68 (w : World) (R C : Nat) (h0 : 1 ≤ R ∧ R ≤ 1000) (h1 : 1 ≤ C ∧ C ≤ 1000) :
    Calls Tryz.prog 68 #[.int .i64 R, .int .i64 C] w fun e w' => ∃ pr g rb rcap l, e = .returned (.tuple #[.pointer (some ⟨pr, 0, none⟩), .int .i64 0]) ∧ PairAt w' pr g ∧ GridAt w' g rb rcap C l ∧ GFresh w.heap.size C R g rb l ∧ w.heap.size ≤ pr ∧ Chg Non w w' := by
  refine r68 _ _ _ _ ?_
  unfold V68
  refine nw ?_
  intro k w1 e1 s1 b1 g1
  refine ⟨fun vs w' => ∃ (p7 : Option Addr) (n8 : Int) (j : Nat), vs = [.pointer p7, .int .i64 n8, .int .i64 j] ∧ Chg Non w w' ∧ ((j = 0 ∧ blk w' k = some (.cells (pairA none none) 183)) ∨ (1 ≤ j ∧ j ≤ 2 ∧ ∃ g rb rcap l, PairAt w' k g ∧ GridAt w' g rb rcap C l ∧ GFresh w.heap.size C R g rb l)),
    fun vs _ => match vs with | [_, _, .int _ j] => (2 - j).toNat | _ => 0, ⟨none, 0, 0, rfl, g1, .inl ⟨rfl, b1⟩⟩, ?_⟩
  rintro p7 n8 n9 w2 _ ⟨q7, m8, j, hv, g2, hcase⟩
  simp only [List.cons.injEq, Value.int.injEq, Value.pointer.injEq, true_and, and_true] at hv
  obtain ⟨rfl, rfl, rfl⟩ := hv
  have s2 := g2.size
  have hk0 : w.heap.size ≤ k := by omega
  refine br_dec (fun hlt => ?_) fun hge => ?_
  · refine Calls.then (c92 w2 R C h0 h1) ?_
    rintro e w3 ⟨g, rb, rcap, l, rfl, hg, hl, hrows, hgn, hrbn, g3⟩
    have s3 := g3.size
    refine ⟨_, _, rfl, br_f rfl ⟨_, rfl, by omega, by omega, _, _, rfl, ?_⟩⟩
    have gfr : GFresh w.heap.size C R g rb l := ⟨hl, fun x hx => ⟨(hrows x hx).1, (hrows x hx).2.1, by have := (hrows x hx).2.2; omega⟩, by omega, by omega⟩
    rcases hcase with ⟨rfl, hb⟩ | ⟨hj1, hj2, g', rb', rcap', l', hp, hg', hf'⟩
    · have hb3 := g3.get hb (not_non _)
      refine ⟨fw hb3 (by (first | exact Nat.le_of_ble_eq_true rfl | (simp; done) | omega)), put1 hb3 ?_⟩
      intro w4 s4 b4 g4
      have hkg := blk_lt hb
      have hgk : ∀ x ∈ l, ¬ In [k] x.b := fun x hx => not_in_cons (by have := (hrows x hx).2.2; omega) (not_in_nil _)
      refine ⟨by unfold inInt; omega, ⟨_, _, 1, rfl, (g2.trans g3).trans' g4 (sub_new hk0 (sub_nil _)), .inr ⟨by omega, by omega, g, rb, rcap, l, ⟨none, b4⟩, ?_, gfr⟩⟩, by show ((2 : Int) - (((0 : Nat) : Int) + 1)).toNat < ((2 : Int) - ((0 : Nat) : Int)).toNat; decide⟩
      exact ⟨g4.get hg.grid (not_in_cons (by omega) (not_in_nil _)), hg.hd.next g4 fun i hi => by simp only [Value.ownBlock, Option.some.injEq] at hi; exact not_in_cons (by omega) (not_in_nil _), hg.rows.next g4 hgk, hg.nodup⟩
    · have hj : j = 1 := by omega
      subst hj
      obtain ⟨b, hb⟩ := hp
      have hb3 := g3.get hb (not_non _)
      refine ⟨fw hb3 (by (first | exact Nat.le_of_ble_eq_true rfl | (simp; done) | omega)), put1 hb3 ?_⟩
      intro w4 s4 b4 g4
      have hkg := blk_lt hb
      have hg3 := hg'.non g3
      refine ⟨by unfold inInt; omega, ⟨_, _, 2, rfl, (g2.trans g3).trans' g4 (sub_new hk0 (sub_nil _)), .inr ⟨by omega, by omega, g', rb', rcap', l', ⟨_, b4⟩, ?_, hf'⟩⟩, by show ((2 : Int) - (((1 : Nat) : Int) + 1)).toNat < ((2 : Int) - ((1 : Nat) : Int)).toNat; decide⟩
      obtain ⟨cur, hcur, _⟩ := hg3.hd.at_
      exact ⟨g4.get hg3.grid (not_in_cons (blk_ne hg3.grid hb3 (by decide)) (not_in_nil _)), hg3.hd.next g4 fun i hi => by simp only [Value.ownBlock, Option.some.injEq] at hi; subst hi; exact not_in_cons (blk_ne hcur hb3 (by decide)) (not_in_nil _), hg3.rows.next g4 fun x hx => not_in_cons (row_ne_lines (hg3.rows.row x hx) hb3 (by decide)) (not_in_nil _), hg3.nodup⟩
  · rcases hcase with ⟨rfl, hb⟩ | ⟨hj1, hj2, g', rb', rcap', l', hp, hg', hf'⟩
    · omega
    · exact ⟨k, g', rb', rcap', l', rfl, hp, hg', hf', hk0, g2⟩

theorem c84 (w : World) (pr g : Nat) (h : PairAt w pr g) : Calls Tryz.prog 84 #[.pointer (some ⟨pr, 0, none⟩)] w fun e w' => e = .returned (.bool false) ∧ Chg Non w w' := by
  obtain ⟨b, h⟩ := h
  refine r84 _ _ _ ?_
  unfold V84
  exact br_f rfl ⟨_, rfl, by omega, by omega, _, _, rfl, _, rd1 h (by rfl), rfl, Chg.refl _ _⟩

theorem grows_lines (v : Value) (C N : Nat) (t : List (List Int × Bool)) : Grows fun w => ∃ l, LinesV w v l ∧ RowsAt w C l ∧ txts l = t ∧ (∀ x ∈ l, N ≤ x.b) ∧ ∀ g, v.ownBlock = some g → N ≤ g := by
  rintro w w' ⟨l, h1, h2, h3, h4, h5⟩ hb
  exact ⟨l, h1.non (.of_below hb), h2.non (.of_below hb), h3, h4, h5⟩

theorem c85 (w : World) (g rb rcap C : Nat) (l : List GRow) (h : GridR w g rb rcap C l) (h0 : C ≠ 0) (hC : C ≤ 1000) (hm : l.length ≤ 1000) (hl : l.length ≠ 0) :
    Calls Tryz.prog 85 #[.pointer (some ⟨g, 0, none⟩)] w fun e w' => ∃ g' rb' rcap' l', e = .returned (.pointer (some ⟨g', 0, none⟩)) ∧ GridR w' g' rb' rcap' C l' ∧ txts l' = txts l ∧ Chg Non w w' := by
  refine r85 _ _ _ ?_
  unfold V85
  have hgr := h.grid
  refine Calls.then (c86 w g C _ hgr h0) ?_
  rintro e w1 ⟨rfl, g1⟩
  refine ⟨_, rfl, br_f rfl ⟨_, rfl, _, rd1 (g1.get hgr (not_non _)) (by rfl), _, fun v => grows_lines v C w1.heap.size (txts l), float fun w2 s2 g2 => ?_, fun a n c k w3 hh => ?_⟩⟩
  · refine Calls.then (c53 w2 g rb rcap C l ((h.non g1).non g2) h0 hC hm) ?_
    rintro e w3 ⟨v, l', rfl, q1, q2, q3, q4, q5, g3⟩
    obtain ⟨a, c, rfl⟩ := q1.slice
    exact ⟨_, _, _, rfl, g3.below, l', q1, q2, q3, fun x hx => by have := q4 x hx; omega, fun j hj => by have := q5 j hj; omega⟩
  · obtain ⟨⟨hb3, l', q1, q2, q3, q4, q5⟩, w4, ⟨hb4, _⟩, rfl, h5⟩ := hh
    have g3 := Chg.of_below hb3
    have hlen : l'.length = l.length := by have := congrArg List.length q3; simpa [txts] using this
    obtain ⟨rb', rcap', cur, hv, hcur, _⟩ := own_slice q1 (by omega)
    injection hv with p1 p2 p3
    subst p1; subst p2; subst p3
    have hblk : blk w3 w4.heap.size = some (.cells #[.int .i64 C, .slice (some ⟨rb', 0, none⟩) l'.length c] 185) := by
      have := h5.block w4.heap.size (Nat.lt_succ_self _)
      exact this.trans (blk_alloc_new _ _)
    exact ⟨_, rb', c, l', rfl, ⟨hblk, q1, q2⟩, q3, g1.trans g3⟩

theorem grows_grid (v : Value) (C : Nat) (t : List (List Int × Bool)) : Grows fun w => ∃ g rb rcap l, v = .pointer (some ⟨g, 0, none⟩) ∧ GridR w g rb rcap C l ∧ txts l = t := by
  rintro w w' ⟨g, rb, rcap, l, h1, h2, h3⟩ hb
  exact ⟨g, rb, rcap, l, h1, h2.non (.of_below hb), h3⟩

theorem c52 (w : World) (pr g rb rcap C : Nat) (l : List GRow) (hp : PairAt w pr g) (h : GridR w g rb rcap C l) (h0 : C ≠ 0) (hC : C ≤ 1000) (hm : l.length ≤ 1000) (hl : l.length ≠ 0) :
    Calls Tryz.prog 52 #[.pointer (some ⟨pr, 0, none⟩)] w fun e w' => ∃ g' rb' rcap' l', e = .returned (.pointer (some ⟨g', 0, none⟩)) ∧ GridR w' g' rb' rcap' C l' ∧ txts l' = txts l ∧ Chg Non w w' := by
  refine r52 _ _ _ ?_
  unfold V52
  refine Calls.then (c84 w pr g hp) ?_
  rintro e w1 ⟨rfl, g1⟩
  obtain ⟨b, hb⟩ := hp.non g1
  refine ⟨_, rfl, br_f rfl ⟨_, rfl, _, rd1 hb (by rfl), _, rfl, by omega, by omega, _, _, rfl, _, rd1 hb (by rfl), _, fun v => grows_grid v C (txts l), float fun w2 s2 g2 => ?_, fun p w3 hh => ?_⟩⟩
  · refine Calls.then (c85 w2 g rb rcap C l ((h.non g1).non g2) h0 hC hm hl) ?_
    rintro e w3 ⟨g', rb', rcap', l', rfl, q1, q2, g3⟩
    exact ⟨_, rfl, g3.below, g', rb', rcap', l', rfl, q1, q2⟩
  · obtain ⟨hb3, g', rb', rcap', l', hv, q1, q2⟩ := hh
    injection hv with hv
    subst hv
    exact ⟨g', rb', rcap', l', rfl, q1, q2, g1.trans (.of_below hb3)⟩

/-- What a function does to the grid that is used. -/
theorem do_body {w : World} {pr g : Nat} {R : Ending → World → Prop} (hp : PairAt w pr g) {B : Option Addr → World → Prop} (h : ∀ w', w.heap.size ≤ w'.heap.size → Chg Non w w' → B (some ⟨g, 0, none⟩) w') :
    Calls Tryz.prog 84 #[.pointer (some ⟨pr, 0, none⟩)] w fun e5 w6 => ∃ b7, e5 = .returned (.bool b7) ∧ Br b7 (R (.returned (.int .i64 1)) w6) (∃ a9, (some ⟨pr, 0, none⟩ : Option Addr) = some a9 ∧ ∃ n10, w6.cell? ⟨a9.block, a9.off + 2, none⟩ = some (.int .i64 n10) ∧ ∃ a11, (some ⟨pr, 0, none⟩ : Option Addr) = some a11 ∧ (0 : Int) ≤ n10 ∧ n10 < ((2 : Nat) : Int) ∧ ∃ k12 k13, some a11 = some (Addr.mk k12 k13 none) ∧ ∃ p14, w6.cell? ⟨k12, k13 + n10.toNat * 1, none⟩ = some (.pointer p14) ∧ ∀ w15, Below w6.heap.size w6 w15 → B p14 w15) := by
  refine Calls.then (c84 w pr g hp) ?_
  rintro e w1 ⟨rfl, g1⟩
  obtain ⟨b, hb⟩ := hp.non g1
  refine ⟨_, rfl, br_f rfl ⟨_, rfl, _, rd1 hb (by rfl), _, rfl, by omega, by omega, _, _, rfl, _, rd1 hb (by rfl), all_below ?_⟩⟩
  intro w2 s2 g2
  have := g1.size
  exact h w2 (by omega) (g1.trans g2)
end Go.Proofs

namespace Go.Proofs
open Go Go.X Go.RowKit
set_option linter.unusedVariables false
set_option linter.unusedSimpArgs false
set_option maxRecDepth 100000

def scrL (R C pr hi row col : Nat) (pend : Bool) (stp pushed : Nat) : List Value := [.int .i64 R, .int .i64 C, .pointer (some ⟨pr, 0, none⟩), .pointer (some ⟨hi, 0, none⟩), .int .i64 row, .int .i64 col, .bool pend, .int .i64 0, .int .u8 0, .int .u8 0, .int .u8 0, .int .u8 0, .int .i64 0, .int .u8 0, .int .u8 0, .int .u8 0, .int .u8 0, .int .u8 0, .bool true, .bool false, .bool false, .bool true, .bool false, .bool false, .bool false, .int .i64 0, .int .i64 0, .int .i64 0, .int .i64 ((R : Int) - 1), .pointer (some ⟨stp, 0, none⟩), .int .i64 0, .int .i64 0, .int .i64 0, .int .i64 0, .int .i64 0, .bool false, .int .i64 0, .int .u8 0, .int .u8 0, .int .u8 0, .int .u8 0, .int .i64 0, .int .u8 0, .int .u8 0, .int .u8 0, .int .u8 0, .int .u8 0, .bool false, .int .i64 0, .int .i64 0, .int .i64 0, .int .i64 0, .int .i64 0, .bool false, .int .i64 0, .int .u8 0, .int .u8 0, .int .u8 0, .int .u8 0, .int .i64 0, .int .u8 0, .int .u8 0, .int .u8 0, .int .u8 0, .int .u8 0, .bool false, .int .i64 0, .int .i64 0, .int .i64 0, .string emptyS, .string emptyS, .string emptyS, .int .i64 pushed]
/-- A screen before it is made what it is at first. -/
def scr0L (R C hi : Nat) : List Value := [.int .i64 R, .int .i64 C, .pointer none, .pointer (some ⟨hi, 0, none⟩), .int .i64 0, .int .i64 0, .bool false, .int .i64 0, .int .u8 0, .int .u8 0, .int .u8 0, .int .u8 0, .int .i64 0, .int .u8 0, .int .u8 0, .int .u8 0, .int .u8 0, .int .u8 0, .bool false, .bool false, .bool false, .bool false, .bool false, .bool false, .bool false, .int .i64 0, .int .i64 0, .int .i64 0, .int .i64 0, .pointer none, .int .i64 0, .int .i64 0, .int .i64 0, .int .i64 0, .int .i64 0, .bool false, .int .i64 0, .int .u8 0, .int .u8 0, .int .u8 0, .int .u8 0, .int .i64 0, .int .u8 0, .int .u8 0, .int .u8 0, .int .u8 0, .int .u8 0, .bool false, .int .i64 0, .int .i64 0, .int .i64 0, .int .i64 0, .int .i64 0, .bool false, .int .i64 0, .int .u8 0, .int .u8 0, .int .u8 0, .int .u8 0, .int .i64 0, .int .u8 0, .int .u8 0, .int .u8 0, .int .u8 0, .int .u8 0, .bool false, .int .i64 0, .int .i64 0, .int .i64 0, .string emptyS, .string emptyS, .string emptyS, .int .i64 0]

structure SS where
  pr : Nat
  g : Nat
  rb : Nat
  rcap : Nat
  hi : Nat
  rg : Nat
  stp : Nat
  stm : Nat
  pv : Value
  ss : List Sht
  l : List GRow
  row : Nat
  col : Nat
  pend : Bool
  pushed : Nat

structure Scr (w : World) (s R C : Nat) (S : SS) : Prop where
  scr : blk w s = some (.cells (scrL R C S.pr S.hi S.row S.col S.pend S.stp S.pushed).toArray 118)
  pair : PairAt w S.pr S.g
  grid : GridAt w S.g S.rb S.rcap C S.l
  len : S.l.length = R
  his : blk w S.hi = some (.cells (hisA S.rg) 141)
  ring : RingAt w S.rg C S.pv S.ss
  stops : StopAt w S.stp S.stm C
  d1 : ∀ x ∈ S.ss, x.v.ownBlock ≠ some S.rb
  d2 : ∀ x ∈ kept S.ss, ∀ y ∈ S.l, x.b ≠ y.b
  lo : 3 ≤ s ∧ 3 ≤ S.rb ∧ ∀ y ∈ S.l, 3 ≤ y.b
  hrow : S.row < R
  hcol : S.col < C
  hpend : S.pend = true → S.col = C - 1
  hR : 1 ≤ R ∧ R ≤ 1000
  hC : 1 ≤ C ∧ C ≤ 16
  hss : S.ss.length ≤ (kept S.ss).length

/-- The blocks that a screen may change. -/
def SF (s : Nat) (S : SS) (k : Nat) : Prop := k = s ∨ k = S.rb ∨ RB S.rg S.pv S.ss k ∨ ∃ y ∈ S.l, k = y.b
/-- What a call of the screen says of its blocks. -/
def SStep (s : Nat) (w : World) (S : SS) (w' : World) (S' : SS) : Prop := Chg (SF s S) w w' ∧ ∀ k, SF s S' k → SF s S k ∨ w.heap.size ≤ k
theorem SStep.refl (s : Nat) (w : World) (S : SS) : SStep s w S w S := ⟨Chg.refl _ _, fun k h => .inl h⟩
theorem SStep.trans {s : Nat} {w w' w'' : World} {S S' S'' : SS} (h : SStep s w S w' S') (k : SStep s w' S' w'' S'') : SStep s w S w'' S'' := by
  refine ⟨h.1.trans' k.1 fun i hi hf => ?_, fun i hi => ?_⟩
  · rcases h.2 i hf with q | q
    · exact q
    · omega
  · rcases k.2 i hi with q | q
    · exact h.2 i q
    · have := h.1.size; exact .inr (by omega)
theorem SStep.non {s : Nat} {w w' : World} {S : SS} (h : Chg Non w w') : SStep s w S w' S := ⟨h.non, fun k h => .inl h⟩

theorem not_rb {w : World} {rg C : Nat} {pv : Value} {ss : List Sht} (h : RingAt w rg C pv ss) {k : Nat} {c : Array Value} {T : TypeId} {f : Nat × Nat} (hk : blk w k = some (.cells c T f)) (h1 : T ≠ 189) (h2 : T ≠ 212) (h3 : T ≠ 259) (h4 : T ≠ 96) : ¬ RB rg pv ss k := by
  rintro (rfl | e | ⟨s, hs, rfl | e⟩)
  · exact blk_ne hk h.ring h1 rfl
  · exact own_ne h.pages hk h2 e
  · exact blk_ne hk (h.sheets s hs).blk h3 rfl
  · exact (h.sheets s hs).lines.ne hk h4 e
theorem not_rb_map {w : World} {rg C : Nat} {pv : Value} {ss : List Sht} (h : RingAt w rg C pv ss) {k : Nat} {es : Array MapEntry} {clock : Nat} (hk : blk w k = some (.map es clock)) : ¬ RB rg pv ss k := by
  have ne : ∀ {j : Nat} {c : Array Value} {T : TypeId} {f : Nat × Nat}, blk w j = some (.cells c T f) → k ≠ j := by
    rintro j c T f hj rfl; rw [hk] at hj; cases hj
  have nev : ∀ {e : TypeId} {size : Nat} {v : Value} {n : Nat} {xs : List Value}, w.ownsRow 0 e size v n xs → ¬ OwnB v k := by
    intro e size v n xs ho hh
    obtain ⟨cur, hcur⟩ := own_blk ho hh.symm
    exact ne hcur rfl
  rintro (rfl | e | ⟨s, hs, rfl | e⟩)
  · exact ne h.ring rfl
  · exact nev h.pages e
  · exact ne (h.sheets s hs).blk rfl
  · exact nev (h.sheets s hs).lines e
theorem Scr.rbB {w : World} {s R C : Nat} {S : SS} (h : Scr w s R C S) : ∃ cur, blk w S.rb = some (.cells cur 96) := by obtain ⟨cur, h, _⟩ := h.grid.hd.at_; exact ⟨cur, h⟩
theorem Scr.not_sf {w : World} {s R C : Nat} {S : SS} (h : Scr w s R C S) {k : Nat} {c : Array Value} {T : TypeId} {f : Nat × Nat} (hk : blk w k = some (.cells c T f)) (h1 : T ≠ 189) (h2 : T ≠ 212) (h3 : T ≠ 259) (h4 : T ≠ 96) (h5 : T ≠ 118) (h6 : T ≠ 149) : ¬ SF s S k := by
  obtain ⟨cur, hrb⟩ := h.rbB
  rintro (rfl | rfl | e | ⟨y, hy, rfl⟩)
  · exact blk_ne hk h.scr h5 rfl
  · exact blk_ne hk hrb h4 rfl
  · exact not_rb h.ring hk h1 h2 h3 h4 e
  · obtain ⟨c', hc', _⟩ := (h.grid.rows.row y hy).ex
    exact blk_ne hk hc' h6 rfl
theorem Scr.lt {w : World} {s R C : Nat} {S : SS} (h : Scr w s R C S) {k : Nat} (hk : SF s S k) : k < w.heap.size := by
  rcases hk with rfl | rfl | e | ⟨y, hy, rfl⟩
  · exact blk_lt h.scr
  · obtain ⟨cur, hrb⟩ := h.rbB; exact blk_lt hrb
  · exact h.ring.lt e
  · exact (h.grid.rows.row y hy).lt
theorem Scr.glob {w w' : World} {s R C : Nat} {S : SS} (h : Scr w s R C S) (g : Glob w) (k : Chg (SF s S) w w') : Glob w' := by
  have hn : ∀ j, j < 3 → ¬ SF s S j := by
    rintro j hj (rfl | rfl | e | ⟨y, hy, rfl⟩)
    · have := h.lo.1; omega
    · have := h.lo.2.1; omega
    · have := h.ring.lo j e; omega
    · have := h.lo.2.2 y hy; omega
  exact g.next k (hn 1 (by decide)) (hn 2 (by decide))

theorem Scr.non {w w' : World} {s R C : Nat} {S : SS} (h : Scr w s R C S) (k : Chg Non w w') : Scr w' s R C S :=
  { h with scr := k.get h.scr (not_non _), pair := h.pair.non k, grid := h.grid.non k, his := k.get h.his (not_non _), ring := h.ring.non k, stops := h.stops.non k }

/-- The parts that no call changes. -/
theorem Scr.keep {F : Nat → Prop} {w w' : World} {s R C : Nat} {S : SS} (h : Scr w s R C S) (k : Chg F w w') (hF : ∀ j, F j → SF s S j) : PairAt w' S.pr S.g ∧ blk w' S.hi = some (.cells (hisA S.rg) 141) ∧ StopAt w' S.stp S.stm C ∧ (∀ v, blk w S.g = some (.cells v 185) → blk w' S.g = some (.cells v 185)) := by
  have nf : ∀ {k : Nat} {c : Array Value} {T : TypeId} {f : Nat × Nat}, blk w k = some (.cells c T f) → T ≠ 189 → T ≠ 212 → T ≠ 259 → T ≠ 96 → T ≠ 118 → T ≠ 149 → ¬ F k := fun hk h1 h2 h3 h4 h5 h6 hf => h.not_sf hk h1 h2 h3 h4 h5 h6 (hF _ hf)
  obtain ⟨b, hp⟩ := h.pair
  obtain ⟨clock, hm⟩ := h.stops.m
  refine ⟨⟨b, k.get hp (nf hp (by decide) (by decide) (by decide) (by decide) (by decide) (by decide))⟩, k.get h.his (nf h.his (by decide) (by decide) (by decide) (by decide) (by decide) (by decide)),
    ⟨k.get h.stops.s (nf h.stops.s (by decide) (by decide) (by decide) (by decide) (by decide) (by decide)), clock, k.get hm fun hf => ?_⟩, fun v hv => k.get hv (nf hv (by decide) (by decide) (by decide) (by decide) (by decide) (by decide))⟩
  rcases hF _ hf with e | e | e | ⟨y, hy, e⟩
  · have := h.scr; rw [← e, hm] at this; cases this
  · obtain ⟨cur, hrb⟩ := h.rbB; rw [← e, hm] at hrb; cases hrb
  · exact not_rb_map h.ring hm e
  · obtain ⟨c', hc', _⟩ := (h.grid.rows.row y hy).ex; rw [← e, hm] at hc'; cases hc'

/-- The screen's own cells are others. -/
theorem Scr.own {w w' : World} {s R C : Nat} {S : SS} (h : Scr w s R C S) (row col : Nat) (pend : Bool) (pushed : Nat) (b : blk w' s = some (.cells (scrL R C S.pr S.hi row col pend S.stp pushed).toArray 118)) (k : Chg (In [s]) w w') (hr : row < R) (hc : col < C) (hp : pend = true → col = C - 1) :
    Scr w' s R C { S with row := row, col := col, pend := pend, pushed := pushed } ∧ SStep s w S w' { S with row := row, col := col, pend := pend, pushed := pushed } := by
  have hF : ∀ j, In [s] j → SF s S j := fun j hj => .inl (by unfold In at hj; rwa [List.mem_singleton] at hj)
  obtain ⟨k1, k2, k3, k4⟩ := h.keep k hF
  have ns : ∀ {j : Nat} {c : Array Value} {T : TypeId} {f : Nat × Nat}, blk w j = some (.cells c T f) → T ≠ 118 → ¬ In [s] j := fun hj hT => not_in_cons (blk_ne hj h.scr hT) (not_in_nil _)
  have nso : ∀ {e : TypeId} {size : Nat} {v : Value} {n : Nat} {xs : List Value}, w.ownsRow 0 e size v n xs → e ≠ 118 → ∀ j, v.ownBlock = some j → ¬ In [s] j := by
    intro e size v n xs ho hT j hj
    obtain ⟨cur, hcur⟩ := own_blk ho hj
    exact ns hcur hT
  have nsr : ∀ {y : GRow}, RowAt w y.b y.cap y.rs → ¬ In [s] y.b := fun hy => by obtain ⟨c', hc', _⟩ := hy.ex; exact ns hc' (by decide)
  refine ⟨⟨b, k1, ⟨k4 _ h.grid.grid, own_next h.grid.hd k (nso h.grid.hd (by decide)), h.grid.rows.next k fun y hy => nsr (h.grid.rows.row y hy), h.grid.nodup⟩, h.len, k2, h.ring.next k ?_ ?_, k3, h.d1, h.d2, h.lo, hr, hc, hp, h.hR, h.hC, h.hss⟩, k.mono fun j _ hj => hF j hj, fun j hj => .inl hj⟩
  · rintro j hj hi
    unfold In at hi; rw [List.mem_singleton] at hi; subst hi
    exact not_rb h.ring h.scr (by decide) (by decide) (by decide) (by decide) hj
  · intro x hx
    obtain ⟨sh, hsh, hx⟩ := List.mem_flatMap.1 hx
    exact nsr ((h.ring.sheets sh hsh).rows.row x hx)

/-- The grid's rows are others, in the same blocks, or a new one. -/
theorem Scr.rows {F : Nat → Prop} {w w' : World} {s R C : Nat} {S : SS} (h : Scr w s R C S) (l' : List GRow) (k : Chg F w w') (hF : ∀ j, F j → j = S.rb ∨ ∃ y ∈ S.l, j = y.b) (hg : GridAt w' S.g S.rb S.rcap C l') (hl : l'.length = R) (hb : ∀ y ∈ l', (∃ z ∈ S.l, y.b = z.b) ∨ w.heap.size ≤ y.b) :
    Scr w' s R C { S with l := l' } ∧ SStep s w S w' { S with l := l' } := by
  have hF' : ∀ j, F j → SF s S j := fun j hj => (hF j hj).elim (fun e => .inr (.inl e)) fun e => .inr (.inr (.inr e))
  obtain ⟨k1, k2, k3, k4⟩ := h.keep k hF'
  obtain ⟨cur, hrb⟩ := h.rbB
  have n1 : ∀ {j : Nat} {c : Array Value} {T : TypeId} {f : Nat × Nat}, blk w j = some (.cells c T f) → T ≠ 96 → T ≠ 149 → ¬ F j := by
    intro j c T f hj h1 h2 hf
    rcases hF j hf with e | ⟨y, hy, e⟩
    · exact blk_ne hj (e ▸ hrb) h1 rfl
    · obtain ⟨c', hc', _⟩ := (h.grid.rows.row y hy).ex
      exact blk_ne hj (e ▸ hc') h2 rfl
  have hsz : ∀ y ∈ S.l, y.b < w.heap.size := fun y hy => (h.grid.rows.row y hy).lt
  refine ⟨⟨k.get h.scr (n1 h.scr (by decide) (by decide)), k1, hg, hl, k2, h.ring.next k ?_ ?_, k3, h.d1, ?_, ⟨h.lo.1, h.lo.2.1, ?_⟩, h.hrow, h.hcol, h.hpend, h.hR, h.hC, h.hss⟩, k.mono fun j _ hj => hF' j hj, ?_⟩
  · rintro j (rfl | e | ⟨sh, hsh, rfl | e⟩)
    · exact n1 h.ring.ring (by decide) (by decide)
    · obtain ⟨c', hc'⟩ := own_blk h.ring.pages e.symm
      exact n1 hc' (by decide) (by decide)
    · exact n1 (h.ring.sheets sh hsh).blk (by decide) (by decide)
    · intro hf
      obtain ⟨c', hc'⟩ := own_blk (h.ring.sheets sh hsh).lines e.symm
      rcases hF j hf with q | ⟨y, hy, q⟩
      · subst q; exact h.d1 sh hsh e.symm
      · obtain ⟨c2, hc2, _⟩ := (h.grid.rows.row y hy).ex
        exact blk_ne hc' (q ▸ hc2) (by decide) rfl
  · intro x hx hf
    obtain ⟨sh, hsh, hxs⟩ := List.mem_flatMap.1 hx
    obtain ⟨c', hc', _⟩ := ((h.ring.sheets sh hsh).rows.row x hxs).ex
    rcases hF _ hf with q | ⟨y, hy, q⟩
    · exact blk_ne hc' (q ▸ hrb) (by decide) rfl
    · exact h.d2 x hx y hy q
  · intro x hx y hy e
    rcases hb y hy with ⟨z, hz, q⟩ | q
    · exact h.d2 x hx z hz (e.trans q)
    · obtain ⟨sh, hsh, hxs⟩ := List.mem_flatMap.1 hx
      have := ((h.ring.sheets sh hsh).rows.row x hxs).lt
      omega
  · intro y hy
    rcases hb y hy with ⟨z, hz, q⟩ | q
    · have := h.lo.2.2 z hz; omega
    · have := blk_lt h.scr; have := h.lo.1; omega
  · rintro j (e | e | e | ⟨y, hy, e⟩)
    · exact .inl (.inl e)
    · exact .inl (.inr (.inl e))
    · exact .inl (.inr (.inr (.inl e)))
    · rcases hb y hy with ⟨z, hz, q⟩ | q
      · exact .inl (.inr (.inr (.inr ⟨z, hz, e.trans q⟩)))
      · exact .inr (by omega)

/-- A line has come to the history. -/
theorem Scr.push {w w' : World} {s R C : Nat} {S : SS} (h : Scr w s R C S) (pv' : Value) (ss' : List Sht) (y : GRow) (k : Chg (RB S.rg S.pv S.ss) w w') (hr : RingAt w' S.rg C pv' ss') (hk : kept ss' = kept S.ss ++ [y]) (hy : w.heap.size ≤ y.b) (hb : ∀ j, RB S.rg pv' ss' j → RB S.rg S.pv S.ss j ∨ w.heap.size ≤ j) (hl : ss'.length ≤ S.ss.length + 1) :
    Scr w' s R C { S with pv := pv', ss := ss' } ∧ SStep s w S w' { S with pv := pv', ss := ss' } := by
  have hF' : ∀ j, RB S.rg S.pv S.ss j → SF s S j := fun j hj => .inr (.inr (.inl hj))
  obtain ⟨k1, k2, k3, k4⟩ := h.keep k hF'
  obtain ⟨cur, hrb⟩ := h.rbB
  have hrblt := blk_lt hrb
  have nrb : ¬ RB S.rg S.pv S.ss S.rb := by
    rintro (e | e | ⟨sh, hsh, e | e⟩)
    · exact blk_ne hrb (e ▸ h.ring.ring) (by decide) rfl
    · exact own_ne h.ring.pages hrb (by decide) e
    · exact blk_ne hrb (e ▸ (h.ring.sheets sh hsh).blk) (by decide) rfl
    · exact h.d1 sh hsh e.symm
  have nrow : ∀ z ∈ S.l, ¬ RB S.rg S.pv S.ss z.b := fun z hz => by
    obtain ⟨c', hc', _⟩ := (h.grid.rows.row z hz).ex
    exact not_rb h.ring hc' (by decide) (by decide) (by decide) (by decide)
  refine ⟨⟨k.get h.scr (not_rb h.ring h.scr (by decide) (by decide) (by decide) (by decide)), k1, ⟨k4 _ h.grid.grid, own_next h.grid.hd k fun j hj => ?_, h.grid.rows.next k nrow, h.grid.nodup⟩, h.len, k2, hr, k3, ?_, ?_, h.lo, h.hrow, h.hcol, h.hpend, h.hR, h.hC, ?_⟩, k.mono fun j _ hj => hF' j hj, ?_⟩
  · simp only [Value.ownBlock, Option.some.injEq] at hj; subst hj; exact nrb
  · intro sh hsh e
    rcases hb S.rb (.inr (.inr ⟨sh, hsh, .inr e.symm⟩)) with q | q
    · exact nrb q
    · omega
  · intro x hx z hz
    dsimp only at hx
    rw [hk] at hx
    rcases List.mem_append.1 hx with hx | hx
    · exact h.d2 x hx z hz
    · rw [List.mem_singleton] at hx; subst hx
      have := (h.grid.rows.row z hz).lt
      intro e; omega
  · dsimp only; rw [hk, List.length_append, List.length_singleton]; have := h.hss; omega
  · rintro j (e | e | e | e)
    · exact .inl (.inl e)
    · exact .inl (.inr (.inl e))
    · rcases hb j e with q | q
      · exact .inl (.inr (.inr (.inl q)))
      · exact .inr q
    · exact .inl (.inr (.inr (.inr e)))
end Go.Proofs

namespace Go.Proofs
open Go Go.X Go.RowKit
set_option linter.unusedVariables false
set_option linter.unusedSimpArgs false
set_option maxRecDepth 100000

/-- Another block, of another type, is changed. -/
theorem Scr.off {w w' : World} {s R C j : Nat} {S : SS} {c : Array Value} {T : TypeId} {f : Nat × Nat} (h : Scr w s R C S) (k : Chg (In [j]) w w') (hj : blk w j = some (.cells c T f)) (hT : T ∉ [118, 183, 185, 96, 149, 141, 189, 212, 259, 197]) : Scr w' s R C S := by
  simp only [List.mem_cons, List.not_mem_nil, or_false, not_or] at hT
  obtain ⟨t1, t2, t3, t4, t5, t6, t7, t8, t9, t10⟩ := hT
  have ns : ∀ {i : Nat} {c' : Array Value} {T' : TypeId} {f' : Nat × Nat}, blk w i = some (.cells c' T' f') → T' ≠ T → ¬ In [j] i := fun hi hT => not_in_cons (blk_ne hi hj hT) (not_in_nil _)
  have nso : ∀ {e : TypeId} {size : Nat} {v : Value} {n : Nat} {xs : List Value}, w.ownsRow 0 e size v n xs → e ≠ T → ∀ i, v.ownBlock = some i → ¬ In [j] i := by
    intro e size v n xs ho hT i hi
    obtain ⟨cur, hcur⟩ := own_blk ho hi
    exact ns hcur hT
  have nsr : ∀ {y : GRow}, RowAt w y.b y.cap y.rs → ¬ In [j] y.b := fun hy => by obtain ⟨c', hc', _⟩ := hy.ex; exact ns hc' (Ne.symm t5)
  obtain ⟨pb, hp⟩ := h.pair
  obtain ⟨clock, hm⟩ := h.stops.m
  have hmj : ¬ In [j] S.stm := not_in_cons (by rintro e; rw [e, hj] at hm; cases hm) (not_in_nil _)
  exact { h with
    scr := k.get h.scr (ns h.scr (Ne.symm t1))
    pair := ⟨pb, k.get hp (ns hp (Ne.symm t2))⟩
    grid := ⟨k.get h.grid.grid (ns h.grid.grid (Ne.symm t3)), own_next h.grid.hd k (nso h.grid.hd (Ne.symm t4)), h.grid.rows.next k fun y hy => nsr (h.grid.rows.row y hy), h.grid.nodup⟩
    his := k.get h.his (ns h.his (Ne.symm t6))
    ring := h.ring.next k (by
      rintro i (rfl | e | ⟨sh, hsh, rfl | e⟩)
      · exact ns h.ring.ring (Ne.symm t7)
      · exact nso h.ring.pages (Ne.symm t8) i e.symm
      · exact ns (h.ring.sheets sh hsh).blk (Ne.symm t9)
      · exact nso (h.ring.sheets sh hsh).lines (Ne.symm t4) i e.symm) (fun x hx => by
      obtain ⟨sh, hsh, hx⟩ := List.mem_flatMap.1 hx
      exact nsr ((h.ring.sheets sh hsh).rows.row x hx))
    stops := ⟨k.get h.stops.s (ns h.stops.s (Ne.symm t10)), clock, k.get hm hmj⟩ }
theorem SStep.off {s : Nat} {w w1 w2 : World} {S S' : SS} {j : Nat} (h : SStep s w S w1 S') (k : Chg (In [j]) w1 w2) (hj : w.heap.size ≤ j) : SStep s w S w2 S' := ⟨h.1.trans' k (sub_new hj (sub_nil _)), h.2⟩

theorem c49 (w : World) (s R C : Nat) (S : SS) (h : Scr w s R C S) : Calls Tryz.prog 49 #[.pointer (some ⟨s, 0, none⟩)] w fun e w' => e = .returned (.bool false) ∧ Chg Non w w' := by
  refine r49 _ _ _ ?_
  unfold V49
  exact br_f rfl ⟨_, rfl, _, rd1 h.scr (by rfl), rfl, Chg.refl _ _⟩
theorem c195 (w : World) (pr g : Nat) (h : PairAt w pr g) : Calls Tryz.prog 195 #[.pointer (some ⟨pr, 0, none⟩)] w fun e w' => e = .returned (.bool false) ∧ Chg Non w w' := by
  refine r195 _ _ _ ?_
  unfold V195
  refine Calls.then (c84 w pr g h) ?_
  rintro e w1 ⟨rfl, g1⟩
  obtain ⟨b, hb⟩ := h.non g1
  exact ⟨_, rfl, br_t rfl ⟨_, rfl, _, rd1 hb (by rfl), rfl, g1⟩⟩
theorem c148 (w : World) (s R C : Nat) (S : SS) (h : Scr w s R C S) : Calls Tryz.prog 148 #[.pointer (some ⟨s, 0, none⟩)] w fun e w' => e = .returned (.int .i64 0) ∧ Chg Non w w' := by
  refine r148 _ _ _ ?_
  unfold V148
  refine ⟨_, rfl, _, rd1 h.scr (by rfl), ?_⟩
  refine Calls.then (c195 w S.pr S.g h.pair) ?_
  rintro e w1 ⟨rfl, g1⟩
  exact ⟨_, rfl, br_f rfl ⟨rfl, g1⟩⟩
theorem c104 (w : World) (s R C : Nat) (S : SS) (h : Scr w s R C S) : Calls Tryz.prog 104 #[.pointer (some ⟨s, 0, none⟩)] w fun e w' => e = .returned (.agg (arA R C)) ∧ Chg Non w w' := by
  have hs := h.scr
  have hslt := blk_lt hs
  refine r104 _ _ _ ?_
  unfold V104
  refine nw ?_
  intro k w1 e1 s1 b1 g1
  have hs1 := g1.get hs (not_non _)
  refine ⟨_, rfl, _, rd1 hs1 (by rfl), _, rfl, _, rd1 hs1 (by rfl), _, rfl, _, rdc (d := [.int .i64 0, .int .i64 ((R : Int) - 1)]) hs1 (by rfl) (by (first | exact Nat.le_of_ble_eq_true rfl | (simp; done) | omega)), _, rfl, _, rd1 hs1 (by rfl), rfl, all_below ?_⟩
  intro w2 s2 g2
  refine ⟨rfl, one_lit rfl, fw kp (by (first | exact Nat.le_of_ble_eq_true rfl | (simp; done) | omega)), puts0 kp (by rfl) ?_⟩
  intro w3 s3 b3 g3
  exact ⟨_, rdall b3 (by rfl), rfl, by (repeat (first | exact Chg.refl _ _ | refine Chg.step (by assumption) ?_ (by (first | exact sub_non _ | exact sub_nil _ | (repeat (first | exact sub_nil _ | refine sub_new (by omega) ?_ | refine sub_old (by first | assumption | exact in_head _ _ | exact in_tail (in_head _ _) | exact in_tail (in_tail (in_head _ _)) | simp [In]) ?_))))))⟩
theorem c153 (w : World) (s R C : Nat) (S : SS) (h : Scr w s R C S) : Calls Tryz.prog 153 #[.pointer (some ⟨s, 0, none⟩)] w fun e w' => e = .returned (.agg penZ) ∧ Chg Non w w' := by
  have hs := h.scr
  have hslt := blk_lt hs
  refine r153 _ _ _ ?_
  unfold V153
  refine nw ?_
  intro k w1 e1 s1 b1 g1
  have hs1 := g1.get hs (not_non _)
  refine ⟨_, rfl, _, rdc (d := [.int .i64 0, .int .u8 0, .int .u8 0, .int .u8 0, .int .u8 0]) hs1 (by rfl) (by (first | exact Nat.le_of_ble_eq_true rfl | (simp; done) | omega)), rfl, rfl, one_lit rfl, fw kp (by (first | exact Nat.le_of_ble_eq_true rfl | (simp; done) | omega)), puts0 kp (by rfl) ?_⟩
  intro w3 s3 b3 g3
  exact ⟨_, rdall b3 (by rfl), rfl, by (repeat (first | exact Chg.refl _ _ | refine Chg.step (by assumption) ?_ (by (first | exact sub_non _ | exact sub_nil _ | (repeat (first | exact sub_nil _ | refine sub_new (by omega) ?_ | refine sub_old (by first | assumption | exact in_head _ _ | exact in_tail (in_head _ _) | exact in_tail (in_tail (in_head _ _)) | simp [In]) ?_))))))⟩

theorem rowsame (l : List GRow) (row : Nat) (f : GRow → GRow) (hf : ∀ x, (f x).b = x.b) : ∀ y ∈ l.modify row f, ∃ z ∈ l, y.b = z.b := by
  intro y hy
  obtain ⟨i, hi, rfl⟩ := List.mem_iff_getElem.1 hy
  rw [List.length_modify] at hi
  refine ⟨l[i], List.getElem_mem _, ?_⟩
  rw [List.getElem_modify]
  split
  · exact hf _
  · rfl

def setSoft (S : SS) (row : Nat) (so : Bool) : SS := { S with l := S.l.modify row fun x => { x with so := so } }

theorem c181 (w : World) (s R C : Nat) (S : SS) (row : Nat) (so : Bool) (h : Scr w s R C S) (hr : row < R) :
    Calls Tryz.prog 181 #[.pointer (some ⟨s, 0, none⟩), .int .i64 row, .bool so] w fun e w' => e = .returned (.int .i64 0) ∧ Scr w' s R C (setSoft S row so) ∧ SStep s w S w' (setSoft S row so) := by
  refine r181 _ _ _ _ _ ?_
  unfold V181
  refine nw ?_
  intro k1 w1 e1 s1 b1 g1
  refine nw ?_
  intro k2 w2 e2 s2 b2 g2
  have gg : Chg Non w w2 := g1.trans g2
  have h2 := h.non gg
  refine ⟨_, rfl, _, rd1 h2.scr (by rfl), ?_⟩
  refine r132_238 _ _ _ _ _ ?_
  unfold V132_238
  have hp := h2.pair
  (refine Calls.then (c84 _ _ _ hp) ?_; rintro e wA ⟨rfl, gA⟩; obtain ⟨bA, hbA⟩ := hp.non gA; refine ⟨_, rfl, br_f rfl ⟨_, rfl, _, rd1 hbA (by rfl), _, rfl, by omega, by omega, _, _, rfl, _, rd1 hbA (by rfl), all_below ?_⟩⟩; intro wB sB gB)
  have g3 : Chg Non w2 wB := gA.trans gB
  refine r238 _ _ _ _ _ ?_
  unfold V238
  have h3 := h2.non g3
  have b2' := g3.get b2 (not_non _)
  have b1' := g3.get (g2.get b1 (not_non _)) (not_non _)
  refine ⟨_, rd1 b1' (by rfl), _, rd1 b2' (by rfl), ?_⟩
  have hC := h.hC
  refine Calls.then (c239 wB S.g S.rb S.rcap C S.l row so h3.grid (by omega) (by rw [h.len]; exact hr)) ?_
  rintro e w4 ⟨rfl, g4, hg4⟩
  refine ⟨_, rfl, _, rfl, _, rfl, rfl, ?_⟩
  have hlt3 := h3.lt (k := S.rb) (.inr (.inl rfl))
  obtain ⟨q1, q2⟩ := h3.rows (S.l.modify row fun x => { x with so := so }) g4 (fun j hj => .inl (by unfold In at hj; rwa [List.mem_singleton] at hj)) hg4 (by rw [List.length_modify]; exact h.len) fun y hy => .inl (rowsame S.l row (fun x => { x with so := so }) (fun _ => rfl) y hy)
  exact ⟨q1, (SStep.non (gg.trans g3)).trans q2⟩
end Go.Proofs

namespace Go.Proofs
open Go Go.X Go.RowKit
set_option linter.unusedVariables false
set_option linter.unusedSimpArgs false
set_option maxRecDepth 100000

theorem c191n (w : World) (s R C : Nat) (S : SS) (h : Scr w s R C S) : Calls Tryz.prog 191 #[.pointer (some ⟨s, 0, none⟩), .slice none 0 0] w fun e w' => e = .returned (.tuple #[]) ∧ Chg Non w w' := by
  refine r191 _ _ _ _ _ _ ?_
  unfold V191
  refine Calls.then (c148 w s R C S h) ?_
  rintro e w1 ⟨rfl, g1⟩
  exact ⟨_, rfl, br_t rfl (br_f rfl ⟨rfl, g1⟩)⟩

theorem c191o (w : World) (s R C : Nat) (S : SS) (h : Scr w s R C S) (gl : Glob w) (x : GRow) (gb gcap : Nat) (hg : LinesV w (.slice (some ⟨gb, 0, none⟩) 1 gcap) [x]) (hx : RowAt w x.b x.cap x.rs) (hxC : x.rs.length = C) (hn : (kept S.ss).length < 100) (hp : S.pushed ≤ 1000) :
    Calls Tryz.prog 191 #[.pointer (some ⟨s, 0, none⟩), .slice (some ⟨gb, 0, none⟩) 1 gcap] w fun e w' => ∃ pv' ss' y, e = .returned (.tuple #[]) ∧ Scr w' s R C { S with pv := pv', ss := ss', pushed := S.pushed + 1 } ∧ SStep s w S w' { S with pv := pv', ss := ss', pushed := S.pushed + 1 } ∧ kept ss' = kept S.ss ++ [y] ∧ y.rs = x.rs := by
  refine r191 _ _ _ _ _ _ ?_
  unfold V191
  have hC := h.hC
  refine Calls.then (c148 w s R C S h) ?_
  rintro e w1 ⟨rfl, g1⟩
  have h1 := h.non g1
  refine ⟨_, rfl, br_t rfl (br_t rfl ⟨_, rfl, _, rd1 h1.scr (by rfl), ?_⟩)⟩
  refine Calls.then (c246 w1 S.hi S.rg C S.pv S.ss x gb gcap (gl.non g1) h1.his h1.ring (hg.non g1) (hx.non g1) hxC (by omega) (by omega) hn (by have := h.hss; omega)) ?_
  rintro e w2 ⟨pv', ss', y, rfl, q1, q2, q3, q4, q5, q6, q7, g2⟩
  obtain ⟨h2, st2⟩ := h1.push pv' ss' y g2 q1 q2 q5 q6 q7
  refine ⟨_, rfl, _, rfl, _, rd1 h2.scr (by rfl), by unfold inInt; dsimp only; omega, _, rfl, fw h2.scr (by (first | exact Nat.le_of_ble_eq_true rfl | (simp; done) | omega)), putL (l' := scrL R C S.pr S.hi S.row S.col S.pend S.stp (S.pushed + 1)) h2.scr (by rfl) ?_⟩
  intro w3 s3 b3 g3
  obtain ⟨h3, st3⟩ := h2.own S.row S.col S.pend (S.pushed + 1) b3 g3 h.hrow h.hcol h.hpend
  exact ⟨pv', ss', y, rfl, h3, (SStep.non g1).trans (st2.trans st3), q2, q3⟩

/-- The screen behind a step to the next row. -/
def idxN (S : SS) : SS := { S with row := S.row + 1, pend := false }

theorem c142n (w : World) (s R C : Nat) (S : SS) (h : Scr w s R C S) (gl : Glob w) (hr : S.row + 1 < R) :
    Calls Tryz.prog 142 #[.pointer (some ⟨s, 0, none⟩)] w fun e w' => e = .returned (.int .i64 0) ∧ Scr w' s R C (idxN S) ∧ SStep s w S w' (idxN S) := by
  have hC := h.hC
  have hR := h.hR
  have hslt := blk_lt h.scr
  refine r142 _ _ _ ?_
  unfold V142
  refine nw ?_
  intro k1 w1 e1 s1 b1 g1
  refine nw ?_
  intro k2 w2 e2 s2 b2 g2
  have gg : Chg Non w w2 := g1.trans g2
  have h2 := h.non gg
  have hp := h2.pair
  refine ⟨_, rd1 (g2.get b1 (not_non _)) (by rfl), _, rfl, _, rd1 h2.scr (by rfl), ?_⟩
  refine r132_189 _ _ _ _ _ ?_
  unfold V132_189
  (refine Calls.then (c84 _ _ _ hp) ?_; rintro e wA ⟨rfl, gA⟩; obtain ⟨bA, hbA⟩ := hp.non gA; refine ⟨_, rfl, br_f rfl ⟨_, rfl, _, rd1 hbA (by rfl), _, rfl, by omega, by omega, _, _, rfl, _, rd1 hbA (by rfl), all_below ?_⟩⟩; intro wB sB gB)
  have g3 : Chg Non w2 wB := gA.trans gB
  have h3 := h2.non g3
  have bk1 := g3.get (g2.get b1 (not_non _)) (not_non _)
  have bk2 := g3.get b2 (not_non _)
  refine r189 _ _ _ _ _ ?_
  unfold V189
  refine ⟨_, rd1 bk1 (by rfl), _, rd1 bk1 (by rfl), _, rfl, _, rdc (d := [.int .i64 0, .int .i64 ((R : Int) - 1)]) h3.scr (by rfl) (by (first | exact Nat.le_of_ble_eq_true rfl | (simp; done) | omega)), _, rd1 bk1 (by rfl), _, rfl, _, rdc (d := [.int .i64 S.row, .int .i64 S.col, .bool S.pend]) h3.scr (by rfl) (by (first | exact Nat.le_of_ble_eq_true rfl | (simp; done) | omega)), _, rd1 bk1 (by rfl), _, floA fun w' s' g' => c153 w' s R C S (h3.non g'), all_below ?_⟩
  intro w4 s4 g4
  have h4 := h3.non g4
  have sB := g3.size
  refine Calls.then (c190n w4 S.g S.rb S.rcap C S.l S.row S.col S.pend (gl.non (gg.trans (g3.trans g4))) h4.grid.r (by omega) (by rw [h.len]; exact hr) h.hcol h.hpend (by rw [h.len]; omega) (by omega) ((R : Int) - 1) (by rw [h.len])) ?_
  rintro e w5 ⟨rfl, g5⟩
  have h5 := h4.non g5
  have bk1' := g5.get (g4.get bk1 (not_non _)) (not_non _)
  have bk2' := g5.get (g4.get bk2 (not_non _)) (not_non _)
  refine ⟨_, _, _, _, _, rfl, ⟨_, rd1 bk1' (by rfl), rfl⟩, _, rfl, ?_⟩
  dsimp only
  refine ⟨rfl, one_lit rfl, fw h5.scr (by (first | exact Nat.le_of_ble_eq_true rfl | (simp; done) | omega)), putsL (l' := scrL R C S.pr S.hi (S.row + 1) S.col false S.stp S.pushed) h5.scr (by (first | exact Nat.le_of_ble_eq_true rfl | (simp; done) | omega)) (by rfl) ?_⟩
  intro w6 s6 b6 g6
  obtain ⟨h6, st6⟩ := h5.own (S.row + 1) S.col false S.pushed b6 g6 hr h.hcol (fun hh => by cases hh)
  have bk1'' := g6.get bk1' (not_in_cons (by omega) (not_in_nil _))
  have bk2'' := g6.get bk2' (not_in_cons (by omega) (not_in_nil _))
  refine ⟨⟨_, rd1 bk1'' (by rfl), rfl⟩, fw bk2'' (by (first | exact Nat.le_of_ble_eq_true rfl | (simp; done) | omega)), putL (by exact bk2'') (by rfl) ?_⟩
  intro w7 s7 b7 g7
  have bk1f := g7.get bk1'' (not_in_cons (by omega) (not_in_nil _))
  refine ⟨⟨_, rd1 bk1f (by rfl), rfl⟩, _, rfl, _, rfl, _, rd1 bk1f (by rfl), _, _, _, rd1 b7 (by rfl), ?_⟩
  have h7 := h6.off g7 bk2'' (by decide)
  have st7 : SStep s w S w7 (idxN S) := SStep.off ((SStep.non (gg.trans (g3.trans (g4.trans g5)))).trans st6) g7 (by omega)
  refine Calls.then (c191n w7 s R C _ h7) ?_
  rintro e w8 ⟨rfl, g8⟩
  exact ⟨rfl, rfl, h7.non g8, st7.trans (SStep.non g8)⟩
end Go.Proofs

namespace Go.Proofs
open Go Go.X Go.RowKit
set_option linter.unusedVariables false
set_option linter.unusedSimpArgs false
set_option maxRecDepth 100000

/-- All rows that there are: those of the history, and those of the screen. -/
def runes (S : SS) : List (List Int) := (kept S.ss).map (·.rs) ++ S.l.map (·.rs)
/-- A step to the next row, behind the last one of which a new one comes. -/
structure Down (R C : Nat) (S S' : SS) : Prop where
  col : S'.col = S.col
  pend : S'.pend = false
  pushed : S'.pushed ≤ S.pushed + 1
  to : (S.row + 1 < R ∧ S'.row = S.row + 1 ∧ runes S' = runes S ∧ (kept S'.ss).length = (kept S.ss).length) ∨ (S.row + 1 = R ∧ S'.row = S.row ∧ runes S' = runes S ++ [List.replicate C 0] ∧ (kept S'.ss).length = (kept S.ss).length + 1)

theorem rolled_rs (x : GRow) (l : List GRow) (y : GRow) : (rolled (x :: l) y).map (·.rs) = l.map (·.rs) ++ [y.rs] := by
  unfold rolled
  rw [List.map_append]
  congr 1
  simp only [List.drop_succ_cons, List.drop_zero]
  apply List.ext_getElem?
  intro i
  simp only [List.getElem?_map, List.getElem?_modify]
  cases l[i]? <;> simp
  split <;> rfl

theorem c142l (w : World) (s R C : Nat) (S : SS) (h : Scr w s R C S) (gl : Glob w) (hr : S.row + 1 = R) (hn : (kept S.ss).length < 100) (hpu : S.pushed ≤ 1000) :
    Calls Tryz.prog 142 #[.pointer (some ⟨s, 0, none⟩)] w fun e w' => ∃ S', e = .returned (.int .i64 0) ∧ Scr w' s R C S' ∧ SStep s w S w' S' ∧ Down R C S S' := by
  have hC := h.hC
  have hR := h.hR
  have hslt := blk_lt h.scr
  obtain ⟨x, l, hSl⟩ : ∃ x l, S.l = x :: l := by
    cases hl : S.l with
    | nil => have := h.len; rw [hl] at this; simp at this; omega
    | cons x l => exact ⟨x, l, rfl⟩
  have hlen : l.length + 1 = R := by have := h.len; rw [hSl] at this; simpa using this
  have hrow : S.row = l.length := by omega
  refine r142 _ _ _ ?_
  unfold V142
  refine nw ?_
  intro k1 w1 e1 s1 b1 g1
  refine nw ?_
  intro k2 w2 e2 s2 b2 g2
  have gg : Chg Non w w2 := g1.trans g2
  have h2 := h.non gg
  have hp := h2.pair
  refine ⟨_, rd1 (g2.get b1 (not_non _)) (by rfl), _, rfl, _, rd1 h2.scr (by rfl), ?_⟩
  refine r132_189 _ _ _ _ _ ?_
  unfold V132_189
  (refine Calls.then (c84 _ _ _ hp) ?_; rintro e wA ⟨rfl, gA⟩; obtain ⟨bA, hbA⟩ := hp.non gA; refine ⟨_, rfl, br_f rfl ⟨_, rfl, _, rd1 hbA (by rfl), _, rfl, by omega, by omega, _, _, rfl, _, rd1 hbA (by rfl), all_below ?_⟩⟩; intro wB sB gB)
  have g3 : Chg Non w2 wB := gA.trans gB
  have h3 := h2.non g3
  have bk1 := g3.get (g2.get b1 (not_non _)) (not_non _)
  have bk2 := g3.get b2 (not_non _)
  refine r189 _ _ _ _ _ ?_
  unfold V189
  refine ⟨_, rd1 bk1 (by rfl), _, rd1 bk1 (by rfl), _, rfl, _, rdc (d := [.int .i64 0, .int .i64 ((R : Int) - 1)]) h3.scr (by rfl) (by (first | exact Nat.le_of_ble_eq_true rfl | (simp; done) | omega)), _, rd1 bk1 (by rfl), _, rfl, _, rdc (d := [.int .i64 S.row, .int .i64 S.col, .bool S.pend]) h3.scr (by rfl) (by (first | exact Nat.le_of_ble_eq_true rfl | (simp; done) | omega)), _, rd1 bk1 (by rfl), _, floA fun w' s' g' => c153 w' s R C S (h3.non g'), all_below ?_⟩
  intro w4 s4 g4
  have h4 := h3.non g4
  have sB := g3.size
  have hg4 := h4.grid
  rw [hSl] at hg4
  have hregeq : ((R : Int) - 1) = (l.length : Int) := by omega
  rw [hregeq, hrow]
  refine Calls.then (c190l w4 S.g S.rb S.rcap C x l S.col S.pend (gl.non (gg.trans (g3.trans g4))) hg4 (by omega) h.hcol h.hpend (by omega) (by omega)) ?_
  rintro e w5 ⟨gb, gcap, y, rfl, p1, p2, p3, p4, p5, p6, p7, g5⟩
  have s5 := g5.size
  obtain ⟨h5, st5⟩ := h4.rows (rolled (x :: l) y) g5 (fun j hj => .inl (by unfold In at hj; rwa [List.mem_singleton] at hj)) p4 (by rw [rolled_length _ _ (by simp)]; simpa using hlen) (by
    intro z hz
    unfold rolled at hz
    rcases List.mem_append.1 hz with hz | hz
    · obtain ⟨z', hz', e⟩ := rowsame _ _ (fun x => { x with so := false }) (fun _ => rfl) z hz
      exact .inl ⟨z', by rw [hSl]; exact List.mem_cons_of_mem _ (by simpa using hz'), e⟩
    · rw [List.mem_singleton] at hz; subst hz; exact .inr p7)
  have hrb4 := h4.lt (k := S.rb) (.inr (.inl rfl))
  have hrb0 := h.lt (k := S.rb) (.inr (.inl rfl))
  have bk1' := g5.get (g4.get bk1 (not_non _)) (not_in_cons (by omega) (not_in_nil _))
  have bk2' := g5.get (g4.get bk2 (not_non _)) (not_in_cons (by omega) (not_in_nil _))
  have hx4 := h4.grid.rows.row x (by rw [hSl]; simp)
  have hxC := h4.grid.rows.len x (by rw [hSl]; simp)
  obtain ⟨cur4, hcur4⟩ := h4.rbB
  have hx5 : RowAt w5 x.b x.cap x.rs := hx4.next g5 (not_in_cons (row_ne_lines hx4 hcur4 (by decide)) (not_in_nil _))
  refine ⟨_, _, _, _, _, rfl, ⟨_, rd1 bk1' (by rfl), rfl⟩, _, rfl, ?_⟩
  dsimp only
  refine ⟨rfl, one_lit rfl, fw h5.scr (by (first | exact Nat.le_of_ble_eq_true rfl | (simp; done) | omega)), putsL (l' := scrL R C S.pr S.hi l.length S.col false S.stp S.pushed) h5.scr (by (first | exact Nat.le_of_ble_eq_true rfl | (simp; done) | omega)) (by rfl) ?_⟩
  intro w6 s6 b6 g6
  obtain ⟨h6, st6⟩ := h5.own l.length S.col false S.pushed b6 g6 (by omega) h.hcol (fun hh => by cases hh)
  have bk1'' := g6.get bk1' (not_in_cons (by omega) (not_in_nil _))
  have bk2'' := g6.get bk2' (not_in_cons (by omega) (not_in_nil _))
  refine ⟨⟨_, rd1 bk1'' (by rfl), rfl⟩, fw bk2'' (by (first | exact Nat.le_of_ble_eq_true rfl | (simp; done) | omega)), putL (by exact bk2'') (by rfl) ?_⟩
  intro w7 s7 b7 g7
  have bk1f := g7.get bk1'' (not_in_cons (by omega) (not_in_nil _))
  refine ⟨⟨_, rd1 bk1f (by rfl), rfl⟩, _, rfl, _, rfl, _, rd1 bk1f (by rfl), _, _, _, rd1 b7 (by rfl), ?_⟩
  have h7 := h6.off g7 bk2'' (by decide)
  have st7 := SStep.off ((SStep.non (S := S) (s := s) (gg.trans (g3.trans g4))).trans (st5.trans st6)) g7 (by omega)
  have hgone6 : LinesV w6 (.slice (some ⟨gb, 0, none⟩) 1 gcap) [x] := p1.next g6 fun j hj => by
    simp only [Value.ownBlock, Option.some.injEq] at hj; exact not_in_cons (by omega) (not_in_nil _)
  have hgone7 : LinesV w7 (.slice (some ⟨gb, 0, none⟩) 1 gcap) [x] := hgone6.next g7 fun j hj => by
    simp only [Value.ownBlock, Option.some.injEq] at hj; exact not_in_cons (by omega) (not_in_nil _)
  have hx7 : RowAt w7 x.b x.cap x.rs := (hx5.next g6 (not_in_cons (row_ne_lines hx5 h5.scr (by decide)) (not_in_nil _))).next g7 (not_in_cons (by have := hx4.lt; have := (h.grid.rows.row x (by rw [hSl]; simp)).lt; omega) (not_in_nil _))
  have gl7 : Glob w7 := h.glob gl st7.1
  refine Calls.then (c191o w7 s R C _ h7 gl7 x gb gcap hgone7 hx7 hxC hn hpu) ?_
  rintro e w8 ⟨pv', ss', y', rfl, h8, st8, hk8, hy8⟩
  refine ⟨rfl, _, rfl, h8, st7.trans st8, rfl, rfl, Nat.le_refl _, .inr ⟨hr, hrow.symm, ?_, ?_⟩⟩
  · show (kept ss').map (·.rs) ++ (rolled (x :: l) y).map (·.rs) = (kept S.ss).map (·.rs) ++ S.l.map (·.rs) ++ _
    rw [hk8, rolled_rs, hSl, p5, List.map_append]
    simp [hy8]
  · show (kept ss').length = _
    rw [hk8]; simp

theorem c142 (w : World) (s R C : Nat) (S : SS) (h : Scr w s R C S) (gl : Glob w) (hn : (kept S.ss).length < 100) (hpu : S.pushed ≤ 1000) :
    Calls Tryz.prog 142 #[.pointer (some ⟨s, 0, none⟩)] w fun e w' => ∃ S', e = .returned (.int .i64 0) ∧ Scr w' s R C S' ∧ SStep s w S w' S' ∧ Down R C S S' := by
  by_cases hr : S.row + 1 < R
  · refine Calls.then (c142n w s R C S h gl hr) ?_
    rintro e w1 ⟨rfl, h1, st1⟩
    exact ⟨_, rfl, h1, st1, rfl, rfl, by show S.pushed ≤ _; omega, .inl ⟨hr, rfl, rfl, rfl⟩⟩
  · exact c142l w s R C S h gl (by have := h.hrow; omega) hn hpu
end Go.Proofs

namespace Go.Proofs
open Go Go.X Go.RowKit
set_option linter.unusedVariables false
set_option linter.unusedSimpArgs false
set_option maxRecDepth 100000

theorem floAI {P : Program} {f : FuncId} {args : Array Value} {w : World} {K : IntKind} {c0 : Array Value} {n0 : Int} (h : ∀ w', w.heap.size ≤ w'.heap.size → Chg Non w w' → Calls P f args w' fun e w2 => e = .returned (.tuple #[.agg c0, .int K n0]) ∧ Chg Non w' w2) :
    ∀ w', Below w.heap.size w w' → Calls P f args w' fun e w2 => ∃ c n, e = .returned (.tuple #[.agg c, .int K n]) ∧ Below w'.heap.size w' w2 ∧ Value.tuple #[.agg c, .int K n] = Value.tuple #[.agg c0, .int K n0] :=
  fun w' hb => Calls.then (h w' hb.size (.of_below hb)) fun e w2 he => ⟨c0, n0, he.1, he.2.below, rfl⟩

theorem soft_runes (S : SS) (row : Nat) (so : Bool) : runes (setSoft S row so) = runes S := by
  unfold runes setSoft
  dsimp only
  congr 1
  apply List.ext_getElem?
  intro i
  simp only [List.getElem?_map, List.getElem?_modify]
  cases S.l[i]? <;> simp
  split <;> rfl

/-- A wrap: the next row, its first column. -/
structure Wrap (R C : Nat) (S S' : SS) : Prop where
  col : S'.col = 0
  pend : S'.pend = false
  pushed : S'.pushed ≤ S.pushed + 1
  to : (S.row + 1 < R ∧ S'.row = S.row + 1 ∧ runes S' = runes S ∧ (kept S'.ss).length = (kept S.ss).length) ∨ (S.row + 1 = R ∧ S'.row = S.row ∧ runes S' = runes S ++ [List.replicate C 0] ∧ (kept S'.ss).length = (kept S.ss).length + 1)

theorem c137 (w : World) (s R C : Nat) (S : SS) (h : Scr w s R C S) (gl : Glob w) (hn : (kept S.ss).length < 100) (hpu : S.pushed ≤ 1000) :
    Calls Tryz.prog 137 #[.pointer (some ⟨s, 0, none⟩)] w fun e w' => ∃ S', e = .returned (.int .i64 0) ∧ Scr w' s R C S' ∧ SStep s w S w' S' ∧ Wrap R C S S' := by
  have hC := h.hC
  have hR := h.hR
  have hrow := h.hrow
  refine r137 _ _ _ ?_
  unfold V137
  refine ⟨_, rfl, _, rd1 h.scr (by rfl), ?_⟩
  refine Calls.then (c181 w s R C S S.row true h hrow) ?_
  rintro e w1 ⟨rfl, h1, st1⟩
  refine ⟨_, rfl, br_f rfl ?_⟩
  have gl1 := h.glob gl st1.1
  refine Calls.then (c142 w1 s R C _ h1 gl1 hn hpu) ?_
  rintro e w2 ⟨S2, rfl, h2, st2, d2⟩
  have st12 := st1.trans st2
  have gl2 := h.glob gl st12.1
  have hslt := blk_lt h2.scr
  refine ⟨_, rfl, br_f rfl ⟨_, floA fun w' s' g' => c104 w' s R C S2 (h2.non g'), _, rfl, _, rdc (d := [.int .i64 S2.row, .int .i64 S2.col, .bool S2.pend]) h2.scr (by rfl) (by (first | exact Nat.le_of_ble_eq_true rfl | (simp; done) | omega)), _, _, floAI fun w' s' g' => c143 R C S2.row S2.col S2.pend w' hR.2 (by omega) h2.hrow h2.hcol h2.hpend, nwB ?_⟩⟩
  intro k w3 hk0 hk1 b3 g3
  have h3 := h2.non g3
  refine ⟨rfl, one_lit rfl, fw b3 (by (first | exact Nat.le_of_ble_eq_true rfl | (simp; done) | omega)), puts0A b3 (by rfl) ?_⟩
  intro w4 s4 b4 g4
  have h4 := h3.off g4 b3 (by decide)
  have st4 : SStep s w S w4 S2 := SStep.off (st12.trans (SStep.non g3)) g4 (by have := st12.1.size; omega)
  refine br_f rfl ⟨_, rdall b4 (by rfl), _, rfl, rfl, one_lit rfl, fw h4.scr (by (first | exact Nat.le_of_ble_eq_true rfl | (simp; done) | omega)), putsL (l' := scrL R C S2.pr S2.hi S2.row 0 false S2.stp S2.pushed) h4.scr (by (first | exact Nat.le_of_ble_eq_true rfl | (simp; done) | omega)) (by rfl) ?_⟩
  intro w5 s5 b5 g5
  obtain ⟨h5, st5⟩ := h4.own S2.row 0 false S2.pushed b5 g5 h2.hrow (by omega) (fun hh => by cases hh)
  have stA := st4.trans st5
  have b5k : blk w5 k = _ := g5.get b4 (not_in_cons (by dsimp only; omega) (not_in_nil _))
  have fin : Wrap R C S { S2 with row := S2.row, col := 0, pend := false, pushed := S2.pushed } := by
    refine ⟨rfl, rfl, d2.pushed, ?_⟩
    rcases d2.to with ⟨q1, q2, q3, q4⟩ | ⟨q1, q2, q3, q4⟩
    · exact .inl ⟨q1, q2, by rw [soft_runes] at q3; exact q3, q4⟩
    · exact .inr ⟨q1, q2, by rw [soft_runes] at q3; exact q3, q4⟩
  intro K hK
  have key : K [.int .i64 0] w5 := by
    refine hK _ _ fun _ => ?_
    exact ⟨_, rfl, h5, stA, fin⟩
  clear hK
  refine ⟨_, rfl, _, rd1 h5.scr (by rfl), ?_⟩
  rcases d2.to with ⟨q1, q2, _⟩ | ⟨q1, q2, _⟩
  · dsimp only [setSoft] at q1 q2
    refine br_f (by simp; omega) ⟨_, rfl, _, rd1 h5.scr (by rfl), br_t (by simp; omega) ⟨_, rd1 b5k (by rfl), br_f (by simp; omega) key⟩⟩
  · dsimp only [setSoft] at q1 q2
    refine br_t (by simp; omega) ⟨_, rfl, _, rd1 h5.scr (by rfl), ?_⟩
    by_cases h0 : 0 < S.row
    · refine br_t (by simp; omega) ⟨by unfold inInt; omega, ?_⟩
      rw [show ((S.row : Int) - 1) = ((S.row - 1 : Nat) : Int) by omega]
      refine Calls.then (c181 w5 s R C _ (S.row - 1) true h5 (by omega)) ?_
      rintro e w6 ⟨rfl, h6, st6⟩
      refine ⟨_, rfl, _, rfl, h6, stA.trans st6, ⟨fin.col, fin.pend, fin.pushed, ?_⟩⟩
      have ft := fin.to
      rcases ft with ⟨f1, f2, f3, f4⟩ | ⟨f1, f2, f3, f4⟩
      · exact .inl ⟨f1, f2, by rw [soft_runes]; exact f3, f4⟩
      · exact .inr ⟨f1, f2, by rw [soft_runes]; exact f3, f4⟩
    · refine br_f (by simp; omega) ⟨_, rfl, _, rd1 h5.scr (by rfl), br_f (by simp; omega) key⟩
end Go.Proofs
