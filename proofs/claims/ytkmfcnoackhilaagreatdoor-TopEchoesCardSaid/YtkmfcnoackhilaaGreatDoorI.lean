/-
Contracts: the printer, the cursor's motion, the tabs, the parser.
-/
import Derived.Test.YtkmfcnoackhilaaGreatDoorH
set_option linter.unusedVariables false
set_option linter.unusedSimpArgs false
namespace Go.Proofs
open Go Go.X Go.RowKit
set_option linter.unusedVariables false
set_option linter.unusedSimpArgs false
set_option maxRecDepth 100000

theorem c286 (w : World) (R t b : Int) (h : 1 ≤ R ∧ R ≤ 1000 ∧ 0 ≤ t ∧ t ≤ b ∧ b < R) : Calls Tryz.prog 286 #[.int .i64 R, .agg (regA t b)] w fun e w' => e = .returned (.bool true) ∧ Chg Non w w' := by
  refine r286 _ _ _ _ ?_
  unfold V286
  repeat (first | (refine nw ?_; intro _ _ _ _ _ _) | refine ⟨_, rdall kp (by rfl), ?_⟩ | refine ⟨_, rd1 kp (by rfl), ?_⟩ | refine ⟨_, _, _, rd1 kp (by rfl), ?_⟩ | refine br_t cp ?_ | refine br_f cp ?_ | (refine ⟨_, rfl, ?_⟩; try dsimp only) | (refine ⟨_, _, rfl, ?_⟩; try dsimp only) | refine And.intro (by unfold inInt; omega) ?_ | (refine ⟨rfl, one_lit rfl, fw kp (by (first | exact Nat.le_of_ble_eq_true rfl | (simp; done) | omega)), puts0A kp (by rfl) ?_⟩; intro _ _ _ _) | (refine ⟨rfl, one_lit rfl, fw kp (by (first | exact Nat.le_of_ble_eq_true rfl | (simp; done) | omega)), puts0 kp (by rfl) ?_⟩; intro _ _ _ _) | (refine ⟨fw kp (by (first | exact Nat.le_of_ble_eq_true rfl | (simp; done) | omega)), putL kp (by ((try simp only [List.set_cons_zero, List.set_cons_succ]); rfl)) ?_⟩; intro _ _ _ _) | refine And.intro (by omega) ?_ | refine And.intro ⟨_, rd1 kp (by rfl), rfl⟩ ?_ | (refine nwB ?_; intro _ _ _ _ _ _) | (refine all_below ?_; intro _ _ _))
  exact ⟨by simp; omega, by (repeat (first | exact Chg.refl _ _ | refine Chg.step (by assumption) ?_ (by (first | exact sub_non _ | exact sub_nil _ | (repeat (first | exact sub_nil _ | refine sub_new (by omega) ?_ | refine sub_old (by first | assumption | exact in_head _ _ | exact in_tail (in_head _ _) | exact in_tail (in_tail (in_head _ _)) | simp [In]) ?_))))))⟩

theorem c249 (w : World) (g C n cap : Nat) (a : Option Addr) (hb : blk w g = some (.cells #[.int .i64 C, .slice a n cap] 185)) (h0 : n ≠ 0) (hm : n ≤ 1000) (bt : Int) (hbt : bt = n - 1) :
    Calls Tryz.prog 249 #[.pointer (some ⟨g, 0, none⟩), .agg (regA 0 bt)] w fun e w' => e = .returned (.int .i64 0) ∧ Chg Non w w' := by
  refine r249 _ _ _ _ ?_
  unfold V249
  repeat (first | (refine nw ?_; intro _ _ _ _ _ _) | refine ⟨_, rdall kp (by rfl), ?_⟩ | refine ⟨_, rd1 kp (by rfl), ?_⟩ | refine ⟨_, _, _, rd1 kp (by rfl), ?_⟩ | refine br_t cp ?_ | refine br_f cp ?_ | (refine ⟨_, rfl, ?_⟩; try dsimp only) | (refine ⟨_, _, rfl, ?_⟩; try dsimp only) | refine And.intro (by unfold inInt; omega) ?_ | (refine ⟨rfl, one_lit rfl, fw kp (by (first | exact Nat.le_of_ble_eq_true rfl | (simp; done) | omega)), puts0A kp (by rfl) ?_⟩; intro _ _ _ _) | (refine ⟨rfl, one_lit rfl, fw kp (by (first | exact Nat.le_of_ble_eq_true rfl | (simp; done) | omega)), puts0 kp (by rfl) ?_⟩; intro _ _ _ _) | (refine ⟨fw kp (by (first | exact Nat.le_of_ble_eq_true rfl | (simp; done) | omega)), putL kp (by ((try simp only [List.set_cons_zero, List.set_cons_succ]); rfl)) ?_⟩; intro _ _ _ _) | refine And.intro (by omega) ?_ | refine And.intro ⟨_, rd1 kp (by rfl), rfl⟩ ?_ | (refine nwB ?_; intro _ _ _ _ _ _) | (refine all_below ?_; intro _ _ _))
  rename_i k1 w1 _ _ b1 g1
  refine Calls.then (c234 w1 g C n cap a kp) ?_
  rintro e w2 ⟨rfl, g2⟩
  repeat (first | (refine nw ?_; intro _ _ _ _ _ _) | refine ⟨_, rdall kp (by rfl), ?_⟩ | refine ⟨_, rd1 kp (by rfl), ?_⟩ | refine ⟨_, _, _, rd1 kp (by rfl), ?_⟩ | refine br_t cp ?_ | refine br_f cp ?_ | (refine ⟨_, rfl, ?_⟩; try dsimp only) | (refine ⟨_, _, rfl, ?_⟩; try dsimp only) | refine And.intro (by unfold inInt; omega) ?_ | (refine ⟨rfl, one_lit rfl, fw kp (by (first | exact Nat.le_of_ble_eq_true rfl | (simp; done) | omega)), puts0A kp (by rfl) ?_⟩; intro _ _ _ _) | (refine ⟨rfl, one_lit rfl, fw kp (by (first | exact Nat.le_of_ble_eq_true rfl | (simp; done) | omega)), puts0 kp (by rfl) ?_⟩; intro _ _ _ _) | (refine ⟨fw kp (by (first | exact Nat.le_of_ble_eq_true rfl | (simp; done) | omega)), putL kp (by ((try simp only [List.set_cons_zero, List.set_cons_succ]); rfl)) ?_⟩; intro _ _ _ _) | refine And.intro (by omega) ?_ | refine And.intro ⟨_, rd1 kp (by rfl), rfl⟩ ?_ | (refine nwB ?_; intro _ _ _ _ _ _) | (refine all_below ?_; intro _ _ _))
  refine ⟨_, floI fun w3 s3 g3 => c234 w3 g C n cap a kp, ?_⟩
  repeat (first | (refine nw ?_; intro _ _ _ _ _ _) | refine ⟨_, rdall kp (by rfl), ?_⟩ | refine ⟨_, rd1 kp (by rfl), ?_⟩ | refine ⟨_, _, _, rd1 kp (by rfl), ?_⟩ | refine br_t cp ?_ | refine br_f cp ?_ | (refine ⟨_, rfl, ?_⟩; try dsimp only) | (refine ⟨_, _, rfl, ?_⟩; try dsimp only) | refine And.intro (by unfold inInt; omega) ?_ | (refine ⟨rfl, one_lit rfl, fw kp (by (first | exact Nat.le_of_ble_eq_true rfl | (simp; done) | omega)), puts0A kp (by rfl) ?_⟩; intro _ _ _ _) | (refine ⟨rfl, one_lit rfl, fw kp (by (first | exact Nat.le_of_ble_eq_true rfl | (simp; done) | omega)), puts0 kp (by rfl) ?_⟩; intro _ _ _ _) | (refine ⟨fw kp (by (first | exact Nat.le_of_ble_eq_true rfl | (simp; done) | omega)), putL kp (by ((try simp only [List.set_cons_zero, List.set_cons_succ]); rfl)) ?_⟩; intro _ _ _ _) | refine And.intro (by omega) ?_ | refine And.intro ⟨_, rd1 kp (by rfl), rfl⟩ ?_ | (refine nwB ?_; intro _ _ _ _ _ _) | (refine all_below ?_; intro _ _ _))
  refine ⟨true, floB fun w3 s3 g3 => c286 w3 n 0 bt (by omega), ?_⟩
  repeat (first | (refine nw ?_; intro _ _ _ _ _ _) | refine ⟨_, rdall kp (by rfl), ?_⟩ | refine ⟨_, rd1 kp (by rfl), ?_⟩ | refine ⟨_, _, _, rd1 kp (by rfl), ?_⟩ | refine br_t cp ?_ | refine br_f cp ?_ | (refine ⟨_, rfl, ?_⟩; try dsimp only) | (refine ⟨_, _, rfl, ?_⟩; try dsimp only) | refine And.intro (by unfold inInt; omega) ?_ | (refine ⟨rfl, one_lit rfl, fw kp (by (first | exact Nat.le_of_ble_eq_true rfl | (simp; done) | omega)), puts0A kp (by rfl) ?_⟩; intro _ _ _ _) | (refine ⟨rfl, one_lit rfl, fw kp (by (first | exact Nat.le_of_ble_eq_true rfl | (simp; done) | omega)), puts0 kp (by rfl) ?_⟩; intro _ _ _ _) | (refine ⟨fw kp (by (first | exact Nat.le_of_ble_eq_true rfl | (simp; done) | omega)), putL kp (by ((try simp only [List.set_cons_zero, List.set_cons_succ]); rfl)) ?_⟩; intro _ _ _ _) | refine And.intro (by omega) ?_ | refine And.intro ⟨_, rd1 kp (by rfl), rfl⟩ ?_ | (refine nwB ?_; intro _ _ _ _ _ _) | (refine all_below ?_; intro _ _ _))
  exact ⟨rfl, by (repeat (first | exact Chg.refl _ _ | refine Chg.step (by assumption) ?_ (by (first | exact sub_non _ | exact sub_nil _ | (repeat (first | exact sub_nil _ | refine sub_new (by omega) ?_ | refine sub_old (by first | assumption | exact in_head _ _ | exact in_tail (in_head _ _) | exact in_tail (in_tail (in_head _ _)) | simp [In]) ?_))))))⟩

theorem c198 (w : World) (g rb rcap C : Nat) (l : List GRow) (row col : Nat) (p : Bool) (gl : Glob w) (h : GridR w g rb rcap C l) (h0 : C ≠ 0) (hr : row < l.length) (hc : col < C) (hp : p = true → col = C - 1) (hm : l.length ≤ 1000) (hC : C ≤ 1000) (bt : Int) (hbt : bt = l.length - 1) :
    Calls Tryz.prog 198 #[.pointer (some ⟨g, 0, none⟩), .agg (regA 0 bt), .agg (curA row col p), .agg penZ] w fun e w' => e = .returned (.int .i64 0) ∧ Chg Non w w' := by
  refine r198 _ _ _ _ _ _ ?_
  unfold V198
  have hgr := h.grid
  refine nw ?_
  intro k1 w1 e1 s1 b1 g1
  refine nw ?_
  intro k2 w2 e2 s2 b2 g2
  refine nw ?_
  intro k3 w3 e3 s3 b3 g3
  repeat (first | (refine nw ?_; intro _ _ _ _ _ _) | refine ⟨_, rdall kp (by rfl), ?_⟩ | refine ⟨_, rd1 kp (by rfl), ?_⟩ | refine ⟨_, _, _, rd1 kp (by rfl), ?_⟩ | refine br_t cp ?_ | refine br_f cp ?_ | (refine ⟨_, rfl, ?_⟩; try dsimp only) | (refine ⟨_, _, rfl, ?_⟩; try dsimp only) | refine And.intro (by unfold inInt; omega) ?_ | (refine ⟨rfl, one_lit rfl, fw kp (by (first | exact Nat.le_of_ble_eq_true rfl | (simp; done) | omega)), puts0A kp (by rfl) ?_⟩; intro _ _ _ _) | (refine ⟨rfl, one_lit rfl, fw kp (by (first | exact Nat.le_of_ble_eq_true rfl | (simp; done) | omega)), puts0 kp (by rfl) ?_⟩; intro _ _ _ _) | (refine ⟨fw kp (by (first | exact Nat.le_of_ble_eq_true rfl | (simp; done) | omega)), putL kp (by ((try simp only [List.set_cons_zero, List.set_cons_succ]); rfl)) ?_⟩; intro _ _ _ _) | refine And.intro (by omega) ?_ | refine And.intro ⟨_, rd1 kp (by rfl), rfl⟩ ?_ | (refine nwB ?_; intro _ _ _ _ _ _) | (refine all_below ?_; intro _ _ _))
  refine Calls.then (c249 w3 g C l.length rcap _ kp (by omega) hm bt hbt) ?_
  rintro e w4 ⟨rfl, g4⟩
  repeat (first | (refine nw ?_; intro _ _ _ _ _ _) | refine ⟨_, rdall kp (by rfl), ?_⟩ | refine ⟨_, rd1 kp (by rfl), ?_⟩ | refine ⟨_, _, _, rd1 kp (by rfl), ?_⟩ | refine br_t cp ?_ | refine br_f cp ?_ | (refine ⟨_, rfl, ?_⟩; try dsimp only) | (refine ⟨_, _, rfl, ?_⟩; try dsimp only) | refine And.intro (by unfold inInt; omega) ?_ | (refine ⟨rfl, one_lit rfl, fw kp (by (first | exact Nat.le_of_ble_eq_true rfl | (simp; done) | omega)), puts0A kp (by rfl) ?_⟩; intro _ _ _ _) | (refine ⟨rfl, one_lit rfl, fw kp (by (first | exact Nat.le_of_ble_eq_true rfl | (simp; done) | omega)), puts0 kp (by rfl) ?_⟩; intro _ _ _ _) | (refine ⟨fw kp (by (first | exact Nat.le_of_ble_eq_true rfl | (simp; done) | omega)), putL kp (by ((try simp only [List.set_cons_zero, List.set_cons_succ]); rfl)) ?_⟩; intro _ _ _ _) | refine And.intro (by omega) ?_ | refine And.intro ⟨_, rd1 kp (by rfl), rfl⟩ ?_ | (refine nwB ?_; intro _ _ _ _ _ _) | (refine all_below ?_; intro _ _ _))
  intro K hK
  have key : ∀ w5, w4.heap.size ≤ w5.heap.size → Chg Non w4 w5 → K [.int .i64 0] w5 := by
    intro w5 s5 g5
    refine hK _ _ fun _ => ?_
    clear hK K
    refine ⟨_, rdall kp (by rfl), _, rdall kp (by rfl), ?_⟩
    have gg : Chg Non w w5 := by (repeat (first | exact Chg.refl _ _ | refine Chg.step (by assumption) ?_ (by (first | exact sub_non _ | exact sub_nil _ | (repeat (first | exact sub_nil _ | refine sub_new (by omega) ?_ | refine sub_old (by first | assumption | exact in_head _ _ | exact in_tail (in_head _ _) | exact in_tail (in_tail (in_head _ _)) | simp [In]) ?_))))))
    subst hbt
    refine Calls.then (c250z w5 g rb rcap C l (gl.non gg) (h.non gg) h0 (by omega)) ?_
    rintro e w6 ⟨rfl, g6⟩
    exact ⟨_, _, _, _, rfl, rfl, gg.trans g6⟩
  clear hK
  repeat (first | (refine nw ?_; intro _ _ _ _ _ _) | refine ⟨_, rdall kp (by rfl), ?_⟩ | refine ⟨_, rd1 kp (by rfl), ?_⟩ | refine ⟨_, _, _, rd1 kp (by rfl), ?_⟩ | refine br_t cp ?_ | refine br_f cp ?_ | (refine ⟨_, rfl, ?_⟩; try dsimp only) | (refine ⟨_, _, rfl, ?_⟩; try dsimp only) | refine And.intro (by unfold inInt; omega) ?_ | (refine ⟨rfl, one_lit rfl, fw kp (by (first | exact Nat.le_of_ble_eq_true rfl | (simp; done) | omega)), puts0A kp (by rfl) ?_⟩; intro _ _ _ _) | (refine ⟨rfl, one_lit rfl, fw kp (by (first | exact Nat.le_of_ble_eq_true rfl | (simp; done) | omega)), puts0 kp (by rfl) ?_⟩; intro _ _ _ _) | (refine ⟨fw kp (by (first | exact Nat.le_of_ble_eq_true rfl | (simp; done) | omega)), putL kp (by ((try simp only [List.set_cons_zero, List.set_cons_succ]); rfl)) ?_⟩; intro _ _ _ _) | refine And.intro (by omega) ?_ | refine And.intro ⟨_, rd1 kp (by rfl), rfl⟩ ?_ | (refine nwB ?_; intro _ _ _ _ _ _) | (refine all_below ?_; intro _ _ _))
  refine ⟨_, floI fun w5 s5 g5 => c234 w5 g C l.length rcap _ kp, ?_⟩
  repeat (first | (refine nw ?_; intro _ _ _ _ _ _) | refine ⟨_, rdall kp (by rfl), ?_⟩ | refine ⟨_, rd1 kp (by rfl), ?_⟩ | refine ⟨_, _, _, rd1 kp (by rfl), ?_⟩ | refine br_t cp ?_ | refine br_f cp ?_ | (refine ⟨_, rfl, ?_⟩; try dsimp only) | (refine ⟨_, _, rfl, ?_⟩; try dsimp only) | refine And.intro (by unfold inInt; omega) ?_ | (refine ⟨rfl, one_lit rfl, fw kp (by (first | exact Nat.le_of_ble_eq_true rfl | (simp; done) | omega)), puts0A kp (by rfl) ?_⟩; intro _ _ _ _) | (refine ⟨rfl, one_lit rfl, fw kp (by (first | exact Nat.le_of_ble_eq_true rfl | (simp; done) | omega)), puts0 kp (by rfl) ?_⟩; intro _ _ _ _) | (refine ⟨fw kp (by (first | exact Nat.le_of_ble_eq_true rfl | (simp; done) | omega)), putL kp (by ((try simp only [List.set_cons_zero, List.set_cons_succ]); rfl)) ?_⟩; intro _ _ _ _) | refine And.intro (by omega) ?_ | refine And.intro ⟨_, rd1 kp (by rfl), rfl⟩ ?_ | (refine nwB ?_; intro _ _ _ _ _ _) | (refine all_below ?_; intro _ _ _))
  refine ⟨_, floI fun w5 s5 g5 => c183 w5 g C _ kp, ?_⟩
  repeat (first | (refine nw ?_; intro _ _ _ _ _ _) | refine ⟨_, rdall kp (by rfl), ?_⟩ | refine ⟨_, rd1 kp (by rfl), ?_⟩ | refine ⟨_, _, _, rd1 kp (by rfl), ?_⟩ | refine br_t cp ?_ | refine br_f cp ?_ | (refine ⟨_, rfl, ?_⟩; try dsimp only) | (refine ⟨_, _, rfl, ?_⟩; try dsimp only) | refine And.intro (by unfold inInt; omega) ?_ | (refine ⟨rfl, one_lit rfl, fw kp (by (first | exact Nat.le_of_ble_eq_true rfl | (simp; done) | omega)), puts0A kp (by rfl) ?_⟩; intro _ _ _ _) | (refine ⟨rfl, one_lit rfl, fw kp (by (first | exact Nat.le_of_ble_eq_true rfl | (simp; done) | omega)), puts0 kp (by rfl) ?_⟩; intro _ _ _ _) | (refine ⟨fw kp (by (first | exact Nat.le_of_ble_eq_true rfl | (simp; done) | omega)), putL kp (by ((try simp only [List.set_cons_zero, List.set_cons_succ]); rfl)) ?_⟩; intro _ _ _ _) | refine And.intro (by omega) ?_ | refine And.intro ⟨_, rd1 kp (by rfl), rfl⟩ ?_ | (refine nwB ?_; intro _ _ _ _ _ _) | (refine all_below ?_; intro _ _ _))
  refine br_bool (fun hpt => ?_) fun hpf => ?_
  · repeat (first | (refine nw ?_; intro _ _ _ _ _ _) | refine ⟨_, rdall kp (by rfl), ?_⟩ | refine ⟨_, rd1 kp (by rfl), ?_⟩ | refine ⟨_, _, _, rd1 kp (by rfl), ?_⟩ | refine br_t cp ?_ | refine br_f cp ?_ | (refine ⟨_, rfl, ?_⟩; try dsimp only) | (refine ⟨_, _, rfl, ?_⟩; try dsimp only) | refine And.intro (by unfold inInt; omega) ?_ | (refine ⟨rfl, one_lit rfl, fw kp (by (first | exact Nat.le_of_ble_eq_true rfl | (simp; done) | omega)), puts0A kp (by rfl) ?_⟩; intro _ _ _ _) | (refine ⟨rfl, one_lit rfl, fw kp (by (first | exact Nat.le_of_ble_eq_true rfl | (simp; done) | omega)), puts0 kp (by rfl) ?_⟩; intro _ _ _ _) | (refine ⟨fw kp (by (first | exact Nat.le_of_ble_eq_true rfl | (simp; done) | omega)), putL kp (by ((try simp only [List.set_cons_zero, List.set_cons_succ]); rfl)) ?_⟩; intro _ _ _ _) | refine And.intro (by omega) ?_ | refine And.intro ⟨_, rd1 kp (by rfl), rfl⟩ ?_ | (refine nwB ?_; intro _ _ _ _ _ _) | (refine all_below ?_; intro _ _ _))
    refine ⟨_, floI fun w5 s5 g5 => c183 w5 g C _ kp, ?_⟩
    have := hp hpt
    repeat (first | (refine nw ?_; intro _ _ _ _ _ _) | refine ⟨_, rdall kp (by rfl), ?_⟩ | refine ⟨_, rd1 kp (by rfl), ?_⟩ | refine ⟨_, _, _, rd1 kp (by rfl), ?_⟩ | refine br_t cp ?_ | refine br_f cp ?_ | (refine ⟨_, rfl, ?_⟩; try dsimp only) | (refine ⟨_, _, rfl, ?_⟩; try dsimp only) | refine And.intro (by unfold inInt; omega) ?_ | (refine ⟨rfl, one_lit rfl, fw kp (by (first | exact Nat.le_of_ble_eq_true rfl | (simp; done) | omega)), puts0A kp (by rfl) ?_⟩; intro _ _ _ _) | (refine ⟨rfl, one_lit rfl, fw kp (by (first | exact Nat.le_of_ble_eq_true rfl | (simp; done) | omega)), puts0 kp (by rfl) ?_⟩; intro _ _ _ _) | (refine ⟨fw kp (by (first | exact Nat.le_of_ble_eq_true rfl | (simp; done) | omega)), putL kp (by ((try simp only [List.set_cons_zero, List.set_cons_succ]); rfl)) ?_⟩; intro _ _ _ _) | refine And.intro (by omega) ?_ | refine And.intro ⟨_, rd1 kp (by rfl), rfl⟩ ?_ | (refine nwB ?_; intro _ _ _ _ _ _) | (refine all_below ?_; intro _ _ _))
    exact key _ (by assumption) (by assumption)
  · repeat (first | (refine nw ?_; intro _ _ _ _ _ _) | refine ⟨_, rdall kp (by rfl), ?_⟩ | refine ⟨_, rd1 kp (by rfl), ?_⟩ | refine ⟨_, _, _, rd1 kp (by rfl), ?_⟩ | refine br_t cp ?_ | refine br_f cp ?_ | (refine ⟨_, rfl, ?_⟩; try dsimp only) | (refine ⟨_, _, rfl, ?_⟩; try dsimp only) | refine And.intro (by unfold inInt; omega) ?_ | (refine ⟨rfl, one_lit rfl, fw kp (by (first | exact Nat.le_of_ble_eq_true rfl | (simp; done) | omega)), puts0A kp (by rfl) ?_⟩; intro _ _ _ _) | (refine ⟨rfl, one_lit rfl, fw kp (by (first | exact Nat.le_of_ble_eq_true rfl | (simp; done) | omega)), puts0 kp (by rfl) ?_⟩; intro _ _ _ _) | (refine ⟨fw kp (by (first | exact Nat.le_of_ble_eq_true rfl | (simp; done) | omega)), putL kp (by ((try simp only [List.set_cons_zero, List.set_cons_succ]); rfl)) ?_⟩; intro _ _ _ _) | refine And.intro (by omega) ?_ | refine And.intro ⟨_, rd1 kp (by rfl), rfl⟩ ?_ | (refine nwB ?_; intro _ _ _ _ _ _) | (refine all_below ?_; intro _ _ _))
    exact key _ (by assumption) (by assumption)

theorem c245 (w : World) (g rb rcap C : Nat) (x : GRow) (l : List GRow) (gl : Glob w) (h : GridAt w g rb rcap C (x :: l)) (h0 : C ≠ 0) (hC : C ≤ 1000) (hl : l.length + 1 ≤ 1000) :
    Calls Tryz.prog 245 #[.pointer (some ⟨g, 0, none⟩), .agg (regA 0 l.length), .int .i64 1, .agg penZ] w fun e w' => ∃ gb gcap y, e = .returned (.tuple #[.slice (some ⟨gb, 0, none⟩) 1 gcap, .int .i64 0]) ∧
      LinesV w' (.slice (some ⟨gb, 0, none⟩) 1 gcap) [x] ∧ w.heap.size ≤ gb ∧ gb < w'.heap.size ∧ GridAt w' g rb rcap C (rolled (x :: l) y) ∧ y.rs = List.replicate C 0 ∧ y.so = false ∧ w.heap.size ≤ y.b ∧ Chg (In [rb]) w w' := by
  refine r245 _ _ _ _ _ _ ?_
  unfold V245
  have hgr := h.grid
  rw [List.length_cons] at hgr
  obtain ⟨cur0, hb0, _⟩ := h.hd.at_
  have hrblt := blk_lt hb0
  refine nw ?_
  intro k1 w1 e1 s1 b1 g1
  refine nw ?_
  intro k2 w2 e2 s2 b2 g2
  repeat (first | (refine nw ?_; intro _ _ _ _ _ _) | refine ⟨_, rdall kp (by rfl), ?_⟩ | refine ⟨_, rd1 kp (by rfl), ?_⟩ | refine ⟨_, _, _, rd1 kp (by rfl), ?_⟩ | refine br_t cp ?_ | refine br_f cp ?_ | (refine ⟨_, rfl, ?_⟩; try dsimp only) | (refine ⟨_, _, rfl, ?_⟩; try dsimp only) | refine And.intro (by unfold inInt; omega) ?_ | (refine ⟨rfl, one_lit rfl, fw kp (by (first | exact Nat.le_of_ble_eq_true rfl | (simp; done) | omega)), puts0A kp (by rfl) ?_⟩; intro _ _ _ _) | (refine ⟨rfl, one_lit rfl, fw kp (by (first | exact Nat.le_of_ble_eq_true rfl | (simp; done) | omega)), puts0 kp (by rfl) ?_⟩; intro _ _ _ _) | (refine ⟨fw kp (by (first | exact Nat.le_of_ble_eq_true rfl | (simp; done) | omega)), putL kp (by ((try simp only [List.set_cons_zero, List.set_cons_succ]); rfl)) ?_⟩; intro _ _ _ _) | refine And.intro (by omega) ?_ | refine And.intro ⟨_, rd1 kp (by rfl), rfl⟩ ?_ | (refine nwB ?_; intro _ _ _ _ _ _) | (refine all_below ?_; intro _ _ _))
  refine Calls.then (c249 w2 g C (l.length + 1) rcap _ kp (by omega) hl _ (by omega)) ?_
  rintro e w3 ⟨rfl, g3⟩
  refine ⟨_, rfl, br_f rfl (br_f rfl ⟨_, rdall kp (by rfl), _, rdall kp (by rfl), ?_⟩)⟩
  obtain ⟨gg, h3⟩ : Chg Non w w3 ∧ GridAt w3 g rb rcap C (x :: l) := by
    have gg : Chg Non w w3 := by (repeat (first | exact Chg.refl _ _ | refine Chg.step (by assumption) ?_ (by (first | exact sub_non _ | exact sub_nil _ | (repeat (first | exact sub_nil _ | refine sub_new (by omega) ?_ | refine sub_old (by first | assumption | exact in_head _ _ | exact in_tail (in_head _ _) | exact in_tail (in_tail (in_head _ _)) | simp [In]) ?_))))))
    exact ⟨gg, h.non gg⟩
  have s3 := gg.size
  refine Calls.then (c250o w3 g rb rcap C x l (gl.non gg) h3 h0 hC hl) ?_
  rintro e w4 ⟨gb, gcap, y, rfl, k1', k2', k3', k4', k5', k6', k7', g4⟩
  refine ⟨_, _, _, _, rfl, ?_⟩
  intro K hK
  have hrk : k1 ≠ rb := by omega
  have b3 : blk w3 k1 = some (.cells (regA 0 l.length) 108) := by
    have gg : True := trivial
    exact g3.get (g2.get b1 (not_non _)) (not_non _)
  refine br_f rfl ⟨_, rd1 (g4.get b3 (not_in_cons hrk (not_in_nil _))) (by rfl), br_f rfl (hK _ _ _ _ _ fun _ => ?_)⟩
  exact ⟨gb, gcap, y, rfl, k1', by omega, k3', k4', k5', k6', by omega, gg.non.trans g4⟩
end Go.Proofs

namespace Go.Proofs
open Go Go.X Go.RowKit
set_option linter.unusedVariables false
set_option linter.unusedSimpArgs false
set_option maxRecDepth 100000

/-- The next row, where it is not the last one. -/
theorem c190n (w : World) (g rb rcap C : Nat) (l : List GRow) (row col : Nat) (p : Bool) (gl : Glob w) (h : GridR w g rb rcap C l) (h0 : C ≠ 0) (hr : row + 1 < l.length) (hc : col < C) (hp : p = true → col = C - 1) (hm : l.length ≤ 1000) (hC : C ≤ 1000) (bt : Int) (hbt : bt = l.length - 1) :
    Calls Tryz.prog 190 #[.pointer (some ⟨g, 0, none⟩), .agg (regA 0 bt), .agg (curA row col p), .agg penZ] w fun e w' => e = .returned (.tuple #[.agg (curA ((row + 1 : Nat) : Int) col false), .slice none 0 0, .int .i64 0]) ∧ Chg Non w w' := by
  refine r190 _ _ _ _ _ _ ?_
  unfold V190
  have hgr := h.grid
  have hglt := blk_lt hgr
  refine nw ?_
  intro k1 w1 e1 s1 b1 g1
  refine nw ?_
  intro k2 w2 e2 s2 b2 g2
  refine nw ?_
  intro k3 w3 e3 s3 b3 g3
  refine nw ?_
  intro k4 w4 e4 s4 b4 g4
  repeat (first | (refine nw ?_; intro _ _ _ _ _ _) | refine ⟨_, rdall kp (by rfl), ?_⟩ | refine ⟨_, rd1 kp (by rfl), ?_⟩ | refine ⟨_, _, _, rd1 kp (by rfl), ?_⟩ | refine br_t cp ?_ | refine br_f cp ?_ | (refine ⟨_, rfl, ?_⟩; try dsimp only) | (refine ⟨_, _, rfl, ?_⟩; try dsimp only) | refine And.intro (by unfold inInt; omega) ?_ | (refine ⟨rfl, one_lit rfl, fw kp (by (first | exact Nat.le_of_ble_eq_true rfl | (simp; done) | omega)), puts0A kp (by rfl) ?_⟩; intro _ _ _ _) | (refine ⟨rfl, one_lit rfl, fw kp (by (first | exact Nat.le_of_ble_eq_true rfl | (simp; done) | omega)), puts0 kp (by rfl) ?_⟩; intro _ _ _ _) | (refine ⟨fw kp (by (first | exact Nat.le_of_ble_eq_true rfl | (simp; done) | omega)), putL kp (by ((try simp only [List.set_cons_zero, List.set_cons_succ]); rfl)) ?_⟩; intro _ _ _ _) | refine And.intro (by omega) ?_ | refine And.intro ⟨_, rd1 kp (by rfl), rfl⟩ ?_ | (refine nwB ?_; intro _ _ _ _ _ _) | (refine all_below ?_; intro _ _ _))
  obtain ⟨gl4, h4⟩ : Glob w4 ∧ GridR w4 g rb rcap C l := by
    have gg : Chg Non w w4 := by (repeat (first | exact Chg.refl _ _ | refine Chg.step (by assumption) ?_ (by (first | exact sub_non _ | exact sub_nil _ | (repeat (first | exact sub_nil _ | refine sub_new (by omega) ?_ | refine sub_old (by first | assumption | exact in_head _ _ | exact in_tail (in_head _ _) | exact in_tail (in_tail (in_head _ _)) | simp [In]) ?_))))))
    exact ⟨gl.non gg, h.non gg⟩
  refine Calls.then (c198 w4 g rb rcap C l row col p gl4 h4 h0 (by omega) hc hp hm hC bt hbt) ?_
  rintro e w5 ⟨rfl, g5⟩
  have s5 := g5.size
  repeat (first | (refine nw ?_; intro _ _ _ _ _ _) | refine ⟨_, rdall kp (by rfl), ?_⟩ | refine ⟨_, rd1 kp (by rfl), ?_⟩ | refine ⟨_, _, _, rd1 kp (by rfl), ?_⟩ | refine br_t cp ?_ | refine br_f cp ?_ | (refine ⟨_, rfl, ?_⟩; try dsimp only) | (refine ⟨_, _, rfl, ?_⟩; try dsimp only) | refine And.intro (by unfold inInt; omega) ?_ | (refine ⟨rfl, one_lit rfl, fw kp (by (first | exact Nat.le_of_ble_eq_true rfl | (simp; done) | omega)), puts0A kp (by rfl) ?_⟩; intro _ _ _ _) | (refine ⟨rfl, one_lit rfl, fw kp (by (first | exact Nat.le_of_ble_eq_true rfl | (simp; done) | omega)), puts0 kp (by rfl) ?_⟩; intro _ _ _ _) | (refine ⟨fw kp (by (first | exact Nat.le_of_ble_eq_true rfl | (simp; done) | omega)), putL kp (by ((try simp only [List.set_cons_zero, List.set_cons_succ]); rfl)) ?_⟩; intro _ _ _ _) | refine And.intro (by omega) ?_ | refine And.intro ⟨_, rd1 kp (by rfl), rfl⟩ ?_ | (refine nwB ?_; intro _ _ _ _ _ _) | (refine all_below ?_; intro _ _ _))
  refine ⟨_, floI fun w6 s6 g6 => c234 w6 g C l.length rcap _ kp, ?_⟩
  repeat (first | (refine nw ?_; intro _ _ _ _ _ _) | refine ⟨_, rdall kp (by rfl), ?_⟩ | refine ⟨_, rd1 kp (by rfl), ?_⟩ | refine ⟨_, _, _, rd1 kp (by rfl), ?_⟩ | refine br_t cp ?_ | refine br_f cp ?_ | (refine ⟨_, rfl, ?_⟩; try dsimp only) | (refine ⟨_, _, rfl, ?_⟩; try dsimp only) | refine And.intro (by unfold inInt; omega) ?_ | (refine ⟨rfl, one_lit rfl, fw kp (by (first | exact Nat.le_of_ble_eq_true rfl | (simp; done) | omega)), puts0A kp (by rfl) ?_⟩; intro _ _ _ _) | (refine ⟨rfl, one_lit rfl, fw kp (by (first | exact Nat.le_of_ble_eq_true rfl | (simp; done) | omega)), puts0 kp (by rfl) ?_⟩; intro _ _ _ _) | (refine ⟨fw kp (by (first | exact Nat.le_of_ble_eq_true rfl | (simp; done) | omega)), putL kp (by ((try simp only [List.set_cons_zero, List.set_cons_succ]); rfl)) ?_⟩; intro _ _ _ _) | refine And.intro (by omega) ?_ | refine And.intro ⟨_, rd1 kp (by rfl), rfl⟩ ?_ | (refine nwB ?_; intro _ _ _ _ _ _) | (refine all_below ?_; intro _ _ _))
  refine ⟨?_, by (repeat (first | exact Chg.refl _ _ | refine Chg.step (by assumption) ?_ (by (first | exact sub_non _ | exact sub_nil _ | (repeat (first | exact sub_nil _ | refine sub_new (by omega) ?_ | refine sub_old (by first | assumption | exact in_head _ _ | exact in_tail (in_head _ _) | exact in_tail (in_tail (in_head _ _)) | simp [In]) ?_))))))⟩
  simp [curA]; omega

/-- The next row behind the last one. -/
theorem c190l (w : World) (g rb rcap C : Nat) (x : GRow) (l : List GRow) (col : Nat) (p : Bool) (gl : Glob w) (h : GridAt w g rb rcap C (x :: l)) (h0 : C ≠ 0) (hc : col < C) (hp : p = true → col = C - 1) (hm : l.length + 1 ≤ 1000) (hC : C ≤ 1000) :
    Calls Tryz.prog 190 #[.pointer (some ⟨g, 0, none⟩), .agg (regA 0 l.length), .agg (curA l.length col p), .agg penZ] w fun e w' => ∃ gb gcap y, e = .returned (.tuple #[.agg (curA l.length col false), .slice (some ⟨gb, 0, none⟩) 1 gcap, .int .i64 0]) ∧
      LinesV w' (.slice (some ⟨gb, 0, none⟩) 1 gcap) [x] ∧ w.heap.size ≤ gb ∧ gb < w'.heap.size ∧ GridAt w' g rb rcap C (rolled (x :: l) y) ∧ y.rs = List.replicate C 0 ∧ y.so = false ∧ w.heap.size ≤ y.b ∧ Chg (In [rb]) w w' := by
  refine r190 _ _ _ _ _ _ ?_
  unfold V190
  have hgr := h.grid
  have hglt := blk_lt hgr
  rw [List.length_cons] at hgr
  obtain ⟨cur0, hb0, _⟩ := h.hd.at_
  have hrblt := blk_lt hb0
  refine nw ?_
  intro k1 w1 e1 s1 b1 g1
  refine nw ?_
  intro k2 w2 e2 s2 b2 g2
  refine nw ?_
  intro k3 w3 e3 s3 b3 g3
  refine nw ?_
  intro k4 w4 e4 s4 b4 g4
  repeat (first | (refine nw ?_; intro _ _ _ _ _ _) | refine ⟨_, rdall kp (by rfl), ?_⟩ | refine ⟨_, rd1 kp (by rfl), ?_⟩ | refine ⟨_, _, _, rd1 kp (by rfl), ?_⟩ | refine br_t cp ?_ | refine br_f cp ?_ | (refine ⟨_, rfl, ?_⟩; try dsimp only) | (refine ⟨_, _, rfl, ?_⟩; try dsimp only) | refine And.intro (by unfold inInt; omega) ?_ | (refine ⟨rfl, one_lit rfl, fw kp (by (first | exact Nat.le_of_ble_eq_true rfl | (simp; done) | omega)), puts0A kp (by rfl) ?_⟩; intro _ _ _ _) | (refine ⟨rfl, one_lit rfl, fw kp (by (first | exact Nat.le_of_ble_eq_true rfl | (simp; done) | omega)), puts0 kp (by rfl) ?_⟩; intro _ _ _ _) | (refine ⟨fw kp (by (first | exact Nat.le_of_ble_eq_true rfl | (simp; done) | omega)), putL kp (by ((try simp only [List.set_cons_zero, List.set_cons_succ]); rfl)) ?_⟩; intro _ _ _ _) | refine And.intro (by omega) ?_ | refine And.intro ⟨_, rd1 kp (by rfl), rfl⟩ ?_ | (refine nwB ?_; intro _ _ _ _ _ _) | (refine all_below ?_; intro _ _ _))
  obtain ⟨gl4, h4⟩ : Glob w4 ∧ GridR w4 g rb rcap C (x :: l) := by
    have gg : Chg Non w w4 := by (repeat (first | exact Chg.refl _ _ | refine Chg.step (by assumption) ?_ (by (first | exact sub_non _ | exact sub_nil _ | (repeat (first | exact sub_nil _ | refine sub_new (by omega) ?_ | refine sub_old (by first | assumption | exact in_head _ _ | exact in_tail (in_head _ _) | exact in_tail (in_tail (in_head _ _)) | simp [In]) ?_))))))
    exact ⟨gl.non gg, h.r.non gg⟩
  refine Calls.then (c198 w4 g rb rcap C (x :: l) l.length col p gl4 h4 h0 (by simp) hc hp (by simpa using hm) hC l.length (by simp)) ?_
  rintro e w5 ⟨rfl, g5⟩
  have s5 := g5.size
  refine ⟨_, rfl, br_f rfl ⟨_, rd1 kp (by rfl), _, rd1 kp (by rfl), nw ?_⟩⟩
  intro k5 w6 e6 s6 b6 g6
  refine ⟨rfl, one_lit rfl, fw kp (by (first | exact Nat.le_of_ble_eq_true rfl | (simp; done) | omega)), puts0 kp (by rfl) ?_⟩
  intro w7 s7 b7 g7
  refine ⟨_, rd1 kp (by rfl), _, rd1 kp (by rfl), br_t cp ⟨_, rdall kp (by rfl), _, rdall kp (by rfl), ?_⟩⟩
  have b7k4 : blk w7 k4 = some (.cells #[.int .i64 0, .int .i64 0, .bool false] 30) := by (repeat (first | assumption | refine Chg.get (by assumption) ?_ (by (repeat (first | exact not_non _ | exact not_in_nil _ | refine not_in_cons (by first | assumption | exact Ne.symm (by assumption) | omega) ?_)))))
  obtain ⟨gg, gl7, h7⟩ : Chg Non w w7 ∧ Glob w7 ∧ GridAt w7 g rb rcap C (x :: l) := by
    have gg : Chg Non w w7 := by (repeat (first | exact Chg.refl _ _ | refine Chg.step (by assumption) ?_ (by (first | exact sub_non _ | exact sub_nil _ | (repeat (first | exact sub_nil _ | refine sub_new (by omega) ?_ | refine sub_old (by first | assumption | exact in_head _ _ | exact in_tail (in_head _ _) | exact in_tail (in_tail (in_head _ _)) | simp [In]) ?_))))))
    exact ⟨gg, gl.non gg, h.non gg⟩
  refine Calls.then (c245 w7 g rb rcap C x l gl7 h7 h0 hC hm) ?_
  rintro e w8 ⟨gb, gcap, y, rfl, q1, q2, q3, q4, q5, q6, q7, g8⟩
  have s8 := g8.size
  have b8k5 : blk w8 k5 = _ := g8.get b7 (not_in_cons (by omega) (not_in_nil _))
  have b8k4 : blk w8 k4 = _ := g8.get b7k4 (not_in_cons (by omega) (not_in_nil _))
  refine ⟨_, _, _, _, rfl, _, rdall b8k5 (by rfl), rfl, one_lit rfl, fw b8k4 (by (first | exact Nat.le_of_ble_eq_true rfl | (simp; done) | omega)), puts0A b8k4 (by rfl) ?_⟩
  intro w9 s9 b9 g9
  refine ⟨_, rdall b9 (by rfl), gb, gcap, y, rfl, ?_, by omega, by omega, ?_, q5, q6, by omega, ?_⟩
  · exact q1.next g9 fun j hj => by simp only [Value.ownBlock, Option.some.injEq] at hj; exact not_in_cons (by omega) (not_in_nil _)
  · obtain ⟨cur8, hb8, _⟩ := q4.hd.at_
    have hg8 := q4.grid
    have := blk_lt hg8
    have hlt := blk_lt hgr
    refine ⟨g9.get hg8 (not_in_cons (by omega) (not_in_nil _)), q4.hd.next g9 fun j hj => by simp only [Value.ownBlock, Option.some.injEq] at hj; exact not_in_cons (by omega) (not_in_nil _), q4.rows.next g9 fun q hq => not_in_cons (row_ne_lines (q4.rows.row q hq) b8k4 (by decide)) (not_in_nil _), q4.nodup⟩
  · exact (gg.non.trans g8).trans' g9 (sub_new (by omega) (sub_nil _))

theorem c175 (w : World) (g C n cap : Nat) (a : Option Addr) (row col : Nat) (p : Bool) (hb : blk w g = some (.cells #[.int .i64 C, .slice a n cap] 185)) (hr : row < n) (hc : col < C) (hp : p = true → col = C - 1) (hC : C ≤ 1000) :
    Calls Tryz.prog 175 #[.pointer (some ⟨g, 0, none⟩), .agg (curA row col p)] w fun e w' => e = .returned (.int .i64 0) ∧ Chg Non w w' := by
  refine r175 _ _ _ _ ?_
  unfold V175
  refine nw ?_
  intro k1 w1 e1 s1 b1 g1
  intro K hK
  refine Calls.then (c234 w1 g C n cap a kp) ?_
  rintro e w2 ⟨rfl, g2⟩
  have key : ∀ w5, w2.heap.size ≤ w5.heap.size → Chg Non w2 w5 → K [.int .i64 0] w5 := by
    intro w5 s5 g5
    refine hK _ _ fun _ => ?_
    clear hK K
    exact ⟨rfl, by (repeat (first | exact Chg.refl _ _ | refine Chg.step (by assumption) ?_ (by (first | exact sub_non _ | exact sub_nil _ | (repeat (first | exact sub_nil _ | refine sub_new (by omega) ?_ | refine sub_old (by first | assumption | exact in_head _ _ | exact in_tail (in_head _ _) | exact in_tail (in_tail (in_head _ _)) | simp [In]) ?_))))))⟩
  clear hK
  repeat (first | (refine nw ?_; intro _ _ _ _ _ _) | refine ⟨_, rdall kp (by rfl), ?_⟩ | refine ⟨_, rd1 kp (by rfl), ?_⟩ | refine ⟨_, _, _, rd1 kp (by rfl), ?_⟩ | refine br_t cp ?_ | refine br_f cp ?_ | (refine ⟨_, rfl, ?_⟩; try dsimp only) | (refine ⟨_, _, rfl, ?_⟩; try dsimp only) | refine And.intro (by unfold inInt; omega) ?_ | (refine ⟨rfl, one_lit rfl, fw kp (by (first | exact Nat.le_of_ble_eq_true rfl | (simp; done) | omega)), puts0A kp (by rfl) ?_⟩; intro _ _ _ _) | (refine ⟨rfl, one_lit rfl, fw kp (by (first | exact Nat.le_of_ble_eq_true rfl | (simp; done) | omega)), puts0 kp (by rfl) ?_⟩; intro _ _ _ _) | (refine ⟨fw kp (by (first | exact Nat.le_of_ble_eq_true rfl | (simp; done) | omega)), putL kp (by ((try simp only [List.set_cons_zero, List.set_cons_succ]); rfl)) ?_⟩; intro _ _ _ _) | refine And.intro (by omega) ?_ | refine And.intro ⟨_, rd1 kp (by rfl), rfl⟩ ?_ | (refine nwB ?_; intro _ _ _ _ _ _) | (refine all_below ?_; intro _ _ _))
  refine ⟨_, floI fun w5 s5 g5 => c234 w5 g C n cap a kp, ?_⟩
  repeat (first | (refine nw ?_; intro _ _ _ _ _ _) | refine ⟨_, rdall kp (by rfl), ?_⟩ | refine ⟨_, rd1 kp (by rfl), ?_⟩ | refine ⟨_, _, _, rd1 kp (by rfl), ?_⟩ | refine br_t cp ?_ | refine br_f cp ?_ | (refine ⟨_, rfl, ?_⟩; try dsimp only) | (refine ⟨_, _, rfl, ?_⟩; try dsimp only) | refine And.intro (by unfold inInt; omega) ?_ | (refine ⟨rfl, one_lit rfl, fw kp (by (first | exact Nat.le_of_ble_eq_true rfl | (simp; done) | omega)), puts0A kp (by rfl) ?_⟩; intro _ _ _ _) | (refine ⟨rfl, one_lit rfl, fw kp (by (first | exact Nat.le_of_ble_eq_true rfl | (simp; done) | omega)), puts0 kp (by rfl) ?_⟩; intro _ _ _ _) | (refine ⟨fw kp (by (first | exact Nat.le_of_ble_eq_true rfl | (simp; done) | omega)), putL kp (by ((try simp only [List.set_cons_zero, List.set_cons_succ]); rfl)) ?_⟩; intro _ _ _ _) | refine And.intro (by omega) ?_ | refine And.intro ⟨_, rd1 kp (by rfl), rfl⟩ ?_ | (refine nwB ?_; intro _ _ _ _ _ _) | (refine all_below ?_; intro _ _ _))
  refine ⟨_, floI fun w5 s5 g5 => c183 w5 g C _ kp, ?_⟩
  repeat (first | (refine nw ?_; intro _ _ _ _ _ _) | refine ⟨_, rdall kp (by rfl), ?_⟩ | refine ⟨_, rd1 kp (by rfl), ?_⟩ | refine ⟨_, _, _, rd1 kp (by rfl), ?_⟩ | refine br_t cp ?_ | refine br_f cp ?_ | (refine ⟨_, rfl, ?_⟩; try dsimp only) | (refine ⟨_, _, rfl, ?_⟩; try dsimp only) | refine And.intro (by unfold inInt; omega) ?_ | (refine ⟨rfl, one_lit rfl, fw kp (by (first | exact Nat.le_of_ble_eq_true rfl | (simp; done) | omega)), puts0A kp (by rfl) ?_⟩; intro _ _ _ _) | (refine ⟨rfl, one_lit rfl, fw kp (by (first | exact Nat.le_of_ble_eq_true rfl | (simp; done) | omega)), puts0 kp (by rfl) ?_⟩; intro _ _ _ _) | (refine ⟨fw kp (by (first | exact Nat.le_of_ble_eq_true rfl | (simp; done) | omega)), putL kp (by ((try simp only [List.set_cons_zero, List.set_cons_succ]); rfl)) ?_⟩; intro _ _ _ _) | refine And.intro (by omega) ?_ | refine And.intro ⟨_, rd1 kp (by rfl), rfl⟩ ?_ | (refine nwB ?_; intro _ _ _ _ _ _) | (refine all_below ?_; intro _ _ _))
  refine br_bool (fun hpt => ?_) fun hpf => ?_
  · repeat (first | (refine nw ?_; intro _ _ _ _ _ _) | refine ⟨_, rdall kp (by rfl), ?_⟩ | refine ⟨_, rd1 kp (by rfl), ?_⟩ | refine ⟨_, _, _, rd1 kp (by rfl), ?_⟩ | refine br_t cp ?_ | refine br_f cp ?_ | (refine ⟨_, rfl, ?_⟩; try dsimp only) | (refine ⟨_, _, rfl, ?_⟩; try dsimp only) | refine And.intro (by unfold inInt; omega) ?_ | (refine ⟨rfl, one_lit rfl, fw kp (by (first | exact Nat.le_of_ble_eq_true rfl | (simp; done) | omega)), puts0A kp (by rfl) ?_⟩; intro _ _ _ _) | (refine ⟨rfl, one_lit rfl, fw kp (by (first | exact Nat.le_of_ble_eq_true rfl | (simp; done) | omega)), puts0 kp (by rfl) ?_⟩; intro _ _ _ _) | (refine ⟨fw kp (by (first | exact Nat.le_of_ble_eq_true rfl | (simp; done) | omega)), putL kp (by ((try simp only [List.set_cons_zero, List.set_cons_succ]); rfl)) ?_⟩; intro _ _ _ _) | refine And.intro (by omega) ?_ | refine And.intro ⟨_, rd1 kp (by rfl), rfl⟩ ?_ | (refine nwB ?_; intro _ _ _ _ _ _) | (refine all_below ?_; intro _ _ _))
    refine ⟨_, floI fun w5 s5 g5 => c183 w5 g C _ kp, ?_⟩
    have := hp hpt
    repeat (first | (refine nw ?_; intro _ _ _ _ _ _) | refine ⟨_, rdall kp (by rfl), ?_⟩ | refine ⟨_, rd1 kp (by rfl), ?_⟩ | refine ⟨_, _, _, rd1 kp (by rfl), ?_⟩ | refine br_t cp ?_ | refine br_f cp ?_ | (refine ⟨_, rfl, ?_⟩; try dsimp only) | (refine ⟨_, _, rfl, ?_⟩; try dsimp only) | refine And.intro (by unfold inInt; omega) ?_ | (refine ⟨rfl, one_lit rfl, fw kp (by (first | exact Nat.le_of_ble_eq_true rfl | (simp; done) | omega)), puts0A kp (by rfl) ?_⟩; intro _ _ _ _) | (refine ⟨rfl, one_lit rfl, fw kp (by (first | exact Nat.le_of_ble_eq_true rfl | (simp; done) | omega)), puts0 kp (by rfl) ?_⟩; intro _ _ _ _) | (refine ⟨fw kp (by (first | exact Nat.le_of_ble_eq_true rfl | (simp; done) | omega)), putL kp (by ((try simp only [List.set_cons_zero, List.set_cons_succ]); rfl)) ?_⟩; intro _ _ _ _) | refine And.intro (by omega) ?_ | refine And.intro ⟨_, rd1 kp (by rfl), rfl⟩ ?_ | (refine nwB ?_; intro _ _ _ _ _ _) | (refine all_below ?_; intro _ _ _))
    exact key _ (by assumption) (by assumption)
  · repeat (first | (refine nw ?_; intro _ _ _ _ _ _) | refine ⟨_, rdall kp (by rfl), ?_⟩ | refine ⟨_, rd1 kp (by rfl), ?_⟩ | refine ⟨_, _, _, rd1 kp (by rfl), ?_⟩ | refine br_t cp ?_ | refine br_f cp ?_ | (refine ⟨_, rfl, ?_⟩; try dsimp only) | (refine ⟨_, _, rfl, ?_⟩; try dsimp only) | refine And.intro (by unfold inInt; omega) ?_ | (refine ⟨rfl, one_lit rfl, fw kp (by (first | exact Nat.le_of_ble_eq_true rfl | (simp; done) | omega)), puts0A kp (by rfl) ?_⟩; intro _ _ _ _) | (refine ⟨rfl, one_lit rfl, fw kp (by (first | exact Nat.le_of_ble_eq_true rfl | (simp; done) | omega)), puts0 kp (by rfl) ?_⟩; intro _ _ _ _) | (refine ⟨fw kp (by (first | exact Nat.le_of_ble_eq_true rfl | (simp; done) | omega)), putL kp (by ((try simp only [List.set_cons_zero, List.set_cons_succ]); rfl)) ?_⟩; intro _ _ _ _) | refine And.intro (by omega) ?_ | refine And.intro ⟨_, rd1 kp (by rfl), rfl⟩ ?_ | (refine nwB ?_; intro _ _ _ _ _ _) | (refine all_below ?_; intro _ _ _))
    exact key _ (by assumption) (by assumption)

/-- Whether a wrap comes before one column. -/
theorem c180 (w : World) (g C n cap : Nat) (a : Option Addr) (row col : Nat) (p : Bool) (hb : blk w g = some (.cells #[.int .i64 C, .slice a n cap] 185)) (h0 : C ≠ 0) (hC : C ≤ 1000) :
    Calls Tryz.prog 180 #[.pointer (some ⟨g, 0, none⟩), .agg (curA row col p), .int .i64 1, .bool true] w fun e w' => e = .returned (.bool p) ∧ Chg Non w w' := by
  refine r180 _ _ _ _ _ _ ?_
  unfold V180
  refine nw ?_
  intro k1 w1 e1 s1 b1 g1
  refine Calls.then (c183 w1 g C _ kp) ?_
  rintro e w2 ⟨rfl, g2⟩
  repeat (first | (refine nw ?_; intro _ _ _ _ _ _) | refine ⟨_, rdall kp (by rfl), ?_⟩ | refine ⟨_, rd1 kp (by rfl), ?_⟩ | refine ⟨_, _, _, rd1 kp (by rfl), ?_⟩ | refine br_t cp ?_ | refine br_f cp ?_ | (refine ⟨_, rfl, ?_⟩; try dsimp only) | (refine ⟨_, _, rfl, ?_⟩; try dsimp only) | refine And.intro (by unfold inInt; omega) ?_ | (refine ⟨rfl, one_lit rfl, fw kp (by (first | exact Nat.le_of_ble_eq_true rfl | (simp; done) | omega)), puts0A kp (by rfl) ?_⟩; intro _ _ _ _) | (refine ⟨rfl, one_lit rfl, fw kp (by (first | exact Nat.le_of_ble_eq_true rfl | (simp; done) | omega)), puts0 kp (by rfl) ?_⟩; intro _ _ _ _) | (refine ⟨fw kp (by (first | exact Nat.le_of_ble_eq_true rfl | (simp; done) | omega)), putL kp (by ((try simp only [List.set_cons_zero, List.set_cons_succ]); rfl)) ?_⟩; intro _ _ _ _) | refine And.intro (by omega) ?_ | refine And.intro ⟨_, rd1 kp (by rfl), rfl⟩ ?_ | (refine nwB ?_; intro _ _ _ _ _ _) | (refine all_below ?_; intro _ _ _))
  refine br_bool (fun hpt => ?_) fun hpf => ?_
  · subst hpt; exact ⟨rfl, by (repeat (first | exact Chg.refl _ _ | refine Chg.step (by assumption) ?_ (by (first | exact sub_non _ | exact sub_nil _ | (repeat (first | exact sub_nil _ | refine sub_new (by omega) ?_ | refine sub_old (by first | assumption | exact in_head _ _ | exact in_tail (in_head _ _) | exact in_tail (in_tail (in_head _ _)) | simp [In]) ?_))))))⟩
  · subst hpf; repeat (first | (refine nw ?_; intro _ _ _ _ _ _) | refine ⟨_, rdall kp (by rfl), ?_⟩ | refine ⟨_, rd1 kp (by rfl), ?_⟩ | refine ⟨_, _, _, rd1 kp (by rfl), ?_⟩ | refine br_t cp ?_ | refine br_f cp ?_ | (refine ⟨_, rfl, ?_⟩; try dsimp only) | (refine ⟨_, _, rfl, ?_⟩; try dsimp only) | refine And.intro (by unfold inInt; omega) ?_ | (refine ⟨rfl, one_lit rfl, fw kp (by (first | exact Nat.le_of_ble_eq_true rfl | (simp; done) | omega)), puts0A kp (by rfl) ?_⟩; intro _ _ _ _) | (refine ⟨rfl, one_lit rfl, fw kp (by (first | exact Nat.le_of_ble_eq_true rfl | (simp; done) | omega)), puts0 kp (by rfl) ?_⟩; intro _ _ _ _) | (refine ⟨fw kp (by (first | exact Nat.le_of_ble_eq_true rfl | (simp; done) | omega)), putL kp (by ((try simp only [List.set_cons_zero, List.set_cons_succ]); rfl)) ?_⟩; intro _ _ _ _) | refine And.intro (by omega) ?_ | refine And.intro ⟨_, rd1 kp (by rfl), rfl⟩ ?_ | (refine nwB ?_; intro _ _ _ _ _ _) | (refine all_below ?_; intro _ _ _)); exact ⟨rfl, by (repeat (first | exact Chg.refl _ _ | refine Chg.step (by assumption) ?_ (by (first | exact sub_non _ | exact sub_nil _ | (repeat (first | exact sub_nil _ | refine sub_new (by omega) ?_ | refine sub_old (by first | assumption | exact in_head _ _ | exact in_tail (in_head _ _) | exact in_tail (in_tail (in_head _ _)) | simp [In]) ?_))))))⟩

theorem c136 (w : World) (g C n cap : Nat) (a : Option Addr) (row col : Nat) (p : Bool) (r : Int) (gl : Glob w) (hb : blk w g = some (.cells #[.int .i64 C, .slice a n cap] 185)) (hr : row < n) (hc : col < C) (hp : p = true → col = C - 1) (hC : C ≤ 1000) (hr1 : 32 ≤ r) (hr2 : r ≤ 126) :
    Calls Tryz.prog 136 #[.pointer (some ⟨g, 0, none⟩), .agg (curA row col p), .int .i32 r, .bool true] w fun e w' => e = .returned (.tuple #[.bool p, .int .i64 0]) ∧ Chg Non w w' := by
  refine r136 _ _ _ _ _ _ ?_
  unfold V136
  refine nw ?_
  intro k1 w1 e1 s1 b1 g1
  repeat (first | (refine nw ?_; intro _ _ _ _ _ _) | refine ⟨_, rdall kp (by rfl), ?_⟩ | refine ⟨_, rd1 kp (by rfl), ?_⟩ | refine ⟨_, _, _, rd1 kp (by rfl), ?_⟩ | refine br_t cp ?_ | refine br_f cp ?_ | (refine ⟨_, rfl, ?_⟩; try dsimp only) | (refine ⟨_, _, rfl, ?_⟩; try dsimp only) | refine And.intro (by unfold inInt; omega) ?_ | (refine ⟨rfl, one_lit rfl, fw kp (by (first | exact Nat.le_of_ble_eq_true rfl | (simp; done) | omega)), puts0A kp (by rfl) ?_⟩; intro _ _ _ _) | (refine ⟨rfl, one_lit rfl, fw kp (by (first | exact Nat.le_of_ble_eq_true rfl | (simp; done) | omega)), puts0 kp (by rfl) ?_⟩; intro _ _ _ _) | (refine ⟨fw kp (by (first | exact Nat.le_of_ble_eq_true rfl | (simp; done) | omega)), putL kp (by ((try simp only [List.set_cons_zero, List.set_cons_succ]); rfl)) ?_⟩; intro _ _ _ _) | refine And.intro (by omega) ?_ | refine And.intro ⟨_, rd1 kp (by rfl), rfl⟩ ?_ | (refine nwB ?_; intro _ _ _ _ _ _) | (refine all_below ?_; intro _ _ _))
  refine Calls.then (c175 w1 g C n cap a row col p kp hr hc hp hC) ?_
  rintro e w2 ⟨rfl, g2⟩
  repeat (first | (refine nw ?_; intro _ _ _ _ _ _) | refine ⟨_, rdall kp (by rfl), ?_⟩ | refine ⟨_, rd1 kp (by rfl), ?_⟩ | refine ⟨_, _, _, rd1 kp (by rfl), ?_⟩ | refine br_t cp ?_ | refine br_f cp ?_ | (refine ⟨_, rfl, ?_⟩; try dsimp only) | (refine ⟨_, _, rfl, ?_⟩; try dsimp only) | refine And.intro (by unfold inInt; omega) ?_ | (refine ⟨rfl, one_lit rfl, fw kp (by (first | exact Nat.le_of_ble_eq_true rfl | (simp; done) | omega)), puts0A kp (by rfl) ?_⟩; intro _ _ _ _) | (refine ⟨rfl, one_lit rfl, fw kp (by (first | exact Nat.le_of_ble_eq_true rfl | (simp; done) | omega)), puts0 kp (by rfl) ?_⟩; intro _ _ _ _) | (refine ⟨fw kp (by (first | exact Nat.le_of_ble_eq_true rfl | (simp; done) | omega)), putL kp (by ((try simp only [List.set_cons_zero, List.set_cons_succ]); rfl)) ?_⟩; intro _ _ _ _) | refine And.intro (by omega) ?_ | refine And.intro ⟨_, rd1 kp (by rfl), rfl⟩ ?_ | (refine nwB ?_; intro _ _ _ _ _ _) | (refine all_below ?_; intro _ _ _))
  refine Calls.then (c131 r w2 ((gl.non g1).non g2) hr1 hr2) ?_
  rintro e w3 ⟨rfl, g3⟩
  repeat (first | (refine nw ?_; intro _ _ _ _ _ _) | refine ⟨_, rdall kp (by rfl), ?_⟩ | refine ⟨_, rd1 kp (by rfl), ?_⟩ | refine ⟨_, _, _, rd1 kp (by rfl), ?_⟩ | refine br_t cp ?_ | refine br_f cp ?_ | (refine ⟨_, rfl, ?_⟩; try dsimp only) | (refine ⟨_, _, rfl, ?_⟩; try dsimp only) | refine And.intro (by unfold inInt; omega) ?_ | (refine ⟨rfl, one_lit rfl, fw kp (by (first | exact Nat.le_of_ble_eq_true rfl | (simp; done) | omega)), puts0A kp (by rfl) ?_⟩; intro _ _ _ _) | (refine ⟨rfl, one_lit rfl, fw kp (by (first | exact Nat.le_of_ble_eq_true rfl | (simp; done) | omega)), puts0 kp (by rfl) ?_⟩; intro _ _ _ _) | (refine ⟨fw kp (by (first | exact Nat.le_of_ble_eq_true rfl | (simp; done) | omega)), putL kp (by ((try simp only [List.set_cons_zero, List.set_cons_succ]); rfl)) ?_⟩; intro _ _ _ _) | refine And.intro (by omega) ?_ | refine And.intro ⟨_, rd1 kp (by rfl), rfl⟩ ?_ | (refine nwB ?_; intro _ _ _ _ _ _) | (refine all_below ?_; intro _ _ _))
  refine Calls.then (c180 w3 g C n cap a row col p kp (by omega) hC) ?_
  rintro e w4 ⟨rfl, g4⟩
  exact ⟨_, rfl, rfl, by (repeat (first | exact Chg.refl _ _ | refine Chg.step (by assumption) ?_ (by (first | exact sub_non _ | exact sub_nil _ | (repeat (first | exact sub_nil _ | refine sub_new (by omega) ?_ | refine sub_old (by first | assumption | exact in_head _ _ | exact in_tail (in_head _ _) | exact in_tail (in_tail (in_head _ _)) | simp [In]) ?_))))))⟩

theorem c182 (w : World) (r : Int) (gl : Glob w) (hr1 : 32 ≤ r) (hr2 : r ≤ 126) :
    Calls Tryz.prog 182 #[.int .i32 r, .agg penZ] w fun e w' => ∃ b, e = .returned (.tuple #[.slice (some ⟨b, 0, none⟩) 1 1, .int .i64 0]) ∧ blk w' b = some (.cells (cel r) 149) ∧ w.heap.size ≤ b ∧ Chg Non w w' := by
  refine r182 _ _ _ _ ?_
  unfold V182
  refine nw ?_
  intro k1 w1 e1 s1 b1 g1
  refine Calls.then (c131 r w1 (gl.non g1) hr1 hr2) ?_
  rintro e w2 ⟨rfl, g2⟩
  refine ⟨_, rfl, ?_⟩
  intro K hK
  refine br_f rfl ⟨_, rdall kp (by rfl), ?_⟩
  refine Calls.then (c162 w2) ?_
  rintro e w3 ⟨rfl, g3⟩
  refine ⟨_, rfl, br_f rfl (hK _ _ _ _ _ fun _ => ?_)⟩
  clear hK K
  have s2 := g2.size
  have s3 := g3.size
  refine ⟨_, rdall kp (by rfl), rfl, rfl, nw ?_⟩
  intro k2 w4 e4 s4 b4 g4
  intro K hK
  refine br_f rfl (hK _ _ _ _ fun _ => ?_)
  clear hK K
  exact ⟨k2, rfl, b4, by omega, by (repeat (first | exact Chg.refl _ _ | refine Chg.step (by assumption) ?_ (by (first | exact sub_non _ | exact sub_nil _ | (repeat (first | exact sub_nil _ | refine sub_new (by omega) ?_ | refine sub_old (by first | assumption | exact in_head _ _ | exact in_tail (in_head _ _) | exact in_tail (in_tail (in_head _ _)) | simp [In]) ?_))))))⟩
end Go.Proofs

namespace Go.Proofs
open Go Go.X Go.RowKit
set_option linter.unusedVariables false
set_option linter.unusedSimpArgs false
set_option maxRecDepth 100000

theorem c139 (w : World) (g rb rcap C : Nat) (l : List GRow) (row col : Nat) (r : Int) (gl : Glob w) (h : GridAt w g rb rcap C l) (hr : row < l.length) (hc : col < C) (hC : C ≤ 1000) (hr1 : 32 ≤ r) (hr2 : r ≤ 126) :
    Calls Tryz.prog 139 #[.pointer (some ⟨g, 0, none⟩), .agg (curA row col false), .int .i32 r, .agg penZ, .bool true, .bool false] w fun e w' =>
      e = .returned (.tuple #[.agg (if col + 1 < C then curA row ((col + 1 : Nat) : Int) false else curA row ((C - 1 : Nat) : Int) true), .int .i64 0]) ∧
      GridAt w' g rb rcap C (l.modify row fun x => { x with rs := x.rs.set col r }) ∧ Chg (In [l[row].b]) w w' := by
  refine r139 _ _ _ _ _ _ _ _ ?_
  unfold V139
  have hgr := h.grid
  have hglt := blk_lt hgr
  have hrow := h.rows.row l[row] (List.getElem_mem _)
  have hrlt := hrow.lt
  have hgb := row_ne_lines hrow hgr (by decide)
  refine nw ?_
  intro k1 w1 e1 s1 b1 g1
  refine nw ?_
  intro k2 w2 e2 s2 b2 g2
  refine nw ?_
  intro k3 w3 e3 s3 b3 g3
  repeat (first | (refine nw ?_; intro _ _ _ _ _ _) | refine ⟨_, rdall kp (by rfl), ?_⟩ | refine ⟨_, rd1 kp (by rfl), ?_⟩ | refine ⟨_, _, _, rd1 kp (by rfl), ?_⟩ | refine br_t cp ?_ | refine br_f cp ?_ | (refine ⟨_, rfl, ?_⟩; try dsimp only) | (refine ⟨_, _, rfl, ?_⟩; try dsimp only) | refine And.intro (by unfold inInt; omega) ?_ | (refine ⟨rfl, one_lit rfl, fw kp (by (first | exact Nat.le_of_ble_eq_true rfl | (simp; done) | omega)), puts0A kp (by rfl) ?_⟩; intro _ _ _ _) | (refine ⟨rfl, one_lit rfl, fw kp (by (first | exact Nat.le_of_ble_eq_true rfl | (simp; done) | omega)), puts0 kp (by rfl) ?_⟩; intro _ _ _ _) | (refine ⟨fw kp (by (first | exact Nat.le_of_ble_eq_true rfl | (simp; done) | omega)), putL kp (by ((try simp only [List.set_cons_zero, List.set_cons_succ]); rfl)) ?_⟩; intro _ _ _ _) | refine And.intro (by omega) ?_ | refine And.intro ⟨_, rd1 kp (by rfl), rfl⟩ ?_ | (refine nwB ?_; intro _ _ _ _ _ _) | (refine all_below ?_; intro _ _ _))
  refine Calls.then (c175 w3 g C l.length rcap _ row col false kp hr hc (fun h => by cases h) hC) ?_
  rintro e w4 ⟨rfl, g4⟩
  have s4 := g4.size
  repeat (first | (refine nw ?_; intro _ _ _ _ _ _) | refine ⟨_, rdall kp (by rfl), ?_⟩ | refine ⟨_, rd1 kp (by rfl), ?_⟩ | refine ⟨_, _, _, rd1 kp (by rfl), ?_⟩ | refine br_t cp ?_ | refine br_f cp ?_ | (refine ⟨_, rfl, ?_⟩; try dsimp only) | (refine ⟨_, _, rfl, ?_⟩; try dsimp only) | refine And.intro (by unfold inInt; omega) ?_ | (refine ⟨rfl, one_lit rfl, fw kp (by (first | exact Nat.le_of_ble_eq_true rfl | (simp; done) | omega)), puts0A kp (by rfl) ?_⟩; intro _ _ _ _) | (refine ⟨rfl, one_lit rfl, fw kp (by (first | exact Nat.le_of_ble_eq_true rfl | (simp; done) | omega)), puts0 kp (by rfl) ?_⟩; intro _ _ _ _) | (refine ⟨fw kp (by (first | exact Nat.le_of_ble_eq_true rfl | (simp; done) | omega)), putL kp (by ((try simp only [List.set_cons_zero, List.set_cons_succ]); rfl)) ?_⟩; intro _ _ _ _) | refine And.intro (by omega) ?_ | refine And.intro ⟨_, rd1 kp (by rfl), rfl⟩ ?_ | (refine nwB ?_; intro _ _ _ _ _ _) | (refine all_below ?_; intro _ _ _))
  refine Calls.then (c131 r w4 ((((gl.non g1).non g2).non g3).non g4) hr1 hr2) ?_
  rintro e w5 ⟨rfl, g5⟩
  have s5 := g5.size
  repeat (first | (refine nw ?_; intro _ _ _ _ _ _) | refine ⟨_, rdall kp (by rfl), ?_⟩ | refine ⟨_, rd1 kp (by rfl), ?_⟩ | refine ⟨_, _, _, rd1 kp (by rfl), ?_⟩ | refine br_t cp ?_ | refine br_f cp ?_ | (refine ⟨_, rfl, ?_⟩; try dsimp only) | (refine ⟨_, _, rfl, ?_⟩; try dsimp only) | refine And.intro (by unfold inInt; omega) ?_ | (refine ⟨rfl, one_lit rfl, fw kp (by (first | exact Nat.le_of_ble_eq_true rfl | (simp; done) | omega)), puts0A kp (by rfl) ?_⟩; intro _ _ _ _) | (refine ⟨rfl, one_lit rfl, fw kp (by (first | exact Nat.le_of_ble_eq_true rfl | (simp; done) | omega)), puts0 kp (by rfl) ?_⟩; intro _ _ _ _) | (refine ⟨fw kp (by (first | exact Nat.le_of_ble_eq_true rfl | (simp; done) | omega)), putL kp (by ((try simp only [List.set_cons_zero, List.set_cons_succ]); rfl)) ?_⟩; intro _ _ _ _) | refine And.intro (by omega) ?_ | refine And.intro ⟨_, rd1 kp (by rfl), rfl⟩ ?_ | (refine nwB ?_; intro _ _ _ _ _ _) | (refine all_below ?_; intro _ _ _))
  intro K hK
  refine br_f rfl ⟨_, rdall kp (by rfl), ?_⟩
  refine Calls.then (c116 w5) ?_
  rintro e w6 ⟨rfl, g6⟩
  have s6 := g6.size
  refine ⟨_, rfl, ?_⟩
  refine Calls.then (c115 0 w6 ((((((gl.non g1).non g2).non g3).non g4).non g5).non g6) (.inl rfl)) ?_
  rintro e w7 ⟨rfl, g7⟩
  have s7 := g7.size
  refine ⟨_, rfl, br_f rfl (hK _ _ fun _ => ?_)⟩
  clear hK K
  repeat (first | (refine nw ?_; intro _ _ _ _ _ _) | refine ⟨_, rdall kp (by rfl), ?_⟩ | refine ⟨_, rd1 kp (by rfl), ?_⟩ | refine ⟨_, _, _, rd1 kp (by rfl), ?_⟩ | refine br_t cp ?_ | refine br_f cp ?_ | (refine ⟨_, rfl, ?_⟩; try dsimp only) | (refine ⟨_, _, rfl, ?_⟩; try dsimp only) | refine And.intro (by unfold inInt; omega) ?_ | (refine ⟨rfl, one_lit rfl, fw kp (by (first | exact Nat.le_of_ble_eq_true rfl | (simp; done) | omega)), puts0A kp (by rfl) ?_⟩; intro _ _ _ _) | (refine ⟨rfl, one_lit rfl, fw kp (by (first | exact Nat.le_of_ble_eq_true rfl | (simp; done) | omega)), puts0 kp (by rfl) ?_⟩; intro _ _ _ _) | (refine ⟨fw kp (by (first | exact Nat.le_of_ble_eq_true rfl | (simp; done) | omega)), putL kp (by ((try simp only [List.set_cons_zero, List.set_cons_succ]); rfl)) ?_⟩; intro _ _ _ _) | refine And.intro (by omega) ?_ | refine And.intro ⟨_, rd1 kp (by rfl), rfl⟩ ?_ | (refine nwB ?_; intro _ _ _ _ _ _) | (refine all_below ?_; intro _ _ _))
  refine Calls.then (c180 w7 g C l.length rcap _ row col false kp (by omega) hC) ?_
  rintro e w8 ⟨rfl, g8⟩
  have s8 := g8.size
  refine ⟨_, rfl, br_f rfl ⟨_, rdall kp (by rfl), ?_⟩⟩
  refine Calls.then (c182 w8 r ((((((((gl.non g1).non g2).non g3).non g4).non g5).non g6).non g7).non g8) hr1 hr2) ?_
  rintro e w9 ⟨b, rfl, hb9, hbs, g9⟩
  have s9 := g9.size
  have hblt := blk_lt hb9
  refine ⟨_, _, _, _, rfl, br_f rfl ⟨by omega, by omega, _, _, rfl, _, rdall hb9 (by rfl), _, rd1 kp (by rfl), nwB ?_⟩⟩
  intro k4 w10 e4 s10 b4 g10
  refine ⟨rfl, one_lit rfl, fw kp (by (first | exact Nat.le_of_ble_eq_true rfl | (simp; done) | omega)), puts0A kp (by rfl) ?_⟩
  intro w11 s11 b11 g11
  repeat (first | (refine nw ?_; intro _ _ _ _ _ _) | refine ⟨_, rdall kp (by rfl), ?_⟩ | refine ⟨_, rd1 kp (by rfl), ?_⟩ | refine ⟨_, _, _, rd1 kp (by rfl), ?_⟩ | refine br_t cp ?_ | refine br_f cp ?_ | (refine ⟨_, rfl, ?_⟩; try dsimp only) | (refine ⟨_, _, rfl, ?_⟩; try dsimp only) | refine And.intro (by unfold inInt; omega) ?_ | (refine ⟨rfl, one_lit rfl, fw kp (by (first | exact Nat.le_of_ble_eq_true rfl | (simp; done) | omega)), puts0A kp (by rfl) ?_⟩; intro _ _ _ _) | (refine ⟨rfl, one_lit rfl, fw kp (by (first | exact Nat.le_of_ble_eq_true rfl | (simp; done) | omega)), puts0 kp (by rfl) ?_⟩; intro _ _ _ _) | (refine ⟨fw kp (by (first | exact Nat.le_of_ble_eq_true rfl | (simp; done) | omega)), putL kp (by ((try simp only [List.set_cons_zero, List.set_cons_succ]); rfl)) ?_⟩; intro _ _ _ _) | refine And.intro (by omega) ?_ | refine And.intro ⟨_, rd1 kp (by rfl), rfl⟩ ?_ | (refine nwB ?_; intro _ _ _ _ _ _) | (refine all_below ?_; intro _ _ _))
  intro K hK
  repeat (first | (refine nw ?_; intro _ _ _ _ _ _) | refine ⟨_, rdall kp (by rfl), ?_⟩ | refine ⟨_, rd1 kp (by rfl), ?_⟩ | refine ⟨_, _, _, rd1 kp (by rfl), ?_⟩ | refine br_t cp ?_ | refine br_f cp ?_ | (refine ⟨_, rfl, ?_⟩; try dsimp only) | (refine ⟨_, _, rfl, ?_⟩; try dsimp only) | refine And.intro (by unfold inInt; omega) ?_ | (refine ⟨rfl, one_lit rfl, fw kp (by (first | exact Nat.le_of_ble_eq_true rfl | (simp; done) | omega)), puts0A kp (by rfl) ?_⟩; intro _ _ _ _) | (refine ⟨rfl, one_lit rfl, fw kp (by (first | exact Nat.le_of_ble_eq_true rfl | (simp; done) | omega)), puts0 kp (by rfl) ?_⟩; intro _ _ _ _) | (refine ⟨fw kp (by (first | exact Nat.le_of_ble_eq_true rfl | (simp; done) | omega)), putL kp (by ((try simp only [List.set_cons_zero, List.set_cons_succ]); rfl)) ?_⟩; intro _ _ _ _) | refine And.intro (by omega) ?_ | refine And.intro ⟨_, rd1 kp (by rfl), rfl⟩ ?_ | (refine nwB ?_; intro _ _ _ _ _ _) | (refine all_below ?_; intro _ _ _))
  refine ⟨_, floI fun w12 s12 g12 => c183 w12 g C _ kp, ?_⟩
  repeat (first | (refine nw ?_; intro _ _ _ _ _ _) | refine ⟨_, rdall kp (by rfl), ?_⟩ | refine ⟨_, rd1 kp (by rfl), ?_⟩ | refine ⟨_, _, _, rd1 kp (by rfl), ?_⟩ | refine br_t cp ?_ | refine br_f cp ?_ | (refine ⟨_, rfl, ?_⟩; try dsimp only) | (refine ⟨_, _, rfl, ?_⟩; try dsimp only) | refine And.intro (by unfold inInt; omega) ?_ | (refine ⟨rfl, one_lit rfl, fw kp (by (first | exact Nat.le_of_ble_eq_true rfl | (simp; done) | omega)), puts0A kp (by rfl) ?_⟩; intro _ _ _ _) | (refine ⟨rfl, one_lit rfl, fw kp (by (first | exact Nat.le_of_ble_eq_true rfl | (simp; done) | omega)), puts0 kp (by rfl) ?_⟩; intro _ _ _ _) | (refine ⟨fw kp (by (first | exact Nat.le_of_ble_eq_true rfl | (simp; done) | omega)), putL kp (by ((try simp only [List.set_cons_zero, List.set_cons_succ]); rfl)) ?_⟩; intro _ _ _ _) | refine And.intro (by omega) ?_ | refine And.intro ⟨_, rd1 kp (by rfl), rfl⟩ ?_ | (refine nwB ?_; intro _ _ _ _ _ _) | (refine all_below ?_; intro _ _ _))
  refine hK _ fun _ => ?_
  clear hK K
  refine ⟨_, floI fun w12 s12 g12 => c183 w12 g C _ kp, ?_⟩
  repeat (first | (refine nw ?_; intro _ _ _ _ _ _) | refine ⟨_, rdall kp (by rfl), ?_⟩ | refine ⟨_, rd1 kp (by rfl), ?_⟩ | refine ⟨_, _, _, rd1 kp (by rfl), ?_⟩ | refine br_t cp ?_ | refine br_f cp ?_ | (refine ⟨_, rfl, ?_⟩; try dsimp only) | (refine ⟨_, _, rfl, ?_⟩; try dsimp only) | refine And.intro (by unfold inInt; omega) ?_ | (refine ⟨rfl, one_lit rfl, fw kp (by (first | exact Nat.le_of_ble_eq_true rfl | (simp; done) | omega)), puts0A kp (by rfl) ?_⟩; intro _ _ _ _) | (refine ⟨rfl, one_lit rfl, fw kp (by (first | exact Nat.le_of_ble_eq_true rfl | (simp; done) | omega)), puts0 kp (by rfl) ?_⟩; intro _ _ _ _) | (refine ⟨fw kp (by (first | exact Nat.le_of_ble_eq_true rfl | (simp; done) | omega)), putL kp (by ((try simp only [List.set_cons_zero, List.set_cons_succ]); rfl)) ?_⟩; intro _ _ _ _) | refine And.intro (by omega) ?_ | refine And.intro ⟨_, rd1 kp (by rfl), rfl⟩ ?_ | (refine nwB ?_; intro _ _ _ _ _ _) | (refine all_below ?_; intro _ _ _))
  intro K hK
  refine br_f rfl (hK _ _ fun _ => ?_)
  clear hK K
  rename_i w12 s12 g12 _ w13 s13 g13 _
  rw [show min (col : Int) (C - 1) = col by omega]
  refine ⟨_, rd1 kp (by rfl), _, rdall kp (by rfl), ?_⟩
  have bk1 : blk w13 k1 = some (.cells (curA row col false) 30) := by (repeat (first | assumption | refine Chg.get (by assumption) ?_ (by (repeat (first | exact not_non _ | exact not_in_nil _ | refine not_in_cons (by first | assumption | exact Ne.symm (by assumption) | omega) ?_)))))
  have bk3 : blk w13 k3 = some (.cells #[.int .i64 0, .int .i64 0, .bool false] 30) := by (repeat (first | assumption | refine Chg.get (by assumption) ?_ (by (repeat (first | exact not_non _ | exact not_in_nil _ | refine not_in_cons (by first | assumption | exact Ne.symm (by assumption) | omega) ?_)))))
  have bk4 : blk w13 k4 = some (.cells (cel r) 149) := by (repeat (first | assumption | refine Chg.get (by assumption) ?_ (by (repeat (first | exact not_non _ | exact not_in_nil _ | refine not_in_cons (by first | assumption | exact Ne.symm (by assumption) | omega) ?_)))))
  obtain ⟨gg, gl13, h13⟩ : Chg Non w w13 ∧ Glob w13 ∧ GridAt w13 g rb rcap C l := by
    have gg : Chg Non w w13 := by (repeat (first | exact Chg.refl _ _ | refine Chg.step (by assumption) ?_ (by (first | exact sub_non _ | exact sub_nil _ | (repeat (first | exact sub_nil _ | refine sub_new (by omega) ?_ | refine sub_old (by first | assumption | exact in_head _ _ | exact in_tail (in_head _ _) | exact in_tail (in_tail (in_head _ _)) | simp [In]) ?_))))))
    exact ⟨gg, gl.non gg, h.non gg⟩
  clear g1 g2 g3 g4 g5 g6 g7 g8 g9 g10 g11 g12 g13
  refine Calls.then (c179 w13 g rb rcap C l row col r gl13 h13 hr hc hC (.inr ⟨hr1, hr2⟩)) ?_
  rintro e w14 ⟨rfl, g14, h14⟩
  have s14 := g14.size
  have hg14 := h14.grid
  refine ⟨_, rfl, br_f rfl ⟨_, rd1 kp (by rfl), by unfold inInt; omega, ?_⟩⟩
  refine Calls.then (c183 w14 g C _ hg14) ?_
  rintro e w15 ⟨rfl, g15⟩
  have s15 := g15.size
  refine ⟨_, rfl, ?_⟩
  by_cases hlt : col + 1 < C
  · rw [if_pos hlt]
    refine br_t cp ⟨_, rd1 kp (by rfl), rfl, one_lit rfl, fw kp (by (first | exact Nat.le_of_ble_eq_true rfl | (simp; done) | omega)), puts0 kp (by rfl) ?_⟩
    intro w16 s16 b16 g16
    refine ⟨_, rdall b16 (by rfl), rfl, ?_, (gg.non.trans (g14.trans g15.non)).trans' g16 (sub_new (by omega) (sub_nil _))⟩
    have h15 := h14.non g15
    refine ⟨g16.get h15.grid (not_in_cons (by omega) (not_in_nil _)), h15.hd.next g16 fun j hj => ?_, h15.rows.next g16 fun q hq => ?_, h15.nodup⟩
    · simp only [Value.ownBlock, Option.some.injEq] at hj
      obtain ⟨cur0, hb0, _⟩ := h.hd.at_
      have := blk_lt hb0
      exact not_in_cons (by omega) (not_in_nil _)
    · exact not_in_cons (row_ne_lines (h15.rows.row q hq) kp (by decide)) (not_in_nil _)
  · rw [if_neg hlt]
    refine br_f cp ⟨_, rd1 kp (by rfl), _, floI fun w16 s16 g16 => c183 w16 g C _ kp, by unfold inInt; omega, all_below ?_⟩
    intro w16 s16 g16
    refine ⟨rfl, one_lit rfl, fw kp (by (first | exact Nat.le_of_ble_eq_true rfl | (simp; done) | omega)), puts0 kp (by rfl) ?_⟩
    intro w17 s17 b17 g17
    refine ⟨_, rdall b17 (by rfl), ?_, ?_, (gg.non.trans ((g14.trans g15.non).trans g16.non)).trans' g17 (sub_new (by omega) (sub_nil _))⟩
    · simp [curA]; omega
    have h15 := (h14.non g15).non g16
    refine ⟨g17.get h15.grid (not_in_cons (by omega) (not_in_nil _)), h15.hd.next g17 fun j hj => ?_, h15.rows.next g17 fun q hq => ?_, h15.nodup⟩
    · simp only [Value.ownBlock, Option.some.injEq] at hj
      obtain ⟨cur0, hb0, _⟩ := h.hd.at_
      have := blk_lt hb0
      exact not_in_cons (by omega) (not_in_nil _)
    · exact not_in_cons (row_ne_lines (h15.rows.row q hq) kp (by decide)) (not_in_nil _)
end Go.Proofs

namespace Go.Proofs
open Go Go.X Go.RowKit
set_option linter.unusedVariables false
set_option linter.unusedSimpArgs false
set_option maxRecDepth 100000

def arA (R C : Nat) : Array Value := areA R C 0 ((R : Int) - 1) false

theorem c185 (R C row col : Nat) (p : Bool) (n : Int) (w : World) (hR : R ≤ 1000) (hC : C ≤ 1000) (hr : row < R) (hc : col < C) (hp : p = true → col = C - 1) (hn : 0 ≤ n) :
    Calls Tryz.prog 185 #[.agg (arA R C), .agg (curA row col p), .int .i64 n] w fun e w' => e = .returned (.int .i64 0) ∧ Chg Non w w' := by
  refine r185 _ _ _ _ _ ?_
  unfold V185
  refine nw ?_
  intro k1 w1 e1 s1 b1 g1
  refine nw ?_
  intro k2 w2 e2 s2 b2 g2
  intro K hK
  refine ⟨_, rdall kp (by rfl), _, rdall kp (by rfl), ?_⟩
  refine Calls.then (c242 R C 0 (R - 1) false row col p w2 (by omega) (by omega) (fun h => by have := hp h; omega)) ?_
  rintro e w3 ⟨rfl, g3⟩
  refine ⟨_, rfl, br_f rfl (br_f cp (hK _ _ fun _ => ?_))⟩
  exact ⟨rfl, by (repeat (first | exact Chg.refl _ _ | refine Chg.step (by assumption) ?_ (by (first | exact sub_non _ | exact sub_nil _ | (repeat (first | exact sub_nil _ | refine sub_new (by omega) ?_ | refine sub_old (by first | assumption | exact in_head _ _ | exact in_tail (in_head _ _) | exact in_tail (in_tail (in_head _ _)) | simp [In]) ?_))))))⟩

theorem c244 (w : World) (a b c : Int) : Calls Tryz.prog 244 #[.int .i64 a, .int .i64 b, .int .i64 c] w fun e w' => e = .returned (.int .i64 (max b (min a c))) ∧ Chg Non w w' := by
  refine r244 _ _ _ _ _ ?_
  unfold V244
  exact ⟨rfl, Chg.refl _ _⟩

theorem c205 (R C row col : Nat) (p : Bool) (w : World) (hR : R ≤ 1000) (hC : C ≤ 1000) (hr : row < R) (hc : col < C) (hp : p = true → col = C - 1) :
    Calls Tryz.prog 205 #[.agg (arA R C), .agg (curA row col p), .int .i64 1] w fun e w' => e = .returned (.tuple #[.agg (curA ((row - 1 : Nat) : Int) col false), .int .i64 0]) ∧ Chg Non w w' := by
  refine r205 _ _ _ _ _ ?_
  unfold V205
  refine nw ?_
  intro k1 w1 e1 s1 b1 g1
  refine nw ?_
  intro k2 w2 e2 s2 b2 g2
  refine nw ?_
  intro k3 w3 e3 s3 b3 g3
  refine ⟨_, rdall kp (by rfl), _, rdall kp (by rfl), ?_⟩
  refine Calls.then (c185 R C row col p 1 w3 hR hC hr hc hp (by decide)) ?_
  rintro e w4 ⟨rfl, g4⟩
  have s4 := g4.size
  refine ⟨_, rfl, br_f rfl ?_⟩
  intro K hK
  refine ⟨_, rd1 kp (by rfl), _, rd1 kp (by rfl), br_t cp ⟨_, rd1 kp (by rfl), hK _ _ fun _ => ?_⟩⟩
  clear hK K
  repeat (first | (refine nw ?_; intro _ _ _ _ _ _) | refine ⟨_, rdall kp (by rfl), ?_⟩ | refine ⟨_, rd1 kp (by rfl), ?_⟩ | refine ⟨_, _, _, rd1 kp (by rfl), ?_⟩ | refine br_t cp ?_ | refine br_f cp ?_ | (refine ⟨_, rfl, ?_⟩; try dsimp only) | (refine ⟨_, _, rfl, ?_⟩; try dsimp only) | refine And.intro (by unfold inInt; omega) ?_ | (refine ⟨rfl, one_lit rfl, fw kp (by (first | exact Nat.le_of_ble_eq_true rfl | (simp; done) | omega)), puts0A kp (by rfl) ?_⟩; intro _ _ _ _) | (refine ⟨rfl, one_lit rfl, fw kp (by (first | exact Nat.le_of_ble_eq_true rfl | (simp; done) | omega)), puts0 kp (by rfl) ?_⟩; intro _ _ _ _) | (refine ⟨fw kp (by (first | exact Nat.le_of_ble_eq_true rfl | (simp; done) | omega)), putL kp (by ((try simp only [List.set_cons_zero, List.set_cons_succ]); rfl)) ?_⟩; intro _ _ _ _) | refine And.intro (by omega) ?_ | refine And.intro ⟨_, rd1 kp (by rfl), rfl⟩ ?_ | (refine nwB ?_; intro _ _ _ _ _ _) | (refine all_below ?_; intro _ _ _))
  exact ⟨by simp [curA]; omega, by (repeat (first | exact Chg.refl _ _ | refine Chg.step (by assumption) ?_ (by (first | exact sub_non _ | exact sub_nil _ | (repeat (first | exact sub_nil _ | refine sub_new (by omega) ?_ | refine sub_old (by first | assumption | exact in_head _ _ | exact in_tail (in_head _ _) | exact in_tail (in_tail (in_head _ _)) | simp [In]) ?_))))))⟩

theorem c206 (R C row col : Nat) (p : Bool) (w : World) (hR : R ≤ 1000) (hC : C ≤ 1000) (hr : row < R) (hc : col < C) (hp : p = true → col = C - 1) :
    Calls Tryz.prog 206 #[.agg (arA R C), .agg (curA row col p), .int .i64 1] w fun e w' => e = .returned (.tuple #[.agg (curA ((min (R - 1) (row + 1) : Nat) : Int) col false), .int .i64 0]) ∧ Chg Non w w' := by
  refine r206 _ _ _ _ _ ?_
  unfold V206
  refine nw ?_
  intro k1 w1 e1 s1 b1 g1
  refine nw ?_
  intro k2 w2 e2 s2 b2 g2
  refine nw ?_
  intro k3 w3 e3 s3 b3 g3
  refine ⟨_, rdall kp (by rfl), _, rdall kp (by rfl), ?_⟩
  refine Calls.then (c185 R C row col p 1 w3 hR hC hr hc hp (by decide)) ?_
  rintro e w4 ⟨rfl, g4⟩
  have s4 := g4.size
  refine ⟨_, rfl, br_f rfl ⟨_, rd1 kp (by rfl), by unfold inInt; omega, ?_⟩⟩
  intro K hK
  refine ⟨_, rd1 kp (by rfl), _, rd1 kp (by rfl), br_t cp ⟨_, rd1 kp (by rfl), hK _ _ fun _ => ?_⟩⟩
  clear hK K
  repeat (first | (refine nw ?_; intro _ _ _ _ _ _) | refine ⟨_, rdall kp (by rfl), ?_⟩ | refine ⟨_, rd1 kp (by rfl), ?_⟩ | refine ⟨_, _, _, rd1 kp (by rfl), ?_⟩ | refine br_t cp ?_ | refine br_f cp ?_ | (refine ⟨_, rfl, ?_⟩; try dsimp only) | (refine ⟨_, _, rfl, ?_⟩; try dsimp only) | refine And.intro (by unfold inInt; omega) ?_ | (refine ⟨rfl, one_lit rfl, fw kp (by (first | exact Nat.le_of_ble_eq_true rfl | (simp; done) | omega)), puts0A kp (by rfl) ?_⟩; intro _ _ _ _) | (refine ⟨rfl, one_lit rfl, fw kp (by (first | exact Nat.le_of_ble_eq_true rfl | (simp; done) | omega)), puts0 kp (by rfl) ?_⟩; intro _ _ _ _) | (refine ⟨fw kp (by (first | exact Nat.le_of_ble_eq_true rfl | (simp; done) | omega)), putL kp (by ((try simp only [List.set_cons_zero, List.set_cons_succ]); rfl)) ?_⟩; intro _ _ _ _) | refine And.intro (by omega) ?_ | refine And.intro ⟨_, rd1 kp (by rfl), rfl⟩ ?_ | (refine nwB ?_; intro _ _ _ _ _ _) | (refine all_below ?_; intro _ _ _))
  exact ⟨by simp [curA]; omega, by (repeat (first | exact Chg.refl _ _ | refine Chg.step (by assumption) ?_ (by (first | exact sub_non _ | exact sub_nil _ | (repeat (first | exact sub_nil _ | refine sub_new (by omega) ?_ | refine sub_old (by first | assumption | exact in_head _ _ | exact in_tail (in_head _ _) | exact in_tail (in_tail (in_head _ _)) | simp [In]) ?_))))))⟩

theorem c140 (R C row col : Nat) (p : Bool) (w : World) (hR : R ≤ 1000) (hC : C ≤ 1000) (hr : row < R) (hc : col < C) (hp : p = true → col = C - 1) :
    Calls Tryz.prog 140 #[.agg (arA R C), .agg (curA row col p), .int .i64 1] w fun e w' => e = .returned (.tuple #[.agg (curA row ((col - 1 : Nat) : Int) false), .int .i64 0]) ∧ Chg Non w w' := by
  refine r140 _ _ _ _ _ ?_
  unfold V140
  refine nw ?_
  intro k1 w1 e1 s1 b1 g1
  refine nw ?_
  intro k2 w2 e2 s2 b2 g2
  refine nw ?_
  intro k3 w3 e3 s3 b3 g3
  refine ⟨_, rdall kp (by rfl), _, rdall kp (by rfl), ?_⟩
  refine Calls.then (c185 R C row col p 1 w3 hR hC hr hc hp (by decide)) ?_
  rintro e w4 ⟨rfl, g4⟩
  have s4 := g4.size
  refine ⟨_, rfl, br_f rfl ?_⟩
  repeat (first | (refine nw ?_; intro _ _ _ _ _ _) | refine ⟨_, rdall kp (by rfl), ?_⟩ | refine ⟨_, rd1 kp (by rfl), ?_⟩ | refine ⟨_, _, _, rd1 kp (by rfl), ?_⟩ | refine br_t cp ?_ | refine br_f cp ?_ | (refine ⟨_, rfl, ?_⟩; try dsimp only) | (refine ⟨_, _, rfl, ?_⟩; try dsimp only) | refine And.intro (by unfold inInt; omega) ?_ | (refine ⟨rfl, one_lit rfl, fw kp (by (first | exact Nat.le_of_ble_eq_true rfl | (simp; done) | omega)), puts0A kp (by rfl) ?_⟩; intro _ _ _ _) | (refine ⟨rfl, one_lit rfl, fw kp (by (first | exact Nat.le_of_ble_eq_true rfl | (simp; done) | omega)), puts0 kp (by rfl) ?_⟩; intro _ _ _ _) | (refine ⟨fw kp (by (first | exact Nat.le_of_ble_eq_true rfl | (simp; done) | omega)), putL kp (by ((try simp only [List.set_cons_zero, List.set_cons_succ]); rfl)) ?_⟩; intro _ _ _ _) | refine And.intro (by omega) ?_ | refine And.intro ⟨_, rd1 kp (by rfl), rfl⟩ ?_ | (refine nwB ?_; intro _ _ _ _ _ _) | (refine all_below ?_; intro _ _ _))
  exact ⟨by simp [curA]; omega, by (repeat (first | exact Chg.refl _ _ | refine Chg.step (by assumption) ?_ (by (first | exact sub_non _ | exact sub_nil _ | (repeat (first | exact sub_nil _ | refine sub_new (by omega) ?_ | refine sub_old (by first | assumption | exact in_head _ _ | exact in_tail (in_head _ _) | exact in_tail (in_tail (in_head _ _)) | simp [In]) ?_))))))⟩

theorem c207 (R C row col : Nat) (p : Bool) (w : World) (hR : R ≤ 1000) (hC : C ≤ 1000) (hr : row < R) (hc : col < C) (hp : p = true → col = C - 1) :
    Calls Tryz.prog 207 #[.agg (arA R C), .agg (curA row col p), .int .i64 1] w fun e w' => e = .returned (.tuple #[.agg (curA row ((min (C - 1) (col + 1) : Nat) : Int) false), .int .i64 0]) ∧ Chg Non w w' := by
  refine r207 _ _ _ _ _ ?_
  unfold V207
  refine nw ?_
  intro k1 w1 e1 s1 b1 g1
  refine nw ?_
  intro k2 w2 e2 s2 b2 g2
  refine nw ?_
  intro k3 w3 e3 s3 b3 g3
  refine ⟨_, rdall kp (by rfl), _, rdall kp (by rfl), ?_⟩
  refine Calls.then (c185 R C row col p 1 w3 hR hC hr hc hp (by decide)) ?_
  rintro e w4 ⟨rfl, g4⟩
  have s4 := g4.size
  refine ⟨_, rfl, br_f rfl ?_⟩
  repeat (first | (refine nw ?_; intro _ _ _ _ _ _) | refine ⟨_, rdall kp (by rfl), ?_⟩ | refine ⟨_, rd1 kp (by rfl), ?_⟩ | refine ⟨_, _, _, rd1 kp (by rfl), ?_⟩ | refine br_t cp ?_ | refine br_f cp ?_ | (refine ⟨_, rfl, ?_⟩; try dsimp only) | (refine ⟨_, _, rfl, ?_⟩; try dsimp only) | refine And.intro (by unfold inInt; omega) ?_ | (refine ⟨rfl, one_lit rfl, fw kp (by (first | exact Nat.le_of_ble_eq_true rfl | (simp; done) | omega)), puts0A kp (by rfl) ?_⟩; intro _ _ _ _) | (refine ⟨rfl, one_lit rfl, fw kp (by (first | exact Nat.le_of_ble_eq_true rfl | (simp; done) | omega)), puts0 kp (by rfl) ?_⟩; intro _ _ _ _) | (refine ⟨fw kp (by (first | exact Nat.le_of_ble_eq_true rfl | (simp; done) | omega)), putL kp (by ((try simp only [List.set_cons_zero, List.set_cons_succ]); rfl)) ?_⟩; intro _ _ _ _) | refine And.intro (by omega) ?_ | refine And.intro ⟨_, rd1 kp (by rfl), rfl⟩ ?_ | (refine nwB ?_; intro _ _ _ _ _ _) | (refine all_below ?_; intro _ _ _))
  exact ⟨by simp [curA]; omega, by (repeat (first | exact Chg.refl _ _ | refine Chg.step (by assumption) ?_ (by (first | exact sub_non _ | exact sub_nil _ | (repeat (first | exact sub_nil _ | refine sub_new (by omega) ?_ | refine sub_old (by first | assumption | exact in_head _ _ | exact in_tail (in_head _ _) | exact in_tail (in_tail (in_head _ _)) | simp [In]) ?_))))))⟩

theorem c188 (R C row col : Nat) (p : Bool) (n : Nat) (w : World) (hR : R ≤ 1000) (hC : C ≤ 1000) (hr : row < R) (hc : col < C) (hp : p = true → col = C - 1) (hn : n < C) :
    Calls Tryz.prog 188 #[.agg (arA R C), .agg (curA row col p), .int .i64 n] w fun e w' => e = .returned (.tuple #[.agg (curA row n false), .int .i64 0]) ∧ Chg Non w w' := by
  refine r188 _ _ _ _ _ ?_
  unfold V188
  refine nw ?_
  intro k1 w1 e1 s1 b1 g1
  refine nw ?_
  intro k2 w2 e2 s2 b2 g2
  refine nw ?_
  intro k3 w3 e3 s3 b3 g3
  refine ⟨_, rdall kp (by rfl), _, rdall kp (by rfl), ?_⟩
  refine Calls.then (c185 R C row col p 0 w3 hR hC hr hc hp (by decide)) ?_
  rintro e w4 ⟨rfl, g4⟩
  have s4 := g4.size
  refine ⟨_, rfl, br_f rfl ⟨_, rd1 kp (by rfl), _, rd1 kp (by rfl), by unfold inInt; omega, _, floI fun w5 s5 g5 => c244 w5 _ _ _, all_below ?_⟩⟩
  intro w5 s5 g5
  repeat (first | (refine nw ?_; intro _ _ _ _ _ _) | refine ⟨_, rdall kp (by rfl), ?_⟩ | refine ⟨_, rd1 kp (by rfl), ?_⟩ | refine ⟨_, _, _, rd1 kp (by rfl), ?_⟩ | refine br_t cp ?_ | refine br_f cp ?_ | (refine ⟨_, rfl, ?_⟩; try dsimp only) | (refine ⟨_, _, rfl, ?_⟩; try dsimp only) | refine And.intro (by unfold inInt; omega) ?_ | (refine ⟨rfl, one_lit rfl, fw kp (by (first | exact Nat.le_of_ble_eq_true rfl | (simp; done) | omega)), puts0A kp (by rfl) ?_⟩; intro _ _ _ _) | (refine ⟨rfl, one_lit rfl, fw kp (by (first | exact Nat.le_of_ble_eq_true rfl | (simp; done) | omega)), puts0 kp (by rfl) ?_⟩; intro _ _ _ _) | (refine ⟨fw kp (by (first | exact Nat.le_of_ble_eq_true rfl | (simp; done) | omega)), putL kp (by ((try simp only [List.set_cons_zero, List.set_cons_succ]); rfl)) ?_⟩; intro _ _ _ _) | refine And.intro (by omega) ?_ | refine And.intro ⟨_, rd1 kp (by rfl), rfl⟩ ?_ | (refine nwB ?_; intro _ _ _ _ _ _) | (refine all_below ?_; intro _ _ _))
  exact ⟨by simp [curA]; omega, by (repeat (first | exact Chg.refl _ _ | refine Chg.step (by assumption) ?_ (by (first | exact sub_non _ | exact sub_nil _ | (repeat (first | exact sub_nil _ | refine sub_new (by omega) ?_ | refine sub_old (by first | assumption | exact in_head _ _ | exact in_tail (in_head _ _) | exact in_tail (in_tail (in_head _ _)) | simp [In]) ?_))))))⟩

theorem c143 (R C row col : Nat) (p : Bool) (w : World) (hR : R ≤ 1000) (hC : C ≤ 1000) (hr : row < R) (hc : col < C) (hp : p = true → col = C - 1) :
    Calls Tryz.prog 143 #[.agg (arA R C), .agg (curA row col p)] w fun e w' => e = .returned (.tuple #[.agg (curA row 0 false), .int .i64 0]) ∧ Chg Non w w' := by
  refine r143 _ _ _ _ ?_
  unfold V143
  refine nw ?_
  intro k1 w1 e1 s1 b1 g1
  refine nw ?_
  intro k2 w2 e2 s2 b2 g2
  repeat (first | (refine nw ?_; intro _ _ _ _ _ _) | refine ⟨_, rdall kp (by rfl), ?_⟩ | refine ⟨_, rd1 kp (by rfl), ?_⟩ | refine ⟨_, _, _, rd1 kp (by rfl), ?_⟩ | refine br_t cp ?_ | refine br_f cp ?_ | (refine ⟨_, rfl, ?_⟩; try dsimp only) | (refine ⟨_, _, rfl, ?_⟩; try dsimp only) | refine And.intro (by unfold inInt; omega) ?_ | (refine ⟨rfl, one_lit rfl, fw kp (by (first | exact Nat.le_of_ble_eq_true rfl | (simp; done) | omega)), puts0A kp (by rfl) ?_⟩; intro _ _ _ _) | (refine ⟨rfl, one_lit rfl, fw kp (by (first | exact Nat.le_of_ble_eq_true rfl | (simp; done) | omega)), puts0 kp (by rfl) ?_⟩; intro _ _ _ _) | (refine ⟨fw kp (by (first | exact Nat.le_of_ble_eq_true rfl | (simp; done) | omega)), putL kp (by ((try simp only [List.set_cons_zero, List.set_cons_succ]); rfl)) ?_⟩; intro _ _ _ _) | refine And.intro (by omega) ?_ | refine And.intro ⟨_, rd1 kp (by rfl), rfl⟩ ?_ | (refine nwB ?_; intro _ _ _ _ _ _) | (refine all_below ?_; intro _ _ _))
  rename_i k3 w3 _ _ b3 g3
  refine Calls.then (c188 R C row col p 0 w3 hR hC hr hc hp (by omega)) ?_
  rintro e w4 ⟨rfl, g4⟩
  have s4 := g4.size
  repeat (first | (refine nw ?_; intro _ _ _ _ _ _) | refine ⟨_, rdall kp (by rfl), ?_⟩ | refine ⟨_, rd1 kp (by rfl), ?_⟩ | refine ⟨_, _, _, rd1 kp (by rfl), ?_⟩ | refine br_t cp ?_ | refine br_f cp ?_ | (refine ⟨_, rfl, ?_⟩; try dsimp only) | (refine ⟨_, _, rfl, ?_⟩; try dsimp only) | refine And.intro (by unfold inInt; omega) ?_ | (refine ⟨rfl, one_lit rfl, fw kp (by (first | exact Nat.le_of_ble_eq_true rfl | (simp; done) | omega)), puts0A kp (by rfl) ?_⟩; intro _ _ _ _) | (refine ⟨rfl, one_lit rfl, fw kp (by (first | exact Nat.le_of_ble_eq_true rfl | (simp; done) | omega)), puts0 kp (by rfl) ?_⟩; intro _ _ _ _) | (refine ⟨fw kp (by (first | exact Nat.le_of_ble_eq_true rfl | (simp; done) | omega)), putL kp (by ((try simp only [List.set_cons_zero, List.set_cons_succ]); rfl)) ?_⟩; intro _ _ _ _) | refine And.intro (by omega) ?_ | refine And.intro ⟨_, rd1 kp (by rfl), rfl⟩ ?_ | (refine nwB ?_; intro _ _ _ _ _ _) | (refine all_below ?_; intro _ _ _))
  exact ⟨rfl, by (repeat (first | exact Chg.refl _ _ | refine Chg.step (by assumption) ?_ (by (first | exact sub_non _ | exact sub_nil _ | (repeat (first | exact sub_nil _ | refine sub_new (by omega) ?_ | refine sub_old (by first | assumption | exact in_head _ _ | exact in_tail (in_head _ _) | exact in_tail (in_tail (in_head _ _)) | simp [In]) ?_))))))⟩

theorem c254 (R C : Nat) (w : World) (hR : R ≤ 1000) (h0 : 1 ≤ R) : Calls Tryz.prog 254 #[.agg (arA R C), .int .i64 0] w fun e w' => e = .returned (.int .i64 0) ∧ Chg Non w w' := by
  refine r254 _ _ _ _ ?_
  unfold V254
  repeat (first | (refine nw ?_; intro _ _ _ _ _ _) | refine ⟨_, rdall kp (by rfl), ?_⟩ | refine ⟨_, rd1 kp (by rfl), ?_⟩ | refine ⟨_, _, _, rd1 kp (by rfl), ?_⟩ | refine br_t cp ?_ | refine br_f cp ?_ | (refine ⟨_, rfl, ?_⟩; try dsimp only) | (refine ⟨_, _, rfl, ?_⟩; try dsimp only) | refine And.intro (by unfold inInt; omega) ?_ | (refine ⟨rfl, one_lit rfl, fw kp (by (first | exact Nat.le_of_ble_eq_true rfl | (simp; done) | omega)), puts0A kp (by rfl) ?_⟩; intro _ _ _ _) | (refine ⟨rfl, one_lit rfl, fw kp (by (first | exact Nat.le_of_ble_eq_true rfl | (simp; done) | omega)), puts0 kp (by rfl) ?_⟩; intro _ _ _ _) | (refine ⟨fw kp (by (first | exact Nat.le_of_ble_eq_true rfl | (simp; done) | omega)), putL kp (by ((try simp only [List.set_cons_zero, List.set_cons_succ]); rfl)) ?_⟩; intro _ _ _ _) | refine And.intro (by omega) ?_ | refine And.intro ⟨_, rd1 kp (by rfl), rfl⟩ ?_ | (refine nwB ?_; intro _ _ _ _ _ _) | (refine all_below ?_; intro _ _ _))
  rename_i k1 w1 _ _ b1 g1
  refine Calls.then (c244 w1 _ _ _) ?_
  rintro e w2 ⟨rfl, g2⟩
  exact ⟨_, rfl, by simp; omega, by (repeat (first | exact Chg.refl _ _ | refine Chg.step (by assumption) ?_ (by (first | exact sub_non _ | exact sub_nil _ | (repeat (first | exact sub_nil _ | refine sub_new (by omega) ?_ | refine sub_old (by first | assumption | exact in_head _ _ | exact in_tail (in_head _ _) | exact in_tail (in_tail (in_head _ _)) | simp [In]) ?_))))))⟩

theorem c209 (R C : Nat) (w : World) (hR : R ≤ 1000) (hC : C ≤ 1000) (h0 : 1 ≤ R) (h1 : 1 ≤ C) :
    Calls Tryz.prog 209 #[.agg (arA R C), .int .i64 0, .int .i64 0] w fun e w' => e = .returned (.tuple #[.agg (curA 0 0 false), .int .i64 0]) ∧ Chg Non w w' := by
  refine r209 _ _ _ _ _ ?_
  unfold V209
  refine nw ?_
  intro k1 w1 e1 s1 b1 g1
  refine nw ?_
  intro k2 w2 e2 s2 b2 g2
  repeat (first | (refine nw ?_; intro _ _ _ _ _ _) | refine ⟨_, rdall kp (by rfl), ?_⟩ | refine ⟨_, rd1 kp (by rfl), ?_⟩ | refine ⟨_, _, _, rd1 kp (by rfl), ?_⟩ | refine br_t cp ?_ | refine br_f cp ?_ | (refine ⟨_, rfl, ?_⟩; try dsimp only) | (refine ⟨_, _, rfl, ?_⟩; try dsimp only) | refine And.intro (by unfold inInt; omega) ?_ | (refine ⟨rfl, one_lit rfl, fw kp (by (first | exact Nat.le_of_ble_eq_true rfl | (simp; done) | omega)), puts0A kp (by rfl) ?_⟩; intro _ _ _ _) | (refine ⟨rfl, one_lit rfl, fw kp (by (first | exact Nat.le_of_ble_eq_true rfl | (simp; done) | omega)), puts0 kp (by rfl) ?_⟩; intro _ _ _ _) | (refine ⟨fw kp (by (first | exact Nat.le_of_ble_eq_true rfl | (simp; done) | omega)), putL kp (by ((try simp only [List.set_cons_zero, List.set_cons_succ]); rfl)) ?_⟩; intro _ _ _ _) | refine And.intro (by omega) ?_ | refine And.intro ⟨_, rd1 kp (by rfl), rfl⟩ ?_ | (refine nwB ?_; intro _ _ _ _ _ _) | (refine all_below ?_; intro _ _ _))
  refine Calls.then (c255 R C 0 (R - 1) false w2 (by omega)) ?_
  rintro e w3 ⟨rfl, g3⟩
  have s3 := g3.size
  refine ⟨_, rfl, br_f rfl ⟨_, rdall kp (by rfl), _, floI fun w4 s4 g4 => c254 R C w4 hR h0, _, rd1 kp (by rfl), by unfold inInt; omega, _, floI fun w4 s4 g4 => c244 w4 _ _ _, all_below ?_⟩⟩
  intro w4 s4 g4
  repeat (first | (refine nw ?_; intro _ _ _ _ _ _) | refine ⟨_, rdall kp (by rfl), ?_⟩ | refine ⟨_, rd1 kp (by rfl), ?_⟩ | refine ⟨_, _, _, rd1 kp (by rfl), ?_⟩ | refine br_t cp ?_ | refine br_f cp ?_ | (refine ⟨_, rfl, ?_⟩; try dsimp only) | (refine ⟨_, _, rfl, ?_⟩; try dsimp only) | refine And.intro (by unfold inInt; omega) ?_ | (refine ⟨rfl, one_lit rfl, fw kp (by (first | exact Nat.le_of_ble_eq_true rfl | (simp; done) | omega)), puts0A kp (by rfl) ?_⟩; intro _ _ _ _) | (refine ⟨rfl, one_lit rfl, fw kp (by (first | exact Nat.le_of_ble_eq_true rfl | (simp; done) | omega)), puts0 kp (by rfl) ?_⟩; intro _ _ _ _) | (refine ⟨fw kp (by (first | exact Nat.le_of_ble_eq_true rfl | (simp; done) | omega)), putL kp (by ((try simp only [List.set_cons_zero, List.set_cons_succ]); rfl)) ?_⟩; intro _ _ _ _) | refine And.intro (by omega) ?_ | refine And.intro ⟨_, rd1 kp (by rfl), rfl⟩ ?_ | (refine nwB ?_; intro _ _ _ _ _ _) | (refine all_below ?_; intro _ _ _))
  exact ⟨by simp [curA]; omega, by (repeat (first | exact Chg.refl _ _ | refine Chg.step (by assumption) ?_ (by (first | exact sub_non _ | exact sub_nil _ | (repeat (first | exact sub_nil _ | refine sub_new (by omega) ?_ | refine sub_old (by first | assumption | exact in_head _ _ | exact in_tail (in_head _ _) | exact in_tail (in_tail (in_head _ _)) | simp [In]) ?_))))))⟩

theorem c70 (R : Nat) (w : World) (hR : R ≤ 1000) (h0 : 1 ≤ R) : Calls Tryz.prog 70 #[.int .i64 R] w fun e w' => e = .returned (.tuple #[.agg (regA 0 ((R : Int) - 1)), .int .i64 0]) ∧ Chg Non w w' := by
  refine r70 _ _ _ ?_
  unfold V70
  refine nw ?_
  intro k1 w1 e1 s1 b1 g1
  intro K hK
  refine br_f cp (br_f cp (hK _ _ fun _ => ?_))
  clear hK K
  repeat (first | (refine nw ?_; intro _ _ _ _ _ _) | refine ⟨_, rdall kp (by rfl), ?_⟩ | refine ⟨_, rd1 kp (by rfl), ?_⟩ | refine ⟨_, _, _, rd1 kp (by rfl), ?_⟩ | refine br_t cp ?_ | refine br_f cp ?_ | (refine ⟨_, rfl, ?_⟩; try dsimp only) | (refine ⟨_, _, rfl, ?_⟩; try dsimp only) | refine And.intro (by unfold inInt; omega) ?_ | (refine ⟨rfl, one_lit rfl, fw kp (by (first | exact Nat.le_of_ble_eq_true rfl | (simp; done) | omega)), puts0A kp (by rfl) ?_⟩; intro _ _ _ _) | (refine ⟨rfl, one_lit rfl, fw kp (by (first | exact Nat.le_of_ble_eq_true rfl | (simp; done) | omega)), puts0 kp (by rfl) ?_⟩; intro _ _ _ _) | (refine ⟨fw kp (by (first | exact Nat.le_of_ble_eq_true rfl | (simp; done) | omega)), putL kp (by ((try simp only [List.set_cons_zero, List.set_cons_succ]); rfl)) ?_⟩; intro _ _ _ _) | refine And.intro (by omega) ?_ | refine And.intro ⟨_, rd1 kp (by rfl), rfl⟩ ?_ | (refine nwB ?_; intro _ _ _ _ _ _) | (refine all_below ?_; intro _ _ _))
  exact ⟨rfl, by (repeat (first | exact Chg.refl _ _ | refine Chg.step (by assumption) ?_ (by (first | exact sub_non _ | exact sub_nil _ | (repeat (first | exact sub_nil _ | refine sub_new (by omega) ?_ | refine sub_old (by first | assumption | exact in_head _ _ | exact in_tail (in_head _ _) | exact in_tail (in_tail (in_head _ _)) | simp [In]) ?_))))))⟩

def modA : Array Value := #[.bool true, .bool false, .bool false, .bool true, .bool false, .bool false, .bool false, .int .i64 0, .int .i64 0]
def savA : Array Value := #[.int .i64 0, .int .i64 0, .bool false, .int .i64 0, .int .u8 0, .int .u8 0, .int .u8 0, .int .u8 0, .int .i64 0, .int .u8 0, .int .u8 0, .int .u8 0, .int .u8 0, .int .u8 0, .bool false, .int .i64 0, .int .i64 0, .int .i64 0]
theorem c71 (w : World) : Calls Tryz.prog 71 #[] w fun e w' => e = .returned (.agg modA) ∧ Chg Non w w' := by
  refine r71 _ _ ?_
  unfold V71
  repeat (first | (refine nw ?_; intro _ _ _ _ _ _) | refine ⟨_, rdall kp (by rfl), ?_⟩ | refine ⟨_, rd1 kp (by rfl), ?_⟩ | refine ⟨_, _, _, rd1 kp (by rfl), ?_⟩ | refine br_t cp ?_ | refine br_f cp ?_ | (refine ⟨_, rfl, ?_⟩; try dsimp only) | (refine ⟨_, _, rfl, ?_⟩; try dsimp only) | refine And.intro (by unfold inInt; omega) ?_ | (refine ⟨rfl, one_lit rfl, fw kp (by (first | exact Nat.le_of_ble_eq_true rfl | (simp; done) | omega)), puts0A kp (by rfl) ?_⟩; intro _ _ _ _) | (refine ⟨rfl, one_lit rfl, fw kp (by (first | exact Nat.le_of_ble_eq_true rfl | (simp; done) | omega)), puts0 kp (by rfl) ?_⟩; intro _ _ _ _) | (refine ⟨fw kp (by (first | exact Nat.le_of_ble_eq_true rfl | (simp; done) | omega)), putL kp (by ((try simp only [List.set_cons_zero, List.set_cons_succ]); rfl)) ?_⟩; intro _ _ _ _) | refine And.intro (by omega) ?_ | refine And.intro ⟨_, rd1 kp (by rfl), rfl⟩ ?_ | (refine nwB ?_; intro _ _ _ _ _ _) | (refine all_below ?_; intro _ _ _))
  exact ⟨rfl, by (repeat (first | exact Chg.refl _ _ | refine Chg.step (by assumption) ?_ (by (first | exact sub_non _ | exact sub_nil _ | (repeat (first | exact sub_nil _ | refine sub_new (by omega) ?_ | refine sub_old (by first | assumption | exact in_head _ _ | exact in_tail (in_head _ _) | exact in_tail (in_tail (in_head _ _)) | simp [In]) ?_))))))⟩
theorem c72 (w : World) : Calls Tryz.prog 72 #[] w fun e w' => e = .returned (.agg savA) ∧ Chg Non w w' := by
  refine r72 _ _ ?_
  unfold V72
  repeat (first | (refine nw ?_; intro _ _ _ _ _ _) | refine ⟨_, rdall kp (by rfl), ?_⟩ | refine ⟨_, rd1 kp (by rfl), ?_⟩ | refine ⟨_, _, _, rd1 kp (by rfl), ?_⟩ | refine br_t cp ?_ | refine br_f cp ?_ | (refine ⟨_, rfl, ?_⟩; try dsimp only) | (refine ⟨_, _, rfl, ?_⟩; try dsimp only) | refine And.intro (by unfold inInt; omega) ?_ | (refine ⟨rfl, one_lit rfl, fw kp (by (first | exact Nat.le_of_ble_eq_true rfl | (simp; done) | omega)), puts0A kp (by rfl) ?_⟩; intro _ _ _ _) | (refine ⟨rfl, one_lit rfl, fw kp (by (first | exact Nat.le_of_ble_eq_true rfl | (simp; done) | omega)), puts0 kp (by rfl) ?_⟩; intro _ _ _ _) | (refine ⟨fw kp (by (first | exact Nat.le_of_ble_eq_true rfl | (simp; done) | omega)), putL kp (by ((try simp only [List.set_cons_zero, List.set_cons_succ]); rfl)) ?_⟩; intro _ _ _ _) | refine And.intro (by omega) ?_ | refine And.intro ⟨_, rd1 kp (by rfl), rfl⟩ ?_ | (refine nwB ?_; intro _ _ _ _ _ _) | (refine all_below ?_; intro _ _ _))
  exact ⟨rfl, by (repeat (first | exact Chg.refl _ _ | refine Chg.step (by assumption) ?_ (by (first | exact sub_non _ | exact sub_nil _ | (repeat (first | exact sub_nil _ | refine sub_new (by omega) ?_ | refine sub_old (by first | assumption | exact in_head _ _ | exact in_tail (in_head _ _) | exact in_tail (in_tail (in_head _ _)) | simp [In]) ?_))))))⟩
end Go.Proofs

namespace Go.Proofs
open Go Go.X Go.RowKit
set_option linter.unusedVariables false
set_option linter.unusedSimpArgs false
set_option maxRecDepth 100000

/-- The stops of at most 16 columns. -/
def stopE (C : Nat) : Array MapEntry := if 8 < C then #[{ key := .int .i64 8, val := .bool true, born := 0 }] else #[]
structure StopAt (w : World) (s m C : Nat) : Prop where
  s : blk w s = some (.cells #[.int .i64 C, .map (some m)] 197)
  m : ∃ clock, blk w m = some (.map (stopE C) clock)
theorem StopAt.next {F : Nat → Prop} {w w' : World} {s m C : Nat} (h : StopAt w s m C) (k : Chg F w w') (h1 : ¬ F s) (h2 : ¬ F m) : StopAt w' s m C := by
  obtain ⟨c, hm⟩ := h.m
  exact ⟨k.get h.s h1, c, k.get hm h2⟩
theorem StopAt.non {w w' : World} {s m C : Nat} (h : StopAt w s m C) (k : Chg Non w w') : StopAt w' s m C := h.next k (not_non _) (not_non _)

theorem mapInfo : Tryz.prog.underlying 195 = some (.map 3 4) ∧ Tryz.prog.underlying 3 = some (.int .i64) ∧ ∃ i, Tryz.prog.info? 4 = some i ∧ i.zero = some (.bool false) := by
  refine ⟨by kernel_rfl, by kernel_rfl, ?_⟩
  have h : (Tryz.prog.info? 4).bind (·.zero) = some (.bool false) := by kernel_rfl
  cases hi : Tryz.prog.info? 4 with
  | none => rw [hi] at h; cases h
  | some i => rw [hi] at h; exact ⟨i, rfl, h⟩

theorem c93 (w : World) (s m C : Nat) (hs : blk w s = some (.cells #[.int .i64 C, .map (some m)] 197)) (hm : blk w m = some (.map #[] 0)) (hC : C ≤ 16) :
    Calls Tryz.prog 93 #[.pointer (some ⟨s, 0, none⟩), .int .i64 0] w fun e w' => e = .returned (.tuple #[]) ∧ StopAt w' s m C ∧ Chg (In [m]) w w' := by
  have hsm : s ≠ m := by rintro rfl; rw [hs] at hm; cases hm
  refine r93 _ _ _ _ ?_
  unfold V93
  refine ⟨fun vs w' => Chg (In [m]) w w' ∧ ((vs = [.int .i64 8] ∧ blk w' m = some (.map #[] 0)) ∨ (vs = [.int .i64 16] ∧ 8 < C ∧ StopAt w' s m C)), fun vs _ => match vs with | [.int _ n] => (24 - n).toNat | _ => 0, ⟨Chg.refl _ _, .inl ⟨rfl, hm⟩⟩, ?_⟩
  rintro n w1 _ ⟨g1, h1⟩
  have b1 : blk w1 s = _ := g1.get hs (not_in_cons hsm (not_in_nil _))
  refine ⟨_, rfl, _, rd1 b1 (by rfl), ?_⟩
  rcases h1 with ⟨hn, h1⟩ | ⟨hn, h8, h1⟩
  · simp only [List.cons.injEq, Value.int.injEq, true_and, and_true] at hn
    subst hn
    refine br_dec (fun hlt => ?_) fun hge => ?_
    · intro K hK
      refine br_t rfl ⟨_, rfl, _, rd1 b1 (by rfl), _, map_put w1 195 3 4 m 8 (.bool true) mapInfo.1 mapInfo.2.1 h1, hK _ fun _ => ?_⟩
      have hmlt := blk_lt h1
      have g2 : Chg (In [m]) w1 { w1 with heap := w1.heap.setIfInBounds m (.map #[{ key := .int .i64 8, val := .bool true, born := 0 }] 1) } :=
        ⟨rfl, rfl, rfl, by simp, fun k hk hf => by
          show (w1.heap.setIfInBounds m _)[k]? = w1.heap[k]?
          rw [Array.getElem?_setIfInBounds_ne (fun e => hf (by subst e; exact in_head _ _))]⟩
      refine ⟨by unfold inInt; omega, ⟨g1.trans g2, .inr ⟨rfl, by omega, g2.get b1 (not_in_cons hsm (not_in_nil _)), 1, ?_⟩⟩, by show ((24 : Int) - (8 + 8)).toNat < ((24 : Int) - 8).toNat; decide⟩
      show (w1.heap.setIfInBounds m _)[m]? = _
      rw [Array.getElem?_setIfInBounds_self_of_lt hmlt]
      unfold stopE
      rw [if_pos (by omega)]
    · exact ⟨rfl, ⟨b1, 0, by unfold stopE; rw [if_neg (by omega)]; exact h1⟩, g1⟩
  · simp only [List.cons.injEq, Value.int.injEq, true_and, and_true] at hn
    subst hn
    exact br_f cp ⟨rfl, h1, g1⟩

theorem c69 (w : World) (C : Nat) (h0 : 1 ≤ C) (hC : C ≤ 16) :
    Calls Tryz.prog 69 #[.int .i64 C] w fun e w' => ∃ s m, e = .returned (.tuple #[.pointer (some ⟨s, 0, none⟩), .int .i64 0]) ∧ StopAt w' s m C ∧ w.heap.size ≤ s ∧ w.heap.size ≤ m ∧ m < w'.heap.size ∧ Chg Non w w' := by
  refine r69 _ _ _ ?_
  unfold V69
  intro K hK
  refine br_f cp (br_f cp (hK _ _ _ fun _ => ?_))
  clear hK K
  refine ⟨_, w.alloc (.map #[] 0), rfl, ?_⟩
  have b1 : blk (w.alloc (.map #[] 0)) w.heap.size = some (.map #[] 0) := blk_alloc_new _ _
  have g1 : Chg Non w (w.alloc (.map #[] 0)) := (Chg.refl _ _).alloc _
  have s1 : (w.alloc (.map #[] 0)).heap.size = w.heap.size + 1 := size_alloc _ _
  generalize w.alloc (.map #[] 0) = w1 at b1 g1 s1 ⊢
  refine nw ?_
  intro k w2 e2 s2 b2 g2
  refine Calls.then (c93 w2 k w.heap.size C b2 (g2.get b1 (not_non _)) hC) ?_
  rintro e w3 ⟨rfl, hs, g3⟩
  have s3 := g3.size
  exact ⟨rfl, k, _, rfl, hs, by omega, by omega, by omega, by (repeat (first | exact Chg.refl _ _ | refine Chg.step (by assumption) ?_ (by (first | exact sub_non _ | exact sub_nil _ | (repeat (first | exact sub_nil _ | refine sub_new (by omega) ?_ | refine sub_old (by first | assumption | exact in_head _ _ | exact in_tail (in_head _ _) | exact in_tail (in_tail (in_head _ _)) | simp [In]) ?_))))))⟩

theorem c197 (w : World) (s m C col : Nat) (h : StopAt w s m C) (hc : col < C) : Calls Tryz.prog 197 #[.pointer (some ⟨s, 0, none⟩), .int .i64 col] w fun e w' => e = .returned (.int .i64 0) ∧ Chg Non w w' := by
  refine r197 _ _ _ _ ?_
  unfold V197
  have hs := h.s
  intro K hK
  repeat (first | (refine nw ?_; intro _ _ _ _ _ _) | refine ⟨_, rdall kp (by rfl), ?_⟩ | refine ⟨_, rd1 kp (by rfl), ?_⟩ | refine ⟨_, _, _, rd1 kp (by rfl), ?_⟩ | refine br_t cp ?_ | refine br_f cp ?_ | (refine ⟨_, rfl, ?_⟩; try dsimp only) | (refine ⟨_, _, rfl, ?_⟩; try dsimp only) | refine And.intro (by unfold inInt; omega) ?_ | (refine ⟨rfl, one_lit rfl, fw kp (by (first | exact Nat.le_of_ble_eq_true rfl | (simp; done) | omega)), puts0A kp (by rfl) ?_⟩; intro _ _ _ _) | (refine ⟨rfl, one_lit rfl, fw kp (by (first | exact Nat.le_of_ble_eq_true rfl | (simp; done) | omega)), puts0 kp (by rfl) ?_⟩; intro _ _ _ _) | (refine ⟨fw kp (by (first | exact Nat.le_of_ble_eq_true rfl | (simp; done) | omega)), putL kp (by ((try simp only [List.set_cons_zero, List.set_cons_succ]); rfl)) ?_⟩; intro _ _ _ _) | refine And.intro (by omega) ?_ | refine And.intro ⟨_, rd1 kp (by rfl), rfl⟩ ?_ | (refine nwB ?_; intro _ _ _ _ _ _) | (refine all_below ?_; intro _ _ _))
  refine hK _ _ fun _ => ?_
  exact ⟨rfl, by (repeat (first | exact Chg.refl _ _ | refine Chg.step (by assumption) ?_ (by (first | exact sub_non _ | exact sub_nil _ | (repeat (first | exact sub_nil _ | refine sub_new (by omega) ?_ | refine sub_old (by first | assumption | exact in_head _ _ | exact in_tail (in_head _ _) | exact in_tail (in_tail (in_head _ _)) | simp [In]) ?_))))))⟩

theorem get8 (w : World) (s m C : Nat) (n : Int) (h : StopAt w s m C) : Runs Tryz.prog (Instr.lookup 195 (.map (some m)) (.int .i64 n) false) w (.bool (decide (8 < C ∧ n = 8))) w := by
  obtain ⟨h1, h2, i, hi, hz⟩ := mapInfo
  obtain ⟨clock, hm⟩ := h.m
  by_cases h8 : 8 < C
  · by_cases hn : n = 8
    · have := map_get (P := Tryz.prog) w 195 3 4 m n (stopE C) clock i h1 h2 hi hz hm (some (0, .bool true)) (by unfold stopE; rw [if_pos h8, hn]; rfl)
      rw [decide_eq_true ⟨h8, hn⟩]; exact this
    · have := map_get (P := Tryz.prog) w 195 3 4 m n (stopE C) clock i h1 h2 hi hz hm none (by unfold stopE; rw [if_pos h8]; simp [Instr.findNow, Instr.sameNow, show (n == 8) = false by simpa using hn])
      rw [decide_eq_false (fun x => hn x.2)]; exact this
  · have := map_get (P := Tryz.prog) w 195 3 4 m n (stopE C) clock i h1 h2 hi hz hm none (by unfold stopE; rw [if_neg h8]; rfl)
    rw [decide_eq_false (fun x => h8 x.1)]; exact this

/-- The next stop. -/
def tabTo (C col : Nat) : Nat := min (C - 1) (col / 8 * 8 + 8)

theorem c243 (w : World) (s m C col : Nat) (h : StopAt w s m C) (hc : col < C) (hC : C ≤ 16) :
    Calls Tryz.prog 243 #[.pointer (some ⟨s, 0, none⟩), .int .i64 col, .int .i64 1, .int .i64 1, .int .i64 ((C : Int) - 1)] w fun e w' => e = .returned (.tuple #[.int .i64 (tabTo C col), .int .i64 0]) ∧ Chg Non w w' := by
  refine r243 _ _ _ _ _ _ _ ?_
  unfold V243
  refine Calls.then (c197 w s m C col h hc) ?_
  rintro e w1 ⟨rfl, g1⟩
  refine ⟨_, rfl, br_f rfl (br_f rfl ?_)⟩
  have h1 := h.non g1
  have hs1 := h1.s
  refine ⟨fun vs w' => w' = w1 ∧ ∃ c n : Nat, vs = [.int .i64 c, .int .i64 n] ∧ c < C ∧ col ≤ c ∧ ((n = 1 ∧ c ≤ tabTo C col ∧ (c = tabTo C col → c = C - 1)) ∨ (n = 0 ∧ c = tabTo C col)), fun vs _ => match vs with | [.int _ c, .int _ n] => (C - c + n).toNat | _ => 0,
    ⟨rfl, col, 1, rfl, hc, by omega, .inl ⟨rfl, by unfold tabTo; omega, by unfold tabTo; omega⟩⟩, ?_⟩
  rintro a b w2 _ ⟨rfl, c, n, hv, hcC, hcol, hcase⟩
  simp only [List.cons.injEq, Value.int.injEq, true_and, and_true] at hv
  obtain ⟨rfl, rfl⟩ := hv
  intro K hK
  rcases hcase with ⟨rfl, hle, hle2⟩ | ⟨rfl, hle⟩
  · refine br_t rfl ?_
    by_cases hend : c = C - 1
    · refine br_f cp ⟨?_, g1⟩
      have : tabTo C col = c := by unfold tabTo at *; omega
      rw [this]
    · refine br_t cp (hK _ fun _ => ?_)
      clear hK K
      refine ⟨by unfold inInt; omega, _, rfl, _, rd1 hs1 (by rfl), _, _, get8 w2 s m C _ h1, ?_⟩
      refine br_dec (fun hh => ?_) fun hh => ?_
      · refine ⟨by unfold inInt; omega, ⟨rfl, c + 1, 0, by simp, by omega, by omega, .inr ⟨rfl, by unfold tabTo at *; omega⟩⟩, ?_⟩
        show ((C : Int) - ((c : Int) + 1) + (((1 : Nat) : Int) - 1)).toNat < ((C : Int) - c + (1 : Nat)).toNat
        omega
      · refine ⟨⟨rfl, c + 1, 1, by simp, by omega, by omega, .inl ⟨rfl, ?_⟩⟩, ?_⟩
        · have h7 : c ≠ 7 := by
            rintro rfl
            exact hh ⟨by omega, by rfl⟩
          unfold tabTo at *
          omega
        · show ((C : Int) - ((c : Int) + 1) + ((1 : Nat) : Int)).toNat < ((C : Int) - c + (1 : Nat)).toNat
          omega
  · refine br_f rfl ⟨?_, g1⟩
    rw [hle]

theorem c186 (w : World) (s m C col : Nat) (h : StopAt w s m C) (hc : col < C) (hC : C ≤ 16) :
    Calls Tryz.prog 186 #[.pointer (some ⟨s, 0, none⟩), .int .i64 col, .int .i64 1] w fun e w' => e = .returned (.tuple #[.int .i64 (tabTo C col), .int .i64 0]) ∧ Chg Non w w' := by
  refine r186 _ _ _ _ _ ?_
  unfold V186
  have hs := h.s
  repeat (first | (refine nw ?_; intro _ _ _ _ _ _) | refine ⟨_, rdall kp (by rfl), ?_⟩ | refine ⟨_, rd1 kp (by rfl), ?_⟩ | refine ⟨_, _, _, rd1 kp (by rfl), ?_⟩ | refine br_t cp ?_ | refine br_f cp ?_ | (refine ⟨_, rfl, ?_⟩; try dsimp only) | (refine ⟨_, _, rfl, ?_⟩; try dsimp only) | refine And.intro (by unfold inInt; omega) ?_ | (refine ⟨rfl, one_lit rfl, fw kp (by (first | exact Nat.le_of_ble_eq_true rfl | (simp; done) | omega)), puts0A kp (by rfl) ?_⟩; intro _ _ _ _) | (refine ⟨rfl, one_lit rfl, fw kp (by (first | exact Nat.le_of_ble_eq_true rfl | (simp; done) | omega)), puts0 kp (by rfl) ?_⟩; intro _ _ _ _) | (refine ⟨fw kp (by (first | exact Nat.le_of_ble_eq_true rfl | (simp; done) | omega)), putL kp (by ((try simp only [List.set_cons_zero, List.set_cons_succ]); rfl)) ?_⟩; intro _ _ _ _) | refine And.intro (by omega) ?_ | refine And.intro ⟨_, rd1 kp (by rfl), rfl⟩ ?_ | (refine nwB ?_; intro _ _ _ _ _ _) | (refine all_below ?_; intro _ _ _))
  refine Calls.then (c243 w s m C col h hc hC) ?_
  rintro e w1 ⟨rfl, g1⟩
  exact ⟨_, _, rfl, rfl, g1⟩
end Go.Proofs

namespace Go.Proofs
open Go Go.X Go.RowKit
set_option linter.unusedVariables false
set_option linter.unusedSimpArgs false
set_option maxRecDepth 100000

theorem own_shape {w : World} {b0 : Nat} {e : TypeId} {size : Nat} {v : Value} {n : Nat} {xs : List Value} (h : w.ownsRow b0 e size v n xs) : ∃ a c, v = .slice a n c ∧ n ≤ c := by
  rcases h.2 with ⟨rfl, h2⟩ | ⟨g, cap, cur, rfl, _, _, h3, _⟩
  · exact ⟨none, 0, by rw [h2], by omega⟩
  · exact ⟨_, _, rfl, h3⟩
theorem own_next {w w' : World} {F : Nat → Prop} {e : TypeId} {size : Nat} {v : Value} {n : Nat} {xs : List Value} (h : w.ownsRow 0 e size v n xs) (k : Chg F w w') (hf : ∀ g, v.ownBlock = some g → ¬ F g) : w'.ownsRow 0 e size v n xs := by
  obtain ⟨h1, h2⟩ := h
  refine ⟨h1, ?_⟩
  rcases h2 with h2 | ⟨g, cap, cur, rfl, hb, hg, h3⟩
  · exact .inl h2
  · exact .inr ⟨g, cap, cur, rfl, hb, k.get hg (hf g rfl), h3⟩
theorem own_non {w w' : World} {e : TypeId} {size : Nat} {v : Value} {n : Nat} {xs : List Value} (h : w.ownsRow 0 e size v n xs) (k : Chg Non w w') : w'.ownsRow 0 e size v n xs := own_next h k fun g _ => not_non g
theorem own_lt {w : World} {e : TypeId} {size : Nat} {v : Value} {n : Nat} {xs : List Value} (h : w.ownsRow 0 e size v n xs) {g : Nat} (hg : v.ownBlock = some g) : g < w.heap.size := (World.ownsRow.lt h g hg).2
/-- The cells of a row's elements. -/
theorem own_cells {w : World} {e : TypeId} {size : Nat} {v : Value} {n : Nat} {xs : List Value} (h : w.ownsRow 0 e size v n xs) (hn : n ≠ 0) : ∃ b cap, v = .slice (some ⟨b, 0, none⟩) n cap ∧ b < w.heap.size ∧ ∃ cur, blk w b = some (.cells cur e) ∧ n * size ≤ cur.size ∧ cur.toList.take (n * size) = xs := by
  obtain ⟨g, cap, cur, rfl, h1, h2, h3, h4, h5⟩ := own_slice h hn
  exact ⟨g, cap, rfl, blk_lt h1, cur, h1, by rw [h4]; exact Nat.mul_le_mul_right _ h2, h5⟩

/-- Elements are added to a list of the function's own. -/
theorem app_loc {w : World} {s e : TypeId} {size bytes : Nat} (el : Elem s e size bytes) (n0 : Nat) {v : Value} {n : Nat} {xs : List Value} (h : w.ownsRow 0 e size v n xs) (hv : ∀ b, v.ownBlock = some b → n0 ≤ b) (hn0 : n0 ≤ w.heap.size)
    (v2 : Value) (m : Nat) (news : List Value) (h2 : w.ownsRow 0 e size v2 m news) (h1 : ∀ u ∈ news, u.oneCell' = true) (hm : (n + m) * bytes ≤ 140737488355328) (h63 : n + m ≤ maxLen) :
    ∃ v' w', Runs Tryz.prog (Builtin.append_ #[s, s] s #[v, v2]) w v' w' ∧ w'.ownsRow 0 e size v' (n + m) (xs ++ news) ∧ (∀ b, v'.ownBlock = some b → n0 ≤ b) ∧ Chg (OwnB v) w w' := by
  obtain ⟨hu, i, z, hi, hz, hsz, hzs, hby, hpos⟩ := el
  by_cases h0 : m = 0
  · subst h0
    have hx : news = [] := List.eq_nil_of_length_eq_zero (by simpa using h2.1)
    subst hx
    obtain ⟨a, c, rfl, hc⟩ := own_shape h
    obtain ⟨a2, c2, rfl, hc2⟩ := own_shape h2
    have hr : Runs Tryz.prog (Builtin.append_ #[s, s] s #[.slice a n c, .slice a2 0 c2]) w (.slice a n c) w := by
      unfold Runs
      simp [Builtin.append_, run_underlying hu, sizeOf, typeInfo, hi, Builtin.lenOf, Builtin.firstCells, hc]
      cases a <;> cases a2 <;> simp [storeCells, loadCells, loadCellsFrom]
    exact ⟨_, w, hr, by simpa using h, hv, Chg.refl _ _⟩
  · obtain ⟨b, cap, cur, rfl, hb, h4, h5, h6, h7⟩ := own_slice h2 h0
    obtain ⟨v', w', q1, q2, q3, q4, q5⟩ := app_own (P := Tryz.prog) w s s e i z size hu hi hz hsz hzs hpos v n xs h ⟨b, 0, none⟩ m cap news h2.1 (cells_of hb (by rw [List.drop_zero, h2.1]; exact h7)) h1 h63 (by rw [hby]; exact hm)
    refine ⟨v', w', q1, q2, fun k hk => ?_, q3⟩
    rcases q5 k hk with q | q
    · exact hv k q
    · omega

def emptyS : ByteArray := ByteArray.mk #[]
/-- A parser: the bounds of the decoder's next byte, and the state. -/
def parL (lo hi st : Int) : List Value := [.slice none 0 0, .int .i64 0, .int .u8 lo, .int .u8 hi, .int .i64 st, .int .i32 0, .string emptyS, .int .i64 0, .int .i64 0, .int .i64 0, .int .i64 0, .int .i64 0, .int .i64 0, .int .i64 0, .int .i64 0, .int .i64 0, .int .i64 0, .int .i64 0, .int .i64 0, .int .i64 0, .int .i64 0, .int .i64 0, .int .i64 0, .int .i64 0, .bool false, .slice none 0 0]
def ParAt (w : World) (p : Nat) (st : Int) : Prop := ∃ lo hi, blk w p = some (.cells (parL lo hi st).toArray 78)
theorem ParAt.next {F : Nat → Prop} {w w' : World} {p : Nat} {st : Int} (h : ParAt w p st) (k : Chg F w w') (hf : ¬ F p) : ParAt w' p st := by
  obtain ⟨lo, hi, h⟩ := h; exact ⟨lo, hi, k.get h hf⟩
theorem ParAt.lt {w : World} {p : Nat} {st : Int} (h : ParAt w p st) : p < w.heap.size := by obtain ⟨lo, hi, h⟩ := h; exact blk_lt h

structure Act where
  k : Int
  r : Int
  a : Option Addr
def actL (x : Act) : List Value := [.int .i64 x.k, .int .i32 x.r, .int .i32 0, .string emptyS, .slice x.a 0 0, .string emptyS]
def actsL (l : List Act) : List Value := l.flatMap actL
theorem actsL_length : ∀ l, (actsL l).length = l.length * 6
  | [] => rfl
  | x :: l => by have := actsL_length l; unfold actsL at *; rw [List.flatMap_cons, List.length_append, this, List.length_cons]; simp [actL]; omega
theorem actsL_one (l : List Act) : ∀ u ∈ actsL l, u.oneCell' = true := by
  intro u hu; unfold actsL at hu; obtain ⟨x, _, h⟩ := List.mem_flatMap.1 hu
  simp only [actL, List.mem_cons, List.not_mem_nil, or_false] at h
  rcases h with rfl | rfl | rfl | rfl | rfl | rfl <;> rfl
def ActsV (w : World) (v : Value) (l : List Act) : Prop := w.ownsRow 0 133 6 v l.length (actsL l)
theorem elAct : Elem 129 133 6 72 := elem_of (by kernel_rfl) (by kernel_rfl) (by decide)
theorem elRune : Elem 172 21 1 4 := elem_of (by kernel_rfl) (by kernel_rfl) (by decide)
theorem elInt : Elem 124 3 1 8 := elem_of (by kernel_rfl) (by kernel_rfl) (by decide)
/-- One element in a new block. -/
theorem own_one {w : World} {b : Nat} {e : TypeId} {size : Nat} {l : List Value} (hb : blk w b = some (.cells l.toArray e)) (hl : l.length = size) : w.ownsRow 0 e size (.slice (some ⟨b, 0, none⟩) 1 1) 1 l :=
  ⟨by rw [hl]; omega, .inr ⟨b, 1, l.toArray, rfl, Nat.zero_le _, hb, Nat.le_refl _, by unfold maxLen; omega, by simp [hl], by simp [← hl]⟩⟩

theorem c96 (w : World) (a b c : Int) : Calls Tryz.prog 96 #[.int .i32 a, .int .i32 b, .int .i32 c] w fun e w' => e = .returned (.bool (decide (b ≤ a ∧ a ≤ c))) ∧ Chg Non w w' := by
  refine r96 _ _ _ _ _ ?_
  unfold V96
  refine br_dec (fun h => ?_) fun h => ?_
  · refine ⟨?_, Chg.refl _ _⟩
    by_cases hc : a ≤ c
    · rw [decide_eq_true hc, decide_eq_true ⟨by omega, hc⟩]
    · rw [decide_eq_false hc, decide_eq_false (fun x => hc x.2)]
  · exact ⟨by rw [decide_eq_false (fun x => h (by omega))], Chg.refl _ _⟩
theorem c102 (w : World) (a : Int) (h : 0 ≤ a ∧ a < 55296) : Calls Tryz.prog 102 #[.int .i32 a] w fun e w' => e = .returned (.bool true) ∧ Chg Non w w' := by
  refine r102 _ _ _ ?_
  unfold V102
  repeat (first | (refine nw ?_; intro _ _ _ _ _ _) | refine ⟨_, rdall kp (by rfl), ?_⟩ | refine ⟨_, rd1 kp (by rfl), ?_⟩ | refine ⟨_, _, _, rd1 kp (by rfl), ?_⟩ | refine br_t cp ?_ | refine br_f cp ?_ | (refine ⟨_, rfl, ?_⟩; try dsimp only) | (refine ⟨_, _, rfl, ?_⟩; try dsimp only) | refine And.intro (by unfold inInt; omega) ?_ | (refine ⟨rfl, one_lit rfl, fw kp (by (first | exact Nat.le_of_ble_eq_true rfl | (simp; done) | omega)), puts0A kp (by rfl) ?_⟩; intro _ _ _ _) | (refine ⟨rfl, one_lit rfl, fw kp (by (first | exact Nat.le_of_ble_eq_true rfl | (simp; done) | omega)), puts0 kp (by rfl) ?_⟩; intro _ _ _ _) | (refine ⟨fw kp (by (first | exact Nat.le_of_ble_eq_true rfl | (simp; done) | omega)), putL kp (by ((try simp only [List.set_cons_zero, List.set_cons_succ]); rfl)) ?_⟩; intro _ _ _ _) | refine And.intro (by omega) ?_ | refine And.intro ⟨_, rd1 kp (by rfl), rfl⟩ ?_ | (refine nwB ?_; intro _ _ _ _ _ _) | (refine all_below ?_; intro _ _ _))
  exact ⟨rfl, Chg.refl _ _⟩

theorem c168 (w : World) (p : Nat) (lo hi st : Int) (h : blk w p = some (.cells (parL lo hi st).toArray 78)) :
    Calls Tryz.prog 168 #[.pointer (some ⟨p, 0 + 7, none⟩)] w fun e w' => e = .returned (.tuple #[]) ∧ blk w' p = some (.cells (parL lo hi st).toArray 78) ∧ Chg (In [p]) w w' := by
  refine r168 _ _ _ ?_
  unfold V168
  refine br_t rfl ⟨_, rfl, rfl, one_lit rfl, fw h (by (first | exact Nat.le_of_ble_eq_true rfl | (simp; done) | omega)), putsL (l' := parL lo hi st) h (by (first | exact Nat.le_of_ble_eq_true rfl | (simp; done) | omega)) (by rfl) ?_⟩
  intro w1 s1 b1 g1
  exact ⟨rfl, b1, g1⟩
theorem c121 (w : World) (p : Nat) (lo hi st : Int) (h : blk w p = some (.cells (parL lo hi st).toArray 78)) :
    Calls Tryz.prog 121 #[.pointer (some ⟨p, 0, none⟩)] w fun e w' => e = .returned (.tuple #[]) ∧ blk w' p = some (.cells (parL lo hi st).toArray 78) ∧ Chg (In [p]) w w' := by
  refine r121 _ _ _ ?_
  unfold V121
  refine ⟨_, rfl, fw h (by (first | exact Nat.le_of_ble_eq_true rfl | (simp; done) | omega)), putL h (by rfl) ?_⟩
  intro w1 s1 b1 g1
  refine ⟨_, rfl, fw b1 (by (first | exact Nat.le_of_ble_eq_true rfl | (simp; done) | omega)), putL b1 (by rfl) ?_⟩
  intro w2 s2 b2 g2
  refine ⟨_, rfl, fw b2 (by (first | exact Nat.le_of_ble_eq_true rfl | (simp; done) | omega)), putL b2 (by rfl) ?_⟩
  intro w3 s3 b3 g3
  refine ⟨_, rfl, ?_⟩
  refine Calls.then (c168 w3 p lo hi st b3) ?_
  rintro e w4 ⟨rfl, b4, g4⟩
  exact ⟨rfl, rfl, b4, ((g1.trans g2).trans g3).trans g4⟩
theorem c97 (w : World) (p : Nat) (lo hi st s' : Int) (h : blk w p = some (.cells (parL lo hi st).toArray 78)) :
    Calls Tryz.prog 97 #[.pointer (some ⟨p, 0, none⟩), .int .i64 s'] w fun e w' => e = .returned (.slice none 0 0) ∧ blk w' p = some (.cells (parL lo hi s').toArray 78) ∧ Chg (In [p]) w w' := by
  refine r97 _ _ _ _ ?_
  unfold V97
  refine Calls.then (c121 w p lo hi st h) ?_
  rintro e w1 ⟨rfl, b1, g1⟩
  refine ⟨rfl, _, rfl, fw b1 (by (first | exact Nat.le_of_ble_eq_true rfl | (simp; done) | omega)), putL b1 (by rfl) ?_⟩
  intro w2 s2 b2 g2
  exact ⟨rfl, b2, g1.trans g2⟩
theorem c98 (w : World) (p : Nat) (lo hi st : Int) (a : Option Addr) (l c : Nat) (h : blk w p = some (.cells (parL lo hi st).toArray 78)) :
    Calls Tryz.prog 98 #[.pointer (some ⟨p, 0, none⟩), .slice a l c] w fun e w' => e = .returned (.slice a l c) ∧ blk w' p = some (.cells (parL lo hi 0).toArray 78) ∧ Chg (In [p]) w w' := by
  refine r98 _ _ _ _ _ _ ?_
  unfold V98
  refine Calls.then (c121 w p lo hi st h) ?_
  rintro e w1 ⟨rfl, b1, g1⟩
  refine ⟨rfl, _, rfl, fw b1 (by (first | exact Nat.le_of_ble_eq_true rfl | (simp; done) | omega)), putL b1 (by rfl) ?_⟩
  intro w2 s2 b2 g2
  exact ⟨rfl, b2, g1.trans g2⟩
theorem c124 (w : World) (p : Nat) (lo hi st : Int) (h : blk w p = some (.cells (parL lo hi st).toArray 78)) :
    Calls Tryz.prog 124 #[.pointer (some ⟨p, 0 + 7, none⟩)] w fun e w' => ∃ a, e = .returned (.slice a 0 0) ∧ Chg Non w w' := by
  refine r124 _ _ _ ?_
  unfold V124
  refine br_f rfl ⟨_, rfl, _, rd1 h (by rfl), by omega, by omega, by omega, by omega, nw ?_⟩
  intro k w1 e1 s1 b1 g1
  obtain ⟨hu, i, z, hi, hz, hsz, hzs, hby, hpos⟩ := elInt
  have hr := copy_runs (P := Tryz.prog) w1 124 124 3 3 i k 0 0 0 ⟨p, 0 + 7, none⟩ 16 16 _ 3 [] hu hi b1 (by simp) (by simp) (by simp) (by simp)
  refine ⟨_, rfl, _, rfl, _, _, hr, _, rfl, ?_⟩
  refine g1.trans' (chg_setRow _ _ _) (sub_new (by omega) (sub_nil _))
end Go.Proofs

namespace Go.Proofs
open Go Go.X Go.RowKit
set_option linter.unusedVariables false
set_option linter.unusedSimpArgs false
set_option maxRecDepth 100000

/-- What a step of the parser brings. -/
def StepTo (w : World) (p : Nat) (st' : Int) (acts : List (Int × Int)) (e : Ending) (w' : World) : Prop :=
  ∃ v l, e = .returned v ∧ ActsV w' v l ∧ l.map (fun x => (x.k, x.r)) = acts ∧ ParAt w' p st' ∧ (∀ b, v.ownBlock = some b → w.heap.size ≤ b) ∧ Chg (In [p]) w w'

theorem dec_f {p : Prop} [Decidable p] (h : ¬ p) : decide p = false := decide_eq_false h

theorem acts_one {w : World} {k : Nat} {a : Act} (hb : blk w k = some (.cells (actL a).toArray 133)) : ActsV w (.slice (some ⟨k, 0, none⟩) 1 1) [a] := by
  unfold ActsV
  have := own_one (size := 6) hb rfl
  simpa [actsL] using this
theorem acts_nil (w : World) : ActsV w (.slice none 0 0) [] := World.ownsRow_nil _ _ _ _

theorem c77p (w : World) (p : Nat) (r : Int) (h : ParAt w p 0) (h1 : 32 ≤ r) (h2 : r ≤ 126) : Calls Tryz.prog 77 #[.pointer (some ⟨p, 0, none⟩), .int .i32 r] w fun e w' => StepTo w p 0 [(1, r)] e w' := by
  obtain ⟨lo, hi, hb⟩ := h
  refine r77 _ _ _ _ ?_
  unfold V77
  refine br_f rfl ?_
  refine Calls.then (c96 w r 128 159) ?_
  rintro e w1 ⟨rfl, g1⟩
  refine ⟨_, rfl, br_f (dec_f (by omega)) ?_⟩
  intro K hK
  refine br_f cp ?_
  intro K2 hK2
  refine br_f cp (hK2 _ _ fun _ => br_f cp ?_)
  clear hK2 K2
  refine ⟨_, rfl, _, rd1 kp (by rfl), br_f rfl ⟨_, rfl, _, rd1 kp (by rfl), br_f rfl (br_f cp (br_t cp (br_f cp (hK _ _ _ _ fun _ => ?_))))⟩⟩
  clear hK K
  refine ⟨_, rfl, _, rd1 kp (by rfl), ?_⟩
  intro K hK
  refine br_f rfl (hK _ _ fun _ => br_f rfl ?_)
  clear hK K
  intro K hK
  refine br_f rfl (br_f rfl (br_f rfl (hK _ _ fun _ => br_f rfl ?_)))
  clear hK K
  intro K hK
  refine br_f cp ?_
  refine Calls.then (c102 w1 r (by omega)) ?_
  rintro e w2 ⟨rfl, g2⟩
  have s1 := g1.size
  have s2 := g2.size
  refine ⟨_, rfl, br_f rfl (hK _ _ _ _ fun _ => ⟨rfl, nw ?_⟩)⟩
  clear hK K
  intro k w3 e3 s3 b3 g3
  refine ⟨_, [⟨1, r, none⟩], rfl, acts_one b3, rfl, ⟨lo, hi, by (repeat (first | assumption | refine Chg.get (by assumption) ?_ (by (repeat (first | exact not_non _ | exact not_in_nil _ | refine not_in_cons (by first | assumption | exact Ne.symm (by assumption) | omega) ?_)))))⟩, fun b hb => ?_, by (repeat (first | exact Chg.refl _ _ | refine Chg.step (by assumption) ?_ (by (first | exact sub_non _ | exact sub_nil _ | (repeat (first | exact sub_nil _ | refine sub_new (by omega) ?_ | refine sub_old (by first | assumption | exact in_head _ _ | exact in_tail (in_head _ _) | exact in_tail (in_tail (in_head _ _)) | simp [In]) ?_))))))⟩
  simp only [Value.ownBlock, Option.some.injEq] at hb; omega

theorem c77x (w : World) (p : Nat) (r : Int) (h : ParAt w p 0) (h1 : r = 8 ∨ r = 9 ∨ r = 10 ∨ r = 13) : Calls Tryz.prog 77 #[.pointer (some ⟨p, 0, none⟩), .int .i32 r] w fun e w' => StepTo w p 0 [(2, r)] e w' := by
  obtain ⟨lo, hi, hb⟩ := h
  refine r77 _ _ _ _ ?_
  unfold V77
  refine br_f rfl ?_
  refine Calls.then (c96 w r 128 159) ?_
  rintro e w1 ⟨rfl, g1⟩
  refine ⟨_, rfl, br_f (dec_f (by omega)) ?_⟩
  intro K hK
  clear hK
  refine br_f cp ?_
  intro K2 hK2
  refine br_f cp (hK2 _ _ fun _ => br_f cp ?_)
  clear hK2 K2
  refine ⟨_, rfl, _, rd1 kp (by rfl), br_f rfl ⟨_, rfl, _, rd1 kp (by rfl), br_f rfl (br_f cp (br_t cp (br_t cp ⟨rfl, nw ?_⟩)))⟩⟩
  have s1 := g1.size
  intro k w3 e3 s3 b3 g3
  refine ⟨_, [⟨2, r, none⟩], rfl, acts_one b3, rfl, ⟨lo, hi, by (repeat (first | assumption | refine Chg.get (by assumption) ?_ (by (repeat (first | exact not_non _ | exact not_in_nil _ | refine not_in_cons (by first | assumption | exact Ne.symm (by assumption) | omega) ?_)))))⟩, fun b hb => ?_, by (repeat (first | exact Chg.refl _ _ | refine Chg.step (by assumption) ?_ (by (first | exact sub_non _ | exact sub_nil _ | (repeat (first | exact sub_nil _ | refine sub_new (by omega) ?_ | refine sub_old (by first | assumption | exact in_head _ _ | exact in_tail (in_head _ _) | exact in_tail (in_tail (in_head _ _)) | simp [In]) ?_))))))⟩
  simp only [Value.ownBlock, Option.some.injEq] at hb; omega

theorem c77e (w : World) (p : Nat) (h : ParAt w p 0) : Calls Tryz.prog 77 #[.pointer (some ⟨p, 0, none⟩), .int .i32 27] w fun e w' => StepTo w p 1 [] e w' := by
  obtain ⟨lo, hi, hb⟩ := h
  refine r77 _ _ _ _ ?_
  unfold V77
  refine br_f rfl ?_
  refine Calls.then (c96 w 27 128 159) ?_
  rintro e w1 ⟨rfl, g1⟩
  refine ⟨_, rfl, br_f (dec_f (by omega)) ?_⟩
  intro K hK
  clear hK
  refine br_t rfl ?_
  intro K2 hK2
  refine ⟨_, rfl, _, rd1 kp (by rfl), br_f rfl (hK2 _ _ _ _ fun _ => ?_)⟩
  clear hK2 K2
  refine Calls.then (c97 w1 p lo hi 0 1 kp) ?_
  rintro e w2 ⟨rfl, b2, g2⟩
  exact ⟨_, _, _, rfl, _, [], rfl, acts_nil _, rfl, ⟨lo, hi, b2⟩, (fun b hb => by cases hb), g1.non.trans g2⟩

theorem c100b (w : World) (p : Nat) (lo hi : Int) (hb : blk w p = some (.cells (parL lo hi 1).toArray 78)) :
    Calls Tryz.prog 100 #[.pointer (some ⟨p, 0, none⟩), .int .i32 91] w fun e w' => e = .returned (.slice none 0 0) ∧ blk w' p = some (.cells (parL lo hi 3).toArray 78) ∧ Chg (In [p]) w w' := by
  refine r100 _ _ _ _ ?_
  unfold V100
  intro K hK
  clear hK
  refine Calls.then (c96 w 91 32 47) ?_
  rintro e w1 ⟨rfl, g1⟩
  refine ⟨_, rfl, br_f (dec_f (by omega)) ?_⟩
  refine Calls.then (c96 w1 91 48 126) ?_
  rintro e w2 ⟨rfl, g2⟩
  refine ⟨_, rfl, br_f (by decide) ⟨_, rfl, _, rd1 kp (by rfl), br_f rfl ⟨_, rfl, _, rd1 kp (by rfl), br_t rfl (br_t rfl ?_)⟩⟩⟩
  refine Calls.then (c97 w2 p lo hi 1 3 kp) ?_
  rintro e w3 ⟨rfl, b3, g3⟩
  exact ⟨_, _, _, rfl, rfl, b3, (g1.non.trans g2.non).trans g3⟩

theorem c77b (w : World) (p : Nat) (h : ParAt w p 1) : Calls Tryz.prog 77 #[.pointer (some ⟨p, 0, none⟩), .int .i32 91] w fun e w' => StepTo w p 3 [] e w' := by
  obtain ⟨lo, hi, hb⟩ := h
  refine r77 _ _ _ _ ?_
  unfold V77
  refine br_f rfl ?_
  refine Calls.then (c96 w 91 128 159) ?_
  rintro e w1 ⟨rfl, g1⟩
  refine ⟨_, rfl, br_f (dec_f (by omega)) ?_⟩
  intro K hK
  refine br_f rfl ?_
  intro K2 hK2
  refine br_f rfl (hK2 _ _ fun _ => br_f rfl ?_)
  clear hK2 K2
  refine ⟨_, rfl, _, rd1 kp (by rfl), br_f rfl ⟨_, rfl, _, rd1 kp (by rfl), br_f rfl (br_f rfl (br_t (by decide) (br_f (by decide) (hK _ _ _ _ fun _ => ?_))))⟩⟩
  clear hK K
  refine ⟨_, rfl, _, rd1 kp (by rfl), ?_⟩
  intro K hK
  refine br_t rfl (hK _ _ fun _ => br_t rfl ?_)
  clear hK K
  refine Calls.then (c100b w1 p lo hi kp) ?_
  rintro e w2 ⟨rfl, b2, g2⟩
  exact ⟨_, _, _, rfl, _, [], rfl, acts_nil _, rfl, ⟨lo, hi, b2⟩, (fun b hb => by cases hb), g1.non.trans g2⟩

theorem grows_nilrow (v : Value) : Grows fun _ => ∃ a, v = .slice a 0 0 := fun _ _ h _ => h
theorem grows_act (v : Value) (n : Nat) (k r : Int) (a : Option Addr) : Grows fun w => ∃ b, v = .slice (some ⟨b, 0, none⟩) 1 1 ∧ blk w b = some (.cells (actL ⟨k, r, a⟩).toArray 133) ∧ n ≤ b := by
  rintro w w' ⟨b, h1, h2, h3⟩ hb
  exact ⟨b, h1, (Chg.of_below hb).get h2 (not_non _), h3⟩

theorem c101f (w : World) (p : Nat) (lo hi r : Int) (hb : blk w p = some (.cells (parL lo hi 3).toArray 78)) (h1 : 64 ≤ r) (h2 : r ≤ 126) :
    Calls Tryz.prog 101 #[.pointer (some ⟨p, 0, none⟩), .int .i32 r] w fun e w' => StepTo w p 0 [(4, r)] e w' := by
  have hplt := blk_lt hb
  refine r101 _ _ _ _ ?_
  unfold V101
  refine ⟨_, rfl, _, rd1 hb (by rfl), br_t rfl ?_⟩
  intro K hK
  clear hK
  refine Calls.then (c96 w r 32 126) ?_
  rintro e w1 ⟨rfl, g1⟩
  refine ⟨_, rfl, br_f (by rw [decide_eq_true ⟨by omega, h2⟩]; rfl) ?_⟩
  refine Calls.then (c96 w1 r 64 126) ?_
  rintro e w2 ⟨rfl, g2⟩
  refine ⟨_, rfl, br_t (decide_eq_true ⟨h1, h2⟩) ?_⟩
  intro K hK
  have b2 : blk w2 p = some (.cells (parL lo hi 3).toArray 78) := by (repeat (first | assumption | refine Chg.get (by assumption) ?_ (by (repeat (first | exact not_non _ | exact not_in_nil _ | refine not_in_cons (by first | assumption | exact Ne.symm (by assumption) | omega) ?_)))))
  refine ⟨_, rfl, _, rd1 b2 (by rfl), br_f rfl ⟨_, rfl, _, rd1 b2 (by rfl), br_f rfl (hK _ _ _ _ fun _ => ?_)⟩⟩
  clear hK K
  have s1 := g1.size
  have s2 := g2.size
  refine ⟨_, rfl, _, rd1 b2 (by rfl), _, rfl, _, rfl, _, rd1 b2 (by rfl), _, fun v => grows_nilrow v, float fun w3 s3 g3 => ?_, fun a n c => ⟨_, fun v => grows_act v w2.heap.size 4 r a, ?_, ?_⟩⟩
  · refine Calls.then (c124 w3 p lo hi 3 (g3.get b2 (not_non _))) ?_
    rintro e w4 ⟨a, rfl, g4⟩
    exact ⟨_, _, _, rfl, g4.below, a, rfl⟩
  · rintro w3 ⟨hbel, a', ha⟩
    have := hbel.size
    injection ha with q1 q2 q3
    subst q1; subst q2; subst q3
    refine ⟨rfl, nw ?_⟩
    intro k w4 e4 s4 b4 g4
    exact ⟨g4.below, k, rfl, b4, by omega⟩
  · rintro a' n' c' w3 ⟨⟨hbel, _⟩, b, hv, hbb, hn⟩
    have g3 := Chg.of_below hbel
    injection hv with q1 q2 q3
    subst q1; subst q2; subst q3
    refine Calls.then (c98 w3 p lo hi 3 _ _ _ (g3.get b2 (not_non _))) ?_
    rintro e w4 ⟨rfl, b4, g4⟩
    have hbp : b ≠ p := by rintro rfl; rw [g3.get b2 (not_non _)] at hbb; injection hbb with e; injection e with _ e; cases e
    refine ⟨_, _, _, rfl, _, [⟨4, r, a⟩], rfl, acts_one (g4.get hbb (not_in_cons hbp (not_in_nil _))), rfl, ⟨lo, hi, b4⟩, fun j hj => ?_, ((g1.non.trans g2.non).trans g3.non).trans g4⟩
    simp only [Value.ownBlock, Option.some.injEq] at hj; omega

theorem c77f (w : World) (p : Nat) (r : Int) (h : ParAt w p 3) (h1 : 64 ≤ r) (h2 : r ≤ 126) : Calls Tryz.prog 77 #[.pointer (some ⟨p, 0, none⟩), .int .i32 r] w fun e w' => StepTo w p 0 [(4, r)] e w' := by
  obtain ⟨lo, hi, hb⟩ := h
  refine r77 _ _ _ _ ?_
  unfold V77
  refine br_f rfl ?_
  refine Calls.then (c96 w r 128 159) ?_
  rintro e w1 ⟨rfl, g1⟩
  refine ⟨_, rfl, br_f (dec_f (by omega)) ?_⟩
  intro K hK
  refine br_f cp ?_
  intro K2 hK2
  refine br_f cp (hK2 _ _ fun _ => br_f cp ?_)
  clear hK2 K2
  refine ⟨_, rfl, _, rd1 kp (by rfl), br_f rfl ⟨_, rfl, _, rd1 kp (by rfl), br_f rfl (br_f cp (br_t cp (br_f cp (hK _ _ _ _ fun _ => ?_))))⟩⟩
  clear hK K
  refine ⟨_, rfl, _, rd1 kp (by rfl), ?_⟩
  intro K hK
  refine br_f rfl (hK _ _ fun _ => br_f rfl ?_)
  clear hK K
  intro K hK
  refine br_t rfl (hK _ _ fun _ => br_t rfl ?_)
  clear hK K
  refine Calls.then (c101f w1 p lo hi r kp h1 h2) ?_
  rintro e w2 ⟨v, l, rfl, q1, q2, q3, q4, g2⟩
  obtain ⟨a, c, rfl, _⟩ := own_shape q1
  have s1 := g1.size
  exact ⟨_, _, _, rfl, _, l, rfl, q1, q2, q3, (fun b hb => by have := q4 b hb; omega), g1.non.trans g2⟩
end Go.Proofs
