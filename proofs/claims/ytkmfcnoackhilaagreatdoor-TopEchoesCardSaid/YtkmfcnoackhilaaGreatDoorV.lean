/-
Ranges over functions: the engine's part. No condition.
-/
import Derived.Test.YtkmfcnoackhilaaGreatDoorG
import Derived.RangeFuncSeq
import Derived.RangeFuncRecord
import Derived.RangeFuncLeaves
set_option linter.unusedVariables false
set_option linter.unusedSimpArgs false
set_option linter.unusedVariables false
set_option linter.unusedSimpArgs false
/- A range over a function that hands out known values, one after the other. -/
namespace Go.Proofs
open Go Go.X Go.RowKit
variable {P : Program}

/-- Codes, one after the other, each left at its end. -/
def preX (D : DrawX) (P : Program) (n : Nat) : List Code → Env → World → (Env → World → Prop) → Prop
  | [], ρ, w, K => K ρ w
  | c :: cs, ρ, w, K => codeX D P n c ρ w fun e ρ' w' => match e with
    | .normal => preX D P n cs ρ' w' K
    | _ => False
def nest : List Code → Code → Code
  | [], z => z
  | c :: cs, z => .seq c (nest cs z)
theorem pre_sound {D : DrawX} (hD : D.Ok P) {n : Nat} {z : Code} {Q : Exit → Act → World → Prop} : ∀ {cs : List Code} {ρ : Env} {w : World} {K : Env → World → Prop}, preX D P n cs ρ w K → (∀ ρ' w', K ρ' w' → z.wp P Q (act n ρ') w') → (nest cs z).wp P Q (act n ρ) w := by
  intro cs
  induction cs with
  | nil => intro ρ w K h hz; exact hz _ _ h
  | cons c cs ih =>
    intro ρ w K h hz
    refine wp_seq (codeX_sound hD h fun e ρ' w' hk _ => ?_)
    cases e with
    | normal => exact ih hk hz
    | _ => exact hk.elim
def cA : Code → Code | .seq a _ => a | c => c
def cB : Code → Code | .seq _ b => b | c => c
def cI : Code → Code | .block _ c => c | c => c
def cR : Code → Code | .rangeFunc _ _ _ b => b | c => c
def cG : Code → Code | .rangeFunc _ _ a _ => a | c => c
def body! (f : Func) : Code := f.body.getD .skip

/-- A block that was made no sooner than at n, and is no cells. -/
def NC (n : Nat) (W : World) (j : Nat) : Prop := n ≤ j ∧ ∃ o : Obj, W.heap[j]? = some o ∧ o.isCells = false
theorem nc_cells {n j : Nat} {W : World} {c : Array Value} {T : TypeId} {f : Nat × Nat} (h : blk W j = some (.cells c T f)) : ¬ NC n W j := by
  rintro ⟨_, o, ho, hc⟩
  rw [show W.heap[j]? = some (.cells c T f) from h] at ho
  cases ho; cases hc
theorem chg_putObj (W : World) (l : Nat) (o : Obj) : Chg (In [l]) W (W.putObj l o) := by
  have h := grownBy_putObj' W l o
  exact ⟨h.os, h.tape, h.output, h.size, fun k hk hn => h.block k hk fun e => hn (by cases e; exact in_head _ _)⟩

/-- The function hands the values xs to yield, one after the other, whatever yield does above n₀. -/
def IterK (P : Program) (gf : Nat) (bd : Array Value) (xs : List Value) (n₀ : Nat) (w : World) : Prop :=
  ∀ (l : Nat) (J : Nat → World → Prop) (W : World), Below n₀ w W →
    (∀ k (hk : k < xs.length) W1, J k W1 → YieldAt Fence.wide 0 P l #[xs[k]] W1 fun e W' => e = .returned (.bool true) ∧ J (k + 1) W' ∧ Below n₀ W1 W') →
    J 0 W → CallsIn Fence.wide 0 P gf (bd ++ #[.func (.yield l) #[] #[]]) W fun e W' => (∃ v, e = .returned v) ∧ J xs.length W'

theorem rangeK {g : Operand} {p : Tmp} {asg body : Code} {Q : Exit → Act → World → Prop} {a : Act} {w : World} {gf : Nat} {bd : Array Value} (hg : a.eval g = .func (.func gf) bd #[])
    (eg : ∀ args w, (callFunc gf args).run P w = .ok (.enter gf args) w) (xs : List Value) (n₀ : Nat) (hn₀ : n₀ ≤ w.heap.size) (hit : IterK P gf bd xs n₀ w)
    (I : Nat → World → Prop) (hI : ∀ k W W', I k W → Chg (NC w.heap.size W) W W' → I k W') (h0 : I 0 w) (a₁ : Value → Act)
    (hassign : ∀ (l : Nat) (x : Value) (W : World) (K : Act → World → Prop), K (a₁ x) W → asg.wpIn (RF l) 0 P (Exit.then K fun _ _ _ => False) ⟨a.tmps.setIfInBounds p x, []⟩ W)
    (hbody : ∀ (l k : Nat) (hk : k < xs.length) (W : World), I k W → body.wpIn (RF l) 0 P (fun e _ W' => e = .normal ∧ KeepsOthers W W' ∧ Below n₀ W W' ∧ I (k + 1) W') (a₁ xs[k]) W)
    (hdone : ∀ (D : Nat) (W : World), w.heap.size ≤ D → I xs.length W → W.heap[D]? = some (.deferred (some [])) → Q .normal { a with defers := { target := .collected D, args := #[] } :: a.defers } W) :
    (Code.rangeFunc g #[p] asg body).wp P Q a w := by
  refine (wpIn_wide (n := 0)).1 (wpIn_rangeFunc ?_)
  intro fn hfn
  obtain ⟨rec, hrec⟩ : ∃ rec : LoopState → Option Code → Loop, rec = fun st pe => { state := st, pending := pe, fn, tmps := a.tmps, params := #[p], assign := asg, body, defers := w.heap.size } := ⟨_, rfl⟩
  obtain ⟨W1, hW1⟩ : ∃ W1, (w.alloc (.deferred (some []))).alloc (.loop (rec .ready none)) = W1 := ⟨_, rfl⟩
  have hL1 : W1.heap[w.heap.size + 1]? = some (.loop (rec .ready none)) := by
    rw [← hW1]; have := World.alloc_heap_new (w.alloc (.deferred (some []))) (.loop (rec .ready none)); rwa [World.size_alloc] at this
  have hK1 : W1.heap[w.heap.size]? = some (.deferred (some [])) := by
    rw [← hW1]; exact (Below.heap_alloc _ _ _ (by simp)).trans (World.alloc_heap_new w _)
  have hI1 : I 0 W1 := by
    rw [← hW1]
    exact hI _ _ _ (hI _ _ _ h0 ((Chg.refl _ _).alloc _)) ((Chg.refl _ _).alloc _)
  have hb1 : Below n₀ w W1 := by
    rw [← hW1]; exact ((((Below.refl _ w).alloc (Nat.le_refl _) _).alloc (by simp) _).mono hn₀)
  have hIput : ∀ {k l : Nat} {W : World} {o : Obj} (o' : Obj), I k W → w.heap.size ≤ l → W.heap[l]? = some o → o.isCells = false → I k (W.putObj l o') := fun {k l W o} o' hi hl ho hc =>
    hI _ _ _ hi ((chg_putObj W l o').mono fun j _ hj => by
      unfold In at hj; rw [List.mem_singleton] at hj; subst hj; exact ⟨hl, o, ho, hc⟩)
  have hbput : ∀ {l : Nat} {W : World} {o : Obj} (o' : Obj), w.heap.size ≤ l → W.heap[l]? = some o → Below n₀ W (W.putObj l o') := fun {l W o} o' hl ho =>
    (Below.refl n₀ W).grown (grownBy_putObj' W l o') (by have := (Array.getElem?_eq_some_iff.1 ho).1; omega) (fun k e => by cases e; omega)
  refine ⟨w.heap.size + 1, [{ target := .collected w.heap.size, args := #[] }], W1, { target := .fn (.func gf) #[], args := bd ++ #[.func (.yield (w.heap.size + 1)) #[] #[]] }, W1, gf,
    bd ++ #[.func (.yield (w.heap.size + 1)) #[] #[]], W1, ?_, ?_, ?_, ?_, fun h => Bool.noConfusion (show false = true from h), ?_⟩
  · rw [← hW1, hrec]; exact run_enterLoop_outer _ _ _ _ _
  · simp only [resolve, hg]
    simp [go_sem]
  · intro f' hf'; exact trivial
  · simp [invoke, go_sem, eg]
  · refine (hit (w.heap.size + 1)
      (fun k W => I k W ∧ W.heap[w.heap.size + 1]? = some (.loop (rec .ready none)) ∧ W.heap[w.heap.size]? = some (.deferred (some [])))
      W1 hb1 ?_ ⟨hI1, hL1, hK1⟩).mono ?_
    · rintro k hk W ⟨hi, hl, hd⟩
      have hlt : w.heap.size + 1 < W.heap.size := (Array.getElem?_eq_some_iff.1 hl).1
      have hy := run_yield (P := P) (args := #[xs[k]]) hl (by rw [hrec]; rfl)
      rw [hrec] at hy
      have hy' : (Instr.yield (w.heap.size + 1) #[xs[k]]).run P W = .ok (.round (w.heap.size + 1) fn (a.tmps.setIfInBounds p xs[k]) asg body) W := by rw [hy]; simp
      refine ⟨fn, a.tmps.setIfInBounds p xs[k], asg, body, hy', roundIn_of_wpIn hfn ?_⟩
      refine hassign (w.heap.size + 1) xs[k] W _ ?_
      refine ⟨_, run_beginRound hl (by rw [hrec]), ?_⟩
      have hl2 : (W.putObj (w.heap.size + 1) (.loop { rec .ready none with state := .busy })).heap[w.heap.size + 1]? = some (.loop { rec .ready none with state := .busy }) := World.putObj_heap_same hlt
      have hd2 : (W.putObj (w.heap.size + 1) (.loop { rec .ready none with state := .busy })).heap[w.heap.size]? = some (.deferred (some [])) := (World.putObj_heap_other (by omega)).trans hd
      have hb2 : Below n₀ W (W.putObj (w.heap.size + 1) (.loop { rec .ready none with state := .busy })) := hbput _ (by omega) hl
      refine wpIn_mono (hbody _ k hk _ (hIput _ hi (by omega) hl rfl)) ?_
      rintro e a3 W3 ⟨rfl, hk3, hb3, hi3⟩
      have hl3 := hk3.same _ _ hl2 rfl
      have hr := run_endRound (P := P) none hl3
      rw [hrec] at hr hl3
      refine ⟨_, _, hr, rfl, ⟨hIput _ hi3 (by omega) hl3 rfl, ?_, (World.putObj_heap_other (by omega)).trans (hk3.same _ _ hd2 rfl)⟩, (hb2.trans hb3).trans (hbput _ (by omega) hl3)⟩
      rw [hrec]; exact World.putObj_heap_same (Array.getElem?_eq_some_iff.1 hl3).1
    · rintro e W2 ⟨⟨v, rfl⟩, hi, hl, hd⟩
      refine ⟨none, _, by have := run_endLoop (P := P) hl (by rw [hrec]; simp); rw [hrec] at this; exact this, ?_⟩
      exact hdone _ _ (Nat.le_refl _) (hIput _ hi (by omega) hl rfl) ((World.putObj_heap_other (by omega)).trans hd)

theorem keeps_of {F : Nat → Prop} {W W' : World} (h : Chg F W W') (hF : ∀ k, F k → k < W.heap.size → ∃ c T f, blk W k = some (.cells c T f)) : KeepsOthers W W' := by
  refine ⟨h.size, fun k o hk hc => h.get hk fun hn => ?_⟩
  obtain ⟨c, T, f, hb⟩ := hF k hn (Array.getElem?_eq_some_iff.1 hk).1
  rw [show blk W k = some o from hk] at hb
  cases hb; cases hc

theorem act_lt {n : Nat} {ρ ρ' : Env} (h : ∀ t, t < n → ρ.get t = ρ'.get t) : act n ρ = act n ρ' := by
  unfold act
  rw [List.map_congr_left fun t ht => h t (List.mem_range.1 ht)]

/-- The slots of an environment, all but some of them forgotten. -/
theorem gen_lt {n : Nat} {ρ : Env} {ks : List Nat} {vs : List Value} (h : ∀ t v, lookupN t ks vs = some v → ρ.get t = v) : ∀ t, t < n → (Env.gen (Env.init []) (List.range n) ks vs ρ.get).get t = ρ.get t := by
  intro t ht
  show (match lookupN t ks vs with | some v => v | none => bif (List.range n).any (Nat.beq t) then ρ.get t else (Env.init []).get t) = ρ.get t
  cases hl : lookupN t ks vs with
  | some v => exact (h t v hl).symm
  | none =>
    simp only []
    rw [show (List.range n).any (Nat.beq t) = true from any_beq.2 (List.mem_range.2 ht)]; rfl

theorem pre_sound2 {D : DrawX} (hD : D.Ok P) {n : Nat} {c z post : Code} {Q : Exit → Act → World → Prop} : ∀ {cs : List Code} {ρ : Env} {w : World} {K : Env → World → Prop}, preX D P n (cs ++ [c]) ρ w K → (∀ ρ' w', K ρ' w' → z.wp P (Exit.then (post.wp P Q) Q) (act n ρ') w') → (nest cs (.seq (.seq c z) post)).wp P Q (act n ρ) w := by
  intro cs
  induction cs with
  | nil =>
    intro ρ w K h hz
    refine wp_seq (wp_seq (codeX_sound hD h fun e ρ' w' hk _ => ?_))
    cases e with
    | normal => exact hz _ _ hk
    | _ => exact hk.elim
  | cons c cs ih =>
    intro ρ w K h hz
    refine wp_seq (codeX_sound hD h fun e ρ' w' hk _ => ?_)
    cases e with
    | normal => exact ih hk hz
    | _ => exact hk.elim

theorem range_code {effs : List Nat} (hm : P.follows .mixedOrders = true) {n p dd i : Nat} {g : Operand} {asg body post : Code} {Q : Exit → Act → World → Prop} {ρ : Env} {w : World} {gf : Nat} {bd : Array Value} (hp : p < n) (hg : ev n ρ g = .func (.func gf) bd #[])
    (eg : ∀ args w, (callFunc gf args).run P w = .ok (.enter gf args) w) (xs : List Value) (n₀ : Nat) (hn₀ : n₀ ≤ w.heap.size) (hit : IterK P gf bd xs n₀ w)
    (I : Nat → World → Prop) (hI : ∀ k W W', I k W → Chg (NC w.heap.size W) W W' → I k W') (h0 : I 0 w) (ρ0 : Env) (hρ : ∀ t, t < n → ρ0.get t = ρ.get t) (hd1 : noDefer asg = true) (hd2 : noDefer body = true)
    (hasg : ∀ (x : Value) (W : World) (K : Exit → Env → World → Prop), K .normal (.set (.set ρ0 p x) dd x) W → codeX (drawX effs) P n asg (.set ρ0 p x) W K)
    (hbody : ∀ (k : Nat) (hk : k < xs.length) (W : World), I k W → codeX (drawX effs) P n body (.set (.set ρ0 p xs[k]) dd xs[k]) W fun e _ W' => match e with | .normal => KeepsOthers W W' ∧ Below n₀ W W' ∧ I (k + 1) W' | _ => False)
    (hpost : ∀ (D : Nat) (W : World), w.heap.size ≤ D → I xs.length W → W.heap[D]? = some (.deferred (some [])) → post.wp P Q { act n ρ with defers := [{ target := .collected D, args := #[] }] } W) :
    (Code.block i (.rangeFunc g #[p] asg body)).wp P (Exit.then (post.wp P Q) Q) (act n ρ) w := by
  have ha : act n ρ0 = act n ρ := act_lt hρ
  refine wp_block ?_
  refine rangeK (by rw [act_eval]; exact hg) eg xs n₀ hn₀ hit I hI h0 (fun x => act n (.set (.set ρ0 p x) dd x)) ?_ ?_ ?_
  · intro l x W K hK
    have h1 : (⟨(act n ρ).tmps.setIfInBounds p x, []⟩ : Act) = act n (.set ρ0 p x) := by
      rw [← ha]
      exact act_put n ρ0 (some p) x
    rw [h1]
    refine codeX_in hm hd1 ?_ (hasg x W (fun e ρ' w' => e = .normal ∧ ρ' = .set (.set ρ0 p x) dd x ∧ w' = W) ⟨rfl, rfl, rfl⟩) ?_
    · exact fun _ _ h => h
    · rintro e ρ' w' ⟨rfl, rfl, rfl⟩ _
      exact hK
  · intro l k hk W hi
    refine codeX_in hm hd2 ?_ (hbody k hk W hi) ?_
    · rintro _ _ ⟨h, _⟩; cases h
    · intro e ρ' w' h _
      cases e with
      | normal => exact ⟨rfl, h⟩
      | _ => exact h.elim
  · exact hpost

theorem calls_of_marks {f : FuncId} {fn : Func} {c : Code} {args : Array Value} {w : World} {R : Ending → World → Prop} (hf : P.funcs[f]? = some fn) (hb : fn.body = some c)
    (h : c.wp P (bodyPostM Fence.wide 0 P fn R) { tmps := args ++ Array.replicate (fn.ntmps - args.size) undef, defers := [] } w) : Calls P f args w R :=
  (callsIn_wide (n := 0)).1 (callsIn_of_wp_marks hf hb trivial ((wpIn_wide (n := 0)).2 h))
end Go.Proofs
