/-
The engine: regions that draw their order; blocks of memory. No condition.
-/
import Derived.Test.YtkmfcnoackhilaaGreatDoorC
import Derived.RangeFuncFrom
import Derived.RangeFuncBound
import Derived.RangeFuncCalls
import Derived.OrdersIn
import Derived.TacticsIn
import Derived.Laws.AppendOwn
import Derived.Laws.CopyRow
import Derived.MapKept
set_option linter.unusedVariables false
set_option linter.unusedSimpArgs false
set_option linter.unusedVariables false
/- Regions that draw their order: operations that look at what stood before, and calls that leave it alone, in any order; then the rest in the order of the text. -/
namespace Go.X
open Go Go.RowKit
variable {P : Program}

/-- What stays true as memory grows. -/
def Grows (C : World → Prop) : Prop := ∀ w w', C w → Below w.heap.size w w' → C w'

/-- In each world with C, the operation comes to a value and a world with Post, and what was there is as it was. -/
def Stp (P : Program) (o : Oper) (a : Act) (C : World → Prop) (Post : Value → World → Prop) : Prop :=
  ∀ w, C w → vwp P o a w fun v w' => Below w.heap.size w w' ∧ Post v w'

/-- A value, and nothing else. -/
def Pur (P : Program) (o : Oper) (a : Act) (v : Value) : Prop := ∀ w, (execOp a.eval o).run P w = .ok (.value v) w ∨ ((execOp a.eval o).run P w = .ok .skip w ∧ v = undef)
theorem Pur.v {o : Oper} {a : Act} {v : Value} (h : Pur P o a v) (w : World) : vwp P o a w fun v' w' => v' = v ∧ w' = w := by
  unfold vwp
  rcases h w with h' | ⟨h', e⟩ <;> rw [h']
  · exact ⟨rfl, rfl⟩
  · exact ⟨e.symm, rfl⟩
theorem Pur.inj {o : Oper} {a : Act} {v u : Value} (h : Pur P o a v) (k : Pur P o a u) : v = u := by
  rcases h default with h' | ⟨h', e⟩ <;> rcases k default with k' | ⟨k', e'⟩ <;> rw [h'] at k'
  · injection k' with k' _; injection k'
  · injection k' with k' _; cases k'
  · injection k' with k' _; cases k'
  · rw [e, e']

theorem blkAllocNew (w : World) (o : Obj) : blk (w.alloc o) w.heap.size = some o := by
  show (w.heap.push o)[w.heap.size]? = _
  simp
/-- The operation makes a block, and that is all. -/
def Alc (P : Program) (o : Oper) (a : Act) (ob : Obj) : Prop := ∀ w, (execOp a.eval o).run P w = .ok (.value (.pointer (some ⟨w.heap.size, 0, none⟩))) (w.alloc ob)
theorem Alc.same {o : Oper} {a a' : Act} {ob : Obj} (he : execOp a'.eval o = execOp a.eval o) (h : Alc P o a ob) : Alc P o a' ob := fun w => by rw [he]; exact h w
theorem Alc.v {o : Oper} {a : Act} {ob : Obj} (h : Alc P o a ob) (w : World) : vwp P o a w fun v w' => v = .pointer (some ⟨w.heap.size, 0, none⟩) ∧ w' = w.alloc ob := by
  unfold vwp; rw [h w]; exact ⟨rfl, rfl⟩
/-- A block that was made no sooner than at n. -/
def AtO (n k : Nat) (ob : Obj) (w : World) : Prop := n ≤ k ∧ blk w k = some ob
theorem AtO.grows (n k : Nat) (ob : Obj) : Grows (AtO n k ob) := by
  rintro w w' ⟨h1, h2⟩ hb
  refine ⟨h1, ?_⟩
  unfold blk at *
  rw [hb.block k (Array.getElem?_eq_some_iff.1 h2).1]; exact h2
theorem Grows.andAt {C : World → Prop} (h : Grows C) (n k : Nat) (ob : Obj) : Grows fun w => C w ∧ AtO n k ob w := fun w w' hw hb => ⟨h w w' hw.1 hb, AtO.grows n k ob w w' hw.2 hb⟩

section
variable (P) (ops : Array Oper) (cl : Nat → Nat) (F : Act → (World → Prop) → Prop) (n0 : Nat)
/-- What may come up in any order: 0 pure operations, 1 operations that look at what stood before, 2 operations that make memory, 3 operations that change it. -/
inductive Flo : List Nat → Act → (World → Prop) → (World → Prop) → Prop
  | nil {a C S} : F a C → Flo [] a C S
  | skip {i rest a C S o} : ops[i]? = some o → Region.wanted o (yielded ops a.tmps) = false → Flo rest (a.put o.dst undef) C S → Flo (i :: rest) a C S
  | pur {i rest a C S o v} : ops[i]? = some o → Region.wanted o (yielded ops a.tmps) = true → Pur P o a v → Flo rest (a.put o.dst v) C S → Flo (i :: rest) a C S
  | flt {i rest a C S o v} (L : World → Prop) : ops[i]? = some o → cl i = 4 → Region.wanted o (yielded ops a.tmps) = true → (∀ w, L w → vwp P o a w fun v' w' => v' = v ∧ w' = w) → (∀ w, C w → L w) →
      Flo rest (a.put o.dst v) C (fun w => S w ∧ L w) → Flo (i :: rest) a C S
  | val {i rest a C S o v} : ops[i]? = some o → cl i = 1 → Grows C → Region.wanted o (yielded ops a.tmps) = true → Stp P o a C (fun v' _ => v' = v) → Flo rest (a.put o.dst v) C S → Flo (i :: rest) a C S
  | free {i rest a C S o} (Post : Value → World → Prop) (Sh : Value → Prop) : ops[i]? = some o → cl i = 2 → Grows C → Region.wanted o (yielded ops a.tmps) = true → (∀ v, Grows (Post v)) →
      Stp P o a C (fun v w => Sh v ∧ Post v w) → (∀ v, Sh v → Flo rest (a.put o.dst v) (fun w => C w ∧ Post v w) S) → Flo (i :: rest) a C S
  | eff {i rest a C S o} (G : Value → World → Prop) : ops[i]? = some o → cl i = 3 → Region.wanted o (yielded ops a.tmps) = true → (∀ w, C w → vwp P o a w G) → (∀ v w', G v w' → S w') → (∀ v w', G v w' → Flo rest (a.put o.dst v) (fun x => x = w') S) → Flo (i :: rest) a C S
  | alc {i rest a C S o} (ob : Obj) : ops[i]? = some o → cl i = 5 → Grows C → (∀ w, C w → n0 ≤ w.heap.size) → Region.wanted o (yielded ops a.tmps) = true → Alc P o a ob →
      (∀ k : Nat, Flo rest (a.put o.dst (.pointer (some ⟨k, 0, none⟩))) (fun w => C w ∧ AtO n0 k ob w) S) → Flo (i :: rest) a C S
end

/-- What is known of an operation that may come up. -/
inductive Tk (P : Program) (ops : Array Oper) (cl : Nat → Nat) (F : Act → (World → Prop) → Prop) (n0 : Nat) (i : Nat) (o : Oper) (rest : List Nat) (a : Act) (C S : World → Prop) : Prop
  | skip : Region.wanted o (yielded ops a.tmps) = false → Flo P ops cl F n0 rest (a.put o.dst undef) C S → Tk P ops cl F n0 i o rest a C S
  | pur (v : Value) : Region.wanted o (yielded ops a.tmps) = true → Pur P o a v → Flo P ops cl F n0 rest (a.put o.dst v) C S → Tk P ops cl F n0 i o rest a C S
  | flt (v : Value) (L : World → Prop) : cl i = 4 → Region.wanted o (yielded ops a.tmps) = true → (∀ w, L w → vwp P o a w fun v' w' => v' = v ∧ w' = w) → (∀ w, C w → L w) → Flo P ops cl F n0 rest (a.put o.dst v) C (fun w => S w ∧ L w) → Tk P ops cl F n0 i o rest a C S
  | val (v : Value) : cl i = 1 → Grows C → Region.wanted o (yielded ops a.tmps) = true → Stp P o a C (fun v' _ => v' = v) → Flo P ops cl F n0 rest (a.put o.dst v) C S → Tk P ops cl F n0 i o rest a C S
  | free (Post : Value → World → Prop) (Sh : Value → Prop) : cl i = 2 → Grows C → Region.wanted o (yielded ops a.tmps) = true → (∀ v, Grows (Post v)) → Stp P o a C (fun v w => Sh v ∧ Post v w) →
      (∀ v, Sh v → Flo P ops cl F n0 rest (a.put o.dst v) (fun w => C w ∧ Post v w) S) → Tk P ops cl F n0 i o rest a C S
  | eff (G : Value → World → Prop) : cl i = 3 → Region.wanted o (yielded ops a.tmps) = true → (∀ w, C w → vwp P o a w G) → (∀ v w', G v w' → S w') → (∀ v w', G v w' → Flo P ops cl F n0 rest (a.put o.dst v) (fun x => x = w') S) → Tk P ops cl F n0 i o rest a C S
  | alc (ob : Obj) : cl i = 5 → Grows C → (∀ w, C w → n0 ≤ w.heap.size) → Region.wanted o (yielded ops a.tmps) = true → Alc P o a ob →
      (∀ k : Nat, Flo P ops cl F n0 rest (a.put o.dst (.pointer (some ⟨k, 0, none⟩))) (fun w => C w ∧ AtO n0 k ob w) S) → Tk P ops cl F n0 i o rest a C S

/-- What is demanded behind an operation that changes memory matters as a truth alone. -/
theorem Flo.dem {ops : Array Oper} {cl : Nat → Nat} {F : Act → (World → Prop) → Prop} {n0 : Nat} {π : List Nat} {a : Act} {C S S' : World → Prop} (h : Flo P ops cl F n0 π a C S) (hs : ∀ w, S w → S' w) : Flo P ops cl F n0 π a C S' := by
  induction h generalizing S' with
  | nil h => exact .nil h
  | skip h1 h2 _ ih => exact .skip h1 h2 (ih hs)
  | pur h1 h2 h3 _ ih => exact .pur h1 h2 h3 (ih hs)
  | flt L h1 h2 h3 h4 h5 _ ih => exact .flt L h1 h2 h3 h4 h5 (ih fun w h => ⟨hs w h.1, h.2⟩)
  | val h1 h2 h3 h4 h5 _ ih => exact .val h1 h2 h3 h4 h5 (ih hs)
  | free Post Sh h1 h2 h3 h4 h5 h6 _ ih => exact .free Post Sh h1 h2 h3 h4 h5 h6 fun v hv => ih v hv hs
  | eff G h1 h2 h3 h4 h5 _ ih => exact .eff G h1 h2 h3 h4 (fun v w' hg => hs _ (h5 v w' hg)) fun v w' hg => ih v w' hg hs
  | alc ob h1 h2 h3 h4 h5 h6 _ ih => exact .alc ob h1 h2 h3 h4 h5 h6 fun k => ih k hs

theorem Stp.weak {o : Oper} {a : Act} {C C' : World → Prop} {Post : Value → World → Prop} (h : Stp P o a C Post) (hc : ∀ w, C' w → C w) : Stp P o a C' Post := fun w hw => h w (hc w hw)
theorem Stp.same {o : Oper} {a a' : Act} {C : World → Prop} {Post : Value → World → Prop} (he : execOp a'.eval o = execOp a.eval o) (h : Stp P o a C Post) : Stp P o a' C Post :=
  fun w hw => vwp_congr he (h w hw)
theorem Pur.same {o : Oper} {a a' : Act} {v : Value} (he : execOp a'.eval o = execOp a.eval o) (h : Pur P o a v) : Pur P o a' v := fun w => by rw [he]; exact h w

theorem Flo.take_alc {ops : Array Oper} {cl : Nat → Nat} {F : Act → (World → Prop) → Prop} {n0 : Nat} {i j : Nat} {oi oj : Oper} {rest : List Nat} {a : Act} {C S : World → Prop} {ob : Obj} (hi5 : cl i = 5) (ho : ops[j]? = some oj) (hc5 : cl j = 5) (hg : Grows C) (hl : ∀ w, C w → n0 ≤ w.heap.size)
    (hw : Region.wanted oj (yielded ops a.tmps) = true) (hsj : Alc P oj a ob)
    (hwk : ∀ k : Nat, Region.wanted oi (yielded ops (a.put oj.dst (.pointer (some ⟨k, 0, none⟩))).tmps) = Region.wanted oi (yielded ops a.tmps))
    (hek : ∀ k : Nat, execOp a.eval oi = execOp (a.put oj.dst (.pointer (some ⟨k, 0, none⟩))).eval oi)
    (hwj : ∀ v, Region.wanted oj (yielded ops (a.put oi.dst v).tmps) = true) (hej : ∀ v, execOp (a.put oi.dst v).eval oj = execOp a.eval oj)
    (hcm : ∀ v u, (a.put oi.dst v).put oj.dst u = (a.put oj.dst u).put oi.dst v)
    (hall : ∀ k : Nat, Tk P ops cl F n0 i oi rest (a.put oj.dst (.pointer (some ⟨k, 0, none⟩))) (fun w => C w ∧ AtO n0 k ob w) S) : Tk P ops cl F n0 i oi (j :: rest) a C S := by
  have h0 := hall 0
  cases h0 with
  | skip hw0 _ =>
    rw [hwk] at hw0
    refine .skip hw0 (.alc ob ho hc5 hg hl (hwj _) (hsj.same (hej _)) fun k => ?_)
    rw [hcm]
    cases hall k with
    | skip _ h => exact h
    | pur v hw' _ _ => rw [hwk, hw0] at hw'; cases hw'
    | flt v L _ hw' _ _ _ => rw [hwk, hw0] at hw'; cases hw'
    | val v _ _ hw' _ _ => rw [hwk, hw0] at hw'; cases hw'
    | free Post Sh _ _ hw' _ _ _ => rw [hwk, hw0] at hw'; cases hw'
    | eff G _ hw' _ _ _ => rw [hwk, hw0] at hw'; cases hw'
    | alc ob' _ _ _ hw' _ _ => rw [hwk, hw0] at hw'; cases hw'
  | pur v hw0 hs0 _ =>
    rw [hwk] at hw0
    have hs : Pur P oi a v := hs0.same (hek 0)
    refine .pur v hw0 hs (.alc ob ho hc5 hg hl (hwj _) (hsj.same (hej _)) fun k => ?_)
    rw [hcm]
    cases hall k with
    | skip hw' _ => rw [hwk, hw0] at hw'; cases hw'
    | pur v' _ hs' h => rw [← (hs'.same (hek k)).inj hs]; exact h
    | flt v L h4 _ _ _ _ => omega
    | val v h1 _ _ _ _ => omega
    | free Post Sh h2 _ _ _ _ _ => omega
    | eff G h3 _ _ _ _ => omega
    | alc ob' _ _ _ _ hs' h =>
      have e1 := hs'.same (hek k) default
      rcases hs default with e | ⟨e, _⟩ <;> rw [e] at e1
      · injection e1 with _ e2
        have := congrArg (fun w => w.heap.size) e2
        simp at this
      · injection e1 with e2 _; cases e2
  | flt v L h4 _ _ _ _ => omega
  | val v h1 _ _ _ _ => omega
  | free Post Sh h2 _ _ _ _ _ => omega
  | eff G h3 _ _ _ _ => omega
  | alc ob0 h5 hg0 hl0 hw0 hs0 _ =>
    rw [hwk] at hw0
    have hs : Alc P oi a ob0 := hs0.same (hek 0)
    refine .alc ob0 h5 hg hl hw0 hs fun k' => .alc ob ho hc5 (hg.andAt _ _ _) (fun w hw => hl w hw.1) (hwj _) (hsj.same (hej _)) fun k => ?_
    rw [hcm]
    have fin : ∀ {ob' : Obj}, Alc P oi a ob' → ob' = ob0 := fun {ob'} h => by
      have e1 := h default
      rw [hs default] at e1
      injection e1 with _ e2
      have e3 := blkAllocNew (default : World) ob'
      rw [← e2, blkAllocNew] at e3
      exact (Option.some.inj e3).symm
    have hC : (fun w => (C w ∧ AtO n0 k' ob0 w) ∧ AtO n0 k ob w) = fun w => (C w ∧ AtO n0 k ob w) ∧ AtO n0 k' ob0 w := by
      funext w; exact propext and_right_comm
    rw [hC]
    cases hall k with
    | skip hw' _ => rw [hwk, hw0] at hw'; cases hw'
    | pur v _ hs' _ =>
      have e1 := hs default
      rcases hs'.same (hek k) default with e | ⟨e, _⟩ <;> rw [e] at e1
      · injection e1 with _ e2
        have := congrArg (fun w => w.heap.size) e2
        simp at this
      · injection e1 with e2 _; cases e2
    | flt v L h4 _ _ _ _ => omega
    | val v h1 _ _ _ _ => omega
    | free Post Sh h2 _ _ _ _ _ => omega
    | eff G h3 _ _ _ _ => omega
    | alc ob' _ _ _ _ hs' h => rw [← fin (hs'.same (hek k))]; exact h k'

/-- An operation may come first if all that come before it as they stand are apart from it, and leave memory as it is; and are pure, if it changes memory. -/
theorem Flo.take {ops : Array Oper} {cl : Nat → Nat} {F : Act → (World → Prop) → Prop} {n0 : Nat} {i : Nat} {oi : Oper} (hi : ops[i]? = some oi) (hsel : ∀ (j : Nat) (o : Oper) cs b, ops[j]? = some o → o.op ≠ .select cs b) :
    ∀ {π : List Nat} {a : Act} {C S : World → Prop}, i ∈ π → Flo P ops cl F n0 π a C S →
      (∀ j, j ∈ π.takeWhile (· != i) → ∀ oj, ops[j]? = some oj → oi.apart ops oj = true ∧ (cl j < 2 ∨ cl j = 4 ∨ (cl j = 5 ∧ cl i = 5)) ∧ (cl i = 3 → cl j = 0 ∨ cl j = 4)) → Tk P ops cl F n0 i oi (π.erase i) a C S := by
  intro π
  induction π with
  | nil => intro a C S hm; cases hm
  | cons j rest ih =>
    intro a C S hm h hb
    by_cases hji : j = i
    · subst hji
      rw [List.erase_cons_head]
      cases h with
      | skip ho hw h => cases ho.symm.trans hi; exact .skip hw h
      | pur ho hw hs h => cases ho.symm.trans hi; exact .pur _ hw hs h
      | flt L ho h4 hw hs hc h => cases ho.symm.trans hi; exact .flt _ L h4 hw hs hc h
      | val ho h1 hg hw hs h => cases ho.symm.trans hi; exact .val _ h1 hg hw hs h
      | free Post Sh ho hf hg hw hp hs h => cases ho.symm.trans hi; exact .free Post Sh hf hg hw hp hs h
      | eff G ho hc hw hv hd h => cases ho.symm.trans hi; exact .eff G hc hw hv hd h
      | alc ob ho h5 hg hl hw hs h => cases ho.symm.trans hi; exact .alc ob h5 hg hl hw hs h
    · have hm' : i ∈ rest := by cases hm with | head => exact absurd rfl hji | tail _ h => exact h
      have hne : (j != i) = true := by simp [hji]
      have htw : (j :: rest).takeWhile (· != i) = j :: rest.takeWhile (· != i) := by rw [List.takeWhile_cons, if_pos hne]
      have hb' : ∀ k, k ∈ rest.takeWhile (· != i) → ∀ ok, ops[k]? = some ok → oi.apart ops ok = true ∧ (cl k < 2 ∨ cl k = 4 ∨ (cl k = 5 ∧ cl i = 5)) ∧ (cl i = 3 → cl k = 0 ∨ cl k = 4) := fun k hk => hb k (by rw [htw]; exact List.mem_cons_of_mem _ hk)
      have her : (j :: rest).erase i = j :: rest.erase i := by rw [List.erase_cons_tail]; simpa using hji
      rw [her]
      cases h with
      | @skip _ _ _ _ _ oj ho hw h =>
        obtain ⟨hap, _, _⟩ := hb j (by rw [htw]; exact List.mem_cons_self) oj ho
        obtain ⟨h1, h2, h3⟩ := Oper.apart_spec hap
        have hwi : Region.wanted oi (yielded ops (a.put oj.dst undef).tmps) = Region.wanted oi (yielded ops a.tmps) := wanted_put oi a oj.dst undef h3
        have hei : execOp a.eval oi = execOp (a.put oj.dst undef).eval oi := (execOp_put oi (fun cs b => hsel i oi cs b hi) a oj.dst undef h3).symm
        have back : ∀ (v : Value) (C' S' : World → Prop), Flo P ops cl F n0 (rest.erase i) ((a.put oj.dst undef).put oi.dst v) C' S' → Flo P ops cl F n0 (j :: rest.erase i) (a.put oi.dst v) C' S' := fun v C' S' h' =>
          .skip ho (by rw [wanted_put oj a oi.dst v h1]; exact hw) (by rw [Act.put_comm a v undef h2]; exact h')
        cases ih hm' h hb' with
        | skip hw' h' => exact .skip (hwi ▸ hw') (back _ _ _ h')
        | pur v hw' hs h' => exact .pur v (hwi ▸ hw') (hs.same hei) (back _ _ _ h')
        | flt v L hq4 hw' hs hc h' => exact .flt v L hq4 (hwi ▸ hw') (fun w hl => vwp_congr hei (hs w hl)) hc (back _ _ _ h')
        | val v hq1 hg hw' hs h' => exact .val v hq1 hg (hwi ▸ hw') (hs.same hei) (back _ _ _ h')
        | free Post Sh hq2 hg hw' hp hs h' => exact .free Post Sh hq2 hg (hwi ▸ hw') hp (hs.same hei) fun v hv => back _ _ _ (h' v hv)
        | eff G hc hw' hv hd h' => exact .eff G hc (hwi ▸ hw') (fun w hw => vwp_congr hei (hv w hw)) hd fun v w' hG => back _ _ _ (h' v w' hG)
        | alc ob h5 hg hl hw' hs h' => exact .alc ob h5 hg hl (hwi ▸ hw') (hs.same hei) fun k => back _ _ _ (h' k)
      | @pur _ _ _ _ _ oj u ho hw hsj h =>
        obtain ⟨hap, _, _⟩ := hb j (by rw [htw]; exact List.mem_cons_self) oj ho
        obtain ⟨h1, h2, h3⟩ := Oper.apart_spec hap
        have hwi : Region.wanted oi (yielded ops (a.put oj.dst u).tmps) = Region.wanted oi (yielded ops a.tmps) := wanted_put oi a oj.dst u h3
        have hei : execOp a.eval oi = execOp (a.put oj.dst u).eval oi := (execOp_put oi (fun cs b => hsel i oi cs b hi) a oj.dst u h3).symm
        have hej : ∀ v, execOp (a.put oi.dst v).eval oj = execOp a.eval oj := fun v => execOp_put oj (fun cs b => hsel j oj cs b ho) a oi.dst v h1
        have back : ∀ (v : Value) (C' S' : World → Prop), Flo P ops cl F n0 (rest.erase i) ((a.put oj.dst u).put oi.dst v) C' S' → Flo P ops cl F n0 (j :: rest.erase i) (a.put oi.dst v) C' S' := fun v C' S' h' =>
          .pur ho (by rw [wanted_put oj a oi.dst v h1]; exact hw) (hsj.same (hej v)) (by rw [Act.put_comm a v u h2]; exact h')
        cases ih hm' h hb' with
        | skip hw' h' => exact .skip (hwi ▸ hw') (back _ _ _ h')
        | pur v hw' hs h' => exact .pur v (hwi ▸ hw') (hs.same hei) (back _ _ _ h')
        | flt v L hq4 hw' hs hc h' => exact .flt v L hq4 (hwi ▸ hw') (fun w hl => vwp_congr hei (hs w hl)) hc (back _ _ _ h')
        | val v hq1 hg hw' hs h' => exact .val v hq1 hg (hwi ▸ hw') (hs.same hei) (back _ _ _ h')
        | free Post Sh hq2 hg hw' hp hs h' => exact .free Post Sh hq2 hg (hwi ▸ hw') hp (hs.same hei) fun v hv => back _ _ _ (h' v hv)
        | eff G hc hw' hv hd h' => exact .eff G hc (hwi ▸ hw') (fun w hw => vwp_congr hei (hv w hw)) hd fun v w' hG => back _ _ _ (h' v w' hG)
        | alc ob h5 hg hl hw' hs h' => exact .alc ob h5 hg hl (hwi ▸ hw') (hs.same hei) fun k => back _ _ _ (h' k)
      | @flt _ _ _ _ _ oj u L ho hc4 hw hsj hcl h =>
        obtain ⟨hap, _, _⟩ := hb j (by rw [htw]; exact List.mem_cons_self) oj ho
        obtain ⟨h1, h2, h3⟩ := Oper.apart_spec hap
        have hwi : Region.wanted oi (yielded ops (a.put oj.dst u).tmps) = Region.wanted oi (yielded ops a.tmps) := wanted_put oi a oj.dst u h3
        have hei : execOp a.eval oi = execOp (a.put oj.dst u).eval oi := (execOp_put oi (fun cs b => hsel i oi cs b hi) a oj.dst u h3).symm
        have hej : ∀ v, execOp (a.put oi.dst v).eval oj = execOp a.eval oj := fun v => execOp_put oj (fun cs b => hsel j oj cs b ho) a oi.dst v h1
        have back : ∀ (v : Value) (C' S' : World → Prop), (∀ w, C' w → L w) → Flo P ops cl F n0 (rest.erase i) ((a.put oj.dst u).put oi.dst v) C' (fun w => S' w ∧ L w) → Flo P ops cl F n0 (j :: rest.erase i) (a.put oi.dst v) C' S' := fun v C' S' hcc h' =>
          .flt L ho hc4 (by rw [wanted_put oj a oi.dst v h1]; exact hw) (fun w hl => vwp_congr (hej v) (hsj w hl)) hcc (by rw [Act.put_comm a v u h2]; exact h')
        cases ih hm' h hb' with
        | skip hw' h' => exact .skip (hwi ▸ hw') (back _ _ _ hcl h')
        | pur v hw' hs h' => exact .pur v (hwi ▸ hw') (hs.same hei) (back _ _ _ hcl h')
        | flt v L2 hq4 hw' hs hc h' => exact .flt v L2 hq4 (hwi ▸ hw') (fun w hl => vwp_congr hei (hs w hl)) hc (back _ _ _ hcl (h'.dem fun w h => ⟨⟨h.1.1, h.2⟩, h.1.2⟩))
        | val v hq1 hg' hw' hs h' => exact .val v hq1 hg' (hwi ▸ hw') (hs.same hei) (back _ _ _ hcl h')
        | free Post Sh hq2 hg' hw' hp hs h' => exact .free Post Sh hq2 hg' (hwi ▸ hw') hp (hs.same hei) fun v hv => back _ _ _ (fun _ h => hcl _ h.1) (h' v hv)
        | eff G hc hw' hv hd h' => exact .eff G hc (hwi ▸ hw') (fun w hw => vwp_congr hei (hv w hw)) (fun v w' hG => (hd v w' hG).1) fun v w' hG => back _ _ _ (fun x hx => by rw [hx]; exact (hd v w' hG).2) (h' v w' hG)
        | alc ob h5 hg hl hw' hs h' => exact .alc ob h5 hg hl (hwi ▸ hw') (hs.same hei) fun k => back _ _ _ (fun _ h => hcl _ h.1) (h' k)
      | @val _ _ _ _ _ oj u ho hc1 hg hw hsj h =>
        obtain ⟨hap, _, hc3⟩ := hb j (by rw [htw]; exact List.mem_cons_self) oj ho
        obtain ⟨h1, h2, h3⟩ := Oper.apart_spec hap
        have hwi : Region.wanted oi (yielded ops (a.put oj.dst u).tmps) = Region.wanted oi (yielded ops a.tmps) := wanted_put oi a oj.dst u h3
        have hei : execOp a.eval oi = execOp (a.put oj.dst u).eval oi := (execOp_put oi (fun cs b => hsel i oi cs b hi) a oj.dst u h3).symm
        have hej : ∀ v, execOp (a.put oi.dst v).eval oj = execOp a.eval oj := fun v => execOp_put oj (fun cs b => hsel j oj cs b ho) a oi.dst v h1
        have back : ∀ (v : Value) (C' S' : World → Prop), (∀ w, C' w → C w) → Grows C' → Flo P ops cl F n0 (rest.erase i) ((a.put oj.dst u).put oi.dst v) C' S' → Flo P ops cl F n0 (j :: rest.erase i) (a.put oi.dst v) C' S' := fun v C' S' hcc hg' h' =>
          .val ho hc1 hg' (by rw [wanted_put oj a oi.dst v h1]; exact hw) ((hsj.same (hej v)).weak hcc) (by rw [Act.put_comm a v u h2]; exact h')
        cases ih hm' h hb' with
        | skip hw' h' => exact .skip (hwi ▸ hw') (back _ _ _ (fun _ h => h) hg h')
        | pur v hw' hs h' => exact .pur v (hwi ▸ hw') (hs.same hei) (back _ _ _ (fun _ h => h) hg h')
        | flt v L hq4 hw' hs hc h' => exact .flt v L hq4 (hwi ▸ hw') (fun w hl => vwp_congr hei (hs w hl)) hc (back _ _ _ (fun _ h => h) hg h')
        | val v hq1 hg' hw' hs h' => exact .val v hq1 hg' (hwi ▸ hw') (hs.same hei) (back _ _ _ (fun _ h => h) hg h')
        | free Post Sh hq2 hg' hw' hp hs h' =>
          exact .free Post Sh hq2 hg' (hwi ▸ hw') hp (hs.same hei) fun v hv => back _ _ _ (fun _ h => h.1) (fun x y hxy hb => ⟨hg _ _ hxy.1 hb, hp v _ _ hxy.2 hb⟩) (h' v hv)
        | eff G hc _ _ _ _ => exact absurd (hc3 hc) (by omega)
        | alc ob h5 hg' hl hw' hs h' => exact .alc ob h5 hg' hl (hwi ▸ hw') (hs.same hei) fun k => back _ _ _ (fun _ h => h.1) (hg.andAt _ _ _) (h' k)
      | @free _ _ _ _ _ oj Post Sh ho hf =>
        obtain ⟨_, hf', _⟩ := hb j (by rw [htw]; exact List.mem_cons_self) oj ho
        omega
      | @eff _ _ _ _ _ oj G ho hf =>
        obtain ⟨_, hf', _⟩ := hb j (by rw [htw]; exact List.mem_cons_self) oj ho
        omega
      | @alc _ _ _ _ _ oj ob ho hc5 hg hl hw hsj h =>
        obtain ⟨hap, hq, hc3⟩ := hb j (by rw [htw]; exact List.mem_cons_self) oj ho
        have hi5 : cl i = 5 := by omega
        obtain ⟨h1, h2, h3⟩ := Oper.apart_spec hap
        have hej : ∀ v, execOp (a.put oi.dst v).eval oj = execOp a.eval oj := fun v => execOp_put oj (fun cs b => hsel j oj cs b ho) a oi.dst v h1
        have hwi : Region.wanted oi (yielded ops (a.put oj.dst undef).tmps) = Region.wanted oi (yielded ops a.tmps) := wanted_put oi a oj.dst undef h3
        have hall := fun k => ih hm' (h k) hb'
        have hwk : ∀ k, Region.wanted oi (yielded ops (a.put oj.dst (.pointer (some ⟨k, 0, none⟩))).tmps) = Region.wanted oi (yielded ops a.tmps) := fun k => wanted_put oi a oj.dst _ h3
        have hek : ∀ k, execOp a.eval oi = execOp (a.put oj.dst (.pointer (some ⟨k, 0, none⟩))).eval oi := fun k => (execOp_put oi (fun cs b => hsel i oi cs b hi) a oj.dst _ h3).symm
        exact Flo.take_alc hi5 ho hc5 hg hl hw hsj hwk hek (fun v => by rw [wanted_put oj a oi.dst v h1]; exact hw) hej (fun v u => Act.put_comm a v u h2) hall

def depsOf (o : Oper) : List Nat := (o.after.toList.filter (Region.binds .any)).map (·.on)
def closStep (acc : List (List Nat)) (o : Oper) : List (List Nat) := acc ++ [(depsOf o ++ (depsOf o).flatMap fun d => acc.getD d []).eraseDups]
def closL (l : List Oper) : List (List Nat) := l.foldl closStep []

theorem clos_len : ∀ (l : List Oper) (acc : List (List Nat)), (l.foldl closStep acc).length = acc.length + l.length
  | [], acc => rfl
  | o :: l, acc => by rw [List.foldl_cons, clos_len l]; simp [closStep]; omega

theorem clos_keep : ∀ (l : List Oper) (acc : List (List Nat)) (k : Nat), k < acc.length → (l.foldl closStep acc).getD k [] = acc.getD k []
  | [], acc, k, h => rfl
  | o :: l, acc, k, h => by
    rw [List.foldl_cons, clos_keep l _ k (by simp [closStep]; omega)]
    simp [closStep, List.getD, List.getElem?_append, h]

theorem clos_spec : ∀ (l : List Oper) (acc : List (List Nat)) (k : Nat) (o : Oper), acc.length ≤ k → l[k - acc.length]? = some o → ∀ p, p ∈ (l.foldl closStep acc).getD k [] →
    p ∈ depsOf o ∨ ∃ d, d ∈ depsOf o ∧ d < k ∧ p ∈ (l.foldl closStep acc).getD d []
  | [], acc, k, o, h, ho, p, hp => by simp at ho
  | x :: l, acc, k, o, h, ho, p, hp => by
    rw [List.foldl_cons] at hp ⊢
    have hlen : (closStep acc x).length = acc.length + 1 := by simp [closStep]
    by_cases hk : k = acc.length
    · subst hk
      simp at ho
      subst ho
      rw [clos_keep l _ acc.length (by rw [hlen]; omega)] at hp
      have : (closStep acc x).getD acc.length [] = (depsOf x ++ (depsOf x).flatMap fun d => acc.getD d []).eraseDups := by simp [closStep, List.getD]
      rw [this, List.mem_eraseDups, List.mem_append, List.mem_flatMap] at hp
      rcases hp with hp | ⟨d, hd, hp⟩
      · exact .inl hp
      · have hlt : d < acc.length := by
          rcases Nat.lt_or_ge d acc.length with h' | h'
          · exact h'
          · simp [List.getD, List.getElem?_eq_none h'] at hp
        refine .inr ⟨d, hd, hlt, ?_⟩
        rw [clos_keep l _ d (by rw [hlen]; omega)]
        simpa [closStep, List.getD, List.getElem?_append, hlt] using hp
    · have h' : (closStep acc x).length ≤ k := by rw [hlen]; omega
      have ho' : l[k - (closStep acc x).length]? = some o := by
        rw [hlen]
        rw [show k - acc.length = (k - (acc.length + 1)) + 1 by omega] at ho
        simpa using ho
      exact clos_spec l _ k o h' ho' p hp

/-- What a closed set of operations holds with an operation's own waits, it holds with all that these wait for. -/
theorem clos_listed {ops : Array Oper} {m : Nat} {listed : Array Bool} (inv : HeadInv .any ops m listed) : ∀ (k : Nat) (o : Oper), ops[k]? = some o → (∀ e ∈ o.after, Region.binds .any e = true → listed.getD e.on false = true) →
    ∀ p, p ∈ (closL ops.toList).getD k [] → listed.getD p false = true := by
  intro k
  induction k using Nat.strongRecOn with
  | _ k ih =>
    intro o ho hd p hp
    have hdep : ∀ d, d ∈ depsOf o → listed.getD d false = true := by
      intro d hd'
      unfold depsOf at hd'
      obtain ⟨e, he, rfl⟩ := List.mem_map.1 hd'
      obtain ⟨he1, he2⟩ := List.mem_filter.1 he
      exact hd e (by simpa using he1) he2
    rcases clos_spec ops.toList [] k o (Nat.zero_le _) (by simpa using ho) p hp with h | ⟨d, hd', hlt, hp'⟩
    · exact hdep p h
    · have hl := hdep d hd'
      have hds : d < ops.size := by
        rw [← inv.size]
        rcases Nat.lt_or_ge d listed.size with h' | h'
        · exact h'
        · simp [Array.getElem?_eq_none h'] at hl
      obtain ⟨od, hod⟩ : ∃ od, ops[d]? = some od := ⟨ops[d], by simp [hds]⟩
      exact ih d hlt od hod (fun e he hb => inv.closed d od hod hl e he hb) p hp'

def PairR (ops : Array Oper) (cl : Nat → Nat) (p q : Nat) : Prop :=
  ∀ op oq, ops[p]? = some op → ops[q]? = some oq → (p ∈ depsOf oq ∨ oq.apart ops op = true) ∧ (2 ≤ cl p → cl p ≠ 4 → ¬ (cl p = 5 ∧ cl q = 5) → p ∈ (closL ops.toList).getD q []) ∧ (cl q = 3 → cl p ≠ 0 → cl p ≠ 4 → p ∈ (closL ops.toList).getD q [])

theorem pair_before {R : Nat → Nat → Prop} {i j : Nat} : ∀ {π : List Nat}, i ∈ π → π.Pairwise R → j ∈ π.takeWhile (· != i) → R j i := by
  intro π
  induction π with
  | nil => intro h; cases h
  | cons k rest ih =>
    intro hm hp hj
    rw [List.takeWhile_cons] at hj
    split at hj
    · rename_i hne
      have hm' : i ∈ rest := by
        cases hm with
        | head => simp at hne
        | tail _ h => exact h
      rw [List.pairwise_cons] at hp
      cases hj with
      | head => exact hp.1 i hm'
      | tail _ h => exact ih hm' hp.2 h
    · cases hj

theorem flo_any {ops : Array Oper} {cl : Nat → Nat} {F : Act → (World → Prop) → Prop} {n0 : Nat} {Q : Exit → Act → World → Prop}
    (hsel : ∀ (j : Nat) (o : Oper) cs b, ops[j]? = some o → o.op ≠ .select cs b)
    (hedge : ∀ (i : Nat) (o : Oper), ops[i]? = some o → ∀ e ∈ o.after, Region.binds .any e = true → e.on < i)
    (hF : ∀ a C w, F a C → C w → Q .normal a w) :
    ∀ (n : Nat) (π : List Nat) (listed : Array Bool) (a : Act) (C S : World → Prop) (w : World), π.length = n → HeadInv .any ops ops.size listed → (∀ i, i < ops.size → (listed.getD i true = false ↔ i ∈ π)) → (∀ i ∈ π, i < ops.size) → π.Nodup →
      π.Pairwise (PairR ops cl) → Flo P ops cl F n0 π a C S → C w → wpAny P .any ops Q n listed a w := by
  intro n
  induction n with
  | zero =>
    intro π listed a C S w hn inv hπ _ _ _ h hC
    have : π = [] := List.length_eq_zero_iff.1 hn
    subst this
    have hr : Region.ready .any ops listed = [] := by
      cases hr : Region.ready .any ops listed with
      | nil => rfl
      | cons x xs =>
        have hx : x ∈ Region.ready .any ops listed := by rw [hr]; exact List.mem_cons_self
        obtain ⟨hun, o, ho, _⟩ := mem_ready.1 hx
        have hxs : x < ops.size := (Array.getElem?_eq_some_iff.1 ho).1
        have := (hπ x hxs).1 hun
        cases this
    cases h with
    | nil h => exact ⟨hr, hF a C w h hC⟩
  | succ n ih =>
    intro π listed a C S w hn inv hπ hlt hnd hpw h hC
    have hne : π ≠ [] := by intro e; subst e; simp at hn
    obtain ⟨i0, hi0⟩ := List.exists_mem_of_ne_nil π hne
    constructor
    · intro hr
      exfalso
      have key : ∀ (i : Nat), i ∈ π → False := by
        intro i
        induction i using Nat.strongRecOn with
        | _ i ihi =>
          intro him
          have hio := hlt i him
          have hin : i ∈ Region.ready .any ops listed := by
            refine mem_ready.2 ⟨(hπ i hio).2 him, ops[i], by simp [hio], fun e he hb => ?_⟩
            have hlte := hedge i ops[i] (by simp [hio]) e he hb
            have hnot : e.on ∉ π := fun hm' => ihi e.on hlte hm'
            have h1 : ¬ listed.getD e.on true = false := fun h' => hnot ((hπ e.on (by omega)).1 h')
            have hes : e.on < listed.size := by rw [inv.size]; omega
            simpa [hes] using h1
          rw [hr] at hin; cases hin
      exact key i0 hi0
    · intro i hir
      obtain ⟨hun, oi, hoi, hall⟩ := mem_ready.1 hir
      have hio : i < ops.size := (Array.getElem?_eq_some_iff.1 hoi).1
      have hiπ : i ∈ π := (hπ i hio).1 hun
      have hb : ∀ j, j ∈ π.takeWhile (· != i) → ∀ oj, ops[j]? = some oj → oi.apart ops oj = true ∧ (cl j < 2 ∨ cl j = 4 ∨ (cl j = 5 ∧ cl i = 5)) ∧ (cl i = 3 → cl j = 0 ∨ cl j = 4) := by
        intro j hj oj hoj
        have hjπ : j ∈ π := List.takeWhile_sublist _ |>.subset hj
        have hjun : listed.getD j true = false := (hπ j (hlt j hjπ)).2 hjπ
        have hjun' : listed.getD j false = false := getD_both hjun
        obtain ⟨h1, h2, h3⟩ := pair_before hiπ hpw hj oj oi hoj hoi
        have hno : j ∉ (closL ops.toList).getD i [] := fun hm => by
          have := clos_listed inv i oi hoi hall j hm
          rw [hjun'] at this; cases this
        refine ⟨h1.resolve_left fun hd => ?_, ?_, fun hc => ?_⟩
        · unfold depsOf at hd
          obtain ⟨e, he, rfl⟩ := List.mem_map.1 hd
          obtain ⟨he1, he2⟩ := List.mem_filter.1 he
          have := hall e (by simpa using he1) he2
          rw [hjun'] at this; cases this
        · rcases Nat.lt_or_ge (cl j) 2 with h' | h'
          · exact .inl h'
          · by_cases h4 : cl j = 4
            · exact .inr (.inl h4)
            · by_cases h5 : cl j = 5 ∧ cl i = 5
              · exact .inr (.inr h5)
              · exact absurd (h2 h' h4 h5) hno
        · by_cases h0 : cl j = 0
          · exact .inl h0
          · by_cases h4 : cl j = 4
            · exact .inr h4
            · exact absurd (h3 hc h0 h4) hno
      have hrec : ∀ (a' : Act) (C' S' : World → Prop) (w' : World), Flo P ops cl F n0 (π.erase i) a' C' S' → C' w' → wpAny P .any ops Q n (listed.setIfInBounds i true) a' w' := by
        intro a' C' S' w' hf hc
        have hls : i < listed.size := by rw [inv.size]; exact hio
        refine ih (π.erase i) _ a' C' S' w' (by rw [List.length_erase_of_mem hiπ]; omega) (inv.set hir hio) ?_ (fun j hj => hlt j (List.mem_of_mem_erase hj)) (hnd.erase i) (hpw.sublist List.erase_sublist) hf hc
        intro j hj
        by_cases e : i = j
        · subst e
          constructor
          · intro h'; simp [hls] at h'
          · intro h'; exact absurd h' (hnd.not_mem_erase)
        · rw [getD_set_ne true e, hπ j hj]
          exact ⟨fun h' => (List.mem_erase_of_ne (Ne.symm e)).2 h', fun h' => List.mem_of_mem_erase h'⟩
      unfold wpOp
      rw [hoi]
      simp only []
      cases Flo.take hoi hsel hiπ h hb with
      | skip hw hf => rw [if_neg (by rw [hw]; exact Bool.false_ne_true)]; exact hrec _ _ _ _ hf hC
      | pur v hw hs hf =>
        rw [if_pos hw]
        refine .inl (Oper.wp_mono ?_ (vwp_wp (hs.v w)))
        rintro a' w' ⟨v', rfl, rfl, rfl⟩
        exact hrec _ _ _ _ hf hC
      | flt v L _ hw hs hc hf =>
        rw [if_pos hw]
        refine .inl (Oper.wp_mono ?_ (vwp_wp (hs w (hc w hC))))
        rintro a' w' ⟨v', rfl, rfl, rfl⟩
        exact hrec _ _ _ _ hf hC
      | val v _ hG hw hs hf =>
        rw [if_pos hw]
        refine .inl (Oper.wp_mono ?_ (vwp_wp (hs w hC)))
        rintro a' w' ⟨v', rfl, hbl, rfl⟩
        exact hrec _ _ _ _ hf (hG _ _ hC hbl)
      | free Post Sh _ hG hw hp hs hf =>
        rw [if_pos hw]
        refine .inl (Oper.wp_mono ?_ (vwp_wp (hs w hC)))
        rintro a' w' ⟨v', rfl, hbl, hsh, hpost⟩
        exact hrec _ _ _ _ (hf v' hsh) ⟨hG _ _ hC hbl, hpost⟩
      | eff G hc hw hv hd hf =>
        rw [if_pos hw]
        refine .inl (Oper.wp_mono ?_ (vwp_wp (hv w hC)))
        rintro a' w' ⟨v', rfl, hg⟩
        exact hrec _ _ _ _ (hf v' w' hg) rfl
      | alc ob _ hG hl hw hs hf =>
        rw [if_pos hw]
        refine .inl (Oper.wp_mono ?_ (vwp_wp (hs.v w)))
        rintro a' w' ⟨v', rfl, rfl, rfl⟩
        exact hrec _ _ _ _ (hf _) ⟨hG _ _ hC ((Below.refl _ w).alloc (Nat.le_refl _) ob), hl w hC, blkAllocNew w ob⟩

def exR (P : Program) (t : TypeId) (K : Value → Prop) : Prop :=
  match P.underlying t with
  | some (.tuple ts) => exShs (ts.toList.map (shOf P)) fun vs => K (.tuple vs.toArray)
  | _ => exSh (shOf P t) K
def allR (P : Program) (t : TypeId) (K : Value → Prop) : Prop :=
  match P.underlying t with
  | some (.tuple ts) => allShs (ts.toList.map (shOf P)) fun vs => K (.tuple vs.toArray)
  | _ => allSh (shOf P t) K
def hasR (P : Program) (t : TypeId) (v : Value) : Bool :=
  match P.underlying t with
  | some (.tuple ts) => match v with | .tuple vs => hasShs (ts.toList.map (shOf P)) vs.toList | _ => false
  | _ => hasSh (shOf P t) v

theorem exR_spec {t : TypeId} {K : Value → Prop} (h : exR P t K) : ∃ v, K v := by
  unfold exR at h
  split at h
  · rw [exShs_iff] at h; obtain ⟨vs, _, h⟩ := h; exact ⟨_, h⟩
  · rw [exSh_iff] at h; obtain ⟨v, _, h⟩ := h; exact ⟨_, h⟩
theorem allR_spec {t : TypeId} {K : Value → Prop} (h : allR P t K) (v : Value) (hv : hasR P t v = true) : K v := by
  unfold allR at h
  unfold hasR at hv
  split at h
  · rename_i ts ht
    rw [ht] at hv
    simp only [] at hv
    rw [allShs_iff] at h
    split at hv
    · rename_i vs; exact h _ hv
    · cases hv
  · rename_i hne
    rw [allSh_iff] at h
    split at hv
    · rename_i ts ht; exact absurd ht (hne ts)
    · exact h v hv

/-- A pointer to the begin of a block. -/
def newPtr : Value → Bool
  | .pointer (some ⟨_, 0, none⟩) => true
  | _ => false
theorem newPtr_spec {K : Value → Prop} (h : ∀ k : Nat, K (.pointer (some ⟨k, 0, none⟩))) : ∀ v, newPtr v = true → K v := by
  intro v hv
  unfold newPtr at hv
  split at hv
  · exact h _
  · cases hv
/-- What a free operation hands back. -/
def allO (P : Program) (o : Oper) (K : Value → Prop) : Prop :=
  match o.op with
  | .alloc _ | .box .. => ∀ k : Nat, K (.pointer (some ⟨k, 0, none⟩))
  | .makeSlice .. | .buildSlice .. => allSh .slice K
  | .convert _ d _ => allSh (shOf P d) K
  | .makeMap .. => allSh .map K
  | .call _ => allR P o.type K
  | _ => allSh .any K
def hasO (P : Program) (o : Oper) (v : Value) : Bool :=
  match o.op with
  | .alloc _ | .box .. => newPtr v
  | .makeSlice .. | .buildSlice .. => hasSh .slice v
  | .convert _ d _ => hasSh (shOf P d) v
  | .makeMap .. => hasSh .map v
  | .call _ => hasR P o.type v
  | _ => hasSh .any v
theorem allO_spec {o : Oper} {K : Value → Prop} (h : allO P o K) (v : Value) (hv : hasO P o v = true) : K v := by
  obtain ⟨d, op, ty, p, af, g⟩ := o
  cases op
  case alloc => exact newPtr_spec h v hv
  case box => exact newPtr_spec h v hv
  case makeSlice => exact (allSh_iff (s := .slice) (K := K)).1 h v hv
  case buildSlice => exact (allSh_iff (s := .slice) (K := K)).1 h v hv
  case convert s d x => exact (allSh_iff (s := shOf P d) (K := K)).1 h v hv
  case makeMap => exact (allSh_iff (s := .map) (K := K)).1 h v hv
  case call => exact allR_spec h v hv
  all_goals exact (allSh_iff (s := .any) (K := K)).1 h v rfl

/-- Whether values of a type hold an address somewhere. -/
def hasAddr (P : Program) : Nat → TypeId → Bool
  | 0, _ => true
  | k + 1, t =>
    match P.underlying t with
    | some .bool | some (.int _) | some .string => false
    | some (.struct fs) => fs.toList.any fun f => hasAddr P k f.type
    | some (.array _ e) => hasAddr P k e
    | some (.tuple ts) => ts.toList.any fun t => hasAddr P k t
    | _ => true

def loadC (P : Program) (t : TypeId) (C : World → Prop) (a : Addr) (K : Value → Prop) : Prop :=
  match P.underlying t with
  | none => False
  | some _ =>
  match shOf P t with
  | .agg m => ∃ cs : Array Value, (∀ w, C w → cellsW w a m = some cs) ∧ K (.agg cs)
  | s => exSh s fun v => (∀ w, C w → w.cell? a = some v) ∧ K v

theorem cell?_below {w w' : World} {a : Addr} {v : Value} (hb : Below w.heap.size w w') (h : w.cell? a = some v) : w'.cell? a = some v := by
  have hlt := World.block_lt_of_cell? w a h
  unfold World.cell? at *
  rw [hb.block _ hlt]; exact h
theorem cellsW_below {w w' : World} {a : Addr} {n : Nat} {c : Array Value} (hb : Below w.heap.size w w') (h : cellsW w a n = some c) : cellsW w' a n = some c := by
  unfold cellsW blk at *
  have hlt : a.block < w.heap.size := by
    rcases Nat.lt_or_ge a.block w.heap.size with h' | h'
    · exact h'
    · rw [Array.getElem?_eq_none h'] at h; cases h
  rw [hb.block _ hlt]; exact h

theorem loadC_sound {t : TypeId} {C : World → Prop} {a : Addr} {K : Value → Prop} (h : loadC P t C a K) : ∃ v, (∀ w, C w → (Instr.loadAt t (.pointer (some a))).run P w = .ok v w) ∧ K v := by
  unfold loadC at h
  split at h
  · exact h.elim
  rename_i d hd
  split at h
  · rename_i m hm
    obtain ⟨cs, hc, hk⟩ := h
    refine ⟨_, fun w hw => ?_, hk⟩
    have : loadX P t w a fun v => v = .agg cs := by unfold loadX; rw [hd]; simp only []; rw [hm]; exact ⟨cs, hc w hw, rfl⟩
    obtain ⟨v, hr, rfl⟩ := load_sound this
    exact hr
  · rename_i hne
    rw [exSh_iff] at h
    obtain ⟨v, hv, hc, hk⟩ := h
    refine ⟨v, fun w hw => ?_, hk⟩
    have : loadX P t w a fun v' => v' = v := by
      unfold loadX; rw [hd]; simp only []
      rw [exSh_iff]; exact ⟨v, hv, hc w hw, rfl⟩
    obtain ⟨v', hr, rfl⟩ := load_sound this
    exact hr

theorem loadX_base {t : TypeId} {w0 : World} {a : Addr} {K : Value → Prop} (h : loadX P t w0 a K) : loadC P t (fun w => Below w0.heap.size w0 w) a K := by
  unfold loadX at h
  unfold loadC
  split at h
  · exact h.elim
  rename_i d hd
  split at h
  · rename_i m hm
    rw [hd]; simp only []; rw [hm]
    obtain ⟨cs, hc, hk⟩ := h
    exact ⟨cs, fun w hw => cellsW_below hw hc, hk⟩
  · rename_i hne
    rw [hd]; simp only []
    exact exSh_mono (fun v ⟨hc, hk⟩ => ⟨fun w hw => cell?_below hw hc, hk⟩) h

theorem stp_load {o : Oper} {t : TypeId} {a : Operand} {n : Nat} {ρ : Env} {C : World → Prop} {ad : Addr} {v : Value} (ho : o.op = .load t a) (ha : ev n ρ a = .pointer (some ad)) (h : ∀ w, C w → (Instr.loadAt t (.pointer (some ad))).run P w = .ok v w) :
    Stp P o (act n ρ) C fun v' _ => v' = v := by
  intro w hw
  have he : execOp (ev n ρ) o = (do pure (.value (← Instr.loadAt t (ev n ρ a)))) := by
    obtain ⟨d, op, ty, p, af, g⟩ := o
    simp only at ho
    subst ho
    rfl
  exact upon_val he (by rw [ha]; exact h w hw) ⟨Below.refl _ _, rfl⟩

theorem pur_of {o : Oper} {n : Nat} {ρ : Env} {v : Value} (h : Yields P n o ρ v) : Pur P o (act n ρ) v := by
  intro w
  rcases h with h | ⟨h, rfl⟩
  · exact .inl (by rw [act_eval]; exact h w)
  · exact .inr ⟨by rw [act_eval]; exact h w, rfl⟩

/-- The classes of operations. -/
def clsB (P : Program) (effs : List Nat) (o : Oper) : Nat :=
  bif isPure P o then 0 else
  match o.op with
  | .load .. | .lookup .. => 1
  | .alloc _ | .box .. | .makeSlice .. | .buildSlice .. | .makeMap .. | .convert .. => 2
  | .call { callee := .value (.func g), .. } => bif effs.any (Nat.beq g) then 3 else bif hasAddr P 6 o.type then 2 else 1
  | .call { callee := .builtin .len, .. } => 1
  | _ => 3
def isLoad : Option Oper → Bool
  | some { op := .load .., .. } => true
  | _ => false
def clsL (P : Program) (effs : List Nat) (l : List Oper) (cl : List (List Nat)) : List Nat :=
  let b := l.map (clsB P effs)
  let b3 := (List.range l.length).map fun i => bif Nat.beq (b.getD i 0) 0 then 0 else bif (cl.getD i []).any fun d => Nat.beq (b.getD d 0) 3 then 3 else b.getD i 0
  let ef := (List.range l.length).filter fun i => Nat.beq (b3.getD i 0) 3
  (List.range l.length).map fun i =>
    bif Nat.beq (b3.getD i 0) 1 && isLoad (l[i]?) && ef.any (fun e => !(cl.getD e []).any (Nat.beq i)) then 4 else b3.getD i 0

/-- What is read while memory changes stays as it is. -/
def heldX (P : Program) : List (TypeId × Addr × Value) → World → Prop → Prop
  | [], _, K => K
  | (t, ad, v) :: r, w, K => loadX P t w ad (fun v' => v' = v) ∧ heldX P r w K
def noHeld : List (TypeId × Addr × Value) := []
def HeldP (P : Program) (S : List (TypeId × Addr × Value)) (w : World) : Prop := ∀ p, p ∈ S → (Instr.loadAt p.1 (.pointer (some p.2.1))).run P w = .ok p.2.2 w
theorem heldX_spec : ∀ {S : List (TypeId × Addr × Value)} {w : World} {K : Prop}, heldX P S w K → HeldP P S w ∧ K
  | [], w, K, h => ⟨fun p hp => (List.not_mem_nil hp).elim, h⟩
  | (t, ad, v) :: r, w, K, h => by
    obtain ⟨h1, h2⟩ := h
    obtain ⟨v', hr, hk⟩ := loadC_sound (loadX_base h1)
    obtain ⟨h3, h4⟩ := heldX_spec h2
    refine ⟨fun p hp => ?_, h4⟩
    cases hp with
    | head => rw [← hk]; exact hr w (Below.refl _ _)
    | tail _ hp => exact h3 p hp

/-- From an operation on that changes memory: one after the other. -/
def seqX (P : Program) (n : Nat) (ops : Array Oper) (K : Env → World → Prop) (S : List (TypeId × Addr × Value)) : List Nat → Env → World → Prop
  | [], ρ, w => K ρ w
  | i :: rest, ρ, w =>
    match ops.toList[i]? with
    | none => False
    | some o => guardX n ops o ρ (fun ρ => opX P n o ρ w fun v w' => heldX P (bif isPure P o then [] else S) w' (seqX P n ops K S rest (put ρ o.dst v) w')) (fun ρ => seqX P n ops K S rest (put ρ o.dst undef) w)

/-- The new block of an operation that makes one. -/
def newO (P : Program) (n : Nat) (o : Oper) (ρ : Env) : Option Obj :=
  match o.op with
  | .alloc e => (peek P (zeroValue e)).map fun z => .cells z.cells e
  | .box e x => some (.cells (ev n ρ x).cells e)
  | _ => none

theorem newO_spec {n : Nat} {o : Oper} {ρ : Env} {ob : Obj} {w : World} {K : Value → World → Prop} (h : newO P n o ρ = some ob) (hk : K (.pointer (some ⟨w.heap.size, 0, none⟩)) (w.alloc ob)) : opX P n o ρ w K ∧ ∀ v, hasO P o v = newPtr v := by
  obtain ⟨d, op, ty, p, af, g⟩ := o
  cases op
  case alloc e =>
    simp only [newO, Option.map_eq_some_iff] at h
    obtain ⟨z, hz, rfl⟩ := h
    refine ⟨?_, fun v => rfl⟩
    show opX P n _ ρ w K
    unfold opX
    rw [show isPure P { dst := d, op := Op.alloc e, type := ty, pos := p, after := af, guard := g } = false from rfl]
    simp only [cond_false, hz]
    rintro b w' ⟨rfl, rfl⟩
    exact hk
  case box e x =>
    simp only [newO, Option.some.injEq] at h
    subst h
    refine ⟨?_, fun v => rfl⟩
    show opX P n _ ρ w K
    unfold opX
    rw [show isPure P { dst := d, op := Op.box e x, type := ty, pos := p, after := af, guard := g } = false from rfl]
    simp only [cond_false]
    rintro b w' ⟨rfl, rfl⟩
    exact hk
  all_goals (simp only [newO] at h; cases h)

theorem newO_alc {n : Nat} {o : Oper} {ρ : Env} {ob : Obj} (h : newO P n o ρ = some ob) : Alc P o (act n ρ) ob := by
  intro w
  rw [act_eval]
  obtain ⟨d, op, ty, p, af, g⟩ := o
  cases op
  case alloc e =>
    simp only [newO, Option.map_eq_some_iff] at h
    obtain ⟨z, hz, rfl⟩ := h
    have hr : (Instr.alloc e true (.tuple #[])).run P w = .ok (.pointer (some ⟨w.heap.size, 0, none⟩)) (w.alloc (.cells z.cells e)) := by
      unfold Instr.alloc
      rw [run_bind _ _ w (peek_run hz w)]
      rfl
    show (do pure (Go.Next.value (← Instr.alloc e true (.tuple #[])))   : Sem Go.Next).run P w = _
    rw [run_bind _ _ w hr]; rfl
  case box e x =>
    simp only [newO, Option.some.injEq] at h
    subst h
    show (do pure (Go.Next.value (← Instr.box e (ev n ρ x)))   : Sem Go.Next).run P w = _
    rw [run_bind _ _ w (show (Instr.box e (ev n ρ x)).run P w = .ok (.pointer (some ⟨w.heap.size, 0, none⟩)) (w.alloc (.cells (ev n ρ x).cells e)) from rfl)]; rfl
  all_goals (simp only [newO] at h; cases h)

def floX (sh : Bool) (P : Program) (n : Nat) (ops : Array Oper) (cl : List Nat) (w0 : World) (K : Env → World → Prop) : List Nat → Bool → Env → (World → Prop) → List (TypeId × Addr × Value) → Prop
  | [], _, ρ, C, _ => ∀ w, C w → K ρ w
  | i :: rest, base, ρ, C, S =>
    match ops.toList[i]? with
    | none => False
    | some o =>
      guardX n ops o ρ
        (fun ρ =>
          match cl.getD i 0 with
          | 0 => bif isPure P o then pureX P n o ρ fun v => floX sh P n ops cl w0 K rest base (put ρ o.dst v) C S else False
          | 1 =>
            match o.op with
            | .load t a =>
              match ev n ρ a with
              | .pointer (some ad) => bif base then loadX P t w0 ad fun v => floX sh P n ops cl w0 K rest base (put ρ o.dst v) C S
                  else loadC P t C ad fun v => floX sh P n ops cl w0 K rest base (put ρ o.dst v) C S
              | _ => False
            | .lookup t x ix ok =>
              match P.underlying t with
              | some (.map _ e) => bif ok then False else exSh (shOf P e) fun v => (∀ w, C w → opX P n o ρ w fun v' w' => Below w.heap.size w w' ∧ v' = v) ∧ floX sh P n ops cl w0 K rest base (put ρ o.dst v) C S
              | _ => False
            | _ => exR P o.type fun v => (∀ w, C w → opX P n o ρ w fun v' w' => Below w.heap.size w w' ∧ v' = v) ∧ floX sh P n ops cl w0 K rest base (put ρ o.dst v) C S
          | 2 =>
            match newO P n o ρ with
            | some ob => ∀ k : Nat, floX sh P n ops cl w0 K rest false (put ρ o.dst (.pointer (some ⟨k, 0, none⟩))) (fun w => C w ∧ ∃ w1, C w1 ∧ k = w1.heap.size ∧ Below (w1.heap.size + 1) (w1.alloc ob) w) S
            | none =>
            bif sh then
              ∃ (Sh : Value → Prop) (Post : Value → World → Prop), (∀ v, Grows (Post v)) ∧ (∀ w, C w → opX P n o ρ w fun v w' => bif hasO P o v then Below w.heap.size w w' ∧ Sh v ∧ Post v w' else False) ∧
                allO P o fun v => Sh v → floX sh P n ops cl w0 K rest false (put ρ o.dst v) (fun w => C w ∧ Post v w) S
            else
            ∃ Post : Value → World → Prop, (∀ v, Grows (Post v)) ∧ (∀ w, C w → opX P n o ρ w fun v w' => bif hasO P o v then Below w.heap.size w w' ∧ Post v w' else False) ∧
              allO P o fun v => floX sh P n ops cl w0 K rest false (put ρ o.dst v) (fun w => C w ∧ Post v w) S
          | 3 => ∀ w, C w → opX P n o ρ w fun v w' => heldX P S w' (seqX P n ops K S rest (put ρ o.dst v) w')
          | 4 =>
            match o.op with
            | .load t a =>
              match ev n ρ a with
              | .pointer (some ad) => bif base then loadX P t w0 ad fun v => floX sh P n ops cl w0 K rest base (put ρ o.dst v) C ((t, ad, v) :: S)
                  else loadC P t C ad fun v => floX sh P n ops cl w0 K rest base (put ρ o.dst v) C ((t, ad, v) :: S)
              | _ => False
            | _ => False
          | 5 =>
            match newO P n o ρ with
            | some ob => ∀ k : Nat, floX sh P n ops cl w0 K rest false (put ρ o.dst (.pointer (some ⟨k, 0, none⟩))) (fun w => C w ∧ AtO w0.heap.size k ob w) S
            | none => False
          | _ => False)
        (fun ρ => floX sh P n ops cl w0 K rest base (put ρ o.dst undef) C S)

theorem frame_cons {ops : Array Oper} {i : Nat} {rest : List Nat} {o : Oper} {ρ ρ0 ρ' : Env} {v : Value} (ho : ops.toList[i]? = some o) (h0 : ∀ t, ρ0.get t = ρ.get t)
    (hag : ∀ t, t ∉ dstsOf (rest.filterMap (ops.toList[·]?)) → ρ'.get t = (put ρ0 o.dst v).get t) : ∀ t, t ∉ dstsOf ((i :: rest).filterMap (ops.toList[·]?)) → ρ'.get t = ρ.get t := by
  intro t ht
  simp only [List.filterMap_cons, ho] at ht
  have h1 : t ∉ dstsOf (rest.filterMap (ops.toList[·]?)) := by
    intro hm; apply ht
    unfold dstsOf at *
    rw [List.filterMap_cons]
    cases o.dst with
    | none => exact hm
    | some d => exact List.mem_cons_of_mem _ hm
  rw [hag t h1, ← h0 t]
  refine put_other fun x hx e => ht ?_
  subst e
  unfold dstsOf
  rw [List.filterMap_cons, hx]
  exact List.mem_cons_self

theorem seqX_sound {n : Nat} {ops : Array Oper} {cl : Nat → Nat} {K : Env → World → Prop} {Q : Act → World → Prop} {n0 : Nat} :
    ∀ {S : List (TypeId × Addr × Value)} {π : List Nat} {ρ : Env} {w : World}, (∀ i, i ∈ π → ∀ o, ops[i]? = some o → isPure P o = true ∨ cl i = 3) → seqX P n ops K S π ρ w →
      (∀ ρ' w', K ρ' w' → (∀ t, t ∉ dstsOf (π.filterMap (ops.toList[·]?)) → ρ'.get t = ρ.get t) → Q (act n ρ') w') → Flo P ops cl (fun a C => ∀ w, C w → Q a w) n0 π (act n ρ) (fun x => x = w) (HeldP P S) := by
  intro S π
  induction π with
  | nil => intro ρ w _ h hF; exact .nil fun x hx => by rw [hx]; exact hF ρ w h fun _ _ => rfl
  | cons i rest ih =>
    intro ρ w hcl h hF
    unfold seqX at h
    split at h
    · exact h.elim
    rename_i o ho
    have hoi : ops[i]? = some o := by simpa using ho
    have hcl' : ∀ j, j ∈ rest → ∀ o, ops[j]? = some o → isPure P o = true ∨ cl j = 3 := fun j hj => hcl j (List.mem_cons_of_mem _ hj)
    obtain ⟨ρ0, h0, h⟩ := guardX_cases h
    have ha : act n ρ = act n ρ0 := act_congr fun t => (h0 t).symm
    rcases h with ⟨hw, h⟩ | ⟨hw, h⟩
    · rw [ha] at hw ⊢
      cases hp : isPure P o with
      | true =>
        unfold opX at h
        rw [hp] at h
        simp only [cond_true] at h
        obtain ⟨v, hy, hk⟩ := pureX_sound h
        simp only [heldX] at hk
        refine .pur hoi hw (pur_of hy) ?_
        rw [act_put]
        exact ih hcl' hk fun ρ' w' hk' hag => hF ρ' w' hk' (frame_cons ho h0 hag)
      | false =>
        rw [hp] at h
        simp only [cond_false] at h
        refine .eff _ hoi ((hcl i List.mem_cons_self o hoi).resolve_left (by rw [hp]; exact Bool.false_ne_true)) hw (fun x hx => by rw [hx]; exact opX_v h) (fun v w' hk => (heldX_spec hk).1) ?_
        intro v w' hk
        replace hk := (heldX_spec hk).2
        rw [act_put]
        exact ih hcl' hk fun ρ' w'' hk' hag => hF ρ' w'' hk' (frame_cons ho h0 hag)
    · rw [ha] at hw ⊢
      refine .skip hoi hw ?_
      rw [act_put]
      exact ih hcl' h fun ρ' w' hk' hag => hF ρ' w' hk' (frame_cons ho h0 hag)

/-- The certificate, out of the evaluated form. -/
theorem floX_sound {sh : Bool} {n : Nat} {ops : Array Oper} {cl : List Nat} {w0 : World} {K : Env → World → Prop} {Q : Act → World → Prop} :
    ∀ {π : List Nat} {base : Bool} {ρ : Env} {C : World → Prop} {S : List (TypeId × Addr × Value)}, (∀ p q, [p, q].Sublist π → cl.getD p 0 = 3 → ∀ o, ops[q]? = some o → isPure P o = true ∨ cl.getD q 0 = 3) → Grows C → (∀ w', C w' → w0.heap.size ≤ w'.heap.size) → (base = true → ∀ w', C w' → Below w0.heap.size w0 w') → floX sh P n ops cl w0 K π base ρ C S →
      (∀ ρ' w', K ρ' w' → (∀ t, t ∉ dstsOf (π.filterMap (ops.toList[·]?)) → ρ'.get t = ρ.get t) → Q (act n ρ') w') → Flo P ops (fun i => cl.getD i 0) (fun a C => ∀ w, C w → Q a w) w0.heap.size π (act n ρ) C (HeldP P S) := by
  intro π
  induction π with
  | nil => intro base ρ C S _ _ _ _ h hF; exact .nil fun w hw => hF ρ w (h w hw) fun _ _ => rfl
  | cons i rest ih =>
    intro base ρ C S hseq hG hlow hbase h hF
    unfold floX at h
    split at h
    · exact h.elim
    rename_i o ho
    have hoi : ops[i]? = some o := by simpa using ho
    have hseq' : ∀ p q, [p, q].Sublist rest → cl.getD p 0 = 3 → ∀ o, ops[q]? = some o → isPure P o = true ∨ cl.getD q 0 = 3 := fun p q hs => hseq p q (hs.trans (List.sublist_cons_self _ _))
    obtain ⟨ρ0, h0, h⟩ := guardX_cases h
    have ha : act n ρ = act n ρ0 := act_congr fun t => (h0 t).symm
    have hfr : ∀ (v : Value) ρ' w', K ρ' w' → (∀ t, t ∉ dstsOf (rest.filterMap (ops.toList[·]?)) → ρ'.get t = (put ρ0 o.dst v).get t) → Q (act n ρ') w' := fun v ρ' w' hk hag => hF ρ' w' hk (frame_cons ho h0 hag)
    rcases h with ⟨hw, h⟩ | ⟨hw, h⟩
    · rw [ha] at hw ⊢
      split at h
      · obtain ⟨hp, h⟩ := cond_some h
        obtain ⟨v, hy, hk⟩ := pureX_sound h
        refine .pur hoi hw (pur_of hy) ?_
        rw [act_put]
        exact ih hseq' hG hlow hbase hk (hfr v)
      · rename_i hc1
        have call : ∀ {v : Value}, (∀ w, C w → opX P n o ρ0 w fun v' w' => Below w.heap.size w w' ∧ v' = v) → floX sh P n ops cl w0 K rest base (put ρ0 o.dst v) C S → Flo P ops (fun i => cl.getD i 0) (fun a C => ∀ w, C w → Q a w) w0.heap.size (i :: rest) (act n ρ0) C (HeldP P S) := by
          intro v hs hk
          refine .val hoi hc1 hG hw (fun w hc => opX_v (hs w hc)) ?_
          rw [act_put]
          exact ih hseq' hG hlow hbase hk (hfr v)
        split at h
        · rename_i t a hop
          split at h
          · rename_i ad had
            cases base with
            | true =>
              simp only [cond_true] at h
              obtain ⟨v, hr, hk⟩ := loadC_sound (loadX_base h)
              refine .val hoi hc1 hG hw (stp_load hop had fun w hc => hr w (hbase rfl w hc)) ?_
              rw [act_put]
              exact ih hseq' hG hlow hbase hk (hfr v)
            | false =>
              simp only [cond_false] at h
              obtain ⟨v, hr, hk⟩ := loadC_sound h
              refine .val hoi hc1 hG hw (stp_load hop had hr) ?_
              rw [act_put]
              exact ih hseq' hG hlow hbase hk (hfr v)
          · exact h.elim
        · split at h
          · obtain ⟨_, h⟩ := cond_none h
            rw [exSh_iff] at h
            obtain ⟨v, _, hs, hk⟩ := h
            exact call hs hk
          · exact h.elim
        · obtain ⟨v, hs, hk⟩ := exR_spec h
          exact call hs hk
      · rename_i hc2
        split at h
        · rename_i ob hob
          have hO : ∀ v, hasO P o v = newPtr v := (newO_spec (w := w0) (K := fun _ _ => True) hob trivial).2
          refine .free (fun v w => ∃ w1, C w1 ∧ v = .pointer (some ⟨w1.heap.size, 0, none⟩) ∧ Below (w1.heap.size + 1) (w1.alloc ob) w) (fun v => hasO P o v = true) hoi hc2 hG hw ?_ ?_ fun v hv => ?_
          · rintro v x y ⟨w1, h1, h2, h3⟩ hb
            refine ⟨w1, h1, h2, h3.trans (hb.mono ?_)⟩
            have := h3.size
            simp only [World.alloc, Array.size_push] at this
            exact this
          · intro w hc
            refine opX_v ((newO_spec hob ⟨?_, ?_, w, hc, rfl, ?_⟩).1)
            · exact (Below.refl _ _).alloc (Nat.le_refl _) _
            · rw [hO]; rfl
            · exact Below.refl _ _
          · rw [act_put]
            rw [hO] at hv
            revert hv
            refine newPtr_spec (K := fun v => Flo P ops (fun i => cl.getD i 0) (fun a C => ∀ w, C w → Q a w) w0.heap.size rest (act n (put ρ0 o.dst v)) (fun w => C w ∧ ∃ w1, C w1 ∧ v = .pointer (some ⟨w1.heap.size, 0, none⟩) ∧ Below (w1.heap.size + 1) (w1.alloc ob) w) (HeldP P S)) (fun k => ?_) v
            have he : (fun w => C w ∧ ∃ w1, C w1 ∧ (Value.pointer (some ⟨k, 0, none⟩)) = .pointer (some ⟨w1.heap.size, 0, none⟩) ∧ Below (w1.heap.size + 1) (w1.alloc ob) w) = fun w => C w ∧ ∃ w1, C w1 ∧ k = w1.heap.size ∧ Below (w1.heap.size + 1) (w1.alloc ob) w := by
              funext w
              simp only [Value.pointer.injEq, Option.some.injEq, Addr.mk.injEq, and_true]
            rw [he]
            refine ih hseq' ?_ (fun w hw => hlow w hw.1) (by intro e; cases e) (h k) (hfr _)
            rintro x y ⟨h0, w1, h1, h2, h3⟩ hb
            refine ⟨hG _ _ h0 hb, w1, h1, h2, h3.trans (hb.mono ?_)⟩
            have := h3.size
            simp only [World.alloc, Array.size_push] at this
            exact this
        cases sh with
        | true =>
          simp only [cond_true] at h
          obtain ⟨Sh, Post, hg, hs, hk⟩ := h
          refine .free Post (fun v => hasO P o v = true ∧ Sh v) hoi hc2 hG hw hg ?_ fun v hv => ?_
          · intro w hc
            refine vwp_mono ?_ (opX_v (hs w hc))
            intro v w' hk'
            obtain ⟨h1, h2, h3, h4⟩ := cond_some hk'
            exact ⟨h2, ⟨h1, h3⟩, h4⟩
          · rw [act_put]
            exact ih hseq' (fun x y hxy hb => ⟨hG _ _ hxy.1 hb, hg v _ _ hxy.2 hb⟩) (fun w hw => hlow w hw.1) (by intro e; cases e) (allO_spec hk v hv.1 hv.2) (hfr v)
        | false =>
        simp only [cond_false] at h
        obtain ⟨Post, hg, hs, hk⟩ := h
        refine .free Post (fun v => hasO P o v = true) hoi hc2 hG hw hg ?_ fun v hv => ?_
        · intro w hc
          refine vwp_mono ?_ (opX_v (hs w hc))
          intro v w' hk'
          obtain ⟨h1, h2, h3⟩ := cond_some hk'
          exact ⟨h2, h1, h3⟩
        · rw [act_put]
          exact ih hseq' (fun x y hxy hb => ⟨hG _ _ hxy.1 hb, hg v _ _ hxy.2 hb⟩) (fun w hw => hlow w hw.1) (by intro e; cases e) (allO_spec hk v hv) (hfr v)
      · rename_i hc3
        refine .eff (fun v w' => heldX P S w' (seqX P n ops K S rest (put ρ0 o.dst v) w')) hoi hc3 hw (fun w hc => opX_v (h w hc)) (fun v w' hk => (heldX_spec hk).1) fun v w' hk => ?_
        replace hk := (heldX_spec hk).2
        rw [act_put]
        refine seqX_sound (fun j hj o' ho' => hseq i j ?_ hc3 o' ho') hk (hfr v)
        exact List.Sublist.cons_cons i (List.singleton_sublist.2 hj)
      · rename_i hc4
        have fl : ∀ {t : TypeId} {a : Operand} {ad : Addr} {v : Value}, o.op = .load t a → ev n ρ0 a = .pointer (some ad) → (∀ w, C w → (Instr.loadAt t (.pointer (some ad))).run P w = .ok v w) →
            floX sh P n ops cl w0 K rest base (put ρ0 o.dst v) C ((t, ad, v) :: S) → Flo P ops (fun i => cl.getD i 0) (fun a C => ∀ w, C w → Q a w) w0.heap.size (i :: rest) (act n ρ0) C (HeldP P S) := by
          intro t a ad v hop had hr hk
          refine .flt (v := v) (fun w => (Instr.loadAt t (.pointer (some ad))).run P w = .ok v w) hoi hc4 hw (fun w hl => ?_) hr ?_
          · have he : execOp (ev n ρ0) o = (do pure (.value (← Instr.loadAt t (ev n ρ0 a)))) := by
              obtain ⟨d, op, ty, p, af, g⟩ := o
              simp only at hop
              subst hop
              rfl
            exact upon_val he (by rw [had]; exact hl) ⟨rfl, rfl⟩
          · rw [act_put]
            refine (ih hseq' hG hlow hbase hk (hfr v)).dem fun w hw => ⟨fun p hp => hw p (List.mem_cons_of_mem _ hp), hw (t, ad, v) List.mem_cons_self⟩
        split at h
        · rename_i t a hop
          split at h
          · rename_i ad had
            cases base with
            | true =>
              simp only [cond_true] at h
              obtain ⟨v, hr, hk⟩ := loadC_sound (loadX_base h)
              exact fl hop had (fun w hc => hr w (hbase rfl w hc)) hk
            | false =>
              simp only [cond_false] at h
              obtain ⟨v, hr, hk⟩ := loadC_sound h
              exact fl hop had hr hk
          · exact h.elim
        · exact h.elim
      · rename_i hc5
        split at h
        · rename_i ob hob
          refine .alc ob hoi hc5 hG hlow hw (newO_alc hob) fun k => ?_
          rw [act_put]
          exact ih hseq' (hG.andAt _ _ _) (fun w hw => hlow w hw.1) (by intro e; cases e) (h k) (hfr _)
        · exact h.elim
      · exact h.elim
    · rw [ha] at hw ⊢
      refine .skip hoi hw ?_
      rw [act_put]
      exact ih hseq' hG hlow hbase h (hfr undef)

/-- The order in which operations are looked at: first what does not hang on changes of memory, by how many pieces of new memory it hangs on; then the rest. -/
def orderL (cls : List Nat) (cl : List (List Nat)) (N : Nat) : List Nat :=
  let seqs := fun i => Nat.beq (cls.getD i 0) 3 || (cl.getD i []).any fun d => Nat.beq (cls.getD d 0) 3
  let par := (List.range N).filter fun i => !seqs i
  let fr := par.filter fun i => Nat.beq (cls.getD i 0) 2
  let lv := par.map fun i => (i, (fr.filter fun f => Nat.beq f i || (cl.getD i []).any (Nat.beq f)).length)
  ((List.range (fr.length + 1)).flatMap fun k => (lv.filter fun p => Nat.beq p.2 k && fr.any (Nat.beq p.1)).map (·.1) ++ (lv.filter fun p => Nat.beq p.2 k && !fr.any (Nat.beq p.1)).map (·.1)) ++ (List.range N).filter seqs

def pairB (ops : List Oper) (arr : Array Oper) (cls : List Nat) (cl : List (List Nat)) (p q : Nat) : Bool :=
  match ops[p]?, ops[q]? with
  | some op, some oq =>
    let c := (cl.getD q []).any (Nat.beq p)
    ((depsOf oq).any (Nat.beq p) || oq.apart arr op) && (Nat.blt (cls.getD p 0) 2 || Nat.beq (cls.getD p 0) 4 || (Nat.beq (cls.getD p 0) 5 && Nat.beq (cls.getD q 0) 5) || c) && (!Nat.beq (cls.getD q 0) 3 || Nat.beq (cls.getD p 0) 0 || Nat.beq (cls.getD p 0) 4 || c)
  | _, _ => true
def pairsB (ops : List Oper) (arr : Array Oper) (cls : List Nat) (cl : List (List Nat)) : List Nat → Bool
  | [] => true
  | p :: rest => rest.all (pairB ops arr cls cl p) && pairsB ops arr cls cl rest
def nodupB : List Nat → Bool
  | [] => true
  | p :: rest => !rest.any (Nat.beq p) && nodupB rest
def edgesB : Nat → List Oper → Bool
  | _, [] => true
  | i, o :: rest => (depsOf o).all (fun d => Nat.blt d i) && edgesB (i + 1) rest


/-- Behind an operation that changes memory, each is pure or one that changes memory. -/
def seqB (P : Program) (ops : List Oper) (cls : List Nat) : List Nat → Bool
  | [] => true
  | p :: rest => (!Nat.beq (cls.getD p 0) 3 || rest.all fun q => Nat.beq (cls.getD q 0) 3 || (match ops[q]? with | some o => isPure P o | none => true)) && seqB P ops cls rest

def checksB (P : Program) (ops : Array Oper) (cls : List Nat) (π : List Nat) : Bool :=
  Region.noSelect ops && edgesB 0 ops.toList && nodupB π && π.all (fun i => Nat.blt i ops.toList.length) && (List.range ops.toList.length).all (fun i => π.any (Nat.beq i)) &&
  pairsB ops.toList ops cls (closL ops.toList) π && seqB P ops.toList cls π

/-- Blocks that are made in any order among themselves come last of what may come up in any order. -/
def cls5 (P : Program) (effs : List Nat) (l : List Oper) (cl : List (List Nat)) : List Nat :=
  (List.range l.length).map fun i => match l[i]?.map fun (o : Oper) => o.op with
    | some (Op.alloc _) => bif Nat.beq ((clsL P effs l cl).getD i 0) 2 then 5 else (clsL P effs l cl).getD i 0
    | _ => (clsL P effs l cl).getD i 0
def order5 (cls : List Nat) (cl : List (List Nat)) (N : Nat) : List Nat :=
  let seqs := fun i => Nat.beq (cls.getD i 0) 3 || (cl.getD i []).any fun d => Nat.beq (cls.getD d 0) 3
  let o := orderL cls cl N
  (o.filter fun i => !seqs i && !Nat.beq (cls.getD i 0) 5) ++ (o.filter fun i => !seqs i && Nat.beq (cls.getD i 0) 5) ++ o.filter seqs
def drawAt (sh : Bool) (P : Program) (n : Nat) (ops : Array Oper) (ρ : Env) (w : World) (K : Env → World → Prop) (cls π : List Nat) (no : Prop) : Prop :=
  bif checksB P ops cls π then floX sh P n ops cls w K π true ρ (fun w' => Below w.heap.size w w') [] else no
def drawXg (sh : Bool) (effs : List Nat) : DrawX := fun P n ops ρ w K =>
  drawAt sh P n ops ρ w K (clsL P effs ops.toList (closL ops.toList)) (orderL (clsL P effs ops.toList (closL ops.toList)) (closL ops.toList) ops.toList.length)
    (drawAt sh P n ops ρ w K (cls5 P effs ops.toList (closL ops.toList)) (order5 (cls5 P effs ops.toList (closL ops.toList)) (closL ops.toList) ops.toList.length) False)
def drawX (effs : List Nat) : DrawX := drawXg false effs

theorem any_beq {l : List Nat} {i : Nat} : l.any (Nat.beq i) = true ↔ i ∈ l := by
  rw [List.any_eq_true]
  constructor
  · rintro ⟨x, hx, h⟩; rw [Nat.eq_of_beq_eq_true h]; exact hx
  · intro h; exact ⟨i, h, Nat.beq_refl i⟩

theorem nodupB_spec : ∀ {l : List Nat}, nodupB l = true → l.Nodup
  | [], _ => List.nodup_nil
  | p :: rest, h => by
    simp only [nodupB, Bool.and_eq_true, Bool.not_eq_true'] at h
    rw [List.nodup_cons]
    refine ⟨fun hm => ?_, nodupB_spec h.2⟩
    rw [any_beq.2 hm] at h
    cases h.1


theorem pairsB_spec {ops : Array Oper} {cls : List Nat} : ∀ {l : List Nat}, pairsB ops.toList ops cls (closL ops.toList) l = true → l.Pairwise (PairR ops fun i => cls.getD i 0)
  | [], _ => List.Pairwise.nil
  | p :: rest, h => by
    simp only [pairsB, Bool.and_eq_true] at h
    rw [List.pairwise_cons]
    refine ⟨fun q hq op oq hp hoq => ?_, pairsB_spec h.2⟩
    have := List.all_eq_true.1 h.1 q hq
    unfold pairB at this
    rw [Array.getElem?_toList, Array.getElem?_toList, hp, hoq] at this
    simp only [Bool.and_eq_true, Bool.or_eq_true, Bool.not_eq_true'] at this
    obtain ⟨⟨h1, h2⟩, h3⟩ := this
    refine ⟨h1.imp (fun h => any_beq.1 h) id, fun hf hf4 hf5 => ?_, fun hq3 hp0 hp4 => ?_⟩
    · simp only [] at hf hf4 hf5
      rcases h2 with h' | h'
      · rcases h' with h' | h'
        · rcases h' with h' | h'
          · have : cls.getD p 0 < 2 := by simpa using h'
            omega
          · exact absurd (Nat.eq_of_beq_eq_true h') hf4
        · exact absurd ⟨Nat.eq_of_beq_eq_true h'.1, Nat.eq_of_beq_eq_true h'.2⟩ hf5
      · exact any_beq.1 h'
    · simp only [] at hq3 hp0 hp4
      rcases h3 with h' | h'
      · rcases h' with h' | h'
        · rcases h' with h' | h'
          · rw [hq3] at h'; cases h'
          · exact absurd (Nat.eq_of_beq_eq_true h') hp0
        · exact absurd (Nat.eq_of_beq_eq_true h') hp4
      · exact any_beq.1 h'

theorem edgesB_spec : ∀ (l : List Oper) (k i : Nat) (o : Oper), edgesB k l = true → l[i]? = some o → ∀ d, d ∈ depsOf o → d < k + i
  | [], k, i, o, _, ho, d, _ => by simp at ho
  | x :: l, k, i, o, h, ho, d, hd => by
    simp only [edgesB, Bool.and_eq_true] at h
    cases i with
    | zero => simp at ho; subst ho; have := List.all_eq_true.1 h.1 d hd; simpa using this
    | succ i => have := edgesB_spec l (k + 1) i o h.2 (by simpa using ho) d hd; omega

theorem seqB_spec {ops : Array Oper} {cls : List Nat} : ∀ {l : List Nat}, seqB P ops.toList cls l = true → ∀ p q, [p, q].Sublist l → cls.getD p 0 = 3 → ∀ o, ops[q]? = some o → isPure P o = true ∨ cls.getD q 0 = 3
  | [], _, p, q, hs, _, _, _ => by cases hs
  | x :: rest, h, p, q, hs, hp, o, ho => by
    simp only [seqB, Bool.and_eq_true] at h
    cases hs with
    | cons _ hs => exact seqB_spec h.2 p q hs hp o ho
    | cons_cons _ hs =>
      have hq : q ∈ rest := List.singleton_sublist.1 hs
      simp only [Bool.or_eq_true, Bool.not_eq_true'] at h
      rcases h.1 with h' | h'
      · rw [hp] at h'; cases h'
      · have := List.all_eq_true.1 h' q hq
        rw [Array.getElem?_toList, ho] at this
        simp only [Bool.or_eq_true] at this
        exact this.symm.imp id fun h => Nat.eq_of_beq_eq_true h

theorem draw_any {sh : Bool} {cls π : List Nat} {n : Nat} {ops : Array Oper} {ρ : Env} {w : World} {K : Env → World → Prop} {Q : Exit → Act → World → Prop} (hc : checksB P ops cls π = true) (h : floX sh P n ops cls w K π true ρ (fun w' => Below w.heap.size w w') [])
    (hQ : ∀ ρ' w', K ρ' w' → (∀ t, t ∉ dstsOf ops.toList → ρ'.get t = ρ.get t) → Q .normal (act n ρ') w') : wpAny P .any ops Q ops.size (Array.replicate ops.size false) (act n ρ) w.drew := by
  simp only [checksB, Bool.and_eq_true] at hc
  obtain ⟨⟨⟨⟨⟨⟨hsel, hedge⟩, hnd⟩, hlt⟩, hall⟩, hpair⟩, hseq⟩ := hc
  have hlen : ops.toList.length = ops.size := by simp
  rw [hlen] at hlt hall
  have hlt' : ∀ i ∈ π, i < ops.size := fun i hi => by simpa using List.all_eq_true.1 hlt i hi
  have inv0 : HeadInv .any ops ops.size (Array.replicate ops.size false) :=
    ⟨by simp, fun j oj _ hl => (by rw [getD_replicate_false] at hl; cases hl), fun t ht ht' => absurd ht' (by omega)⟩
  have hflo : Flo P ops (fun i => cls.getD i 0) (fun a C => ∀ w, C w → Q .normal a w) w.heap.size π (act n ρ) (fun w' => Below w.drew.heap.size w.drew w') (HeldP P []) := by
    have hC : (fun w' => Below w.heap.size w w') = fun w' => Below w.drew.heap.size w.drew w' := by
      funext w'
      exact propext ⟨fun h => ⟨h.os, h.tape, h.output, h.size, h.block⟩, fun h => ⟨h.os, h.tape, h.output, h.size, h.block⟩⟩
    rw [hC] at h
    refine floX_sound (w0 := w) (seqB_spec hseq) (fun a b hab hbc => hab.trans (hbc.mono hab.size)) (fun w' hw' => hw'.size) (fun _ w' hw' => ⟨hw'.os, hw'.tape, hw'.output, hw'.size, hw'.block⟩) h fun ρ' w' hk hag => hQ ρ' w' hk fun t ht => ?_
    refine hag t fun hm' => ht ?_
    unfold dstsOf at *
    obtain ⟨x, hx, hx'⟩ := List.mem_filterMap.1 hm'
    obtain ⟨j, _, hj⟩ := List.mem_filterMap.1 hx
    exact List.mem_filterMap.2 ⟨x, List.mem_of_getElem? hj, hx'⟩
  have hlenπ : π.length = ops.size := by
    have : π.Perm (List.range ops.size) := (List.perm_ext_iff_of_nodup (nodupB_spec hnd) List.nodup_range).2 fun i => by
      constructor
      · intro hi; exact List.mem_range.2 (hlt' i hi)
      · intro hi; exact any_beq.1 (List.all_eq_true.1 hall i hi)
    simpa using this.length_eq
  have := flo_any (P := P) (Q := Q) (Region.noSelect_spec hsel) (fun i o ho e he hb => by
      have := edgesB_spec ops.toList 0 i o hedge (by simpa using ho) e.on (List.mem_map.2 ⟨e, List.mem_filter.2 ⟨by simpa using he, hb⟩, rfl⟩)
      omega) (fun a C w hf hc => hf w hc) π.length π (Array.replicate ops.size false) (act n ρ) _ _ w.drew rfl inv0 (fun i hi => by
      constructor
      · intro _; exact any_beq.1 (List.all_eq_true.1 hall i (by simpa using hi))
      · intro _; exact getD_in (by simpa using hi) (getD_replicate_false _ _)) hlt' (nodupB_spec hnd) (pairsB_spec hpair) hflo (Below.refl _ _)
  rw [hlenπ] at this
  exact this

theorem drawXg_any (sh : Bool) (effs : List Nat) {n : Nat} {ops : Array Oper} {ρ : Env} {w : World} {K : Env → World → Prop} {Q : Exit → Act → World → Prop} (h : drawXg sh effs P n ops ρ w K)
    (hQ : ∀ ρ' w', K ρ' w' → (∀ t, t ∉ dstsOf ops.toList → ρ'.get t = ρ.get t) → Q .normal (act n ρ') w') : wpAny P .any ops Q ops.size (Array.replicate ops.size false) (act n ρ) w.drew := by
  unfold drawXg drawAt at h
  generalize clsL P effs ops.toList (closL ops.toList) = cls at *
  generalize orderL cls (closL ops.toList) ops.toList.length = π at *
  generalize cls5 P effs ops.toList (closL ops.toList) = cls' at *
  generalize order5 cls' (closL ops.toList) ops.toList.length = π' at *
  cases hc : checksB P ops cls π with
  | true => rw [hc] at h; exact draw_any hc h hQ
  | false =>
    rw [hc] at h
    simp only [cond_false] at h
    obtain ⟨hc', h⟩ := cond_some h
    exact draw_any hc' h hQ
theorem drawX_any (effs : List Nat) {n : Nat} {ops : Array Oper} {ρ : Env} {w : World} {K : Env → World → Prop} {Q : Exit → Act → World → Prop} (h : drawX effs P n ops ρ w K)
    (hQ : ∀ ρ' w', K ρ' w' → (∀ t, t ∉ dstsOf ops.toList → ρ'.get t = ρ.get t) → Q .normal (act n ρ') w') : wpAny P .any ops Q ops.size (Array.replicate ops.size false) (act n ρ) w.drew := drawXg_any false effs h hQ
theorem drawXg_ok (sh : Bool) (effs : List Nat) (hm : P.follows .mixedOrders = true) : (drawXg sh effs).Ok P :=
  fun n id ops ρ w K Q h hQ => wp_region_any hm (drawXg_any sh effs h hQ)
theorem drawX_ok (effs : List Nat) (hm : P.follows .mixedOrders = true) : (drawX effs).Ok P := drawXg_ok false effs hm
end Go.X

set_option linter.unusedVariables false
/- Code within a round of a range over a function. -/
namespace Go.X
open Go Go.RowKit
variable {P : Program}

abbrev RF (l : Nat) : Fence := Fence.wide.inRound l

def noDeferO (o : Oper) : Bool := match o.op with | .defer _ => false | _ => true
def noDefer : Code → Bool
  | .region _ ops _ => ops.toList.all noDeferO
  | .seq a b => noDefer a && noDefer b
  | .cond _ a b => noDefer a && noDefer b
  | .block _ c => noDefer c
  | .loop c => noDefer c
  | .scope _ => false
  | _ => true

theorem wpIn_of_wp {l m : Nat} {o : Oper} {a : Act} {w : World} {next next' : Act → World → Prop} {Q : Exit → Act → World → Prop} (hd : noDeferO o = true) (h : o.wp P a w next Q) (hn : ∀ a w, next a w → next' a w) : o.wpIn (RF l) m P a w next' Q := by
  refine ⟨fun _ _ => trivial, ?_⟩
  rw [Oper.semAt_eq _ _ _ (by intro c hc; unfold noDeferO at hd; rw [hc] at hd; cases hd)]
  unfold Oper.wp at h
  generalize (execOp a.eval o).run P w = r at *
  cases r with
  | ok x w' =>
    cases x with
    | value v => exact hn _ _ h
    | skip => exact hn _ _ h
    | defer d => exact hn _ _ h
    | enter f args =>
      have h : Calls P f args w' _ := h
      have := (callsIn_wide (n := m - 1)).2 h
      have h2 := CallsIn.mono (R' := fun e w'' => match e with
        | .returned v => next' (a.put o.dst v) w''
        | .panicked chain => Q (.panic chain) a w''
        | .outgrown => LetsOut Q) (CallsIn.inRound l this) (by
        intro e w'' he
        cases e with
        | returned v => exact hn _ _ he
        | panicked c => exact he
        | outgrown => exact he)
      refine ⟨fun h => Bool.noConfusion (show false = true from h), CallsIn.mono h2 ?_⟩
      intro e w'' he
      cases e with
      | returned v => exact he
      | panicked c => exact he
      | outgrown => exact he
    | row row args =>
      refine ⟨fun h => Bool.noConfusion (show false = true from h), fun c cs _ => ?_⟩
      obtain ⟨v, w'', r, s⟩ := h c cs
      exact ⟨v, w'', hn _ _ r, stepsIn_wide.2 s⟩
    | round l f t x y => exact h.elim
    | _ => exact h.elim
  | halt s w' =>
    cases s <;> exact h

theorem wpList_in {l m : Nat} {ops : Array Oper} {Q : Exit → Act → World → Prop} (hq : ∀ a w, ¬ Q .outgrown a w) : ∀ {L : List Oper} {a : Act} {w : World}, L.all noDeferO = true → wpList P ops Q L a w → wpListIn (RF l) m P ops Q L a w := by
  intro L
  induction L with
  | nil => intro a w _ h; exact h
  | cons o rest ih =>
    intro a w hd h
    simp only [List.all_cons, Bool.and_eq_true] at hd
    unfold wpList at h
    unfold wpListIn
    split at h
    · rename_i hw
      rw [if_pos hw]
      rcases h with h | ⟨_, a', w', h⟩
      · exact wpIn_of_wp hd.1 h fun a w h => ih hd.2 h
      · exact absurd h (hq _ _)
    · rename_i hw
      rw [if_neg hw]
      exact ⟨fun _ _ => trivial, ih hd.2 h⟩

theorem wpAny_in {l m : Nat} {ops : Array Oper} {Q : Exit → Act → World → Prop} (hq : ∀ a w, ¬ Q .outgrown a w) (hd : ops.toList.all noDeferO = true) : ∀ (k : Nat) {listed : Array Bool} {a : Act} {w : World}, wpAny P .any ops Q k listed a w → wpAnyIn (RF l) m P .any ops Q k listed a w := by
  intro k
  induction k with
  | zero => intro listed a w h; exact h
  | succ k ih =>
    intro listed a w h
    refine ⟨h.1, fun i hi => ?_⟩
    have h := h.2 i hi
    unfold wpOp at h
    unfold wpOpIn
    split at h
    · rename_i ho; rw [ho]; exact ih h
    · rename_i o ho
      rw [ho]
      dsimp only
      have hdo : noDeferO o = true := List.all_eq_true.1 hd o (List.mem_of_getElem? (by simpa using ho))
      split at h
      · rename_i hw
        rw [if_pos hw]
        rcases h with h | ⟨_, a', w', h⟩
        · exact wpIn_of_wp hdo h fun a w h => ih h
        · exact absurd h (hq _ _)
      · rename_i hw
        rw [if_neg hw]
        exact ⟨fun _ _ => trivial, ih h⟩

/-- Code does in a round what it says. -/
theorem codeX_in {effs : List Nat} (hm : P.follows .mixedOrders = true) {l m n : Nat} : ∀ {c : Code} {ρ : Env} {w : World} {Q : Exit → Env → World → Prop} {Q' : Exit → Act → World → Prop}, noDefer c = true → (∀ a w, ¬ Q' .outgrown a w) →
    codeX (drawX effs) P n c ρ w Q → (∀ e ρ' w', Q e ρ' w' → (∀ t, t ∉ modsOf c → ρ'.get t = ρ.get t) → Q' e (act n ρ') w') → c.wpIn (RF l) m P Q' (act n ρ) w := by
  intro c
  induction c with
  | skip => intro ρ w Q Q' _ _ h hq; exact wpIn_skip (hq _ _ _ h fun _ _ => rfl)
  | label l => intro ρ w Q Q' _ _ h hq; exact wpIn_label (hq _ _ _ h fun _ _ => rfl)
  | exit i => intro ρ w Q Q' _ _ h hq; exact wpIn_exit (hq _ _ _ h fun _ _ => rfl)
  | ret => intro ρ w Q Q' _ _ h hq; exact wpIn_ret (hq _ _ _ h fun _ _ => rfl)
  | region id ops dr =>
    intro ρ w Q Q' hd ho h hq
    cases dr with
    | false => exact wpIn_region_list (wpList_in ho hd (opsX_sound h fun ρ' w' hk hag => hq _ _ _ hk hag))
    | true => exact wpIn_region_any hm (wpAny_in ho hd _ (drawX_any effs h fun ρ' w' hk hag => hq _ _ _ hk hag))
  | cond c x y ihx ihy =>
    intro ρ w Q Q' hd ho h hq
    simp only [noDefer, Bool.and_eq_true] at hd
    simp only [codeX] at h
    split at h
    · rename_i b hb
      have hev : (act n ρ).eval c = .bool b := by rw [act_eval]; exact hb
      cases b with
      | true => exact wpIn_cond_true hev (ihx hd.1 ho h fun e ρ' w' hk hag => hq e ρ' w' hk fun t ht => hag t fun hm => ht (by simp [modsOf, hm]))
      | false => exact wpIn_cond_false hev (ihy hd.2 ho h fun e ρ' w' hk hag => hq e ρ' w' hk fun t ht => hag t fun hm => ht (by simp [modsOf, hm]))
    · exact h.elim
  | block i c ih =>
    intro ρ w Q Q' hd ho h hq
    refine wpIn_block (ih hd ho h fun e ρ' w' hk hag => ?_)
    cases e with
    | exit j =>
      simp only [Exit.inBlock]
      simp only [] at hk
      cases hb : Nat.beq j i with
      | true => rw [hb] at hk; rw [if_pos (Nat.eq_of_beq_eq_true hb)]; exact hq _ _ _ hk hag
      | false => rw [hb] at hk; rw [if_neg (fun e => by subst e; rw [Nat.beq_refl] at hb; cases hb)]; exact hq _ _ _ hk hag
    | _ => exact hq _ _ _ hk hag
  | seq x y ihx ihy =>
    intro ρ w Q Q' hd ho h hq
    simp only [noDefer, Bool.and_eq_true] at hd
    have hy : ∀ {ρ1 : Env} {w1 : World}, (∀ t, t ∉ modsOf x → ρ1.get t = ρ.get t) → codeX (drawX effs) P n y ρ1 w1 Q → y.wpIn (RF l) m P Q' (act n ρ1) w1 := by
      intro ρ1 w1 hag1 h1
      refine ihy hd.2 ho h1 fun e ρ' w' hk hag => hq e ρ' w' hk fun t ht => ?_
      simp only [modsOf, List.mem_append, not_or] at ht
      rw [hag t ht.2, hag1 t ht.1]
    simp only [codeX] at h
    cases hb : Nat.blt 1 (ways x) with
    | false =>
      rw [hb] at h
      simp only [cond_false] at h
      refine wpIn_seq (ihx hd.1 ho h fun e ρ' w' hk hag => ?_)
      cases e with
      | normal => exact hy hag hk
      | _ => exact hq _ _ _ hk fun t ht => hag t fun hm => ht (by simp [modsOf, hm])
    | true =>
      rw [hb] at h
      simp only [cond_true] at h
      have h := h (fun vs w' => ∀ ρ1, vals (keepNew P n x y ρ) ρ1 = vs → (∀ t, t ∉ modsOf x → ρ1.get t = ρ.get t) → y.wpIn (RF l) m P Q' (act n ρ1) w') (by
        rw [allShs_iff]
        intro vs _ w' hu ρ1 hvs hag1
        have := hu ρ1.get
        rw [← hvs, vals] at this
        rw [← act_congr (genv_self hag1)]
        exact hy (fun t ht => (genv_self hag1 t).trans (hag1 t ht)) this)
      refine wpIn_seq (ihx hd.1 ho h fun e ρ' w' hk hag => ?_)
      cases e with
      | normal =>
        obtain ⟨_, hk⟩ := cond_some hk
        exact hk ρ' rfl hag
      | _ => exact hq _ _ _ hk fun t ht => hag t fun hm => ht (by simp [modsOf, hm])
  | loop c ih =>
    intro ρ w Q Q' hd ho h hq
    simp only [codeX] at h
    obtain ⟨I, μ, h0, hr⟩ := h
    rw [allShs_iff] at hr
    refine wpIn_loop (fun a w' => ∃ ρ1 : Env, a = act n ρ1 ∧ (∀ t, t ∉ modsOf c → ρ1.get t = ρ.get t) ∧ hasShs (shs (keepOld n c ρ)) (vals (keepOld n c ρ) ρ1) = true ∧ I (vals (keepOld n c ρ) ρ1) w')
      (fun a w' => μ ((keepOld n c ρ).map fun p => a.tmps.getD p.1 undef) w') ⟨ρ, rfl, fun _ _ => rfl, hasShs_vals fun p hp => (keepOld_both p hp).2, h0⟩ ?_
    rintro a w1 ⟨ρ1, rfl, hag1, hs1, hI⟩
    have hr := hr _ hs1 w1 ρ1.get hI
    have hgen : ∀ t, (genv ρ (modsOf c) (keepOld n c ρ) (vals (keepOld n c ρ) ρ1) ρ1.get).get t = ρ1.get t := genv_self (keep := keepOld n c ρ) hag1
    have hv : ∀ ρ' : Env, ((keepOld n c ρ).map fun p => (act n ρ').tmps.getD p.1 undef) = vals (keepOld n c ρ) ρ' := fun ρ' => vals_act fun p hp => (keepOld_both p hp).1
    rw [← act_congr hgen]
    refine ih hd ho hr fun e ρ' w' hk hag => ?_
    have hag' : ∀ t, t ∉ modsOf c → ρ'.get t = ρ.get t := fun t ht => (hag t ht).trans ((hgen t).trans (hag1 t ht))
    cases e with
    | normal =>
      obtain ⟨hs, hI', hlt⟩ := cond_some hk
      refine ⟨⟨ρ', rfl, hag', hs, hI'⟩, ?_⟩
      rw [hv]
      show _ < μ ((keepOld n c ρ).map fun p => (act n (genv ρ (modsOf c) (keepOld n c ρ) (vals (keepOld n c ρ) ρ1) ρ1.get)).tmps.getD p.1 undef) w1
      rw [act_congr hgen, hv]
      exact hlt
    | _ => exact hq _ _ _ hk hag'
  | scope c ih => intro ρ w Q Q' hd; cases hd
  | _ => intro ρ w Q Q' _ _ h _; exact h.elim
end Go.X

set_option linter.unusedVariables false
/- Words of memory: what a block holds behind news and stores, and what a call leaves alone. -/
namespace Go.X
open Go Go.RowKit

/-- Blocks that were there are as they were, but for those of F. -/
structure Chg (F : Nat → Prop) (w w' : World) : Prop where
  os : w'.os = w.os
  tape : w'.tape = w.tape
  output : w'.output = w.output
  size : w.heap.size ≤ w'.heap.size
  block : ∀ k, k < w.heap.size → ¬ F k → blk w' k = blk w k

def Non (_ : Nat) : Prop := False

theorem Chg.refl (F : Nat → Prop) (w : World) : Chg F w w := ⟨rfl, rfl, rfl, Nat.le_refl _, fun _ _ _ => rfl⟩
theorem Chg.trans {F : Nat → Prop} {a b c : World} (h : Chg F a b) (k : Chg F b c) : Chg F a c :=
  ⟨k.os.trans h.os, k.tape.trans h.tape, k.output.trans h.output, Nat.le_trans h.size k.size, fun i hi hf => (k.block i (Nat.lt_of_lt_of_le hi h.size) hf).trans (h.block i hi hf)⟩
theorem Chg.mono {F F' : Nat → Prop} {w w' : World} (h : Chg F w w') (hf : ∀ k, k < w.heap.size → F k → F' k) : Chg F' w w' := ⟨h.os, h.tape, h.output, h.size, fun k hk hn => h.block k hk fun x => hn (hf k hk x)⟩
/-- What the second call changes besides is new. -/
theorem Chg.trans' {F F' : Nat → Prop} {a b c : World} (h : Chg F a b) (k : Chg F' b c) (hf : ∀ k, k < a.heap.size → F' k → F k) : Chg F a c :=
  ⟨k.os.trans h.os, k.tape.trans h.tape, k.output.trans h.output, Nat.le_trans h.size k.size, fun i hi hn => (k.block i (Nat.lt_of_lt_of_le hi h.size) fun x => hn (hf i hi x)).trans (h.block i hi hn)⟩
theorem Chg.below {w w' : World} (h : Chg Non w w') : Below w.heap.size w w' := ⟨h.os, h.tape, h.output, h.size, fun k hk => h.block k hk fun x => x⟩
theorem Chg.of_below {w w' : World} (h : Below w.heap.size w w') : Chg Non w w' := ⟨h.os, h.tape, h.output, h.size, fun k hk _ => h.block k hk⟩
theorem below_iff {w w' : World} : Below w.heap.size w w' ↔ Chg Non w w' := ⟨.of_below, Chg.below⟩
theorem Chg.non {F : Nat → Prop} {w w' : World} (h : Chg Non w w') : Chg F w w' := h.mono fun _ _ h => h.elim

theorem size_alloc (w : World) (o : Obj) : (w.alloc o).heap.size = w.heap.size + 1 := by
  show (w.heap.push o).size = _
  rw [Array.size_push]
theorem size_setCell (w : World) (a : Addr) (v : Value) : (w.setCell a v).heap.size = w.heap.size := by simp [World.setCell]
theorem blk_lt {w : World} {k : Nat} {o : Obj} (h : blk w k = some o) : k < w.heap.size := (Array.getElem?_eq_some_iff.1 h).1
theorem blk_alloc_new (w : World) (o : Obj) : blk (w.alloc o) w.heap.size = some o := by
  show (w.heap.push o)[w.heap.size]? = _
  simp
theorem blk_alloc_at (w : World) (o : Obj) {k : Nat} (h : k = w.heap.size) : blk (w.alloc o) k = some o := by rw [h]; exact blk_alloc_new w o
theorem blk_alloc_ne (w : World) (o : Obj) {k : Nat} (h : k ≠ w.heap.size) : blk (w.alloc o) k = blk w k := by
  show (w.heap.push o)[k]? = _
  rw [Array.getElem?_push, if_neg h]; rfl

def setO (i : Nat) (v : Value) : Obj → Obj
  | .cells c T f => .cells (c.setIfInBounds i v) T f
  | o => o
theorem blk_setCell (w : World) (b i : Nat) (v : Value) : blk (w.setCell ⟨b, i, none⟩ v) b = (blk w b).map (setO i v) := by
  show (w.heap.modify b _)[b]? = _
  rw [Array.getElem?_modify, if_pos rfl]
  show Option.map _ w.heap[b]? = Option.map _ w.heap[b]?
  cases w.heap[b]? with
  | none => rfl
  | some o => cases o <;> rfl
theorem blk_setCell_ne (w : World) {b i k : Nat} {s : Option Nat} (v : Value) (h : k ≠ b) : blk (w.setCell ⟨b, i, s⟩ v) k = blk w k := by
  show (w.heap.modify b _)[k]? = _
  rw [Array.getElem?_modify, if_neg (fun e => h e.symm)]; rfl
theorem map_setO_cells (i : Nat) (v : Value) (c : Array Value) (T : TypeId) (f : Nat × Nat) : (some (Obj.cells c T f)).map (setO i v) = some (.cells (c.setIfInBounds i v) T f) := rfl

def at? (o : Option Obj) (i : Nat) : Option Value :=
  match o with
  | some (.cells c _ _) => c[i]?
  | _ => none
def row? (o : Option Obj) (i n : Nat) : Option (Array Value) :=
  match o with
  | some (.cells c _ _) => if i + n ≤ c.size then some (c.extract i (i + n)) else none
  | _ => none
theorem cell?_blk (w : World) (b i : Nat) : w.cell? ⟨b, i, none⟩ = at? (blk w b) i := by
  unfold World.cell? at? blk
  cases w.heap[b]? with
  | none => rfl
  | some o => cases o <;> rfl
theorem cellsW_blk (w : World) (b i n : Nat) : cellsW w ⟨b, i, none⟩ n = row? (blk w b) i n := by
  unfold cellsW row?
  simp only [true_and]
  cases blk w b with
  | none => rfl
  | some o => cases o <;> rfl
theorem at?_cells (c : Array Value) (T : TypeId) (f : Nat × Nat) (i : Nat) : at? (some (.cells c T f)) i = c[i]? := rfl
theorem row?_cells (c : Array Value) (T : TypeId) (f : Nat × Nat) (i n : Nat) : row? (some (.cells c T f)) i n = if i + n ≤ c.size then some (c.extract i (i + n)) else none := rfl
/-- Cells of a block that may be written. -/
theorem freeW_of {w : World} {b i n : Nat} {c : Array Value} {T : TypeId} (h : blk w b = some (.cells c T)) (hn : i + n ≤ c.size) : FreeW w ⟨b, i, none⟩ n := ⟨c, T, 0, 0, h, rfl, hn, .inl (Nat.zero_le _)⟩
def free? (o : Option Obj) (i n : Nat) : Prop :=
  match o with
  | some (.cells c _ (lo, hi)) => i + n ≤ c.size ∧ (hi ≤ i ∨ i + n ≤ lo)
  | _ => False
theorem freeW_iff (w : World) (b i n : Nat) : FreeW w ⟨b, i, none⟩ n ↔ free? (blk w b) i n := by
  unfold FreeW free?
  constructor
  · rintro ⟨c, T, lo, hi, h, _, h1, h2⟩; rw [h]; exact ⟨h1, h2⟩
  · intro h
    split at h
    · rename_i c T lo hi hb; exact ⟨c, T, lo, hi, hb, rfl, h.1, h.2⟩
    · exact h.elim
theorem free?_cells (c : Array Value) (T : TypeId) (i n : Nat) : free? (some (.cells c T (0, 0))) i n ↔ i + n ≤ c.size := by
  unfold free?; simp

theorem new_iff {w : World} {o : Obj} {b : Nat} {w' : World} : New w o b w' ↔ b = w.heap.size ∧ w' = w.alloc o := Iff.rfl
theorem put_iff {w : World} {a : Addr} {v : Value} {w' : World} : Put w a v w' ↔ w' = w.setCell a v := Iff.rfl
theorem puts_iff {w : World} {a : Addr} {vs : List Value} {w' : World} : Puts w a vs w' ↔ w' = putCells w a vs := Iff.rfl
theorem putCells_nil (w : World) (a : Addr) : putCells w a [] = w := rfl
theorem putCells_cons (w : World) (b i : Nat) (v : Value) (vs : List Value) : putCells w ⟨b, i, none⟩ (v :: vs) = putCells (w.setCell ⟨b, i, none⟩ v) ⟨b, i + 1, none⟩ vs := rfl

theorem all_new {w : World} {o : Obj} {K : Nat → World → Prop} (h : K w.heap.size (w.alloc o)) : ∀ b w', New w o b w' → K b w' := by rintro b w' ⟨rfl, rfl⟩; exact h
theorem all_put {w : World} {a : Addr} {v : Value} {K : World → Prop} (h : K (w.setCell a v)) : ∀ w', Put w a v w' → K w' := by rintro w' rfl; exact h
theorem all_puts {w : World} {a : Addr} {vs : List Value} {K : World → Prop} (h : K (putCells w a vs)) : ∀ w', Puts w a vs w' → K w' := by rintro w' rfl; exact h

theorem Chg.alloc {F : Nat → Prop} {a w : World} (h : Chg F a w) (o : Obj) : Chg F a (w.alloc o) :=
  h.trans ⟨rfl, rfl, rfl, by rw [size_alloc]; omega, fun k hk _ => blk_alloc_ne w o (by omega)⟩
theorem Chg.setCell {F : Nat → Prop} {a w : World} (h : Chg F a w) {b i : Nat} {s : Option Nat} (v : Value) (hb : a.heap.size ≤ b ∨ F b) : Chg F a (w.setCell ⟨b, i, s⟩ v) :=
  ⟨h.os, h.tape, h.output, by rw [size_setCell]; exact h.size, fun k hk hf => (blk_setCell_ne w v (by rintro rfl; rcases hb with hb | hb; omega; exact hf hb)).trans (h.block k hk hf)⟩

def putA (c : Array Value) : Nat → List Value → Array Value
  | _, [] => c
  | i, v :: vs => putA (c.setIfInBounds i v) (i + 1) vs
theorem putA_size : ∀ (vs : List Value) (c : Array Value) (i : Nat), (putA c i vs).size = c.size
  | [], c, i => rfl
  | v :: vs, c, i => by rw [putA, putA_size]; simp
theorem putA_at : ∀ (vs : List Value) (c : Array Value) (i j : Nat), i + vs.length ≤ c.size → (putA c i vs)[j]? = if i ≤ j ∧ j < i + vs.length then vs[j - i]? else c[j]?
  | [], c, i, j, _ => by rw [putA, if_neg (by simp)]
  | v :: vs, c, i, j, h => by
    simp only [List.length_cons] at h
    rw [putA, putA_at vs _ _ _ (by simp; omega), Array.getElem?_setIfInBounds]
    simp only [List.length_cons]
    by_cases h1 : j = i
    · subst h1
      rw [if_neg (by omega), if_pos rfl, if_pos (by omega), if_pos (by omega)]
      simp
    · by_cases h2 : i + 1 ≤ j ∧ j < i + 1 + vs.length
      · rw [if_pos h2, if_pos (by omega)]
        obtain ⟨k, rfl⟩ : ∃ k, j = i + 1 + k := ⟨j - (i + 1), by omega⟩
        rw [show i + 1 + k - (i + 1) = k by omega, show i + 1 + k - i = k + 1 by omega, List.getElem?_cons_succ]
      · rw [if_neg h2, if_neg (by omega), if_neg (by omega)]
theorem putCells_putA : ∀ (vs : List Value) (w : World) (b i : Nat) (c : Array Value) (T : TypeId) (f : Nat × Nat), blk w b = some (.cells c T f) → blk (putCells w ⟨b, i, none⟩ vs) b = some (.cells (putA c i vs) T f)
  | [], w, b, i, c, T, f, h => h
  | v :: vs, w, b, i, c, T, f, h => by
    rw [putCells_cons]
    exact putCells_putA vs _ b (i + 1) _ T f (by rw [blk_setCell, h]; rfl)
theorem putCells_all {vs : List Value} {w : World} {b : Nat} {c : Array Value} {T : TypeId} {f : Nat × Nat} (h : blk w b = some (.cells c T f)) (hs : vs.length = c.size) : blk (putCells w ⟨b, 0, none⟩ vs) b = some (.cells vs.toArray T f) := by
  rw [putCells_putA vs w b 0 c T f h]
  congr 2
  apply Array.ext_getElem?
  intro j
  rw [putA_at _ _ _ _ (by omega), Nat.sub_zero]
  by_cases hj : j < vs.length
  · rw [if_pos (by omega)]; simp
  · rw [if_neg (by omega), Array.getElem?_eq_none (by omega), Array.getElem?_eq_none (by simp; omega)]
theorem putCells_size (vs : List Value) : ∀ (w : World) (b i : Nat), (putCells w ⟨b, i, none⟩ vs).heap.size = w.heap.size := by
  induction vs with
  | nil => intro w b i; rfl
  | cons v vs ih => intro w b i; rw [putCells_cons, ih, size_setCell]
theorem putCells_ne (vs : List Value) : ∀ (w : World) (b i : Nat) (k : Nat), k ≠ b → blk (putCells w ⟨b, i, none⟩ vs) k = blk w k := by
  induction vs with
  | nil => intro w b i k _; rfl
  | cons v vs ih => intro w b i k hk; rw [putCells_cons, ih _ _ _ _ hk, blk_setCell_ne _ _ hk]
theorem Chg.putCells {F : Nat → Prop} {a : World} (vs : List Value) : ∀ {w : World} {b i : Nat}, Chg F a w → (a.heap.size ≤ b ∨ F b) → Chg F a (putCells w ⟨b, i, none⟩ vs) := by
  induction vs with
  | nil => intro w b i h _; exact h
  | cons v vs ih => intro w b i h hb; rw [putCells_cons]; exact ih (h.setCell v hb) hb

theorem br_true (A B : Prop) : Br true A B = A := rfl
theorem br_false (A B : Prop) : Br false A B = B := rfl
theorem br_dec {p : Prop} [Decidable p] {A B : Prop} (h1 : p → A) (h2 : ¬ p → B) : Br (decide p) A B := by
  by_cases h : p
  · rw [decide_eq_true h]; exact h1 h
  · rw [decide_eq_false h]; exact h2 h
theorem br_bool {b : Bool} {A B : Prop} (h1 : b = true → A) (h2 : b = false → B) : Br b A B := by
  cases b
  · exact h2 rfl
  · exact h1 rfl

theorem Calls.then {P : Program} {f : FuncId} {args : Array Value} {w : World} {R R' : Ending → World → Prop} (h : Calls P f args w R) (k : ∀ e w', R e w' → R' e w') : Calls P f args w R' := Calls.mono h k

theorem arr_set_lit (l : List Value) (i : Nat) (v : Value) : (l.toArray).setIfInBounds i v = (l.set i v).toArray := by simp
theorem oneCells_lit (l : List Value) : OneCells l.toArray ↔ l.all oneC = true := by unfold OneCells; simp

theorem grows_and {A B : World → Prop} (a : Grows A) (b : Grows B) : Grows fun w => A w ∧ B w := fun w w' h hb => ⟨a w w' h.1 hb, b w w' h.2 hb⟩

end Go.X

set_option linter.unusedVariables false
/- Steps: each takes the head of a condition away, and says of the world behind it what is known. -/
namespace Go.X
open Go Go.RowKit

def In (l : List Nat) (k : Nat) : Prop := k ∈ l

theorem not_non (k : Nat) : ¬ Non k := fun x => x
theorem not_in_nil (k : Nat) : ¬ In [] k := by unfold In; simp
theorem not_in_cons {k b : Nat} {l : List Nat} (h : k ≠ b) (h' : ¬ In l k) : ¬ In (b :: l) k := by unfold In at *; simp only [List.mem_cons, not_or]; exact ⟨h, h'⟩
theorem in_head (b : Nat) (l : List Nat) : In (b :: l) b := List.mem_cons_self
theorem in_tail {b c : Nat} {l : List Nat} (h : In l b) : In (c :: l) b := List.mem_cons_of_mem _ h
theorem sub_non {F : Nat → Prop} (n : Nat) : ∀ i, i < n → Non i → F i := fun _ _ h => h.elim
theorem sub_nil {F : Nat → Prop} (n : Nat) : ∀ i, i < n → In [] i → F i := fun i _ h => (not_in_nil i h).elim
theorem sub_new {F : Nat → Prop} {n b : Nat} {l : List Nat} (h : n ≤ b) (h' : ∀ i, i < n → In l i → F i) : ∀ i, i < n → In (b :: l) i → F i := by
  intro i hi hm; unfold In at hm; rcases List.mem_cons.1 hm with rfl | hm
  · omega
  · exact h' i hi hm
theorem sub_old {F : Nat → Prop} {n b : Nat} {l : List Nat} (h : F b) (h' : ∀ i, i < n → In l i → F i) : ∀ i, i < n → In (b :: l) i → F i := by
  intro i hi hm; unfold In at hm; rcases List.mem_cons.1 hm with rfl | hm
  · exact h
  · exact h' i hi hm

theorem Chg.get {F : Nat → Prop} {w w' : World} (h : Chg F w w') {k : Nat} {o : Obj} (hb : blk w k = some o) (hf : ¬ F k) : blk w' k = some o := (h.block k (blk_lt hb) hf).trans hb
theorem Chg.step {F G : Nat → Prop} {a b c : World} (k : Chg G b c) (h : Chg F a b) (hf : ∀ i, i < a.heap.size → G i → F i) : Chg F a c := h.trans' k hf

/-- A new block. -/
theorem nw {w : World} {o : Obj} {K : Nat → World → Prop} (h : ∀ k w', k = w.heap.size → w'.heap.size = w.heap.size + 1 → blk w' k = some o → Chg Non w w' → K k w') : ∀ k w', New w o k w' → K k w' := by
  rintro k w' ⟨rfl, rfl⟩
  exact h _ _ rfl (size_alloc _ _) (blk_alloc_new _ _) ((Chg.refl _ _).alloc _)
/-- A new block that was made among others. -/
theorem nwB {w : World} {o : Obj} {K : Nat → World → Prop} (h : ∀ k w', w.heap.size ≤ k → k < w'.heap.size → blk w' k = some o → Chg Non w w' → K k w') :
    ∀ k w', (Below w.heap.size w w' ∧ ∃ w1, Below w.heap.size w w1 ∧ k = w1.heap.size ∧ Below (w1.heap.size + 1) (w1.alloc o) w') → K k w' := by
  rintro k w' ⟨hb, w1, h1, rfl, h2⟩
  have h3 : w1.heap.size + 1 ≤ w'.heap.size := by have := h2.size; rw [size_alloc] at this; exact this
  refine h _ _ h1.size h3 ?_ (.of_below hb)
  exact (h2.block _ (Nat.lt_succ_self _)).trans (blk_alloc_new _ _)
theorem all_below {w : World} {K : World → Prop} (h : ∀ w', w.heap.size ≤ w'.heap.size → Chg Non w w' → K w') : ∀ w', Below w.heap.size w w' → K w' := fun w' hb => h w' hb.size (.of_below hb)
/-- A cell. -/
theorem rd1 {w : World} {k i : Nat} {c : Array Value} {T : TypeId} {f : Nat × Nat} {v : Value} (hb : blk w k = some (.cells c T f)) (h : c[i]? = some v) : w.cell? ⟨k, i, none⟩ = some v := by
  rw [cell?_blk, hb]; exact h
/-- All cells of a block. -/
theorem rdall {w : World} {k n : Nat} {c : Array Value} {T : TypeId} {f : Nat × Nat} (hb : blk w k = some (.cells c T f)) (h : c.size = n) : cellsW w ⟨k, 0, none⟩ n = some c := by
  subst h
  rw [cellsW_blk, hb, row?_cells, if_pos (by omega)]; simp
/-- Some cells of a block. -/
theorem rdc {w : World} {k i n : Nat} {l : List Value} {d : List Value} {T : TypeId} {f : Nat × Nat} (hb : blk w k = some (.cells l.toArray T f)) (h : (l.drop i).take n = d) (hl : i + n ≤ l.length) : cellsW w ⟨k, i, none⟩ n = some d.toArray := by
  subst h
  rw [cellsW_blk, hb, row?_cells, if_pos (by simpa using hl)]; simp
theorem rdx {w : World} {k i n : Nat} {c d : Array Value} {T : TypeId} {f : Nat × Nat} (hb : blk w k = some (.cells c T f)) (hn : i + n ≤ c.size) (h : c.extract i (i + n) = d) : cellsW w ⟨k, i, none⟩ n = some d := by
  rw [cellsW_blk, hb, row?_cells, if_pos hn, h]
theorem fw {w : World} {k i n : Nat} {c : Array Value} {T : TypeId} (hb : blk w k = some (.cells c T)) (hn : i + n ≤ c.size) : FreeW w ⟨k, i, none⟩ n := by
  rw [freeW_iff, hb, free?_cells]; exact hn
/-- All cells of a block are written. -/
theorem puts0 {w : World} {k : Nat} {c : Array Value} {T : TypeId} {f : Nat × Nat} {vs : List Value} {K : World → Prop} (hb : blk w k = some (.cells c T f)) (hs : vs.length = c.size)
    (h : ∀ w', w'.heap.size = w.heap.size → blk w' k = some (.cells vs.toArray T f) → Chg (In [k]) w w' → K w') : ∀ w', Puts w ⟨k, 0, none⟩ vs w' → K w' := by
  rintro w' rfl
  exact h _ (putCells_size _ _ _ _) (putCells_all hb hs) ((Chg.refl _ _).putCells _ (.inr (in_head _ _)))
theorem puts0A {w : World} {k : Nat} {c d : Array Value} {T : TypeId} {f : Nat × Nat} {K : World → Prop} (hb : blk w k = some (.cells c T f)) (hs : d.size = c.size)
    (h : ∀ w', w'.heap.size = w.heap.size → blk w' k = some (.cells d T f) → Chg (In [k]) w w' → K w') : ∀ w', Puts w ⟨k, 0, none⟩ d.1 w' → K w' :=
  puts0 hb (by simpa using hs) fun w' h1 h2 h3 => h w' h1 h2 h3
theorem nwC {w : World} {c : Array Value} {T : TypeId} {K : Nat → World → Prop} (h : ∀ k w', k = w.heap.size → w'.heap.size = w.heap.size + 1 → blk w' k = some (.cells c T) → Chg Non w w' → K k w') : ∀ k w', New w (.cells (Array.mk (catA c [])) T) k w' → K k w' :=
  nw fun k w' h1 h2 h3 h4 => h k w' h1 h2 (by rw [h3]; unfold catA; rw [List.append_nil]) h4
/-- Some cells of a block are written. -/
theorem putsA {w : World} {k i : Nat} {c : Array Value} {T : TypeId} {f : Nat × Nat} {vs : List Value} {K : World → Prop} (hb : blk w k = some (.cells c T f))
    (h : ∀ w', w'.heap.size = w.heap.size → blk w' k = some (.cells (putA c i vs) T f) → Chg (In [k]) w w' → K w') : ∀ w', Puts w ⟨k, i, none⟩ vs w' → K w' := by
  rintro w' rfl
  exact h _ (putCells_size _ _ _ _) (putCells_putA _ _ _ _ _ _ _ hb) ((Chg.refl _ _).putCells _ (.inr (in_head _ _)))
theorem putA_lit : ∀ (vs l : List Value) (i : Nat), i + vs.length ≤ l.length → putA l.toArray i vs = (l.take i ++ vs ++ l.drop (i + vs.length)).toArray
  | [], l, i, h => by simp [putA]
  | v :: vs, l, i, h => by
    simp only [List.length_cons] at h
    rw [putA, arr_set_lit, putA_lit vs _ _ (by simp; omega)]
    congr 1
    rw [List.take_succ_eq_append_getElem (by simp; omega), List.take_set_of_le (Nat.le_refl _), List.drop_set_of_lt (by omega)]
    simp only [List.getElem_set_self, List.append_assoc, List.cons_append, List.nil_append, List.length_cons]
    rw [show i + 1 + vs.length = i + (vs.length + 1) by omega]
/-- Some cells of a block whose cells are listed are written. -/
theorem putsL {w : World} {k i : Nat} {l l' : List Value} {T : TypeId} {f : Nat × Nat} {vs : List Value} {K : World → Prop} (hb : blk w k = some (.cells l.toArray T f)) (hn : i + vs.length ≤ l.length) (hl : l.take i ++ vs ++ l.drop (i + vs.length) = l')
    (h : ∀ w', w'.heap.size = w.heap.size → blk w' k = some (.cells l'.toArray T f) → Chg (In [k]) w w' → K w') : ∀ w', Puts w ⟨k, i, none⟩ vs w' → K w' := by
  subst hl
  refine putsA hb fun w' h1 h2 h3 => h w' h1 (by rw [h2, putA_lit _ _ _ hn]) h3
/-- A cell is written. -/
theorem put1 {w : World} {k i : Nat} {c : Array Value} {T : TypeId} {f : Nat × Nat} {v : Value} {K : World → Prop} (hb : blk w k = some (.cells c T f))
    (h : ∀ w', w'.heap.size = w.heap.size → blk w' k = some (.cells (c.setIfInBounds i v) T f) → Chg (In [k]) w w' → K w') : ∀ w', Put w ⟨k, i, none⟩ v w' → K w' := by
  rintro w' rfl
  exact h _ (size_setCell _ _ _) (by rw [blk_setCell, hb]; rfl) ((Chg.refl _ _).setCell _ (.inr (in_head _ _)))
/-- A cell of a block whose cells are listed is written. -/
theorem putL {w : World} {k i : Nat} {l l' : List Value} {T : TypeId} {f : Nat × Nat} {v : Value} {K : World → Prop} (hb : blk w k = some (.cells l.toArray T f)) (hl : l.set i v = l')
    (h : ∀ w', w'.heap.size = w.heap.size → blk w' k = some (.cells l'.toArray T f) → Chg (In [k]) w w' → K w') : ∀ w', Put w ⟨k, i, none⟩ v w' → K w' := by
  subst hl
  refine put1 hb ?_
  intro w' h1 h2 h3
  exact h w' h1 (by rw [h2]; simp) h3

theorem br_t {b : Bool} {A B : Prop} (h : b = true) (a : A) : Br b A B := by subst h; exact a
theorem br_f {b : Bool} {A B : Prop} (h : b = false) (a : B) : Br b A B := by subst h; exact a
theorem one_lit {l : List Value} (h : l.all oneC = true) : OneCells l.toArray := h

/-- A call whose work floats: it leaves memory alone. -/
theorem float {P : Program} {f : FuncId} {args : Array Value} {w : World} {R : World → Ending → World → Prop} (h : ∀ w', w.heap.size ≤ w'.heap.size → Chg Non w w' → Calls P f args w' (R w')) : ∀ w', Below w.heap.size w w' → Calls P f args w' (R w') := fun w' hb => h w' hb.size (.of_below hb)
theorem floI {P : Program} {f : FuncId} {args : Array Value} {w : World} {K : IntKind} {n0 : Int} (h : ∀ w', w.heap.size ≤ w'.heap.size → Chg Non w w' → Calls P f args w' fun e w2 => e = .returned (.int K n0) ∧ Chg Non w' w2) :
    ∀ w', Below w.heap.size w w' → Calls P f args w' fun e w2 => ∃ n, e = .returned (.int K n) ∧ Below w'.heap.size w' w2 ∧ Value.int K n = Value.int K n0 :=
  fun w' hb => Calls.then (h w' hb.size (.of_below hb)) fun e w2 he => ⟨n0, he.1, he.2.below, rfl⟩
theorem floB {P : Program} {f : FuncId} {args : Array Value} {w : World} {n0 : Bool} (h : ∀ w', w.heap.size ≤ w'.heap.size → Chg Non w w' → Calls P f args w' fun e w2 => e = .returned (.bool n0) ∧ Chg Non w' w2) :
    ∀ w', Below w.heap.size w w' → Calls P f args w' fun e w2 => ∃ n, e = .returned (.bool n) ∧ Below w'.heap.size w' w2 ∧ Value.bool n = Value.bool n0 :=
  fun w' hb => Calls.then (h w' hb.size (.of_below hb)) fun e w2 he => ⟨n0, he.1, he.2.below, rfl⟩
theorem floA {P : Program} {f : FuncId} {args : Array Value} {w : World} {n0 : Array Value} (h : ∀ w', w.heap.size ≤ w'.heap.size → Chg Non w w' → Calls P f args w' fun e w2 => e = .returned (.agg n0) ∧ Chg Non w' w2) :
    ∀ w', Below w.heap.size w w' → Calls P f args w' fun e w2 => ∃ n, e = .returned (.agg n) ∧ Below w'.heap.size w' w2 ∧ Value.agg n = Value.agg n0 :=
  fun w' hb => Calls.then (h w' hb.size (.of_below hb)) fun e w2 he => ⟨n0, he.1, he.2.below, rfl⟩
theorem cut0 {a : Addr} {m : Nat} : cutA (some a) 0 m 0 = some a := by
  unfold cutA; split
  · rfl
  · simp [Addr.add]
theorem cut_ne {b o k m l : Nat} (h : m ≠ l) : cutA (some ⟨b, o, none⟩) k m l = some ⟨b, o + k, none⟩ := by
  unfold cutA; rw [if_neg h]; simp [Addr.add]
theorem cut_some (b o k m l : Nat) : ∃ o', cutA (some ⟨b, o, none⟩) k m l = some ⟨b, o', none⟩ ∧ (m ≠ l → o' = o + k) := by
  by_cases h : m = l
  · exact ⟨o, by unfold cutA; rw [if_pos h], fun hh => absurd h hh⟩
  · exact ⟨o + k, cut_ne h, fun _ => rfl⟩
end Go.X

set_option linter.unusedVariables false
/- Rows that grow. -/
namespace Go.X
open Go Go.RowKit
variable {P : Program}

def OwnB (v : Value) (k : Nat) : Prop := some k = v.ownBlock

theorem Chg.of_grown {w w' : World} {v : Value} (h : w.grownBy w' v.ownBlock) : Chg (OwnB v) w w' := ⟨h.os, h.tape, h.output, h.size, fun k hk hn => h.block k hk hn⟩

/-- Cells are added to a row: in its block, or in a new one. -/
theorem app_own (w : World) (t ty e : TypeId) (i : TypeInfo) (z : Value) (size : Nat) (ht : P.underlying t = some (.slice e)) (hi : P.info? e = some i) (hz : i.zero = some z)
    (hsize : i.size = size) (hzs : z.cells.size = size) (hsz : 0 < size)
    (v : Value) (n : Nat) (xs : List Value) (hown : w.ownsRow 0 e size v n xs)
    (a : Addr) (m c : Nat) (news : List Value) (hl : news.length = m * size) (hnews : ∀ j u, news[j]? = some u → w.cell? (a.add j) = some u) (h1 : ∀ u ∈ news, u.oneCell' = true)
    (h63 : n + m ≤ maxLen) (hbytes : (n + m) * i.bytes ≤ 140737488355328) :
    ∃ v' w', Runs P (Builtin.append_ #[t, t] ty #[v, .slice (some a) m c]) w v' w' ∧ w'.ownsRow 0 e size v' (n + m) (xs ++ news) ∧ Chg (OwnB v) w w' ∧
      (v' = .slice none 0 0 ↔ v = .slice none 0 0 ∧ m = 0) ∧ (∀ k, v'.ownBlock = some k → v.ownBlock = some k ∨ w.heap.size ≤ k) := by
  obtain ⟨v', w', hr, ho, hg, hn⟩ := run_append_own (P := P) w 0 t ty e i z size i.bytes ht hi hz hsize rfl hzs hsz v n xs hown a m c news hl hnews h1 h63 hbytes (Nat.zero_le _)
  refine ⟨v', w', hr, ho, .of_grown hg, hn, ?_⟩
  subst hsize
  rcases hown.2 with ⟨rfl, rfl⟩ | ⟨g, cap, cur, rfl, _, hgg, hnc, hcm, hcs, htake⟩
  · obtain ⟨v2, w2, hr2, ho2, _, _⟩ := run_append_own (P := P) w w.heap.size t ty e i z i.size i.bytes ht hi hz rfl rfl hzs hsz (.slice none 0 0) 0 xs ⟨hown.1, .inl ⟨rfl, rfl⟩⟩ a m c news hl hnews h1 h63 hbytes (Nat.le_refl _)
    rw [hr] at hr2
    injection hr2 with e1 e2
    subst e1; subst e2
    intro k hk
    exact .inr (ho2.lt k hk).1
  · by_cases hroom : n + m ≤ cap
    · have hfit : n * i.size + news.length ≤ cur.size := by rw [hl, hcs, ← Nat.add_mul]; exact Nat.mul_le_mul_right _ hroom
      have hr2 := run_append_room (P := P) w t ty e i ht hi g n cap cur hgg a m c news hl hnews h1 hroom hfit
      rw [hr] at hr2
      injection hr2 with e1 e2
      subst e1
      intro k hk
      exact .inl hk
    · have holds : ∀ j u, xs[j]? = some u → w.cell? ((⟨g, 0, none⟩ : Addr).add j) = some u := hown.cells (g := g) rfl
      have hr2 := run_append_grow (P := P) w t ty e i z ht hi hz ⟨g, 0, none⟩ n cap xs hown.1 holds a m c news hl hnews (by omega) (by simp only [maxLen] at h63; omega) (growslice_fits (by omega) hbytes)
      rw [hr] at hr2
      injection hr2 with e1 e2
      subst e1
      intro k hk
      simp only [Value.ownBlock, Option.some.injEq] at hk
      exact .inr (by omega)

/-- Cells of a row are copied into one. -/
theorem copy_runs (w : World) (dT sT ty elem : TypeId) (i : TypeInfo) (g o dLen dCap : Nat) (a : Addr) (sLen sCap : Nat) (cur : Array Value) (t : TypeId) (cs : List Value)
    (hu : P.underlying dT = some (.slice elem)) (hi : P.info? elem = some i)
    (hg : w.heap[g]? = some (.cells cur t (0, 0))) (hn : cs.length = min sLen dLen * i.size)
    (hsrc : ∀ j v, cs[j]? = some v → w.cell? (a.add j) = some v) (hfit : o + cs.length ≤ cur.size) (h1 : ∀ v ∈ cs, v.oneCell' = true) :
    Runs P (Builtin.copy_ #[dT, sT] ty #[.slice (some ⟨g, o, none⟩) dLen dCap, .slice (some a) sLen sCap]) w
      (.int .i64 ((min sLen dLen : Nat) : Int)) (w.setRow g (cur.toList.take o ++ cs ++ cur.toList.drop (o + cs.length)).toArray) := by
  have hl := run_loadCells_list (P := P) w a cs hsrc
  have hst := run_storeCells_at P g o t cs 0 cur w hg (by simpa using hfit) h1
  unfold Runs
  simp [Builtin.copy_, run_underlying hu, Builtin.lenOf, Builtin.firstCells, sizeOf, typeInfo, hi, ← hn, hl, hst]
  rfl

/-- Nothing is added to a row. -/
theorem app_none (w : World) (t ty e : TypeId) (i : TypeInfo) (ht : P.underlying t = some (.slice e)) (hi : P.info? e = some i) (a : Option Addr) (l c : Nat) (hlc : l ≤ c) :
    Runs P (Builtin.append_ #[t, t] ty #[.slice a l c, .slice none 0 0]) w (.slice a l c) w := by
  unfold Runs
  simp [Builtin.append_, run_underlying ht, sizeOf, typeInfo, hi, Builtin.lenOf, Builtin.firstCells, hlc]
  cases a <;> simp [storeCells]
end Go.X

set_option linter.unusedVariables false
/- A map of numbers with at most one key. -/
namespace Go.X
open Go Go.RowKit
variable {P : Program}

theorem map_put (w : World) (mty kt et : TypeId) (r : Nat) (n : Int) (v : Value) (hm : P.underlying mty = some (.map kt et)) (hk : P.underlying kt = some (.int .i64)) (hb : w.heap[r]? = some (.map #[] 0)) :
    RunsU P (Instr.mapUpdate mty (.map (some r)) (.int .i64 n) v) w { w with heap := w.heap.setIfInBounds r (.map #[{ key := .int .i64 n, val := v, born := 0 }] 1) } := by
  unfold RunsU
  have h1 : Instr.findNow (.int .i64) (.int .i64 n) [] 0 = some none := rfl
  have hck : (Instr.checkKey false 10000 kt (.int .i64 n)).run P w = .ok () w := MapKept.run_checkKey hk (show MapKept.IsKey (.int .i64) (.int .i64 n) from rfl) false 9999
  simp [Instr.mapUpdate, run_underlying hm, MapKept.run_getObj_map hb, hck, MapKept.run_findKey hk h1, MapKept.run_setObj_map _ hb, Result.andThen]

theorem map_get (w : World) (mty kt et : TypeId) (r : Nat) (n : Int) (es : Array MapEntry) (clock : Nat) (i : TypeInfo) (hm : P.underlying mty = some (.map kt et)) (hk : P.underlying kt = some (.int .i64))
    (hi : P.info? et = some i) (hz : i.zero = some (.bool false)) (hb : w.heap[r]? = some (.map es clock)) (a : Option (Nat × Value)) (hf : Instr.findNow (.int .i64) (.int .i64 n) es.toList 0 = some a) :
    Runs P (Instr.lookup mty (.map (some r)) (.int .i64 n) false) w (match a with | some (_, v) => v | none => .bool false) w := by
  unfold Runs
  have hck : ∀ b, (Instr.checkKey b 10000 kt (.int .i64 n)).run P w = .ok () w := fun b => by
    show (Instr.checkKey b (9999 + 1) kt (.int .i64 n)).run P w = .ok () w
    unfold Instr.checkKey
    simp [run_underlying hk, Result.andThen]
  cases a with
  | none => simp [Instr.lookup, run_underlying hm, MapKept.run_getObj_map hb, hck, MapKept.run_findKey hk hf, Result.andThen, zeroValue, typeInfo, hi, hz]
  | some p => simp [Instr.lookup, run_underlying hm, MapKept.run_getObj_map hb, hck, MapKept.run_findKey hk hf, Result.andThen, zeroValue, typeInfo, hi, hz]
end Go.X
