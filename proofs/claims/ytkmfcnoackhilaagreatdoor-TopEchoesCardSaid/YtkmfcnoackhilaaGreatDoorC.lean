/-
The engine: code with joins and loops as a condition. No condition.
-/
import Derived.Test.YtkmfcnoackhilaaGreatDoorA
import Derived.Scope
set_option linter.unusedVariables false
set_option linter.unusedSimpArgs false
set_option linter.unusedVariables false
/- The weakest precondition of whole code, and that it is one. -/
namespace Go.X
open Go Go.RowKit
variable {P : Program}

/-- An operation behind a guard: done if the guard's value says so. -/
def guardX (n : Nat) (ops : Array Oper) (o : Oper) (ρ : Env) (A B : Env → Prop) : Prop :=
  match o.guard with
  | none => A ρ
  | some (j, want) =>
    match (ops.toList[j]?).bind (·.dst) with
    | none => B ρ
    | some d => bif Nat.blt d n then
        match ρ.get d with
        | .bool b => bif want then Br b (A (.set ρ d (.bool true))) (B (.set ρ d (.bool false)))
                     else Br b (B (.set ρ d (.bool true))) (A (.set ρ d (.bool false)))
        | .tuple _ => B ρ
        | _ => False
      else B ρ

def opsX (P : Program) (n : Nat) (ops : Array Oper) : List Oper → Env → World → (Env → World → Prop) → Prop
  | [], ρ, w, K => K ρ w
  | o :: rest, ρ, w, K =>
    guardX n ops o ρ (fun ρ => opX P n o ρ w fun v w' => opsX P n ops rest (put ρ o.dst v) w' K) (fun ρ => opsX P n ops rest (put ρ o.dst undef) w K)

theorem set_self (ρ : Env) (d : Nat) {v : Value} (h : ρ.get d = v) : ∀ t, (Env.set ρ d v).get t = ρ.get t := by
  intro t
  by_cases e : t = d
  · subst e; rw [set_same, h]
  · rw [set_ne ρ v e]

theorem guardX_cases {n : Nat} {ops : Array Oper} {o : Oper} {ρ : Env} {A B : Env → Prop} (h : guardX n ops o ρ A B) :
    ∃ ρ', (∀ t, ρ'.get t = ρ.get t) ∧ ((Region.wanted o (yielded ops (act n ρ).tmps) = true ∧ A ρ') ∨ (Region.wanted o (yielded ops (act n ρ).tmps) = false ∧ B ρ')) := by
  unfold guardX at h
  unfold Region.wanted
  split at h
  · rename_i hg; rw [hg]; exact ⟨ρ, fun _ => rfl, .inl ⟨rfl, h⟩⟩
  · rename_i j want hg
    rw [hg]
    simp only []
    rw [yielded_act]
    rw [Array.getElem?_toList] at h
    split at h
    · rename_i hd; rw [hd]; exact ⟨ρ, fun _ => rfl, .inr ⟨rfl, h⟩⟩
    · rename_i d hd
      rw [hd]
      simp only []
      cases hb : Nat.blt d n with
      | false => rw [hb] at h; exact ⟨ρ, fun _ => rfl, .inr ⟨rfl, h⟩⟩
      | true =>
        rw [hb] at h
        simp only [cond_true] at h ⊢
        split at h
        · rename_i b hv
          rw [hv]
          have e := set_self ρ d hv
          cases want <;> cases b <;> simp only [Br, cond_true, cond_false] at h
          · exact ⟨_, e, .inl ⟨rfl, h⟩⟩
          · exact ⟨_, e, .inr ⟨rfl, h⟩⟩
          · exact ⟨_, e, .inr ⟨rfl, h⟩⟩
          · exact ⟨_, e, .inl ⟨rfl, h⟩⟩
        · rename_i xs hv
          rw [hv]
          exact ⟨ρ, fun _ => rfl, .inr ⟨by cases want <;> rfl, h⟩⟩
        · exact h.elim

/-- The slots that an operation, some operations, code write. -/
def dstsOf (l : List Oper) : List Nat := l.filterMap (·.dst)

theorem put_other {ρ : Env} {d : Option Nat} {v : Value} {t : Nat} (h : ∀ x, d = some x → t ≠ x) : (put ρ d v).get t = ρ.get t := by
  cases d with
  | none => rfl
  | some x => exact set_ne ρ v (h x rfl)

theorem opsX_sound {n : Nat} {ops : Array Oper} {Q : Exit → Act → World → Prop} : ∀ {l : List Oper} {ρ : Env} {w : World} {K : Env → World → Prop},
    opsX P n ops l ρ w K → (∀ ρ' w', K ρ' w' → (∀ t, t ∉ dstsOf l → ρ'.get t = ρ.get t) → Q .normal (act n ρ') w') → wpList P ops Q l (act n ρ) w := by
  intro l
  induction l with
  | nil => intro ρ w K h hq; exact hq ρ w h (fun _ _ => rfl)
  | cons o rest ih =>
    intro ρ w K h hq
    unfold opsX at h
    have hfr : ∀ (v : Value) (ρ0 ρ' : Env), (∀ t, ρ0.get t = ρ.get t) → (∀ t, t ∉ dstsOf rest → ρ'.get t = (put ρ0 o.dst v).get t) → ∀ t, t ∉ dstsOf (o :: rest) → ρ'.get t = ρ.get t := by
      intro v ρ0 ρ' h0 h' t ht
      have h1 : t ∉ dstsOf rest := by
        intro hm; apply ht; unfold dstsOf at *; simp only [List.mem_filterMap] at *
        obtain ⟨x, hx, hx'⟩ := hm; exact ⟨x, by simp [hx], hx'⟩
      rw [h' t h1, ← h0 t]
      refine put_other fun x hx e => ht ?_
      subst e
      unfold dstsOf; simp [hx]
    unfold wpList
    obtain ⟨ρ0, h0, h⟩ := guardX_cases h
    have ha : act n ρ = act n ρ0 := act_congr fun t => (h0 t).symm
    rcases h with ⟨hw, h⟩ | ⟨hw, h⟩
    · rw [if_pos hw, ha]
      refine .inl (Oper.wp_mono ?_ (opX_sound (Q := Q) h))
      rintro a w' ⟨v, rfl, hk⟩
      exact ih hk fun ρ' w'' hK hag => hq ρ' w'' hK (hfr v ρ0 ρ' h0 hag)
    · rw [if_neg (by rw [hw]; exact Bool.false_ne_true), ha, act_put]
      exact ih h fun ρ' w'' hK hag => hq ρ' w'' hK (hfr undef ρ0 ρ' h0 hag)

/-- The slots that code writes; the variables that it assigns, with their types. -/
def modsOf : Code → List Nat
  | .region _ ops _ => dstsOf ops.toList
  | .seq a b => modsOf a ++ modsOf b
  | .cond _ a b => modsOf a ++ modsOf b
  | .block _ a => modsOf a
  | .loop a => modsOf a
  | .scope a => modsOf a
  | _ => []
def asgOps : List Oper → List (Nat × TypeId)
  | [] => []
  | o :: rest => match o.op, o.dst with
    | .assign _, some d => (d, o.type) :: asgOps rest
    | _, _ => asgOps rest
def asgOf : Code → List (Nat × TypeId)
  | .region _ ops _ => asgOps ops.toList
  | .seq a b => asgOf a ++ asgOf b
  | .cond _ a b => asgOf a ++ asgOf b
  | .block _ a => asgOf a
  | .loop a => asgOf a
  | .scope a => asgOf a
  | _ => []
def addNew (p : Nat × TypeId) (l : List (Nat × TypeId)) : List (Nat × TypeId) := bif l.any (fun q => Nat.beq q.1 p.1) then l else p :: l
def nubAsg (l : List (Nat × TypeId)) : List (Nat × TypeId) := l.foldr addNew []
/-- The slots that are read before they are written. -/
def readsOf (ops : List Oper) (o : Oper) : List Nat :=
  (o.op.operands.toList.filterMap fun | .tmp t => some t | _ => none) ++
  (match o.guard with
   | some (g, _) => ((ops[g]?).bind (·.dst)).toList
   | none => [])
def liveOps (all : List Oper) : List Oper → List Nat → List Nat
  | [], _ => []
  | o :: rest, wr => (readsOf all o).filter (fun t => !wr.any (Nat.beq t)) ++ liveOps all rest (o.dst.toList ++ wr)
def liveOf : Code → List Nat
  | .region _ ops _ => liveOps ops.toList ops.toList []
  | .seq a b => liveOf a ++ (liveOf b).filter fun t => !(match a with | .region _ ops _ => dstsOf ops.toList | _ => []).any (Nat.beq t)
  | .cond c a b => (match c with | .tmp t => [t] | _ => []) ++ liveOf a ++ liveOf b
  | .block _ a => liveOf a
  | .loop a => liveOf a
  | .scope a => liveOf a
  | _ => []
/-- The shape of a value. -/
def shV : Value → Option Sh
  | .int k _ => some (.int k) | .bool _ => some .bool | .string _ => some .str | .pointer _ => some .ptr | .slice .. => some .slice | .map _ => some .map | .agg c => some (.agg 0)
  | _ => none
/-- The slots that code writes and that have a value of some shape before it. -/
def keepOld (n : Nat) (c : Code) (ρ : Env) : List (Nat × Sh) :=
  (modsOf c).eraseDups.filterMap fun t => bif Nat.blt t n && ρ.known t then (shV (ρ.get t)).map fun s => (t, s) else none
def typesOps : List Oper → List (Nat × TypeId)
  | [] => []
  | o :: rest => match o.dst with
    | some d => (d, o.type) :: typesOps rest
    | none => typesOps rest
def typesOf : Code → List (Nat × TypeId)
  | .region _ ops _ => typesOps ops.toList
  | .seq a b => typesOf a ++ typesOf b
  | .cond _ a b => typesOf a ++ typesOf b
  | .block _ a => typesOf a
  | .loop a => typesOf a
  | .scope a => typesOf a
  | _ => []
/-- Those, and what the code behind it reads of what it has written. -/
def keepNew (P : Program) (n : Nat) (x y : Code) (ρ : Env) : List (Nat × Sh) :=
  let old := keepOld n x ρ
  let lv := liveOf y
  old ++ (modsOf x).eraseDups.filterMap fun t =>
    bif Nat.blt t n && lv.any (Nat.beq t) && !(old.any fun p => Nat.beq p.1 t) then
      match (typesOf x).find? fun p => Nat.beq p.1 t && !Nat.beq p.2 0 with
      | some p => some (t, shOf P p.2)
      | none => none
    else none

def hasGuard (c : Code) : Bool := match c with | .region _ ops _ => ops.toList.any (·.guard.isSome) | _ => false
def exitsTo (i : Nat) : Code → Nat
  | .exit j => bif Nat.beq i j then 1 else 0
  | .seq a b => exitsTo i a + exitsTo i b
  | .cond _ a b => exitsTo i a + exitsTo i b
  | .block _ a => exitsTo i a
  | .loop a => exitsTo i a
  | .scope a => exitsTo i a
  | _ => 0
def isCond : Code → Bool | .cond .. => true | _ => false
/-- In how many ways code ends as it is written. -/
def ways : Code → Nat
  | .skip | .region .. | .label _ => 1
  | .seq x y => bif Nat.beq (ways x) 0 then 0 else bif hasGuard x && isCond y && Nat.blt 0 (ways y) then 2 else ways y
  | .cond _ a b => ways a + ways b
  | .block i c => ways c + exitsTo i c
  | .scope c => ways c
  | _ => 0

def fsts (keep : List (Nat × Sh)) : List Nat := keep.map (·.1)
/-- The environment behind code of which no more is known than some values. -/
def genv (ρ : Env) (mods : List Nat) (keep : List (Nat × Sh)) (vs : List Value) (u : Nat → Value) : Env := .gen ρ mods (fsts keep) vs u

theorem genv_self {ρ ρ' : Env} {mods : List Nat} {keep : List (Nat × Sh)} (h : ∀ t, t ∉ mods → ρ'.get t = ρ.get t) : ∀ t, (genv ρ mods keep (keep.map fun p => ρ'.get p.1) ρ'.get).get t = ρ'.get t := by
  intro t
  unfold genv fsts
  simp only [Env.get]
  have hl : ∀ (k : List (Nat × Sh)) v, lookupN t (k.map (·.1)) (k.map fun p => ρ'.get p.1) = some v → v = ρ'.get t := by
    intro k
    induction k with
    | nil => intro v hv; simp [lookupN] at hv
    | cons p k ih =>
      intro v hv
      simp only [List.map_cons, lookupN] at hv
      cases hb : Nat.beq p.1 t with
      | true => rw [hb] at hv; simp only [cond_true, Option.some.injEq] at hv; rw [← hv, Nat.eq_of_beq_eq_true hb]
      | false => rw [hb] at hv; exact ih v hv
  split
  · rename_i v hv; exact hl keep v hv
  · cases hm : mods.any (Nat.beq t) with
    | true => rfl
    | false =>
      simp only [cond_false]
      refine (h t fun hin => ?_).symm
      rw [List.any_eq_false] at hm
      exact hm t hin (Nat.beq_refl t)

def vals (keep : List (Nat × Sh)) (ρ : Env) : List Value := keep.map fun p => ρ.get p.1
def shs (keep : List (Nat × Sh)) : List Sh := keep.map (·.2)

/-- A region that draws its order: see XDraw. -/
abbrev DrawX := Program → Nat → Array Oper → Env → World → (Env → World → Prop) → Prop

def codeX (D : DrawX) (P : Program) (n : Nat) : Code → Env → World → (Exit → Env → World → Prop) → Prop
  | .skip, ρ, w, Q => Q .normal ρ w
  | .label _, ρ, w, Q => Q .normal ρ w
  | .region _ ops false, ρ, w, Q => opsX P n ops ops.toList ρ w (Q .normal)
  | .region _ ops true, ρ, w, Q => D P n ops ρ w (Q .normal)
  | .seq x y, ρ, w, Q =>
    bif Nat.blt 1 (ways x) then
      ∀ K : List Value → World → Prop,
        (allShs (shs (keepNew P n x y ρ)) fun vs => ∀ w', (∀ u : Nat → Value, codeX D P n y (genv ρ (modsOf x) (keepNew P n x y ρ) vs u) w' Q) → K vs w') →
        codeX D P n x ρ w fun e ρ' w' => match e with
          | .normal => bif hasShs (shs (keepNew P n x y ρ)) (vals (keepNew P n x y ρ) ρ') then K (vals (keepNew P n x y ρ) ρ') w' else False
          | e => Q e ρ' w'
    else codeX D P n x ρ w fun e ρ' w' => match e with
      | .normal => codeX D P n y ρ' w' Q
      | e => Q e ρ' w'
  | .cond c x y, ρ, w, Q =>
    match ev n ρ c with
    | .bool b => Br b (codeX D P n x ρ w Q) (codeX D P n y ρ w Q)
    | _ => False
  | .block i c, ρ, w, Q => codeX D P n c ρ w fun e ρ' w' => match e with
    | .exit j => bif Nat.beq j i then Q .normal ρ' w' else Q (.exit j) ρ' w'
    | e => Q e ρ' w'
  | .loop c, ρ, w, Q =>
    ∃ (I : List Value → World → Prop) (μ : List Value → World → Nat), I (vals (keepOld n c ρ) ρ) w ∧
      allShs (shs (keepOld n c ρ)) fun vs => ∀ (w' : World) (u : Nat → Value), I vs w' → codeX D P n c (genv ρ (modsOf c) (keepOld n c ρ) vs u) w' fun e ρ' w'' => match e with
        | .normal => bif hasShs (shs (keepOld n c ρ)) (vals (keepOld n c ρ) ρ') then I (vals (keepOld n c ρ) ρ') w'' ∧ μ (vals (keepOld n c ρ) ρ') w'' < μ vs w' else False
        | e => Q e ρ' w''
  | .scope c, ρ, w, Q => codeX D P n c ρ w fun e ρ' w' => match e with
    | .goto _ => False
    | e => Q e ρ' w'
  | .exit i, ρ, w, Q => Q (.exit i) ρ w
  | .ret, ρ, w, Q => Q .ret ρ w
  | _, _, _, _ => False

def DrawX.Ok (D : DrawX) (P : Program) : Prop := ∀ (n id : Nat) (ops : Array Oper) (ρ : Env) (w : World) (K : Env → World → Prop) (Q : Exit → Act → World → Prop),
  D P n ops ρ w K → (∀ ρ' w', K ρ' w' → (∀ t, t ∉ dstsOf ops.toList → ρ'.get t = ρ.get t) → Q .normal (act n ρ') w') → (Code.region id ops true).wp P Q (act n ρ) w

theorem hasShs_vals {keep : List (Nat × Sh)} {ρ : Env} (h : ∀ p, p ∈ keep → hasSh p.2 (ρ.get p.1) = true) : hasShs (shs keep) (vals keep ρ) = true := by
  induction keep with
  | nil => rfl
  | cons p k ih =>
    simp only [shs, vals, List.map_cons, hasShs, Bool.and_eq_true]
    exact ⟨h p (by simp), ih fun q hq => h q (by simp [hq])⟩

theorem shV_has {v : Value} {s : Sh} (h : shV v = some s) : hasSh s v = true := by
  cases v <;> simp [shV] at h <;> subst h <;> simp [hasSh]

theorem keepOld_both {n : Nat} {c : Code} {ρ : Env} : ∀ p, p ∈ keepOld n c ρ → p.1 < n ∧ hasSh p.2 (ρ.get p.1) = true := by
  intro p hp
  unfold keepOld at hp
  obtain ⟨t, _, ht⟩ := List.mem_filterMap.1 hp
  cases hb : (Nat.blt t n && ρ.known t) with
  | false => rw [hb] at ht; cases ht
  | true =>
    rw [hb] at ht
    simp only [cond_true, Option.map_eq_some_iff] at ht
    obtain ⟨s, hs, rfl⟩ := ht
    simp only [Bool.and_eq_true, Nat.blt_eq] at hb
    exact ⟨hb.1, shV_has hs⟩

theorem vals_act {n : Nat} {keep : List (Nat × Sh)} {ρ : Env} (h : ∀ p, p ∈ keep → p.1 < n) : (keep.map fun p => (act n ρ).tmps.getD p.1 undef) = vals keep ρ := by
  unfold vals
  refine List.map_congr_left fun p hp => ?_
  have := h p hp
  simp [act, this]

theorem codeX_sound {D : DrawX} (hD : D.Ok P) {n : Nat} : ∀ {c : Code} {ρ : Env} {w : World} {Q : Exit → Env → World → Prop} {Q' : Exit → Act → World → Prop},
    codeX D P n c ρ w Q → (∀ e ρ' w', Q e ρ' w' → (∀ t, t ∉ modsOf c → ρ'.get t = ρ.get t) → Q' e (act n ρ') w') → c.wp P Q' (act n ρ) w := by
  intro c
  induction c with
  | skip => intro ρ w Q Q' h hq; exact wp_skip (hq _ _ _ h fun _ _ => rfl)
  | label l => intro ρ w Q Q' h hq; exact wp_label (hq _ _ _ h fun _ _ => rfl)
  | exit i => intro ρ w Q Q' h hq; exact wp_exit (hq _ _ _ h fun _ _ => rfl)
  | ret => intro ρ w Q Q' h hq; exact wp_ret (hq _ _ _ h fun _ _ => rfl)
  | region id ops dr =>
    intro ρ w Q Q' h hq
    cases dr with
    | false => exact wp_region_list (opsX_sound h fun ρ' w' hk hag => hq _ _ _ hk hag)
    | true => exact hD n id ops ρ w _ Q' h fun ρ' w' hk hag => hq _ _ _ hk hag
  | cond c x y ihx ihy =>
    intro ρ w Q Q' h hq
    simp only [codeX] at h
    split at h
    · rename_i b hb
      have hev : (act n ρ).eval c = .bool b := by rw [act_eval]; exact hb
      cases b with
      | true => exact wp_cond_true hev (ihx h fun e ρ' w' hk hag => hq e ρ' w' hk fun t ht => hag t fun hm => ht (by simp [modsOf, hm]))
      | false => exact wp_cond_false hev (ihy h fun e ρ' w' hk hag => hq e ρ' w' hk fun t ht => hag t fun hm => ht (by simp [modsOf, hm]))
    · exact h.elim
  | block i c ih =>
    intro ρ w Q Q' h hq
    refine wp_block (ih h fun e ρ' w' hk hag => ?_)
    cases e with
    | exit j =>
      simp only [Exit.inBlock]
      simp only [] at hk
      cases hb : Nat.beq j i with
      | true => rw [hb] at hk; rw [if_pos (Nat.eq_of_beq_eq_true hb)]; exact hq _ _ _ hk hag
      | false => rw [hb] at hk; rw [if_neg (fun e => by subst e; rw [Nat.beq_refl] at hb; cases hb)]; exact hq _ _ _ hk hag
    | _ => exact hq _ _ _ hk hag
  | seq x y ihx ihy =>
    intro ρ w Q Q' h hq
    have hy : ∀ {ρ1 : Env} {w1 : World}, (∀ t, t ∉ modsOf x → ρ1.get t = ρ.get t) → codeX D P n y ρ1 w1 Q → y.wp P Q' (act n ρ1) w1 := by
      intro ρ1 w1 hag1 h1
      refine ihy h1 fun e ρ' w' hk hag => hq e ρ' w' hk fun t ht => ?_
      simp only [modsOf, List.mem_append, not_or] at ht
      rw [hag t ht.2, hag1 t ht.1]
    simp only [codeX] at h
    cases hb : Nat.blt 1 (ways x) with
    | false =>
      rw [hb] at h
      simp only [cond_false] at h
      refine wp_seq (ihx h fun e ρ' w' hk hag => ?_)
      cases e with
      | normal => exact hy hag hk
      | _ => exact hq _ _ _ hk fun t ht => hag t fun hm => ht (by simp [modsOf, hm])
    | true =>
      rw [hb] at h
      simp only [cond_true] at h
      have h := h (fun vs w' => ∀ ρ1, vals (keepNew P n x y ρ) ρ1 = vs → (∀ t, t ∉ modsOf x → ρ1.get t = ρ.get t) → y.wp P Q' (act n ρ1) w') (by
        rw [allShs_iff]
        intro vs _ w' hu ρ1 hvs hag1
        have := hu ρ1.get
        rw [← hvs, vals] at this
        rw [← act_congr (genv_self hag1)]
        exact hy (fun t ht => (genv_self hag1 t).trans (hag1 t ht)) this)
      refine wp_seq (ihx h fun e ρ' w' hk hag => ?_)
      cases e with
      | normal =>
        obtain ⟨_, hk⟩ := cond_some hk
        exact hk ρ' rfl hag
      | _ => exact hq _ _ _ hk fun t ht => hag t fun hm => ht (by simp [modsOf, hm])
  | loop c ih =>
    intro ρ w Q Q' h hq
    simp only [codeX] at h
    obtain ⟨I, μ, h0, hr⟩ := h
    rw [allShs_iff] at hr
    refine wp_loop (fun a w' => ∃ ρ1 : Env, a = act n ρ1 ∧ (∀ t, t ∉ modsOf c → ρ1.get t = ρ.get t) ∧ hasShs (shs (keepOld n c ρ)) (vals (keepOld n c ρ) ρ1) = true ∧ I (vals (keepOld n c ρ) ρ1) w')
      (fun a w' => μ ((keepOld n c ρ).map fun p => a.tmps.getD p.1 undef) w') ⟨ρ, rfl, fun _ _ => rfl, hasShs_vals fun p hp => (keepOld_both p hp).2, h0⟩ ?_
    rintro a w1 ⟨ρ1, rfl, hag1, hs1, hI⟩
    have hr := hr _ hs1 w1 ρ1.get hI
    have hgen : ∀ t, (genv ρ (modsOf c) (keepOld n c ρ) (vals (keepOld n c ρ) ρ1) ρ1.get).get t = ρ1.get t := genv_self (keep := keepOld n c ρ) hag1
    have hv : ∀ ρ' : Env, ((keepOld n c ρ).map fun p => (act n ρ').tmps.getD p.1 undef) = vals (keepOld n c ρ) ρ' := fun ρ' => vals_act fun p hp => (keepOld_both p hp).1
    rw [← act_congr hgen]
    refine ih hr fun e ρ' w' hk hag => ?_
    have hag' : ∀ t, t ∉ modsOf c → ρ'.get t = ρ.get t := fun t ht => (hag t ht).trans ((hgen t).trans (hag1 t ht))
    cases e with
    | normal =>
      obtain ⟨hs, hI', hlt⟩ := cond_some hk
      refine ⟨⟨ρ', rfl, hag', hs, hI'⟩, ?_⟩
      rw [hv]
      show _ < μ ((keepOld n c ρ).map fun p => (act n (genv ρ (modsOf c) (keepOld n c ρ) (vals (keepOld n c ρ) ρ1) ρ1.get)).tmps.getD p.1 undef) w1
      rw [act_congr hgen, hv]
      exact hlt
    | _ => exact hq _ _ _ hk hag'
  | scope c ih =>
    intro ρ w Q Q' h hq
    refine wp_scope_straight (ih h fun e ρ' w' hk hag => ?_)
    cases e with
    | goto l => exact hk.elim
    | _ => exact hq _ _ _ hk hag
  | _ => intro ρ w Q Q' h _; exact h.elim

def noDraw : DrawX := fun _ _ _ _ _ _ => False
theorem noDraw_ok : noDraw.Ok P := fun _ _ _ _ _ _ _ h _ => h.elim

def initEnv (args : List Value) : Env := .init args

theorem act_init {n : Nat} {args : Array Value} (h : args.size ≤ n) : (⟨args ++ Array.replicate (n - args.size) undef, []⟩ : Act) = act n (initEnv args.toList) := by
  unfold act initEnv
  rw [show (Env.init args.toList).get = fun t => args.toList.getD t undef from rfl]
  congr 1
  apply Array.ext'
  apply List.ext_getElem?
  intro i
  simp only [Array.toList_append, Array.toList_replicate, List.getElem?_append, Array.length_toList, List.getElem?_map, List.getElem?_replicate]
  by_cases h1 : i < args.size
  · have : i < n := by omega
    simp [h1, this, List.getD]
  · by_cases h2 : i < n
    · have : i - args.size < n - args.size := by omega
      simp [h1, h2, this, List.getD]
    · have : ¬ i - args.size < n - args.size := by omega
      simp [h1, h2, this]

/-- What a function hands back. -/
def resX (P : Program) (n : Nat) : List ResultVar → Env → World → List Value → (Value → Prop) → Prop
  | [], _, _, acc, K => match acc with
    | [v] => K v
    | _ => K (.tuple ⟨acc⟩)
  | .tmp t :: rs, ρ, w, acc, K => resX P n rs ρ w (acc ++ [ev n ρ (.tmp t)]) K
  | .cell a t :: rs, ρ, w, acc, K =>
    match ev n ρ (.tmp a) with
    | .pointer (some ad) => loadX P t w ad fun v => resX P n rs ρ w (acc ++ [v]) K
    | _ => False

theorem resX_run {n : Nat} {ρ : Env} {w : World} {K : Value → Prop} : ∀ {rs : List ResultVar} {acc : List Value}, resX P n rs ρ w acc K →
    ∃ vs, ((rs.mapM fun
      | .tmp t => pure ((act n ρ).tmps.getD t undef)
      | .cell a t => do loadVar t (← asAddr ((act n ρ).tmps.getD a undef)) : Sem (List Value))).run P w = .ok vs w ∧ K (match acc ++ vs with | [v] => v | l => .tuple ⟨l⟩) := by
  intro rs
  induction rs with
  | nil =>
    intro acc h
    refine ⟨[], rfl, ?_⟩
    rw [List.append_nil]
    unfold resX at h
    split at h
    · exact h
    · exact h
  | cons r rs ih =>
    intro acc h
    have hev : ∀ t, (act n ρ).tmps.getD t undef = ev n ρ (.tmp t) := fun t => congrFun (act_eval n ρ) (.tmp t)
    cases r with
    | tmp t =>
      obtain ⟨vs, hr, hk⟩ := ih h
      refine ⟨ev n ρ (.tmp t) :: vs, ?_, by simpa using hk⟩
      rw [List.mapM_cons]
      show Sem.run P (Sem.bind (.pure _) _) w = _
      simp only [Sem.bind]
      rw [run_bind _ _ w hr, hev]
      rfl
    | cell a t =>
      simp only [resX] at h
      split at h
      · rename_i ad ha
        obtain ⟨v, hl, hk⟩ := load_sound h
        obtain ⟨vs, hr, hk⟩ := ih hk
        refine ⟨v :: vs, ?_, by simpa using hk⟩
        rw [List.mapM_cons]
        have : (do loadVar t (← asAddr ((act n ρ).tmps.getD a undef)) : Sem Value).run P w = .ok v w := by
          rw [hev, ha]; exact hl
        rw [run_bind _ _ w this, run_bind _ _ w hr]
        rfl
      · exact h.elim

theorem resX_sound {fn : Func} {n : Nat} {ρ : Env} {w : World} {K : Value → Prop} (h : resX P n fn.results.toList ρ w [] K) : ∃ v, (results fn (act n ρ).tmps).run P w = .ok v w ∧ K v := by
  obtain ⟨vs, hr, hk⟩ := resX_run h
  refine ⟨_, ?_, hk⟩
  unfold results
  rw [Array.mapM_eq_mapM_toList]
  show Sem.run P ((List.toArray <$> fn.results.toList.mapM _) >>= _) w = _
  rw [map_eq_pure_bind]
  refine (run_bind (P := P) _ _ w (a := vs.toArray) (w' := w) ((run_bind _ _ w hr).trans rfl)).trans ?_
  simp only [List.nil_append]
  cases vs with
  | nil => rfl
  | cons v vs =>
    cases vs with
    | nil => rfl
    | cons v' vs => simp [pure]

/-- Code ends by its end, or by a return. -/
def retQ (e : Exit) (A : Prop) : Prop :=
  match e with
  | .normal => A
  | .ret => A
  | _ => False

/-- A function does what its code says. -/
theorem calls_of_codeX {D : DrawX} (hD : D.Ok P) {f : FuncId} {fn : Func} {c : Code} {args : Array Value} {n : Nat} {w : World} {R : Ending → World → Prop}
    (hf : P.funcs[f]? = some fn) (hb : fn.body = some c) (hn : fn.ntmps = n) (ha : args.size ≤ n)
    (h : codeX D P n c (initEnv args.toList) w fun e ρ' w' => retQ e (resX P n fn.results.toList ρ' w' [] fun v => R (.returned v) w')) : Calls P f args w R := by
  refine calls_of_wp hf hb ?_
  rw [hn, act_init ha]
  refine codeX_sound hD h fun e ρ' w' hk _ => ?_
  cases e with
  | normal => obtain ⟨v, hr, hk⟩ := resX_sound hk; exact ⟨rfl, v, hr, hk⟩
  | ret => obtain ⟨v, hr, hk⟩ := resX_sound hk; exact ⟨rfl, v, hr, hk⟩
  | _ => exact hk.elim
end Go.X
