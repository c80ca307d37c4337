/-
The engine: a function's code as a condition on memory; operations and blocks. No condition.
-/
import Derived.StillTail
import Derived.Below
import Derived.Laws.Cells
set_option linter.unusedVariables false
set_option linter.unusedSimpArgs false
set_option linter.unusedVariables false
/- A weakest precondition that the kernel evaluates: code over an environment of values whose shapes are known. -/
namespace Go.X
open Go Go.RowKit

def lookupN (t : Nat) : List Nat → List Value → Option Value
  | p :: ps, v :: vs => bif Nat.beq p t then some v else lookupN t ps vs
  | _, _ => none

/-- The values of the slots: at first, behind a store into one, and behind code of which no more is known than what it may have written, and some values. -/
inductive Env where
  | init (l : List Value)
  | set (ρ : Env) (d : Nat) (v : Value)
  | gen (ρ : Env) (mods keep : List Nat) (vs : List Value) (u : Nat → Value)

def Env.get : Env → Nat → Value
  | .init l, t => l.getD t undef
  | .set ρ d v, t => bif Nat.beq t d then v else ρ.get t
  | .gen ρ mods keep vs u, t =>
    match lookupN t keep vs with
    | some v => v
    | none => bif mods.any (Nat.beq t) then u t else ρ.get t

/-- Whether a slot's value is known. -/
def Env.known : Env → Nat → Bool
  | .init _, _ => true
  | .set ρ d _, t => bif Nat.beq t d then true else ρ.known t
  | .gen ρ mods keep _ _, t => bif keep.any (Nat.beq t) then true else bif mods.any (Nat.beq t) then false else ρ.known t

def put (ρ : Env) : Option Nat → Value → Env
  | none, _ => ρ
  | some d, v => .set ρ d v
def act (n : Nat) (ρ : Env) : Act := ⟨((List.range n).map ρ.get).toArray, []⟩
def ev (n : Nat) (ρ : Env) : Operand → Value
  | .tmp t => bif Nat.blt t n then ρ.get t else undef
  | .const v => v
  | .global g => .pointer (some ⟨g, 0, none⟩)
  | .func f => .func (.func f) #[] #[]

theorem act_eval (n : Nat) (ρ : Env) : (act n ρ).eval = ev n ρ := by
  funext x
  cases x with
  | tmp t =>
    simp only [Act.eval, act, ev, cond_eq_ite, Nat.blt_eq]
    by_cases h : t < n <;> simp [h]
  | const v => rfl
  | global g => rfl
  | func f => rfl

theorem set_same (ρ : Env) (d : Nat) (v : Value) : (Env.set ρ d v).get d = v := by simp [Env.get]
theorem set_ne (ρ : Env) {d t : Nat} (v : Value) (h : t ≠ d) : (Env.set ρ d v).get t = ρ.get t := by
  have hb : Nat.beq t d = false := by
    cases hb : Nat.beq t d
    · rfl
    · exact absurd (Nat.eq_of_beq_eq_true hb) h
  simp [Env.get, hb]

theorem act_congr {n : Nat} {ρ ρ' : Env} (h : ∀ t, ρ.get t = ρ'.get t) : act n ρ = act n ρ' := by
  unfold act; rw [show ρ.get = ρ'.get from funext h]

theorem act_put (n : Nat) (ρ : Env) (d : Option Nat) (v : Value) : (act n ρ).put d v = act n (put ρ d v) := by
  cases d with
  | none => rfl
  | some d =>
    simp only [Act.put, act, put]
    congr 1
    apply Array.ext'
    simp only [Array.toList_setIfInBounds]
    apply List.ext_getElem?
    intro i
    simp only [List.getElem?_set, List.getElem?_map, List.length_map, List.length_range]
    by_cases h : i < n
    · by_cases e : d = i
      · subst e; simp [h, set_same]
      · simp [h, e, set_ne ρ v (fun x => e x.symm)]
    · by_cases e : d = i
      · subst e; simp [h]
      · simp [h, e]

/-- One of two ways, by a truth value. -/
def Br (b : Bool) (A B : Prop) : Prop := bif b then A else B

def asB : Value → Option Bool
  | .bool b => some b
  | _ => none

theorem yielded_act (n : Nat) (ρ : Env) (ops : Array Oper) (j : Nat) :
    yielded ops (act n ρ).tmps j = match (ops[j]?).bind (·.dst) with
      | none => none
      | some d => bif Nat.blt d n then asB (ρ.get d) else none := by
  unfold yielded
  cases (ops[j]?).bind (·.dst) with
  | none => rfl
  | some d =>
    simp only [Option.bind_some, act, cond_eq_ite, Nat.blt_eq]
    by_cases h : d < n
    · simp only [h, List.getElem?_toArray, List.getElem?_map, List.getElem?_range, if_true, Option.map_some]
      cases ρ.get d <;> rfl
    · simp [h]

/-- The shapes of values. -/
inductive Sh where
  | int (k : IntKind) | bool | str | ptr | slice | map | any | agg (n : Nat)

def exSh : Sh → (Value → Prop) → Prop
  | .int k, K => ∃ n : Int, K (.int k n)
  | .bool, K => ∃ b : Bool, K (.bool b)
  | .str, K => ∃ s : ByteArray, K (.string s)
  | .ptr, K => ∃ a : Option Addr, K (.pointer a)
  | .slice, K => ∃ (a : Option Addr) (l c : Nat), K (.slice a l c)
  | .map, K => ∃ r : Option Nat, K (.map r)
  | .any, K => ∃ v : Value, K v
  | .agg _, K => ∃ cs : Array Value, K (.agg cs)

def allSh : Sh → (Value → Prop) → Prop
  | .int k, K => ∀ n : Int, K (.int k n)
  | .bool, K => ∀ b : Bool, K (.bool b)
  | .str, K => ∀ s : ByteArray, K (.string s)
  | .ptr, K => ∀ a : Option Addr, K (.pointer a)
  | .slice, K => ∀ (a : Option Addr) (l c : Nat), K (.slice a l c)
  | .map, K => ∀ r : Option Nat, K (.map r)
  | .any, K => ∀ v : Value, K v
  | .agg _, K => ∀ cs : Array Value, K (.agg cs)

def hasSh : Sh → Value → Bool
  | .int k, .int k' _ => decide (k = k')
  | .bool, .bool _ | .str, .string _ | .ptr, .pointer _ | .slice, .slice .. | .map, .map _ | .agg _, .agg _ => true
  | .any, _ => true
  | _, _ => false

theorem exSh_iff {s : Sh} {K : Value → Prop} : exSh s K ↔ ∃ v, hasSh s v = true ∧ K v := by
  constructor
  · cases s <;> simp only [exSh]
    case slice => rintro ⟨a, l, c, h⟩; exact ⟨_, rfl, h⟩
    all_goals (rintro ⟨x, h⟩; exact ⟨_, by simp [hasSh], h⟩)
  · rintro ⟨v, hv, h⟩
    cases s <;> cases v <;> simp [hasSh] at hv <;> simp only [exSh]
    case int.int k k' n => subst hv; exact ⟨_, h⟩
    case slice.slice => exact ⟨_, _, _, h⟩
    all_goals exact ⟨_, h⟩

theorem allSh_iff {s : Sh} {K : Value → Prop} : allSh s K ↔ ∀ v, hasSh s v = true → K v := by
  constructor
  · intro h v hv
    cases s <;> cases v <;> simp [hasSh] at hv <;> simp only [allSh] at h
    case int.int k k' n => subst hv; exact h _
    case slice.slice => exact h _ _ _
    all_goals exact h _
  · intro h
    cases s <;> simp only [allSh]
    case slice => intro a l c; exact h _ rfl
    all_goals (intro x; exact h _ (by simp [hasSh]))

theorem exSh_mono {s : Sh} {K K' : Value → Prop} (hk : ∀ v, K v → K' v) (h : exSh s K) : exSh s K' := by
  rw [exSh_iff] at *; obtain ⟨v, hv, h⟩ := h; exact ⟨v, hv, hk v h⟩

def shOf (P : Program) (t : TypeId) : Sh :=
  match P.underlying t with
  | some (.int k) => .int k
  | some .bool => .bool
  | some .string => .str
  | some (.pointer _) => .ptr
  | some (.slice _) => .slice
  | some (.map ..) => .map
  | some (.struct _) => .agg (P.cellsOf t)
  | some (.array ..) => .agg (P.cellsOf t)
  | _ => .any

/-- A result: one value, or several. -/
def exShs : List Sh → (List Value → Prop) → Prop
  | [], K => K []
  | s :: ss, K => exSh s fun v => exShs ss fun vs => K (v :: vs)
def allShs : List Sh → (List Value → Prop) → Prop
  | [], K => K []
  | s :: ss, K => allSh s fun v => allShs ss fun vs => K (v :: vs)
def hasShs : List Sh → List Value → Bool
  | [], [] => true
  | s :: ss, v :: vs => hasSh s v && hasShs ss vs
  | _, _ => false

theorem exShs_iff {ss : List Sh} : ∀ {K : List Value → Prop}, exShs ss K ↔ ∃ vs, hasShs ss vs = true ∧ K vs := by
  induction ss with
  | nil => intro K; simp only [exShs]; constructor
           · intro h; exact ⟨[], rfl, h⟩
           · rintro ⟨vs, hv, h⟩; cases vs <;> simp [hasShs] at hv; exact h
  | cons s ss ih =>
    intro K
    simp only [exShs, exSh_iff, ih]
    constructor
    · rintro ⟨v, hv, vs, hvs, h⟩; exact ⟨v :: vs, by simp [hasShs, hv, hvs], h⟩
    · rintro ⟨vs, hv, h⟩
      cases vs with
      | nil => simp [hasShs] at hv
      | cons v vs => simp only [hasShs, Bool.and_eq_true] at hv; exact ⟨v, hv.1, vs, hv.2, h⟩

theorem allShs_iff {ss : List Sh} : ∀ {K : List Value → Prop}, allShs ss K ↔ ∀ vs, hasShs ss vs = true → K vs := by
  induction ss with
  | nil => intro K; simp only [allShs]; constructor
           · intro h vs hv; cases vs <;> simp [hasShs] at hv; exact h
           · intro h; exact h [] rfl
  | cons s ss ih =>
    intro K
    simp only [allShs, allSh_iff, ih]
    constructor
    · intro h vs hv
      cases vs with
      | nil => simp [hasShs] at hv
      | cons v vs => simp only [hasShs, Bool.and_eq_true] at hv; exact h v hv.1 vs hv.2
    · intro h v hv vs hvs; exact h (v :: vs) (by simp [hasShs, hv, hvs])

/-- What is asked of a call: that it returns a value of its type's shape, at which it goes on. -/
def retP (P : Program) (t : TypeId) (K : Value → World → Prop) : Ending → World → Prop := fun e w =>
  match P.underlying t with
  | some (.tuple ts) => exShs (ts.toList.map (shOf P)) fun vs => e = .returned (.tuple vs.toArray) ∧ K (.tuple vs.toArray) w
  | _ => exSh (shOf P t) fun v => e = .returned v ∧ K v w

theorem retP_spec {P : Program} {t : TypeId} {K : Value → World → Prop} {e : Ending} {w : World} (h : retP P t K e w) : ∃ v, e = .returned v ∧ K v w := by
  unfold retP at h
  split at h
  · rw [exShs_iff] at h; obtain ⟨vs, _, h⟩ := h; exact ⟨_, h⟩
  · rw [exSh_iff] at h; obtain ⟨v, _, h⟩ := h; exact ⟨_, h⟩

/-- What a part of the semantics yields without looking at the world. -/
def peek {α : Type} (P : Program) : Sem α → Option α
  | .pure a => some a
  | .program k => peek P (k P)
  | .mark _ k => peek P k
  | _ => none

theorem peek_run {α : Type} {P : Program} {s : Sem α} {a : α} (h : peek P s = some a) (w : World) : s.run P w = .ok a w := by
  induction s with
  | pure b => simp only [peek, Option.some.injEq] at h; subst h; rfl
  | program k ih => simp only [peek] at h; simp only [Sem.run]; exact ih _ h
  | mark m k ih => simp only [peek] at h; simp only [Sem.run]; exact ih h
  | _ => simp [peek] at h

/-- A block of memory. -/
def blk (w : World) (k : Nat) : Option Obj := w.heap[k]?
/-- Cells that lie one behind the other. -/
def cellsW (w : World) (a : Addr) (n : Nat) : Option (Array Value) :=
  match blk w a.block with
  | some (.cells c _ _) => if a.spot = none ∧ a.off + n ≤ c.size then some (c.extract a.off (a.off + n)) else none
  | _ => none
/-- Cells that may be written. -/
def FreeW (w : World) (a : Addr) (n : Nat) : Prop := ∃ c T lo hi, blk w a.block = some (.cells c T (lo, hi)) ∧ a.spot = none ∧ a.off + n ≤ c.size ∧ (hi ≤ a.off ∨ a.off + n ≤ lo)
/-- A new block. -/
def New (w : World) (o : Obj) (b : Nat) (w' : World) : Prop := b = w.heap.size ∧ w' = w.alloc o
/-- One cell has another value. -/
def Put (w : World) (a : Addr) (v : Value) (w' : World) : Prop := w' = w.setCell a v
def putCells (w : World) (a : Addr) : List Value → World
  | [] => w
  | v :: vs => putCells (w.setCell a v) ⟨a.block, a.off + 1, none⟩ vs
def Puts (w : World) (a : Addr) (vs : List Value) (w' : World) : Prop := w' = putCells w a vs
/-- What an operation of the semantics comes to. -/
def Runs (P : Program) (s : Sem Value) (w : World) (v : Value) (w' : World) : Prop := s.run P w = .ok v w'
def RunsU (P : Program) (s : Sem Unit) (w : World) (w' : World) : Prop := s.run P w = .ok () w'

def inInt (n : Int) : Prop := -9223372036854775808 ≤ n ∧ n ≤ 9223372036854775807

def loadX (P : Program) (t : TypeId) (w : World) (a : Addr) (K : Value → Prop) : Prop :=
  match P.underlying t with
  | none => False
  | some _ =>
  match shOf P t with
  | .agg m => ∃ cs : Array Value, cellsW w a m = some cs ∧ K (.agg cs)
  | s => exSh s fun v => w.cell? a = some v ∧ K v

def oneC : Value → Bool | .agg _ | .tuple _ => false | _ => true

/-- Each value takes one cell. -/
def OneCells (cs : Array Value) : Prop := cs.toList.all oneC = true

def sizeN (P : Program) (t : TypeId) : Nat := P.cellsOf t

def storeX (P : Program) (t : TypeId) (w : World) (a : Addr) (v : Value) (K : World → Prop) : Prop :=
  match P.info? t with
  | none => False
  | some _ =>
  match v with
  | .agg cs => cs.size = sizeN P t ∧ OneCells cs ∧ FreeW w a (sizeN P t) ∧ ∀ w', Puts w a cs.toList w' → K w'
  | .tuple _ => False
  | v => bif Nat.beq (sizeN P t) 1 then FreeW w a 1 ∧ ∀ w', Put w a v w' → K w' else False

/-- What the semantics comes to, without a look at the world. -/
def Is {α : Type} (P : Program) (s : Sem α) (v : α) : Prop := peek P s = some v

def zeroRow (z : Array Value) (n : Nat) : Array Value := (Array.range n).map fun i => z[i % z.size]!

/-- Where a part of a slice begins: nothing is there where no capacity is left. -/
def cutA (a : Option Addr) (k m l : Nat) : Option Addr := if m = l then a else a.map (·.add k)

def mapA {α β : Type} (f : α → β) (a : Array α) : Array β := (a.toList.map f).toArray

/-- Parts laid into a row of values, each at its place. -/
def fill0 (place : Nat → Option (Nat × Nat)) (L : Nat) : List (Nat × Value) → List Value → (List Value → Prop) → Prop
  | [], cs, K => K cs
  | (i, v) :: rest, cs, K =>
    match place i with
    | none => False
    | some (off, size) =>
      bif Nat.ble (off + size) L then
        match v with
        | .agg a => a.size = size ∧ fill0 place L rest (cs.take off ++ a.toList ++ cs.drop (off + size)) K
        | v => bif Nat.beq size 1 then fill0 place L rest (cs.set off v) K else False
      else False

/-- The cells of an array, ahead of a row. -/
def catA (a : Array Value) (l : List Value) : List Value := a.toList ++ l

/-- The same, where the parts stand in their order. -/
def fillY (place : Nat → Option (Nat × Nat)) (L : Nat) : List (Nat × Value) → Nat → List Value → (List Value → Prop) → Prop
  | [], _, tail, K => K tail
  | (i, v) :: rest, pos, tail, K =>
    match place i with
    | none => False
    | some (off, size) =>
      bif Nat.ble (off + size) L && Nat.ble pos off then
        match v with
        | .agg a => a.size = size ∧ fillY place L rest (off + size) (tail.drop (off - pos + size)) fun l => K (tail.take (off - pos) ++ catA a l)
        | v => bif Nat.beq size 1 then fillY place L rest (off + 1) (tail.drop (off - pos + 1)) fun l => K (tail.take (off - pos) ++ v :: l) else False
      else False

/-- Whether parts stand in their order. -/
def ordY (place : Nat → Option (Nat × Nat)) : List (Nat × Value) → Nat → Bool
  | [], _ => true
  | (i, _) :: rest, pos =>
    match place i with
    | none => true
    | some (off, size) => Nat.ble pos off && ordY place rest (off + size)

def fillX (place : Nat → Option (Nat × Nat)) (L : Nat) (ps : List (Nat × Value)) (cs : List Value) (K : List Value → Prop) : Prop :=
  bif ordY place ps 0 then fillY place L ps 0 cs K else fill0 place L ps cs K

def buildX (P : Program) (t : TypeId) (parts : List (Nat × Value)) (K : Value → Prop) : Prop :=
  match P.underlying t, peek P (zeroValue t) with
  | some (.struct fs), some z =>
    bif fs.toList.all fun f => (P.info? f.type).isSome then
      fillX (fun i => (fs.toList[i]?).map fun f => (f.offset, P.cellsOf f.type)) z.cells.toList.length parts z.cells.toList fun cs => K (.agg ⟨cs⟩)
    else False
  | some (.array _ e), some z =>
    bif (P.info? e).isSome then fillX (fun i => some (i * P.cellsOf e, P.cellsOf e)) z.cells.toList.length parts z.cells.toList fun cs => K (.agg ⟨cs⟩) else False
  | _, _ => False

def zeroL (z : List Value) (n : Nat) : List Value := (List.range n).map fun i => z.getD (i % z.length) undef

def peekV (P : Program) (s : Sem Value) (K : Value → Prop) : Prop :=
  match peek P s with
  | some v => K v
  | none => False

def callX (P : Program) (g : FuncId) (args : Array Value) (w : World) (R : Ending → World → Prop) : Prop :=
  match peek P (callFunc g args) with
  | some (.enter f as) => Calls P f as w R
  | _ => False

def runsX (P : Program) (s : Sem Value) (t : TypeId) (w : World) (K : Value → World → Prop) : Prop :=
  exSh (shOf P t) fun v => ∃ w', Runs P s w v w' ∧ K v w'

def intOfV : Value → Int | .int _ n => n | _ => 0
def isAggV : Value → Bool | .agg _ => true | _ => false

def peekX (P : Program) (n : Nat) (o : Oper) (ρ : Env) (K : Value → Prop) : Prop :=
  match peek P (execOp (ev n ρ) o) with
  | some (.value v) => K v
  | some .skip => K undef
  | _ => False

def partX (P : Program) (t : TypeId) (cs : Array Value) (off : Nat) (K : Value → Prop) : Prop :=
  match P.underlying t with
  | none => False
  | some _ =>
  match shOf P t with
  | .agg m => K (.agg (cs.extract off (off + m)))
  | s => exSh s fun v => cs[off]? = some v ∧ K v

/-- The operations that do not touch the world. -/
def pureX (P : Program) (n : Nat) (o : Oper) (ρ : Env) (K : Value → Prop) : Prop :=
  match o.op with
  | .nilCheck x =>
    match ev n ρ x with
    | .pointer p => ∃ ad, p = some ad ∧ K (.pointer (some ad))
    | _ => peekX P n o ρ K
  | .pick c a b =>
    match ev n ρ c, ev n ρ a, ev n ρ b with
    | .bool t, .bool x, .bool y => K (.bool (bif t then x else y))
    | .bool t, x, y => K (bif t then x else y)
    | _, _, _ => False
  | .binOp op t x y _ =>
    match op, ev n ρ x, ev n ρ y with
    | .add, .int .i64 a, .int .i64 b => inInt (a + b) ∧ K (.int .i64 (a + b))
    | .sub, .int .i64 a, .int .i64 b => inInt (a - b) ∧ K (.int .i64 (a - b))
    | .mul, .int .i64 a, .int .i64 b => inInt (a * b) ∧ K (.int .i64 (a * b))
    | .add, .string a, .string b => a.size + b.size ≤ 9223372036854775807 ∧ K (.string (a ++ b))
    | .eql, .agg xs, .agg ys => bif P.eqGuardType P.depth t then False else ∃ b : Bool, Is P (Op.equal t (.agg xs) (.agg ys)) b ∧ K (.bool b)
    | .neq, .agg xs, .agg ys => bif P.eqGuardType P.depth t then False else ∃ b : Bool, Is P (Op.equal t (.agg xs) (.agg ys)) b ∧ K (.bool !b)
    | .eql, .pointer p, .pointer none => match P.underlying t with | some (.pointer _) => K (.bool p.isNone) | _ => peekX P n o ρ K
    | .neq, .pointer p, .pointer none => match P.underlying t with | some (.pointer _) => K (.bool !p.isNone) | _ => peekX P n o ρ K
    | .eql, .slice p l c, .slice none _ _ => match P.underlying t with | some (.slice _) => K (.bool p.isNone) | _ => peekX P n o ρ K
    | .neq, .slice p l c, .slice none _ _ => match P.underlying t with | some (.slice _) => K (.bool !p.isNone) | _ => peekX P n o ρ K
    | _, _, _ => peekX P n o ρ K
  | .convert src dst x =>
    match P.underlying src, P.underlying dst, ev n ρ x with
    | some (.int _), some (.int .i64), .int _ a => inInt a ∧ K (.int .i64 a)
    | _, _, _ => peekX P n o ρ K
  | .field t x i =>
    match P.underlying t, ev n ρ x with
    | some (.struct fs), .agg cs =>
      match fs[i]? with
      | some f => partX P f.type cs f.offset K
      | none => False
    | _, _ => False
  | .index t x i =>
    match P.underlying t, ev n ρ x, ev n ρ i with
    | some .string, .string s, .int _ i => 0 ≤ i ∧ i.toNat < s.size ∧ K (.int .u8 (s.data.toList.getD i.toNat 0).toNat)
    | some (.array len e), .agg cs, .int _ i =>
      bif (P.info? e).isNone then False else 0 ≤ i ∧ i < len ∧ partX P e cs (i.toNat * sizeN P e) K
    | _, _, _ => False
  | .indexAddr t x i =>
    match P.underlying t, ev n ρ x, ev n ρ i with
    | some (.slice e), .slice base len _, .int _ i => bif (P.info? e).isNone then False else 0 ≤ i ∧ i < len ∧ ∃ b off, base = some ⟨b, off, none⟩ ∧ K (.pointer (some ⟨b, off + i.toNat * sizeN P e, none⟩))
    | some (.array len e), .pointer base, .int _ i => bif (P.info? e).isNone then False else 0 ≤ i ∧ i < len ∧ ∃ b off, base = some ⟨b, off, none⟩ ∧ K (.pointer (some ⟨b, off + i.toNat * sizeN P e, none⟩))
    | _, _, _ => False
  | .slice t x lo hi none =>
    match P.underlying t, ev n ρ x, lo.map (ev n ρ), hi.map (ev n ρ) with
    | some (.slice e), .slice a len cap, none, none => bif (P.info? e).isNone then False else K (.slice a len cap)
    | some (.slice e), .slice a len cap, none, some (.int _ h) => bif (P.info? e).isNone then False else 0 ≤ h ∧ h ≤ cap ∧ K (.slice a h.toNat cap)
    | some (.slice e), .slice a len cap, some (.int _ l), none => bif (P.info? e).isNone then False else 0 ≤ l ∧ l ≤ len ∧ K (.slice (cutA a (l.toNat * sizeN P e) cap l.toNat) (len - l.toNat) (cap - l.toNat))
    | some (.slice e), .slice a len cap, some (.int _ l), some (.int _ h) => bif (P.info? e).isNone then False else 0 ≤ l ∧ l ≤ h ∧ h ≤ cap ∧ K (.slice (cutA a (l.toNat * sizeN P e) cap l.toNat) (h.toNat - l.toNat) (cap - l.toNat))
    | some .string, .string s, none, none => K (.string s)
    | some .string, .string s, none, some (.int _ h) => 0 ≤ h ∧ h ≤ s.size ∧ K (.string (s.extract 0 h.toNat))
    | some .string, .string s, some (.int _ l), none => 0 ≤ l ∧ l ≤ s.size ∧ K (.string (s.extract l.toNat s.size))
    | some .string, .string s, some (.int _ l), some (.int _ h) => 0 ≤ l ∧ l ≤ h ∧ h ≤ s.size ∧ K (.string (s.extract l.toNat h.toNat))
    | some (.array m e), .pointer p, none, none => bif (P.info? e).isNone then False else ∃ ad, p = some ad ∧ K (.slice (some ad) m m)
    | _, _, _, _ => False
  | .build t parts =>
    buildX P t (parts.toList.map fun p => (p.1, ev n ρ p.2)) K
  | .move _ | .assign _ | .unOp .. | .fieldAddr .. | .extract .. | .makeInterface .. => peekX P n o ρ K
  | .makeFunc fn first cap => K (.func fn (mapA (ev n ρ) first) (mapA (ev n ρ) cap))
  | .call { callee := .builtin b, args, argTypes } =>
    match b with
    | .len =>
      match (argTypes[0]?).bind P.underlying with
      | some .string | some (.slice _) | some (.array ..) => peekV P (Builtin.len_ argTypes o.type (mapA (ev n ρ) args)) K
      | _ => False
    | .cap => peekV P (Builtin.cap_ argTypes o.type (mapA (ev n ρ) args)) K
    | .min => match args.toList.map (ev n ρ) with
      | [.int k x, .int _ y] => K (.int k (min x y))
      | _ => peekV P (Builtin.min_ argTypes o.type (mapA (ev n ρ) args)) K
    | .max => match args.toList.map (ev n ρ) with
      | [.int k x, .int _ y] => K (.int k (max x y))
      | _ => peekV P (Builtin.max_ argTypes o.type (mapA (ev n ρ) args)) K
    | _ => False
  | _ => False

def isPure (P : Program) (o : Oper) : Bool :=
  match o.op with
  | .nilCheck _ | .pick .. | .binOp .. | .field .. | .index .. | .indexAddr .. | .build .. | .move _ | .assign _ | .unOp .. | .fieldAddr .. | .extract .. | .makeFunc .. | .makeInterface .. => true
  | .slice _ _ _ _ m => m.isNone
  | .convert src dst _ =>
    match P.underlying src, P.underlying dst with
    | some (.int _), some (.int _) => true
    | some (.int _), some .string => true
    | some .string, some .string => true
    | _, _ => false
  | .call { callee := .builtin b, argTypes, .. } =>
    match b with
    | .len => match (argTypes[0]?).bind P.underlying with | some .string | some (.slice _) | some (.array ..) => true | _ => false
    | .cap | .min | .max => true
    | _ => false
  | _ => false

/-- One operation. -/
def opX (P : Program) (n : Nat) (o : Oper) (ρ : Env) (w : World) (K : Value → World → Prop) : Prop :=
  bif isPure P o then pureX P n o ρ fun v => K v w else
  match o.op with
  | .load t a =>
    match ev n ρ a with
    | .pointer (some ad) => loadX P t w ad fun v => K v w
    | _ => False
  | .store t a x =>
    match ev n ρ a with
    | .pointer (some ad) => storeX P t w ad (ev n ρ x) (K undef)
    | _ => False
  | .alloc e =>
    match peek P (zeroValue e) with
    | some z => ∀ b w', New w (.cells z.cells e) b w' → K (.pointer (some ⟨b, 0, none⟩)) w'
    | none => False
  | .box e x => ∀ b w', New w (.cells (ev n ρ x).cells e) b w' → K (.pointer (some ⟨b, 0, none⟩)) w'
  | .makeSlice t l c =>
    match P.underlying t, ev n ρ l, ev n ρ c with
    | some (.slice e), .int .i64 l, .int .i64 c =>
      match peek P (typeInfo e), peek P (zeroValue e) with
      | some i, some z => 0 ≤ l ∧ l ≤ c ∧ i.bytes * c ≤ 281474976710656 ∧ c ≤ 9223372036854775807 ∧ ∀ b w', New w (.cells (zeroRow z.cells (c.toNat * i.size)) e) b w' → K (.slice (some ⟨b, 0, none⟩) l.toNat c.toNat) w'
      | _, _ => False
    | _, _, _ => False
  | .buildSlice t len parts =>
    match P.underlying t with
    | some (.slice e) =>
      match peek P (zeroValue e), P.info? e with
      | some z, some _ =>
        bif Nat.ble (len * P.cellsOf e) 16777216 && Nat.ble 1 z.cells.toList.length then
          fillX (fun i => some (i * P.cellsOf e, P.cellsOf e)) (len * P.cellsOf e) (parts.toList.map fun p => (p.1, ev n ρ p.2)) (zeroL z.cells.toList (len * P.cellsOf e)) fun cs =>
            ∀ b w', New w (.cells ⟨cs⟩ e) b w' → K (.slice (some ⟨b, 0, none⟩) len len) w'
        else False
      | _, _ => False
    | _ => False
  | .call { callee := .value f, args, .. } =>
    match ev n ρ f with
    | .func (.func g) first cap => callX P g (first ++ mapA (ev n ρ) args ++ cap) w (retP P o.type K)
    | _ => False
  | .call { callee := .builtin b, args, argTypes } =>
    match b with
    | .append => runsX P (Builtin.append_ argTypes o.type (mapA (ev n ρ) args)) o.type w K
    | .copy => runsX P (Builtin.copy_ argTypes o.type (mapA (ev n ρ) args)) o.type w K
    | .delete => ∃ v w', Runs P (Builtin.delete_ argTypes o.type (mapA (ev n ρ) args)) w v w' ∧ K v w'
    | .clear => ∃ v w', Runs P (Builtin.clear_ argTypes o.type (mapA (ev n ρ) args)) w v w' ∧ K v w'
    | .len => ∃ (m : Int) (w' : World), Runs P (Builtin.len_ argTypes o.type (mapA (ev n ρ) args)) w (.int .i64 m) w' ∧ K (.int .i64 m) w'
    | _ => False
  | .convert src dst x => runsX P (convert src dst (ev n ρ x)) dst w K
  | .makeMap t r => ∃ m w', Runs P (Instr.makeMap t (r.map (ev n ρ))) w (.map m) w' ∧ K (.map m) w'
  | .lookup t x i ok =>
    match P.underlying t with
    | some (.map _ e) => bif ok then exSh (shOf P e) fun v => ∃ (b : Bool) (w' : World), Runs P (Instr.lookup t (ev n ρ x) (ev n ρ i) true) w (.tuple #[v, .bool b]) w' ∧ K (.tuple #[v, .bool b]) w'
      else runsX P (Instr.lookup t (ev n ρ x) (ev n ρ i) false) e w K
    | _ => False
  | .mapUpdate t m k x => ∃ w', RunsU P (Instr.mapUpdate t (ev n ρ m) (ev n ρ k) (ev n ρ x)) w w' ∧ K undef w'
  | .range t x => ∃ v w', Runs P (Instr.range t (ev n ρ x)) w v w' ∧ K v w'
  | .next it isS => ∃ v w', Runs P (Instr.next (ev n ρ it) isS o.type) w v w' ∧ K v w'
  | .slice t x lo hi mx => runsX P (Instr.sliceAt t (ev n ρ x) (lo.map (ev n ρ)) (hi.map (ev n ρ)) (mx.map (ev n ρ))) o.type w K
  | .typeAssert x xt a ok => ∃ v w', Runs P (Instr.typeAssert (ev n ρ x) xt a ok) w v w' ∧ K v w'
  | _ => False

end Go.X

namespace Go.X
open Go Go.RowKit
variable {P : Program}

theorem info_of {t : TypeId} {d : TypeDesc} (h : P.underlying t = some d) : ∃ i, P.info? t = some i := by
  unfold Program.underlying at h
  split at h
  · exact ⟨_, by assumption⟩
  · exact ⟨_, by assumption⟩
  · cases h

theorem run_underlying' {t : TypeId} {d : TypeDesc} (h : P.underlying t = some d) (w : World) : (underlying t).run P w = .ok d w := by
  show Sem.run P (Sem.bind (.program .pure) _) w = _
  simp only [Sem.bind, Sem.run, h]
  rfl
theorem run_typeInfo' {t : TypeId} {i : TypeInfo} (h : P.info? t = some i) (w : World) : (typeInfo t).run P w = .ok i w := by
  show Sem.run P (Sem.bind (.program .pure) _) w = _
  simp only [Sem.bind, Sem.run, h]
  rfl
theorem run_bind {α β : Type} (s : Sem α) (f : α → Sem β) (w : World) {a : α} {w' : World} (h : s.run P w = .ok a w') : (s >>= f).run P w = (f a).run P w' := by
  show Sem.run P (Sem.bind s f) w = _
  induction s generalizing w with
  | pure b => simp only [Sem.run, Result.ok.injEq] at h; obtain ⟨rfl, rfl⟩ := h; rfl
  | load m ad k ih =>
    simp only [Sem.run, Sem.bind] at h ⊢
    split at h
    · rename_i v hv; exact ih _ _ h
    · split at h
      · rename_i x y hz; exact ih _ _ h
      · cases h
  | store m ad v k ih =>
    cases v <;> simp only [Sem.run, Sem.bind] at h ⊢ <;>
    (first
      | (cases h; done)
      | (split at h
         · split at h
           · cases h
           · rename_i hf; simp only [hf]; exact ih _ h
         · split at h
           · exact ih _ h
           · cases h))
  | new o k ih => simp only [Sem.run, Sem.bind] at h ⊢; exact ih _ _ h
  | shape r k ih => simp only [Sem.run, Sem.bind] at h ⊢; exact ih _ _ h
  | freeze ad n k ih => simp only [Sem.run, Sem.bind] at h ⊢; exact ih _ h
  | frozen ad k ih => simp only [Sem.run, Sem.bind] at h ⊢; exact ih _ _ h
  | getObj r k ih =>
    simp only [Sem.run, Sem.bind] at h ⊢
    split at h
    · cases h
    · exact ih _ _ h
    · cases h
  | setObj r o k ih =>
    simp only [Sem.run, Sem.bind] at h ⊢
    split at h
    · cases h
    · exact ih _ h
    · cases h
  | choose q k ih =>
    simp only [Sem.run, Sem.bind] at h ⊢
    split at h
    · rename_i hq; simp only [hq, if_true]; exact ih _ _ h
    · rename_i hq; simp only [hq]; exact ih _ _ h
  | sys c k ih => simp only [Sem.run, Sem.bind] at h ⊢; exact ih _ _ h
  | program k ih => simp only [Sem.run, Sem.bind] at h ⊢; exact ih _ _ h
  | mark m k ih => simp only [Sem.run, Sem.bind] at h ⊢; exact ih _ h
  | halt x => simp only [Sem.run] at h; cases h

def isAggD : TypeDesc → Bool | .struct _ | .array _ _ => true | _ => false

theorem run_isAgg' {t : TypeId} {d : TypeDesc} (h : P.underlying t = some d) (w : World) :
    (isAgg t).run P w = .ok (isAggD d) w := by
  unfold isAgg
  rw [run_bind _ _ w (run_underlying' h w)]
  cases d <;> rfl
theorem run_sizeOf' {t : TypeId} {i : TypeInfo} (h : P.info? t = some i) (w : World) : (sizeOf t).run P w = .ok (P.cellsOf t) w := by
  unfold sizeOf
  rw [run_bind _ _ w (run_typeInfo' h w)]
  simp [Program.cellsOf, h, pure]

theorem run_load_cell {a : Addr} {v : Value} {w : World} (h : w.cell? a = some v) : (load a).run P w = .ok v w := by
  simp [load, Sem.run, h]

theorem shOf_agg {t : TypeId} {m : Nat} (h : shOf P t = .agg m) : ∃ d, P.underlying t = some d ∧ isAggD d = true ∧ m = P.cellsOf t := by
  unfold shOf at h
  split at h <;> first | cases h | skip
  · exact ⟨_, by assumption, rfl, rfl⟩
  · exact ⟨_, by assumption, rfl, rfl⟩

/-- A load of a value that is no struct and no array needs the type's row alone. -/
theorem shOf_one {t : TypeId} {d : TypeDesc} (hd : P.underlying t = some d) (h : ∀ m, shOf P t ≠ .agg m) : isAggD d = false := by
  unfold shOf at h
  rw [hd] at h
  cases d <;> first | rfl | exact absurd rfl (h _)

theorem cellsW_spec {w : World} {a : Addr} {n : Nat} {cs : Array Value} (h : cellsW w a n = some cs) : cs.size = n ∧ ∀ i, i < cs.size → w.cell? (a.add i) = cs[i]? := by
  unfold cellsW blk at h
  split at h
  · rename_i c T z hb
    split at h
    · rename_i hc
      simp only [Option.some.injEq] at h
      subst h
      refine ⟨by simp; omega, fun i hi => ?_⟩
      have hi' : i < n := by simp at hi; omega
      unfold World.cell?
      have h1 : (a.add i).block = a.block := by unfold Addr.add; split <;> rfl
      have h2 : (a.add i).spot = none := by unfold Addr.add; split <;> simp [hc.1]
      have h3 : (a.add i).off = a.off + i := by unfold Addr.add; split <;> simp [*]
      rw [h1, hb]
      simp only [h2, h3]
      simp [Array.getElem?_extract]
      omega
    · cases h
  · cases h

theorem freeW_spec {w : World} {a : Addr} {n : Nat} (h : FreeW w a n) : ∀ i, i < n → (∃ u, w.cell? (a.add i) = some u) ∧ w.frozen? (a.add i) = false := by
  obtain ⟨c, T, lo, hi, hb, hs, ho, hf⟩ := h
  intro i hin
  unfold blk at hb
  have h1 : (a.add i).block = a.block := by unfold Addr.add; split <;> rfl
  have h2 : (a.add i).spot = none := by unfold Addr.add; split <;> simp [hs]
  have h3 : (a.add i).off = a.off + i := by unfold Addr.add; split <;> simp [*]
  constructor
  · unfold World.cell?
    rw [h1, hb]
    simp only [h2, h3]
    have : a.off + i < c.size := by omega
    exact ⟨c[a.off + i], by simp [this]⟩
  · unfold World.frozen?
    rw [h1, hb]
    simp only [h3]
    simp
    omega

theorem load_sound {t : TypeId} {w : World} {a : Addr} {K : Value → Prop} (h : loadX P t w a K) :
    ∃ v, (Instr.loadAt t (.pointer (some a))).run P w = .ok v w ∧ K v := by
  unfold loadX at h
  split at h
  · exact h.elim
  rename_i d hd
  obtain ⟨i, hi⟩ := info_of hd
  show ∃ v, Sem.run P (loadVar t a) w = .ok v w ∧ K v
  unfold loadVar
  rw [run_bind _ _ w (run_isAgg' hd w)]
  split at h
  · rename_i m hm
    obtain ⟨cs, hcs, hk⟩ := h
    obtain ⟨hs, hc⟩ := cellsW_spec hcs
    obtain ⟨d', hd', hag, rfl⟩ := shOf_agg hm
    rw [hd] at hd'; cases hd'
    rw [hag, if_pos rfl]
    refine ⟨.agg cs, ?_, hk⟩
    rw [run_bind _ _ w (run_sizeOf' hi w)]
    have := run_loadCells_list (P := P) w a cs.toList (fun j v hj => by
      rw [hc j (by have := (List.getElem?_eq_some_iff.1 hj).1; simpa using this)]; simpa using hj)
    rw [show cs.toList.length = P.cellsOf t from by simpa using hs] at this
    rw [run_bind _ _ w this]
    rfl
  · rename_i hne
    rw [exSh_iff] at h
    obtain ⟨v, _, hc, hk⟩ := h
    have hf := shOf_one hd hne
    rw [hf, if_neg Bool.false_ne_true]
    exact ⟨v, run_load_cell hc, hk⟩

theorem run_store_cell {a : Addr} {u v : Value} {w : World} (h : w.cell? a = some u) (hf : w.frozen? a = false) (ho : oneC v = true) : (store a v).run P w = .ok () (w.setCell a v) := by
  cases v <;> simp [oneC] at ho <;> simp [store, Sem.run, h, hf]

theorem setCell_cell_other {w : World} {a b : Addr} {v : Value} (h : a ≠ b) : (w.setCell a v).cell? b = w.cell? b := World.cell?_setCell_other w a b v h

theorem free_set {w : World} {a b : Addr} {v : Value} (h : (∃ u, w.cell? b = some u) ∧ w.frozen? b = false) : (∃ u, (w.setCell a v).cell? b = some u) ∧ (w.setCell a v).frozen? b = false := by
  obtain ⟨⟨u, hu⟩, hf⟩ := h
  refine ⟨?_, by simpa using hf⟩
  by_cases e : a = b
  · subst e; exact ⟨v, World.cell?_setCell_same w a v hu⟩
  · exact ⟨u, by rw [setCell_cell_other e]; exact hu⟩

theorem run_storeCells (a : Addr) : ∀ (vs : List Value) (i : Nat) (w : World), (∀ u, u ∈ vs → oneC u = true) → (∀ j, j < vs.length → (∃ u, w.cell? (a.add (i + j)) = some u) ∧ w.frozen? (a.add (i + j)) = false) →
    (storeCells a vs i).run P w = .ok () (putCells w (a.add i) vs) := by
  intro vs
  induction vs with
  | nil => intro i w _ _; simp [storeCells, putCells, pure]
  | cons v vs ih =>
    intro i w hv hc
    obtain ⟨⟨u, hu⟩, hf⟩ := hc 0 (by simp)
    simp only [Nat.add_zero] at hu hf
    unfold storeCells
    rw [run_bind _ _ w (run_store_cell hu hf (hv v (by simp)))]
    rw [ih (i + 1) _ (fun u hu => hv u (by simp [hu])) (fun j hj => by
      have := hc (j + 1) (by simp; omega)
      rw [show i + 1 + j = i + (j + 1) by omega]
      exact free_set this)]
    simp only [putCells]
    congr 2
    simp only [Addr.add]
    by_cases h : i = 0
    · subst h; simp
    · simp [h]; omega

theorem store_sound {t : TypeId} {w : World} {a : Addr} {v : Value} {K : World → Prop} (h : storeX P t w a v K) :
    ∃ w', (Instr.storeAt t (.pointer (some a)) v).run P w = .ok () w' ∧ K w' := by
  unfold storeX at h
  split at h
  · exact h.elim
  rename_i i hi
  show ∃ w', Sem.run P (storeVar t a v) w = .ok () w' ∧ K w'
  unfold storeVar
  rw [run_bind _ _ w (run_sizeOf' hi w)]
  split at h
  · rename_i cs
    obtain ⟨hs, ho, hf, hk⟩ := h
    refine ⟨_, ?_, hk _ rfl⟩
    simp only [sizeN] at hs
    rw [if_neg (show ¬ (Value.agg cs).cells.size ≠ P.cellsOf t from fun h => h hs)]
    have := run_storeCells (P := P) a cs.toList 0 w (fun u hu => by
      obtain ⟨j, hj, rfl⟩ := List.getElem_of_mem hu
      exact List.all_eq_true.1 ho _ (List.getElem_mem hj)) (fun j hj => by rw [Nat.zero_add]; exact freeW_spec hf j (by simp only [sizeN]; simpa [hs] using hj))
    rw [show a.add 0 = a from rfl] at this
    exact this
  · exact h.elim
  · rename_i hag htup
    cases hb : Nat.beq (sizeN P t) 1 with
    | false => rw [hb] at h; exact h.elim
    | true =>
      rw [hb] at h
      obtain ⟨hfw, hk⟩ := h
      obtain ⟨⟨u, hu⟩, hf⟩ := freeW_spec hfw 0 (by omega)
      have h0 : a.add 0 = a := rfl
      rw [h0] at hu hf
      have h1 : P.cellsOf t = 1 := Nat.eq_of_beq_eq_true hb
      have ho : oneC v = true := by cases v <;> first | rfl | exact absurd rfl (hag _) | exact absurd rfl (htup _)
      have hcs : v.cells = #[v] := by cases v <;> first | rfl | exact absurd rfl (hag _)
      refine ⟨_, ?_, hk _ rfl⟩
      rw [hcs, if_neg (by simp [h1])]
      have := run_storeCells (P := P) a [v] 0 w (by simpa using ho) (fun j hj => by
        simp at hj; subst hj; exact ⟨⟨u, hu⟩, hf⟩)
      exact this
end Go.X

namespace Go.X
open Go Go.RowKit
variable {P : Program}

/-- The value of a pure operation, in every world. -/
def Gives (P : Program) (s : Sem Value) (v : Value) : Prop := ∀ w, s.run P w = .ok v w
def Yields (P : Program) (n : Nat) (o : Oper) (ρ : Env) (v : Value) : Prop :=
  (∀ w, (execOp (ev n ρ) o).run P w = .ok (.value v) w) ∨ ((∀ w, (execOp (ev n ρ) o).run P w = .ok .skip w) ∧ v = undef)

theorem peekX_sound {n : Nat} {o : Oper} {ρ : Env} {K : Value → Prop} (h : peekX P n o ρ K) : ∃ v, Yields P n o ρ v ∧ K v := by
  unfold peekX at h
  split at h
  · rename_i v hv; exact ⟨v, .inl fun w => peek_run hv w, h⟩
  · rename_i hv; exact ⟨undef, .inr ⟨fun w => peek_run hv w, rfl⟩, h⟩
  · exact h.elim

theorem value_of {n : Nat} {o : Oper} {ρ : Env} {s : Sem Value} {v : Value} (he : execOp (ev n ρ) o = (do pure (.value (← s)))) (h : Gives P s v) : Yields P n o ρ v :=
  .inl fun w => by rw [he, run_bind _ _ w (h w)]; rfl

theorem gives_peek {s : Sem Value} {v : Value} (h : peek P s = some v) : Gives P s v := fun w => peek_run h w

theorem cond_some {b : Bool} {A : Prop} (h : cond b A False) : b = true ∧ A := by cases b <;> simp_all
theorem cond_none {b : Bool} {A : Prop} (h : cond b False A) : b = false ∧ A := by cases b <;> simp_all

theorem nilCheck_sound {n : Nat} {d : Option Tmp} {x : Operand} {t : TypeId} {p : String} {af : Array Edge} {g : Option (Nat × Bool)} {ρ : Env} {K : Value → Prop}
    (h : pureX P n ⟨d, .nilCheck x, t, p, af, g⟩ ρ K) : ∃ v, Yields P n ⟨d, .nilCheck x, t, p, af, g⟩ ρ v ∧ K v := by
  simp only [pureX] at h
  split at h
  · rename_i q hq
    obtain ⟨ad, rfl, hk⟩ := h
    exact ⟨_, .inl fun w => by simp [execOp, hq, pure], hk⟩
  · exact peekX_sound h

theorem pick_sound {n : Nat} {d : Option Tmp} {c a b : Operand} {t : TypeId} {p : String} {af : Array Edge} {g : Option (Nat × Bool)} {ρ : Env} {K : Value → Prop}
    (h : pureX P n ⟨d, .pick c a b, t, p, af, g⟩ ρ K) : ∃ v, Yields P n ⟨d, .pick c a b, t, p, af, g⟩ ρ v ∧ K v := by
  simp only [pureX] at h
  split at h
  · rename_i u x y hc ha hb
    refine ⟨_, .inl fun w => ?_, h⟩
    cases u <;> simp [execOp, hc, ha, hb, asBool, pure, bind, Sem.bind]
  · rename_i u x y hc _
    refine ⟨_, .inl fun w => ?_, h⟩
    cases u <;> simp [execOp, hc, asBool, pure, bind, Sem.bind]
  · exact h.elim

theorem intArith_wrap {a : Int} (h : inInt a) : IntKind.i64.wrap a = a := by
  obtain ⟨h1, h2⟩ := h
  unfold IntKind.wrap
  simp [IntKind.bits, IntKind.signed]
  omega

theorem yields_mk {n : Nat} {o : Oper} {ρ : Env} {K : Value → Prop} {s : Sem Value} {v : Value} (he : execOp (ev n ρ) o = (do pure (.value (← s)))) (h : Gives P s v) (hk : K v) :
    ∃ v, Yields P n o ρ v ∧ K v := ⟨v, value_of he h, hk⟩

theorem gives_bind {α : Type} {s : Sem α} {f : α → Sem Value} {a : α} {v : Value} (h : ∀ w, s.run P w = .ok a w) (h' : Gives P (f a) v) : Gives P (s >>= f) v :=
  fun w => by rw [run_bind _ _ w (h w)]; exact h' w

theorem eqGuard_other {op : BinOp} {t : TypeId} {x y : Operand} {a b : Value} (h : (a = .nilIface → b = .nilIface → False)) (h2 : ∀ xs ys, a = .agg xs → b = .agg ys → P.eqGuardType P.depth t = false) :
    ∀ w, (eqGuard op t x y a b).run P w = .ok () w := by
  intro w
  have key : ∀ xs ys : Array Value, P.eqGuardType P.depth t = false → (do if !(← program).eqGuardType (← program).depth t then return
                                                                          if ← Op.eqGuardIn Op.maxDepth t (.agg xs) (.agg ys) then unsupported (.noEntry "binop/eql: two nil values of an interface type with methods, in a part of a struct or an array") : Sem Unit).run P w = .ok () w := by
    intro xs ys this
    show Sem.run P (Sem.bind (.program .pure) _) w = _
    simp only [Sem.bind, Sem.run]
    show Sem.run P (Sem.bind (.program .pure) _) w = _
    simp only [Sem.bind, Sem.run, this]
    rfl
  unfold eqGuard
  cases op <;> first
    | rfl
    | (cases a <;> cases b <;> first
        | rfl
        | exact (h rfl rfl).elim
        | exact key _ _ (h2 _ _ rfl rfl))

theorem bin_sound {n : Nat} {d : Option Tmp} {op : BinOp} {t u : TypeId} {x y : Operand} {ty : TypeId} {p : String} {af : Array Edge} {g : Option (Nat × Bool)} {ρ : Env} {K : Value → Prop}
    (h : pureX P n ⟨d, .binOp op t x y u, ty, p, af, g⟩ ρ K) : ∃ v, Yields P n ⟨d, .binOp op t x y u, ty, p, af, g⟩ ρ v ∧ K v := by
  simp only [pureX] at h
  split at h
  · rename_i a b hx hy
    obtain ⟨hr, hk⟩ := h
    refine yields_mk rfl (gives_bind (eqGuard_other (by rw [hx]; intro e; cases e) (by rw [hx]; intro _ _ e; cases e)) ?_) hk
    intro w
    rw [hx, hy]
    simp [binOp, Op.intArith, intArith_wrap hr, pure]
  · rename_i a b hx hy
    obtain ⟨hr, hk⟩ := h
    refine yields_mk rfl (gives_bind (eqGuard_other (by rw [hx]; intro e; cases e) (by rw [hx]; intro _ _ e; cases e)) ?_) hk
    intro w
    rw [hx, hy]
    simp [binOp, Op.intArith, intArith_wrap hr, pure]
  · rename_i a b hx hy
    obtain ⟨hr, hk⟩ := h
    refine yields_mk rfl (gives_bind (eqGuard_other (by rw [hx]; intro e; cases e) (by rw [hx]; intro _ _ e; cases e)) ?_) hk
    intro w
    rw [hx, hy]
    simp [binOp, Op.intArith, intArith_wrap hr, pure]
  · rename_i a b hx hy
    obtain ⟨hr, hk⟩ := h
    refine yields_mk rfl (gives_bind (eqGuard_other (by rw [hx]; intro e; cases e) (by rw [hx]; intro _ _ e; cases e)) ?_) hk
    intro w
    rw [hx, hy]
    have : ¬ (((a.size + b.size : Nat) : Int) > IntKind.i64.max) := by
      have : IntKind.i64.max = 9223372036854775807 := by decide
      rw [this]; omega
    simp only [binOp, Op.stringOp]
    rw [if_neg this]
    rfl
  · rename_i xs ys hx hy
    obtain ⟨hg, b, hb, hk⟩ := cond_none h
    refine yields_mk rfl (gives_bind (eqGuard_other (by rw [hx]; intro e; cases e) (fun _ _ _ _ => hg)) ?_) hk
    intro w
    rw [hx, hy]
    simp only [binOp]
    rw [run_bind _ _ w (peek_run hb w)]
    rfl
  · rename_i xs ys hx hy
    obtain ⟨hg, b, hb, hk⟩ := cond_none h
    refine yields_mk rfl (gives_bind (eqGuard_other (by rw [hx]; intro e; cases e) (fun _ _ _ _ => hg)) ?_) hk
    intro w
    rw [hx, hy]
    simp only [binOp]
    rw [run_bind _ _ w (peek_run hb w)]
    rfl
  · rename_i q hx hy
    split at h
    · rename_i e he
      refine yields_mk rfl (gives_bind (eqGuard_other (by rw [hx]; intro e; cases e) (by rw [hx]; intro _ _ e; cases e)) ?_) h
      intro w
      rw [hx, hy]
      simp only [binOp, Op.equal, Op.maxDepth]
      have : (Op.equalIn 10000 t (.pointer q) (.pointer none)).run P w = .ok q.isNone w := by
        unfold Op.equalIn
        rw [run_bind _ _ w (run_underlying' he w)]
        cases q <;> rfl
      rw [run_bind _ _ w this]
      rfl
    · exact peekX_sound h
  · rename_i q hx hy
    split at h
    · rename_i e he
      refine yields_mk rfl (gives_bind (eqGuard_other (by rw [hx]; intro e; cases e) (by rw [hx]; intro _ _ e; cases e)) ?_) h
      intro w
      rw [hx, hy]
      simp only [binOp, Op.equal, Op.maxDepth]
      have : (Op.equalIn 10000 t (.pointer q) (.pointer none)).run P w = .ok q.isNone w := by
        unfold Op.equalIn
        rw [run_bind _ _ w (run_underlying' he w)]
        cases q <;> rfl
      rw [run_bind _ _ w this]
      rfl
    · exact peekX_sound h
  · rename_i q l c l' c' hx hy
    split at h
    · rename_i e he
      refine yields_mk rfl (gives_bind (eqGuard_other (by rw [hx]; intro e; cases e) (by rw [hx]; intro _ _ e; cases e)) ?_) h
      intro w
      rw [hx, hy]
      simp only [binOp, Op.equal, Op.maxDepth]
      have : (Op.equalIn 10000 t (.slice q l c) (.slice none l' c')).run P w = .ok q.isNone w := by
        unfold Op.equalIn
        rw [run_bind _ _ w (run_underlying' he w)]
        cases q <;> rfl
      rw [run_bind _ _ w this]
      rfl
    · exact peekX_sound h
  · rename_i q l c l' c' hx hy
    split at h
    · rename_i e he
      refine yields_mk rfl (gives_bind (eqGuard_other (by rw [hx]; intro e; cases e) (by rw [hx]; intro _ _ e; cases e)) ?_) h
      intro w
      rw [hx, hy]
      simp only [binOp, Op.equal, Op.maxDepth]
      have : (Op.equalIn 10000 t (.slice q l c) (.slice none l' c')).run P w = .ok q.isNone w := by
        unfold Op.equalIn
        rw [run_bind _ _ w (run_underlying' he w)]
        cases q <;> rfl
      rw [run_bind _ _ w this]
      rfl
    · exact peekX_sound h
  · exact peekX_sound h

theorem convert_sound {n : Nat} {d : Option Tmp} {src dst : TypeId} {x : Operand} {ty : TypeId} {p : String} {af : Array Edge} {g : Option (Nat × Bool)} {ρ : Env} {K : Value → Prop}
    (h : pureX P n ⟨d, .convert src dst x, ty, p, af, g⟩ ρ K) : ∃ v, Yields P n ⟨d, .convert src dst x, ty, p, af, g⟩ ρ v ∧ K v := by
  simp only [pureX] at h
  split at h
  · rename_i k k' a hs hd hx
    obtain ⟨hr, hk⟩ := h
    refine yields_mk rfl ?_ hk
    intro w
    rw [hx]
    unfold convert
    rw [run_bind _ _ w (run_underlying' hs w), run_bind _ _ w (run_underlying' hd w)]
    simp [Conv.intToInt, intArith_wrap hr, pure]
  · exact peekX_sound h

theorem part_sound {t : TypeId} {cs : Array Value} {off : Nat} {K : Value → Prop} (h : partX P t cs off K) : ∃ v, Gives P (part t cs off) v ∧ K v := by
  unfold partX at h
  split at h
  · exact h.elim
  rename_i d hd
  obtain ⟨i, hi⟩ := info_of hd
  split at h
  · rename_i m hm
    obtain ⟨d', hd', hag, rfl⟩ := shOf_agg hm
    rw [hd] at hd'; cases hd'
    refine ⟨_, fun w => ?_, h⟩
    unfold part
    rw [run_bind _ _ w (run_isAgg' hd w), hag, if_pos rfl, run_bind _ _ w (run_sizeOf' hi w)]
    rfl
  · rename_i hne
    rw [exSh_iff] at h
    obtain ⟨v, _, hc, hk⟩ := h
    have hf := shOf_one hd hne
    refine ⟨v, fun w => ?_, hk⟩
    unfold part
    rw [run_bind _ _ w (run_isAgg' hd w), hf, if_neg Bool.false_ne_true, hc]
    rfl

theorem field_sound {n : Nat} {d : Option Tmp} {t : TypeId} {x : Operand} {i : Nat} {ty : TypeId} {p : String} {af : Array Edge} {g : Option (Nat × Bool)} {ρ : Env} {K : Value → Prop}
    (h : pureX P n ⟨d, .field t x i, ty, p, af, g⟩ ρ K) : ∃ v, Yields P n ⟨d, .field t x i, ty, p, af, g⟩ ρ v ∧ K v := by
  simp only [pureX] at h
  split at h
  · rename_i fs cs ht hx
    split at h
    · rename_i f hf
      obtain ⟨v, hv, hk⟩ := part_sound h
      refine yields_mk rfl ?_ hk
      intro w
      unfold Instr.field
      rw [run_bind _ _ w (run_underlying' ht w), hx]
      simp only [hf]
      show Sem.run P (Sem.bind (.pure cs) _) w = _
      exact hv w
    · exact h.elim
  · exact h.elim

theorem info_some {e : TypeId} (h : (P.info? e).isNone = false) : ∃ i, P.info? e = some i := by
  cases hi : P.info? e with
  | none => rw [hi] at h; cases h
  | some i => exact ⟨i, rfl⟩

theorem index_sound {n : Nat} {d : Option Tmp} {t : TypeId} {x i : Operand} {ty : TypeId} {p : String} {af : Array Edge} {g : Option (Nat × Bool)} {ρ : Env} {K : Value → Prop}
    (h : pureX P n ⟨d, .index t x i, ty, p, af, g⟩ ρ K) : ∃ v, Yields P n ⟨d, .index t x i, ty, p, af, g⟩ ρ v ∧ K v := by
  simp only [pureX] at h
  split at h
  · rename_i s k i ht hx hi
    obtain ⟨h0, h1, hk⟩ := h
    refine yields_mk rfl ?_ hk
    intro w
    unfold Instr.index
    rw [hi, hx]
    show Sem.run P (Sem.bind (.pure (k, i)) _) w = _
    simp only [Sem.bind]
    rw [run_bind _ _ w (run_underlying' ht w)]
    simp only [h0, if_true]
    have : s[i.toNat]? = some s[i.toNat] := by simp [h1]
    rw [this]
    simp only [pure, Sem.run]
    congr 4
    have : s.data.toList[i.toNat]? = some s[i.toNat] := by
      rw [Array.getElem?_toList]
      rw [Array.getElem?_eq_getElem (by simpa using h1)]
      rfl
    simp [List.getD, this]
  · rename_i len e cs k i ht hx hi
    obtain ⟨hn, h0, h1, hk⟩ := cond_none h
    obtain ⟨ii, hii⟩ := info_some hn
    obtain ⟨v, hv, hk⟩ := part_sound hk
    refine yields_mk rfl ?_ hk
    intro w
    unfold Instr.index
    rw [hi, hx]
    show Sem.run P (Sem.bind (.pure (k, i)) _) w = _
    simp only [Sem.bind]
    rw [run_bind _ _ w (run_underlying' ht w)]
    simp only [h0, h1, and_self, if_true]
    rw [run_bind _ _ w (run_sizeOf' hii w)]
    exact hv w
  · exact h.elim

theorem add_eq (b off k : Nat) : (⟨b, off, none⟩ : Addr).add k = ⟨b, off + k, none⟩ := by
  unfold Addr.add
  split
  · rename_i h; subst h; rfl
  · rfl

theorem indexAddr_sound {n : Nat} {d : Option Tmp} {t : TypeId} {x i : Operand} {ty : TypeId} {p : String} {af : Array Edge} {g : Option (Nat × Bool)} {ρ : Env} {K : Value → Prop}
    (h : pureX P n ⟨d, .indexAddr t x i, ty, p, af, g⟩ ρ K) : ∃ v, Yields P n ⟨d, .indexAddr t x i, ty, p, af, g⟩ ρ v ∧ K v := by
  simp only [pureX] at h
  split at h
  · rename_i e base len c k i ht hx hi
    obtain ⟨hn, h0, h1, b, off, rfl, hk⟩ := cond_none h
    obtain ⟨ii, hii⟩ := info_some hn
    refine yields_mk rfl ?_ hk
    intro w
    unfold Instr.indexAt
    rw [hi, hx]
    show Sem.run P (Sem.bind (.pure (k, i)) _) w = _
    simp only [Sem.bind]
    rw [run_bind _ _ w (run_underlying' ht w)]
    show Sem.run P (Sem.bind (.pure _) _) w = _
    simp only [Sem.bind]
    rw [run_bind _ _ w (run_underlying' ht w)]
    simp only [h0, h1, and_self, if_true]
    rw [run_bind _ _ w (run_sizeOf' hii w)]
    simp [pure, add_eq, sizeN]
  · rename_i len e base k i ht hx hi
    obtain ⟨hn, h0, h1, b, off, rfl, hk⟩ := cond_none h
    obtain ⟨ii, hii⟩ := info_some hn
    refine yields_mk rfl ?_ hk
    intro w
    unfold Instr.indexAt
    rw [hi, hx]
    show Sem.run P (Sem.bind (.pure (k, i)) _) w = _
    simp only [Sem.bind]
    rw [run_bind _ _ w (run_underlying' ht w)]
    show Sem.run P (Sem.bind (.pure _) _) w = _
    simp only [Sem.bind]
    show Sem.run P (Sem.bind (.pure _) _) w = _
    simp only [Sem.bind]
    rw [run_bind _ _ w (run_underlying' ht w)]
    simp only [h0, h1, and_self, if_true]
    rw [run_bind _ _ w (run_sizeOf' hii w)]
    simp [pure, add_eq, sizeN]
  · exact h.elim

theorem bound_ok {k : IntKind} {i : Int} {y : Nat} {c : BoundsCode} (h0 : 0 ≤ i) (h1 : i ≤ y) (w : World) : (Instr.sliceBound (.int k i) y c).run P w = .ok i.toNat w := by
  unfold Instr.sliceBound
  show Sem.run P (Sem.bind (.pure (k, i)) _) w = _
  simp only [Sem.bind]
  simp [h0, h1, pure]

theorem bounds_ok {is : Bool} {len cap l h : Nat} {lo hi : Option Value} (hh : (hi = none ∧ h = len) ∨ ∃ k i, hi = some (.int k i) ∧ 0 ≤ i ∧ i ≤ cap ∧ h = i.toNat)
    (hl : (lo = none ∧ l = 0) ∨ ∃ k i, lo = some (.int k i) ∧ 0 ≤ i ∧ i ≤ h ∧ l = i.toNat) (w : World) : (Instr.sliceBounds is len cap lo hi none).run P w = .ok (l, h, cap) w := by
  unfold Instr.sliceBounds
  show Sem.run P (Sem.bind (.pure cap) _) w = _
  simp only [Sem.bind]
  rcases hh with ⟨rfl, rfl⟩ | ⟨k, i, rfl, h0, h1, rfl⟩
  · show Sem.run P (Sem.bind (.pure h) _) w = _
    simp only [Sem.bind]
    rcases hl with ⟨rfl, rfl⟩ | ⟨k, i, rfl, h0, h1, rfl⟩
    · rfl
    · simp only []
      rw [run_bind _ _ w (bound_ok h0 h1 w)]
      rfl
  · simp only []
    rw [run_bind _ _ w (bound_ok h0 h1 w)]
    rcases hl with ⟨rfl, rfl⟩ | ⟨k', i', rfl, h0', h1', rfl⟩
    · rfl
    · simp only []
      rw [run_bind _ _ w (bound_ok h0' h1' w)]
      rfl

theorem slice_run {t e : TypeId} {a : Option Addr} {len cap l h : Nat} {lo hi : Option Value} (ht : P.underlying t = some (.slice e)) (he : (P.info? e).isNone = false)
    (hh : (hi = none ∧ h = len) ∨ ∃ k i, hi = some (.int k i) ∧ 0 ≤ i ∧ i ≤ cap ∧ h = i.toNat) (hl : (lo = none ∧ l = 0) ∨ ∃ k i, lo = some (.int k i) ∧ 0 ≤ i ∧ i ≤ h ∧ l = i.toNat) :
    Gives P (Instr.sliceAt t (.slice a len cap) lo hi none) (.slice (cutA a (l * sizeN P e) cap l) (h - l) (cap - l)) := by
  intro w
  obtain ⟨ii, hii⟩ := info_some he
  unfold Instr.sliceAt
  rw [run_bind _ _ w (run_underlying' ht w)]
  simp only []
  unfold Instr.slice
  rw [run_bind _ _ w (run_underlying' ht w)]
  simp only []
  rw [run_bind _ _ w (bounds_ok hh hl w)]
  simp only []
  rw [run_bind _ _ w (run_sizeOf' hii w)]
  rfl

theorem cutA_zero (a : Option Addr) (cap : Nat) : cutA a 0 cap 0 = a := by
  unfold cutA
  split
  · rfl
  · cases a <;> simp [Addr.add]

theorem str_run {t : TypeId} {s : ByteArray} {l h : Nat} {lo hi : Option Value} (ht : P.underlying t = some .string)
    (hh : (hi = none ∧ h = s.size) ∨ ∃ k i, hi = some (.int k i) ∧ 0 ≤ i ∧ i ≤ s.size ∧ h = i.toNat) (hl : (lo = none ∧ l = 0) ∨ ∃ k i, lo = some (.int k i) ∧ 0 ≤ i ∧ i ≤ h ∧ l = i.toNat) :
    Gives P (Instr.sliceAt t (.string s) lo hi none) (.string (s.extract l h)) := by
  intro w
  unfold Instr.sliceAt
  rw [run_bind _ _ w (run_underlying' ht w)]
  simp only []
  unfold Instr.slice
  rw [run_bind _ _ w (run_underlying' ht w)]
  simp only [Option.isSome_none]
  show Sem.run P (Instr.sliceBounds false s.size s.size lo hi none >>= _) w = _
  rw [run_bind _ _ w (bounds_ok hh hl w)]
  rfl

theorem extract_all (s : ByteArray) : s.extract 0 s.size = s := by
  apply ByteArray.ext
  simp

theorem slice_sound {n : Nat} {d : Option Tmp} {t : TypeId} {x : Operand} {lo hi : Option Operand} {ty : TypeId} {p : String} {af : Array Edge} {g : Option (Nat × Bool)} {ρ : Env} {K : Value → Prop}
    (h : pureX P n ⟨d, .slice t x lo hi none, ty, p, af, g⟩ ρ K) : ∃ v, Yields P n ⟨d, .slice t x lo hi none, ty, p, af, g⟩ ρ v ∧ K v := by
  simp only [pureX] at h
  split at h
  · rename_i e a len cap ht hx hlo hhi
    obtain ⟨hn, hk⟩ := cond_none h
    refine yields_mk rfl ?_ hk
    rw [hx, hlo, hhi]
    have := slice_run (P := P) (a := a) (len := len) (cap := cap) (lo := none) (hi := none) ht hn (.inl ⟨rfl, rfl⟩) (.inl ⟨rfl, rfl⟩)
    simpa [cutA_zero] using this
  · rename_i e a len cap k i ht hx hlo hhi
    obtain ⟨hn, h0, h1, hk⟩ := cond_none h
    refine yields_mk rfl ?_ hk
    rw [hx, hlo, hhi]
    have := slice_run (P := P) (a := a) (len := len) (cap := cap) (lo := none) ht hn (.inr ⟨k, i, rfl, h0, h1, rfl⟩) (.inl ⟨rfl, rfl⟩)
    simpa [cutA_zero] using this
  · rename_i e a len cap k i ht hx hlo hhi
    obtain ⟨hn, h0, h1, hk⟩ := cond_none h
    refine yields_mk rfl ?_ hk
    rw [hx, hlo, hhi]
    exact slice_run (P := P) (a := a) (len := len) (cap := cap) (hi := none) ht hn (.inl ⟨rfl, rfl⟩) (.inr ⟨k, i, rfl, h0, h1, rfl⟩)
  · rename_i e a len cap k i k' j ht hx hlo hhi
    obtain ⟨hn, h0, h1, h2, hk⟩ := cond_none h
    refine yields_mk rfl ?_ hk
    rw [hx, hlo, hhi]
    exact slice_run (P := P) (a := a) (len := len) (cap := cap) ht hn (.inr ⟨k', j, rfl, by omega, h2, rfl⟩) (.inr ⟨k, i, rfl, h0, by omega, rfl⟩)
  · rename_i s ht hx hlo hhi
    refine yields_mk rfl ?_ h
    rw [hx, hlo, hhi]
    have := str_run (P := P) (s := s) (lo := none) (hi := none) ht (.inl ⟨rfl, rfl⟩) (.inl ⟨rfl, rfl⟩)
    rwa [extract_all] at this
  · rename_i s k i ht hx hlo hhi
    obtain ⟨h0, h1, hk⟩ := h
    refine yields_mk rfl ?_ hk
    rw [hx, hlo, hhi]
    exact str_run (P := P) (s := s) (lo := none) ht (.inr ⟨k, i, rfl, h0, h1, rfl⟩) (.inl ⟨rfl, rfl⟩)
  · rename_i s k i ht hx hlo hhi
    obtain ⟨h0, h1, hk⟩ := h
    refine yields_mk rfl ?_ hk
    rw [hx, hlo, hhi]
    exact str_run (P := P) (s := s) (hi := none) ht (.inl ⟨rfl, rfl⟩) (.inr ⟨k, i, rfl, h0, h1, rfl⟩)
  · rename_i s k i k' j ht hx hlo hhi
    obtain ⟨h0, h1, h2, hk⟩ := h
    refine yields_mk rfl ?_ hk
    rw [hx, hlo, hhi]
    exact str_run (P := P) (s := s) ht (.inr ⟨k', j, rfl, by omega, h2, rfl⟩) (.inr ⟨k, i, rfl, h0, by omega, rfl⟩)
  · rename_i m e q ht hx hlo hhi
    obtain ⟨hn, ad, rfl, hk⟩ := cond_none h
    obtain ⟨ii, hii⟩ := info_some hn
    refine yields_mk rfl ?_ hk
    rw [hx, hlo, hhi]
    intro w
    unfold Instr.sliceAt
    rw [run_bind _ _ w (run_underlying' ht w)]
    show Sem.run P (Sem.bind (.pure ad) _) w = _
    simp only [Sem.bind]
    show Sem.run P (Instr.sliceBounds false m m none none none >>= _) w = _
    rw [run_bind _ _ w (bounds_ok (l := 0) (h := m) (.inl ⟨rfl, rfl⟩) (.inl ⟨rfl, rfl⟩) w)]
    simp only []
    rw [run_bind _ _ w (run_sizeOf' hii w)]
    simp [pure, Addr.add]
  · exact h.elim

theorem mapA_eq {α β : Type} (f : α → β) (a : Array α) : mapA f a = a.map f := by
  apply Array.ext'; simp [mapA]

theorem splice_fold (off : Nat) : ∀ (l : List Value) (k : Nat) (cs : Array Value), off + k + l.length ≤ cs.size →
    ((l.zipIdx k).foldl (fun cs (x : Value × Nat) => cs.setIfInBounds (off + x.2) x.1) cs).toList = cs.toList.take (off + k) ++ l ++ cs.toList.drop (off + k + l.length) := by
  intro l
  induction l with
  | nil => intro k cs h; simp
  | cons x l ih =>
    intro k cs h
    simp only [List.length_cons] at h
    simp only [List.zipIdx_cons, List.foldl_cons]
    rw [ih (k + 1) _ (by simp; omega)]
    simp only [Array.toList_setIfInBounds, List.length_cons]
    have hk : off + k < cs.toList.length := by simp; omega
    rw [show off + (k + 1) = (off + k) + 1 by omega]
    rw [List.take_succ_eq_append_getElem (by simp; omega)]
    rw [List.take_set_of_le (Nat.le_refl _), List.drop_set_of_lt (by omega)]
    simp
    omega

theorem fill0_sound {place : Nat → Option (Nat × Nat)} {L : Nat} : ∀ {ps : List (Nat × Value)} {cs : List Value} {K : List Value → Prop}, fill0 place L ps cs K → cs.length = L →
    ∃ out, Instr.fill place ⟨cs⟩ ps = some out ∧ K out.toList := by
  intro ps
  induction ps with
  | nil => intro cs K h _; exact ⟨_, rfl, h⟩
  | cons p ps ih =>
    obtain ⟨i, v⟩ := p
    intro cs K h hL
    unfold fill0 at h
    unfold Instr.fill
    split at h
    · exact h.elim
    · rename_i off size hp
      rw [hp]
      simp only []
      cases hb : Nat.ble (off + size) L with
      | false => rw [hb] at h; exact h.elim
      | true =>
        rw [hb] at h
        simp only [cond_true] at h
        have hle : off + size ≤ L := Nat.le_of_ble_eq_true hb
        split at h
        · rename_i a
          obtain ⟨hs, hk⟩ := h
          obtain ⟨out, ho, hk⟩ := ih hk (by simp [hs]; omega)
          refine ⟨out, ?_, hk⟩
          have hc : (Value.agg a).cells = a := rfl
          rw [hc, if_neg (by simp [hs]; omega)]
          rw [← ho]
          congr 1
          apply Array.ext'
          rw [← Array.foldl_toList, Array.toList_zipIdx]
          have := splice_fold off a.toList 0 ⟨cs⟩ (by simp [hs]; omega)
          rw [this]
          simp [hs]
        · rename_i hag
          cases h1 : Nat.beq size 1 with
          | false => rw [h1] at h; exact h.elim
          | true =>
            rw [h1] at h
            simp only [cond_true] at h
            have hs1 : size = 1 := Nat.eq_of_beq_eq_true h1
            subst hs1
            obtain ⟨out, ho, hk⟩ := ih h (by simp; omega)
            refine ⟨out, ?_, hk⟩
            have hc : v.cells = #[v] := by cases v <;> first | rfl | exact absurd rfl (hag _)
            rw [hc, if_neg (by simp; omega)]
            rw [← ho]
            congr 1
            apply Array.ext'
            simp

theorem fillY_fill0 {place : Nat → Option (Nat × Nat)} {L : Nat} : ∀ {ps : List (Nat × Value)} {pos : Nat} {pre tail : List Value} {K K0 : List Value → Prop}, fillY place L ps pos tail K → pre.length = pos → pos + tail.length = L →
    (∀ l, K l → K0 (pre ++ l)) → fill0 place L ps (pre ++ tail) K0 := by
  intro ps
  induction ps with
  | nil => intro pos pre tail K K0 h _ _ hk; exact hk _ h
  | cons p ps ih =>
    obtain ⟨i, v⟩ := p
    intro pos pre tail K K0 h hp hL hk
    unfold fillY at h
    unfold fill0
    split at h
    · exact h.elim
    · rename_i off size hpl
      cases hb : (Nat.ble (off + size) L && Nat.ble pos off) with
      | false => rw [hb] at h; exact h.elim
      | true =>
        rw [hb] at h
        simp only [cond_true] at h
        rw [Bool.and_eq_true] at hb
        obtain ⟨hb1, hb2⟩ := hb
        have h1 : off + size ≤ L := Nat.le_of_ble_eq_true hb1
        have h2 : pos ≤ off := Nat.le_of_ble_eq_true hb2
        rw [hb1]
        simp only [cond_true]
        have ht : (pre ++ tail).take off = pre ++ tail.take (off - pos) := by
          rw [List.take_append, hp, List.take_of_length_le (by omega)]
        have hd : ∀ n, (pre ++ tail).drop (off + n) = tail.drop (off - pos + n) := by
          intro n
          rw [List.drop_append, hp, List.drop_of_length_le (by omega), List.nil_append]
          congr 1; omega
        split at h
        · rename_i a
          obtain ⟨hs, hr⟩ := h
          refine ⟨hs, ?_⟩
          rw [ht, hd]
          refine ih hr ?_ ?_ ?_
          · simp [hs]; omega
          · simp [hs]; omega
          · intro l hl
            have := hk _ hl
            simpa [catA] using this
        · rename_i hag
          cases hs : Nat.beq size 1 with
          | false => rw [hs] at h; exact h.elim
          | true =>
            rw [hs] at h
            simp only [cond_true] at h
            have hs1 : size = 1 := Nat.eq_of_beq_eq_true hs
            subst hs1
            have key : (pre ++ tail).set off v = (pre ++ tail.take (off - pos) ++ [v]) ++ tail.drop (off - pos + 1) := by
              have hset : ∀ (l : List Value) (n : Nat), n < l.length → l.set n v = l.take n ++ v :: l.drop (n + 1) := fun l n hn => List.set_eq_take_append_cons_drop.trans (if_pos hn)
              rw [hset _ _ (by simp; omega), ht, hd]
              simp
            rw [key]
            refine ih h ?_ ?_ ?_
            · simp; omega
            · simp; omega
            · intro l hl
              have := hk _ hl
              simpa using this

theorem fill_sound {place : Nat → Option (Nat × Nat)} {L : Nat} {ps : List (Nat × Value)} {cs : List Value} {K : List Value → Prop} (h : fillX place L ps cs K) (hL : cs.length = L) :
    ∃ out, Instr.fill place ⟨cs⟩ ps = some out ∧ K out.toList :=
by
  unfold fillX at h
  cases ho : ordY place ps 0 with
  | true => rw [ho] at h; exact fill0_sound (fillY_fill0 (pre := []) (K0 := K) h rfl (by simpa using hL) (fun l hl => hl)) hL
  | false => rw [ho] at h; exact fill0_sound h hL

theorem run_mapM {α β : Type} (g : α → Sem β) (g' : α → β) (w : World) : ∀ (l : List α), (∀ x, x ∈ l → (g x).run P w = .ok (g' x) w) → (l.mapM g).run P w = .ok (l.map g') w := by
  intro l
  induction l with
  | nil => intro _; rfl
  | cons x l ih =>
    intro h
    rw [List.mapM_cons, run_bind _ _ w (h x (by simp)), run_bind _ _ w (ih fun y hy => h y (by simp [hy]))]
    rfl

theorem run_mapMA {α β : Type} (g : α → Sem β) (g' : α → β) (w : World) (a : Array α) (h : ∀ x, x ∈ a.toList → (g x).run P w = .ok (g' x) w) : (a.mapM g).run P w = .ok (a.map g') w := by
  rw [Array.mapM_eq_mapM_toList]
  have := run_mapM g g' w a.toList h
  show Sem.run P (List.toArray <$> a.toList.mapM g) w = _
  rw [map_eq_pure_bind, run_bind _ _ w this]
  show Result.ok _ w = Result.ok _ w
  congr 1
  apply Array.ext'; simp

theorem buildX_sound {t : TypeId} {parts : Array (Nat × Value)} {K : Value → Prop} (h : buildX P t parts.toList K) : ∃ v, Gives P (Instr.build t parts) v ∧ K v := by
  unfold buildX at h
  split at h
  · rename_i fs z ht hz
    cases hall : fs.toList.all fun f => (P.info? f.type).isSome with
    | false => rw [hall] at h; exact h.elim
    | true =>
      rw [hall] at h
      simp only [cond_true] at h
      obtain ⟨out, ho, hk⟩ := fill_sound h rfl
      refine ⟨_, fun w => ?_, hk⟩
      unfold Instr.build
      rw [run_bind _ _ w (peek_run hz w), run_bind _ _ w (run_underlying' ht w)]
      simp only []
      have hm : (fs.mapM fun f => do pure (f.offset, ← sizeOf f.type) : Sem (Array (Nat × Nat))).run P w = .ok (fs.map fun f => (f.offset, P.cellsOf f.type)) w := by
        refine run_mapMA _ _ w fs fun f hf => ?_
        have hi : (P.info? f.type).isSome = true := List.all_eq_true.1 hall f hf
        obtain ⟨i, hi⟩ := Option.isSome_iff_exists.1 hi
        rw [run_bind _ _ w (run_sizeOf' hi w)]
        rfl
      rw [run_bind _ _ w hm]
      have hpl : (fun (i : Nat) => (fs.map fun (f : Field) => (f.offset, P.cellsOf f.type))[i]?) = fun (i : Nat) => (fs.toList[i]?).map fun (f : Field) => (f.offset, P.cellsOf f.type) := by
        funext i; simp
      rw [hpl]
      have : (⟨z.cells.toList⟩ : Array Value) = z.cells := rfl
      rw [this] at ho
      rw [ho]
      rfl
  · rename_i len e z ht hz
    cases hi : (P.info? e).isSome with
    | false => rw [hi] at h; exact h.elim
    | true =>
      rw [hi] at h
      simp only [cond_true] at h
      obtain ⟨i, hi⟩ := Option.isSome_iff_exists.1 hi
      obtain ⟨out, ho, hk⟩ := fill_sound h rfl
      refine ⟨_, fun w => ?_, hk⟩
      unfold Instr.build
      rw [run_bind _ _ w (peek_run hz w), run_bind _ _ w (run_underlying' ht w)]
      simp only []
      rw [run_bind _ _ w (run_sizeOf' hi w)]
      have : (⟨z.cells.toList⟩ : Array Value) = z.cells := rfl
      rw [this] at ho
      rw [ho]
      rfl
  · exact h.elim

theorem build_sound {n : Nat} {d : Option Tmp} {t : TypeId} {parts : Array (Nat × Operand)} {ty : TypeId} {p : String} {af : Array Edge} {g : Option (Nat × Bool)} {ρ : Env} {K : Value → Prop}
    (h : pureX P n ⟨d, .build t parts, ty, p, af, g⟩ ρ K) : ∃ v, Yields P n ⟨d, .build t parts, ty, p, af, g⟩ ρ v ∧ K v := by
  simp only [pureX] at h
  have : parts.toList.map (fun p => (p.1, ev n ρ p.2)) = (parts.map fun (i, x) => (i, ev n ρ x)).toList := by simp
  rw [this] at h
  obtain ⟨v, hv, hk⟩ := buildX_sound h
  exact yields_mk rfl hv hk

theorem peekV_sound {s : Sem Value} {K : Value → Prop} (h : peekV P s K) : ∃ v, Gives P s v ∧ K v := by
  unfold peekV at h
  split at h
  · rename_i v hv; exact ⟨v, gives_peek hv, h⟩
  · exact h.elim

theorem exec_builtin {ρ : Operand → Value} {d : Option Tmp} {b : Builtin} {args : Array Operand} {ats : Array TypeId} {ty : TypeId} {p : String} {af : Array Edge} {g : Option (Nat × Bool)} :
    execOp ρ ⟨d, .call ⟨.builtin b, args, ats⟩, ty, p, af, g⟩ = builtin b ats ty (args.map fun | .const _ => true | _ => false) (args.map ρ) := rfl

theorem pureX_sound {n : Nat} {o : Oper} {ρ : Env} {K : Value → Prop} (h : pureX P n o ρ K) : ∃ v, Yields P n o ρ v ∧ K v := by
  obtain ⟨d, op, ty, p, af, g⟩ := o
  cases op with
  | nilCheck x => exact nilCheck_sound h
  | pick c a b => exact pick_sound h
  | binOp op t x y u => exact bin_sound h
  | convert s d x => exact convert_sound h
  | field t x i => exact field_sound h
  | index t x i => exact index_sound h
  | indexAddr t x i => exact indexAddr_sound h
  | slice t x lo hi mx =>
    cases mx with
    | none => exact slice_sound h
    | some m => exact h.elim
  | build t ps => exact build_sound h
  | move | assign | unOp | fieldAddr | extract | makeInterface => exact peekX_sound h
  | makeFunc fn first cap =>
    simp only [pureX, mapA_eq] at h
    exact yields_mk (s := Instr.makeFunc fn (first.map (ev n ρ)) (cap.map (ev n ρ))) rfl (fun w => rfl) h
  | call c =>
    obtain ⟨callee, args, ats⟩ := c
    cases callee with
    | builtin b =>
      cases b with
      | len =>
        simp only [pureX, mapA_eq] at h
        split at h <;> first | exact h.elim | (obtain ⟨v, hv, hk⟩ := peekV_sound h; exact yields_mk (s := Builtin.len_ ats ty (args.map (ev n ρ))) exec_builtin hv hk)
      | cap => simp only [pureX, mapA_eq] at h; obtain ⟨v, hv, hk⟩ := peekV_sound h; exact yields_mk (s := Builtin.cap_ ats ty (args.map (ev n ρ))) exec_builtin hv hk
      | min =>
        simp only [pureX, mapA_eq] at h
        split at h
        · rename_i k x k' y hxy
          refine yields_mk (s := Builtin.min_ ats ty (args.map (ev n ρ))) exec_builtin (fun w => ?_) h
          have : (args.map (ev n ρ)).toList = [.int k x, .int k' y] := by simpa using hxy
          simp only [Builtin.min_, this, List.foldlM]
          show Result.ok (Value.int k (if y < x then y else x)) w = _
          rw [show (if y < x then y else x) = min x y by omega]
        · obtain ⟨v, hv, hk⟩ := peekV_sound h; exact yields_mk (s := Builtin.min_ ats ty (args.map (ev n ρ))) exec_builtin hv hk
      | max =>
        simp only [pureX, mapA_eq] at h
        split at h
        · rename_i k x k' y hxy
          refine yields_mk (s := Builtin.max_ ats ty (args.map (ev n ρ))) exec_builtin (fun w => ?_) h
          have : (args.map (ev n ρ)).toList = [.int k x, .int k' y] := by simpa using hxy
          simp only [Builtin.max_, this, List.foldlM]
          show Result.ok (Value.int k (if y > x then y else x)) w = _
          rw [show (if y > x then y else x) = max x y by omega]
        · obtain ⟨v, hv, hk⟩ := peekV_sound h; exact yields_mk (s := Builtin.max_ ats ty (args.map (ev n ρ))) exec_builtin hv hk
      | _ => exact h.elim
    | _ => exact h.elim
  | _ => exact h.elim
end Go.X

namespace Go.X
open Go Go.RowKit
variable {P : Program}

/-- What is asked of the frame behind an operation. -/
def Next (n : Nat) (ρ : Env) (d : Option Tmp) (K : Value → World → Prop) : Act → World → Prop := fun a w => ∃ v, a = act n (put ρ d v) ∧ K v w

/-- What an operation comes to: its value, and the world. -/
def vwp (P : Program) (o : Oper) (a : Act) (w : World) (K : Value → World → Prop) : Prop :=
  match (execOp a.eval o).run P w with
  | .ok (.value v) w' => K v w'
  | .ok .skip w' => K undef w'
  | .ok (.enter f args) w' => Calls P f args w' fun e w'' => ∃ v, e = .returned v ∧ K v w''
  | _ => False

theorem vwp_mono {o : Oper} {a : Act} {w : World} {K K' : Value → World → Prop} (hk : ∀ v w, K v w → K' v w) (h : vwp P o a w K) : vwp P o a w K' := by
  unfold vwp at *
  split at h
  · exact hk _ _ h
  · exact hk _ _ h
  · exact Calls.mono h fun e w'' ⟨v, he, h⟩ => ⟨v, he, hk _ _ h⟩
  · exact h.elim

theorem vwp_wp {o : Oper} {a : Act} {w : World} {K : Value → World → Prop} {Q : Exit → Act → World → Prop} (h : vwp P o a w K) : o.wp P a w (fun a' w' => ∃ v, a' = a.put o.dst v ∧ K v w') Q := by
  unfold vwp at h
  unfold Oper.wp
  split at h
  · rename_i v w' hr; rw [hr]; exact ⟨v, rfl, h⟩
  · rename_i w' hr; rw [hr]; exact ⟨undef, rfl, h⟩
  · rename_i f args w' hr
    rw [hr]
    refine Calls.mono h fun e w'' he => ?_
    obtain ⟨v, rfl, hk⟩ := he
    exact ⟨v, rfl, hk⟩
  · exact h.elim

theorem vwp_congr {o : Oper} {a a' : Act} {w : World} {K : Value → World → Prop} (he : execOp a'.eval o = execOp a.eval o) (h : vwp P o a w K) : vwp P o a' w K := by
  unfold vwp at *; rw [he]; exact h

theorem upon_value {n : Nat} {o : Oper} {ρ : Env} {w w' : World} {K : Value → World → Prop} {v : Value}
    (h : (execOp (ev n ρ) o).run P w = .ok (.value v) w') (hk : K v w') : vwp P o (act n ρ) w K := by
  unfold vwp
  rw [act_eval, h]
  exact hk
theorem upon_skip {n : Nat} {o : Oper} {ρ : Env} {w w' : World} {K : Value → World → Prop}
    (h : (execOp (ev n ρ) o).run P w = .ok .skip w') (hk : K undef w') : vwp P o (act n ρ) w K := by
  unfold vwp
  rw [act_eval, h]
  exact hk
theorem upon_val {n : Nat} {o : Oper} {ρ : Env} {w w' : World} {K : Value → World → Prop} {v : Value} {s : Sem Value}
    (he : execOp (ev n ρ) o = (do pure (.value (← s)))) (h : s.run P w = .ok v w') (hk : K v w') : vwp P o (act n ρ) w K :=
  upon_value (by rw [he, run_bind _ _ w h]; rfl) hk
theorem upon_unit {n : Nat} {o : Oper} {ρ : Env} {w w' : World} {K : Value → World → Prop} {s : Sem Unit}
    (he : execOp (ev n ρ) o = (do s; pure .skip)) (h : s.run P w = .ok () w') (hk : K undef w') : vwp P o (act n ρ) w K :=
  upon_skip (by rw [he, run_bind _ _ w h]; rfl) hk

theorem runsX_sound {n : Nat} {o : Oper} {ρ : Env} {w : World} {K : Value → World → Prop} {s : Sem Value} {t : TypeId}
    (he : execOp (ev n ρ) o = (do pure (.value (← s)))) (h : runsX P s t w K) : vwp P o (act n ρ) w K := by
  unfold runsX at h
  rw [exSh_iff] at h
  obtain ⟨v, _, w', hr, hk⟩ := h
  exact upon_val he hr hk

theorem run_new {a : Array Value} {e : TypeId} (w : World) : (newRow e a).run P w = .ok ⟨w.heap.size, 0, none⟩ (w.alloc (.cells a e)) := rfl

theorem call_sound {n : Nat} {d : Option Tmp} {f : Operand} {args : Array Operand} {ats : Array TypeId} {ty : TypeId} {p : String} {af : Array Edge} {g : Option (Nat × Bool)} {ρ : Env} {w : World} {K : Value → World → Prop}
    {k : FuncId} {first cap : Array Value} (hf : ev n ρ f = .func (.func k) first cap) (h : callX P k (first ++ mapA (ev n ρ) args ++ cap) w (retP P ty K)) :
    vwp P ⟨d, .call ⟨.value f, args, ats⟩, ty, p, af, g⟩ (act n ρ) w K := by
  unfold callX at h
  rw [mapA_eq] at h
  split at h
  · rename_i k' as hp
    have he : (execOp (ev n ρ) ⟨d, .call ⟨.value f, args, ats⟩, ty, p, af, g⟩).run P w = .ok (.enter k' as) w := by
      show Sem.run P (do let d ← Deferred.ofValue (ev n ρ f) (args.map (ev n ρ)); invoke d.target d.args) w = _
      rw [hf]
      exact peek_run hp w
    unfold vwp
    rw [act_eval, he]
    exact Calls.mono h fun e w'' hr => retP_spec hr
  · exact h.elim

theorem mark_run {α : Type} {m : Mark} {s : Sem α} (w : World) : (mark m >>= fun _ => s).run P w = s.run P w := rfl

theorem make_run {t e : TypeId} {i : TypeInfo} {z : Value} {l c : Int} (ht : P.underlying t = some (.slice e)) (hi : peek P (typeInfo e) = some i) (hz : peek P (zeroValue e) = some z)
    (h0 : 0 ≤ l) (h1 : l ≤ c) (h2 : i.bytes * c ≤ 281474976710656) (h3 : c ≤ 9223372036854775807) (w : World) :
    (Instr.makeSlice t (.int .i64 l) (.int .i64 c)).run P w = .ok (.slice (some ⟨w.heap.size, 0, none⟩) l.toNat c.toNat) (w.alloc (.cells (zeroRow z.cells (c.toNat * i.size)) e)) := by
  unfold Instr.makeSlice
  rw [run_bind _ _ w (run_underlying' ht w)]
  simp only []
  show Sem.run P (Sem.bind (.pure l) _) w = _
  simp only [Sem.bind]
  show Sem.run P (Sem.bind (.pure c) _) w = _
  simp only [Sem.bind]
  rw [run_bind _ _ w (peek_run hi w)]
  have hl : IntKind.i64.wrap l = l := intArith_wrap ⟨by omega, by omega⟩
  have hc : IntKind.i64.wrap c = c := intArith_wrap ⟨by omega, by omega⟩
  rw [hl, hc]
  have hcond : ((decide (c < 0) || decide ((i.bytes : Int) * c > 2 ^ 48)) || decide (l < 0) || decide (l > c)) = false := by
    simp only [Bool.or_eq_false_iff, decide_eq_false_iff_not]
    refine ⟨⟨⟨by omega, ?_⟩, by omega⟩, by omega⟩
    have : (2 : Int) ^ 48 = 281474976710656 := by decide
    omega
  simp only [hcond]
  rw [if_neg Bool.false_ne_true]
  have hr : (askRoom (c.toNat * i.bytes)).run P w = .ok () w := by
    unfold askRoom
    split <;> rfl
  show Sem.run P (askRoom (c.toNat * i.bytes) >>= _) w = _
  rw [run_bind _ _ w hr]
  have hs : (sizeOf e).run P w = .ok i.size w := by
    unfold sizeOf
    rw [run_bind _ _ w (peek_run hi w)]
    rfl
  rw [run_bind _ _ w hs]
  by_cases hn : c.toNat * i.size = 0
  · rw [if_pos hn]
    show Sem.run P (Sem.bind (.pure #[]) _) w = _
    simp only [Sem.bind]
    rw [show (Array.range (c.toNat * i.size)).map (fun j => (#[] : Array Value)[j % (#[] : Array Value).size]!) = zeroRow z.cells (c.toNat * i.size) by unfold zeroRow; simp [hn]]
    rw [run_bind _ _ w (run_new w)]
    rfl
  · rw [if_neg hn, run_bind _ _ w (peek_run hz w)]
    show Sem.run P (Sem.bind (.pure z.cells) _) w = _
    simp only [Sem.bind]
    rw [show (Array.range (c.toNat * i.size)).map (fun j => z.cells[j % z.cells.size]!) = zeroRow z.cells (c.toNat * i.size) from rfl]
    rw [run_bind _ _ w (run_new w)]
    rfl

theorem zeroL_eq (z : Array Value) (n : Nat) (h : n = 0 ∨ z.size ≠ 0) : (⟨zeroL z.toList n⟩ : Array Value) = (Array.range n).map fun i => z[i % z.size]! := by
  apply Array.ext'
  unfold zeroL
  rcases h with rfl | h
  · simp
  · simp only [Array.toList_map, Array.toList_range]
    refine List.map_congr_left fun i _ => ?_
    have hlt : i % z.size < z.size := Nat.mod_lt _ (by omega)
    rw [getElem!_pos z _ hlt]
    simp [List.getD, hlt]

theorem buildSlice_run {t e : TypeId} {z : Value} {len : Nat} {ps : Array (Nat × Value)} {i : TypeInfo} {K : List Value → Prop} (ht : P.underlying t = some (.slice e)) (hz : peek P (zeroValue e) = some z) (hi : P.info? e = some i) (hb : len * P.cellsOf e ≤ 16777216) (h1 : 1 ≤ z.cells.size)
    (h : fillX (fun i => some (i * P.cellsOf e, P.cellsOf e)) (len * P.cellsOf e) ps.toList (zeroL z.cells.toList (len * P.cellsOf e)) K) (w : World) :
    ∃ cs, (Instr.buildSlice t len ps).run P w = .ok (.slice (some ⟨w.heap.size, 0, none⟩) len len) (w.alloc (.cells ⟨cs⟩ e)) ∧ K cs := by
  obtain ⟨out, ho, hk⟩ := fill_sound h (by simp [zeroL])
  refine ⟨out.toList, ?_, hk⟩
  unfold Instr.buildSlice
  rw [run_bind _ _ w (run_underlying' ht w)]
  simp only []
  rw [run_bind _ _ w (run_sizeOf' hi w)]
  have h24 : (2 : Nat) ^ 24 = 16777216 := by decide
  rw [if_neg (by rw [h24]; omega)]
  by_cases hn : len * P.cellsOf e = 0
  · rw [if_pos hn]
    show Sem.run P (Sem.bind (.pure #[]) _) w = _
    simp only [Sem.bind]
    have hz0 : (⟨zeroL z.cells.toList (len * P.cellsOf e)⟩ : Array Value) = (Array.range (len * P.cellsOf e)).map fun x => (#[] : Array Value)[x % (#[] : Array Value).size]! := by
      rw [hn]; simp [zeroL]
    rw [hz0] at ho
    rw [ho]
    simp only []
    rw [run_bind _ _ w (run_new w)]
    rfl
  · rw [if_neg hn, run_bind _ _ w (peek_run hz w)]
    show Sem.run P (Sem.bind (.pure z.cells) _) w = _
    simp only [Sem.bind]
    rw [zeroL_eq z.cells _ (.inr (by omega))] at ho
    rw [ho]
    simp only []
    rw [run_bind _ _ w (run_new w)]
    rfl

theorem builtinX_sound {n : Nat} {d : Option Tmp} {b : Builtin} {args : Array Operand} {ats : Array TypeId} {ty : TypeId} {p : String} {af : Array Edge} {g : Option (Nat × Bool)} {ρ : Env} {w : World} {K : Value → World → Prop}
    (h : match b with
    | .append => runsX P (Builtin.append_ ats ty (mapA (ev n ρ) args)) ty w K
    | .copy => runsX P (Builtin.copy_ ats ty (mapA (ev n ρ) args)) ty w K
    | .delete => ∃ v w', Runs P (Builtin.delete_ ats ty (mapA (ev n ρ) args)) w v w' ∧ K v w'
    | .clear => ∃ v w', Runs P (Builtin.clear_ ats ty (mapA (ev n ρ) args)) w v w' ∧ K v w'
    | .len => ∃ (m : Int) (w' : World), Runs P (Builtin.len_ ats ty (mapA (ev n ρ) args)) w (.int .i64 m) w' ∧ K (.int .i64 m) w'
    | _ => False) : vwp P ⟨d, .call ⟨.builtin b, args, ats⟩, ty, p, af, g⟩ (act n ρ) w K := by
  simp only [mapA_eq] at h
  cases b with
  | append => exact runsX_sound (o := ⟨d, .call ⟨.builtin .append, args, ats⟩, ty, p, af, g⟩) (s := Builtin.append_ ats ty (args.map (ev n ρ))) exec_builtin h
  | copy => exact runsX_sound (o := ⟨d, .call ⟨.builtin .copy, args, ats⟩, ty, p, af, g⟩) (s := Builtin.copy_ ats ty (args.map (ev n ρ))) exec_builtin h
  | delete => obtain ⟨v, w', hr, hk⟩ := h; exact upon_val (o := ⟨d, .call ⟨.builtin .delete, args, ats⟩, ty, p, af, g⟩) (s := Builtin.delete_ ats ty (args.map (ev n ρ))) exec_builtin hr hk
  | clear => obtain ⟨v, w', hr, hk⟩ := h; exact upon_val (o := ⟨d, .call ⟨.builtin .clear, args, ats⟩, ty, p, af, g⟩) (s := Builtin.clear_ ats ty (args.map (ev n ρ))) exec_builtin hr hk
  | len => obtain ⟨v, w', hr, hk⟩ := h; exact upon_val (o := ⟨d, .call ⟨.builtin .len, args, ats⟩, ty, p, af, g⟩) (s := Builtin.len_ ats ty (args.map (ev n ρ))) exec_builtin hr hk
  | _ => exact h.elim

theorem exec_buildSlice {ρ : Operand → Value} {d : Option Tmp} {t : TypeId} {len : Nat} {ps : Array (Nat × Operand)} {ty : TypeId} {p : String} {af : Array Edge} {g : Option (Nat × Bool)} :
    execOp ρ ⟨d, .buildSlice t len ps, ty, p, af, g⟩ = (do pure (.value (← Instr.buildSlice t len (ps.map fun (i, x) => (i, ρ x))))) := rfl

theorem opX_v {n : Nat} {o : Oper} {ρ : Env} {w : World} {K : Value → World → Prop} (h : opX P n o ρ w K) : vwp P o (act n ρ) w K := by
  unfold opX at h
  cases hp : isPure P o with
  | true =>
    rw [hp] at h
    simp only [cond_true] at h
    obtain ⟨v, hy, hk⟩ := pureX_sound h
    rcases hy with hy | ⟨hy, rfl⟩
    · exact upon_value (hy w) hk
    · exact upon_skip (hy w) hk
  | false =>
    rw [hp] at h
    simp only [cond_false] at h
    obtain ⟨d, op, ty, p, af, g⟩ := o
    cases op with
    | load t a =>
      simp only [] at h
      split at h
      · rename_i ad ha
        obtain ⟨v, hr, hk⟩ := load_sound h
        exact upon_val (s := Instr.loadAt t (ev n ρ a)) rfl (by rw [ha]; exact hr) hk
      · exact h.elim
    | store t a x =>
      simp only [] at h
      split at h
      · rename_i ad ha
        obtain ⟨w', hr, hk⟩ := store_sound h
        exact upon_unit (s := Instr.storeAt t (ev n ρ a) (ev n ρ x)) rfl (by rw [ha]; exact hr) hk
      · exact h.elim
    | alloc e =>
      simp only [] at h
      split at h
      · rename_i z hz
        refine upon_val (s := Instr.alloc e true (.tuple #[])) (w' := w.alloc (.cells z.cells e)) (v := .pointer (some ⟨w.heap.size, 0, none⟩)) rfl ?_ (h _ _ ⟨rfl, rfl⟩)
        unfold Instr.alloc
        rw [run_bind _ _ w (peek_run hz w)]
        rfl
      · exact h.elim
    | box e x => exact upon_val (s := Instr.box e (ev n ρ x)) rfl rfl (h _ _ ⟨rfl, rfl⟩)
    | makeSlice t l c =>
      simp only [] at h
      split at h
      · rename_i e l' c' ht hl hc
        split at h
        · rename_i i z hi hz
          obtain ⟨h0, h1, h2, h3, hk⟩ := h
          refine upon_val (s := Instr.makeSlice t (ev n ρ l) (ev n ρ c)) rfl (by rw [hl, hc]; exact make_run ht hi hz h0 h1 h2 h3 w) (hk _ _ ⟨rfl, rfl⟩)
        · exact h.elim
      · exact h.elim
    | buildSlice t len ps =>
      simp only [] at h
      split at h
      · rename_i e ht
        split at h
        · rename_i z i hz hi
          obtain ⟨hb, h⟩ := cond_some h
          simp only [Bool.and_eq_true] at hb
          have hps : ps.toList.map (fun p => (p.1, ev n ρ p.2)) = (ps.map fun (i, x) => (i, ev n ρ x)).toList := by simp
          rw [hps] at h
          obtain ⟨cs, hr, hk⟩ := buildSlice_run ht hz hi (Nat.le_of_ble_eq_true hb.1) (by simpa using Nat.le_of_ble_eq_true hb.2) h w
          have hk' := hk _ _ ⟨rfl, rfl⟩
          exact upon_val (o := ⟨d, .buildSlice t len ps, ty, p, af, g⟩) exec_buildSlice hr hk'
        · exact h.elim
      · exact h.elim
    | call c =>
      obtain ⟨callee, args, ats⟩ := c
      cases callee with
      | value f =>
        simp only [] at h
        split at h
        · rename_i k first cap hf; exact call_sound hf h
        · exact h.elim
      | invoke r m => exact h.elim
      | builtin b => exact builtinX_sound h
    | convert src dst x => exact runsX_sound (s := convert src dst (ev n ρ x)) rfl h
    | makeMap t r => obtain ⟨v, w', hr, hk⟩ := h; exact upon_val (s := Instr.makeMap t (r.map (ev n ρ))) rfl hr hk
    | lookup t x i ok =>
      simp only [] at h
      split at h
      · rename_i kt e ht
        cases ok with
        | true =>
          simp only [cond_true] at h
          rw [exSh_iff] at h
          obtain ⟨v, _, b, w', hr, hk⟩ := h
          exact upon_val (s := Instr.lookup t (ev n ρ x) (ev n ρ i) true) rfl hr hk
        | false => exact runsX_sound (s := Instr.lookup t (ev n ρ x) (ev n ρ i) false) rfl h
      · exact h.elim
    | mapUpdate t m k x => obtain ⟨w', hr, hk⟩ := h; exact upon_unit (s := Instr.mapUpdate t (ev n ρ m) (ev n ρ k) (ev n ρ x)) rfl hr hk
    | range t x => obtain ⟨v, w', hr, hk⟩ := h; exact upon_val (s := Instr.range t (ev n ρ x)) rfl hr hk
    | next it isS => obtain ⟨v, w', hr, hk⟩ := h; exact upon_val (s := Instr.next (ev n ρ it) isS ty) rfl hr hk
    | slice t x lo hi mx => exact runsX_sound (s := Instr.sliceAt t (ev n ρ x) (lo.map (ev n ρ)) (hi.map (ev n ρ)) (mx.map (ev n ρ))) rfl h
    | typeAssert x xt a ok => obtain ⟨v, w', hr, hk⟩ := h; exact upon_val (s := Instr.typeAssert (ev n ρ x) xt a ok) rfl hr hk
    | _ => exact h.elim

theorem opX_sound {n : Nat} {o : Oper} {ρ : Env} {w : World} {K : Value → World → Prop} {Q : Exit → Act → World → Prop} (h : opX P n o ρ w K) : o.wp P (act n ρ) w (Next n ρ o.dst K) Q := by
  refine Oper.wp_mono ?_ (vwp_wp (opX_v h))
  rintro a w' ⟨v, rfl, hk⟩
  exact ⟨v, act_put n ρ o.dst v, hk⟩
end Go.X
