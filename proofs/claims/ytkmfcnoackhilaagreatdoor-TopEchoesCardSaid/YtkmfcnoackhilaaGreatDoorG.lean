/-
The conditions of the program's functions, third part; the pen, the width of a rune, the cell.
-/
import Derived.Test.YtkmfcnoackhilaaGreatDoorF
import Derived.KernelRfl
import Derived.Test.YtkmfcnoackhilaaGreatDoorProg
set_option linter.unusedVariables false
set_option linter.unusedSimpArgs false
namespace Go.Proofs
open Go Go.X Go.RowKit
set_option linter.unusedVariables false
set_option maxRecDepth 1000000
/- slices.IndexFunc[[]scrollback/api.Key,scrollback/api.Key] -/
def V41_17 (p1 : Option Addr) (k2 : Nat) (k3 : Nat) (w : World) (R : Ending → World → Prop) : Prop := ∃ (x5 : List Value → World → Prop), ∃ (x6 : List Value → World → Nat), x5 [Value.int IntKind.i64 0, Value.int IntKind.i64 0] w ∧ ∀ (n7 n8 : Int) (w9 : World) (x10 : Nat → Value), x5 [Value.int IntKind.i64 n7, Value.int IntKind.i64 n8] w9 → Br (decide (n8 < (↑k2 : Int))) ((0 : Int) ≤ n8 ∧ n8 < (↑k2 : Int) ∧ ∃ (k11 : Nat), ∃ (k12 : Nat), p1 = some (Addr.mk k11 k12 none) ∧ ∃ (c13 : Array Value), cellsW w9 (Addr.mk k11 (k12 + n8.toNat * 5) none) 5 = some c13 ∧ Calls Tryz.prog 17 #[Value.agg c13] w9 fun (e14 : Ending) (w15 : World) => ∃ (b16 : Bool), e14 = Ending.returned (Value.bool b16) ∧ Br b16 (R (Ending.returned (Value.int IntKind.i64 n8)) w15) (inInt (n8 + 1) ∧ x5 [Value.int IntKind.i64 n7, Value.int IntKind.i64 (n8 + 1)] w15 ∧ x6 [Value.int IntKind.i64 n7, Value.int IntKind.i64 (n8 + 1)] w15 < x6 [Value.int IntKind.i64 n7, Value.int IntKind.i64 n8] w9)) (R (Ending.returned (Value.int IntKind.i64 (-1))) w9)
theorem r41_17 (p1 : Option Addr) (k2 : Nat) (k3 : Nat) (w : World) (R : Ending → World → Prop) (h : V41_17 p1 k2 k3 w R) : Calls Tryz.prog 41 #[Value.slice p1 k2 k3, Value.func (Fn.func 17) #[] #[]] w R := by
  refine calls_of_codeX (drawX_ok effs mixed) Tryz.func41 rfl Tryz.ntmps41 (Nat.le_of_ble_eq_true rfl) ?_
  refine Eq.mp (α := V41_17 p1 k2 k3 w R) ?_ h
  kernel_rfl

/- scrollback/line.Used -/
def V57 (c1 : Array Value) (w : World) (R : Ending → World → Prop) : Prop := ∀ (k2 : Nat) (w3 : World), New w (Obj.cells c1 96) k2 w3 → ∃ (p4 : Option Addr), ∃ (k5 : Nat), ∃ (k6 : Nat), w3.cell? (Addr.mk k2 0 none) = some (Value.slice p4 k5 k6) ∧ ∀ (x7 : List Value → World → Prop), (∀ (n8 : Int) (w9 : World), (∀ (x10 : Nat → Value), R (Ending.returned (Value.int IntKind.i64 n8)) w9) → x7 [Value.int IntKind.i64 n8] w9) → ∃ (x11 : List Value → World → Prop), ∃ (x12 : List Value → World → Nat), x11 [Value.int IntKind.i64 (↑k5 : Int)] w3 ∧ ∀ (n13 : Int) (w14 : World) (x15 : Nat → Value), x11 [Value.int IntKind.i64 n13] w14 → Br (decide (n13 > 0)) (∃ (p16 : Option Addr), ∃ (k17 : Nat), ∃ (k18 : Nat), w14.cell? (Addr.mk k2 0 none) = some (Value.slice p16 k17 k18) ∧ inInt (n13 - 1) ∧ (0 : Int) ≤ n13 - 1 ∧ n13 - 1 < (↑k17 : Int) ∧ ∃ (k19 : Nat), ∃ (k20 : Nat), p16 = some (Addr.mk k19 k20 none) ∧ ∃ (c21 : Array Value), cellsW w14 (Addr.mk k19 (k20 + (n13 - 1).toNat * 16) none) 16 = some c21 ∧ Calls Tryz.prog 90 #[Value.agg c21] w14 fun (e22 : Ending) (w23 : World) => ∃ (b24 : Bool), e22 = Ending.returned (Value.bool b24) ∧ Br (!b24) (x7 [Value.int IntKind.i64 n13] w23) (inInt (n13 - 1) ∧ x11 [Value.int IntKind.i64 (n13 - 1)] w23 ∧ x12 [Value.int IntKind.i64 (n13 - 1)] w23 < x12 [Value.int IntKind.i64 n13] w14)) (x7 [Value.int IntKind.i64 n13] w14)
theorem r57 (c1 : Array Value) (w : World) (R : Ending → World → Prop) (h : V57 c1 w R) : Calls Tryz.prog 57 #[Value.agg c1] w R := by
  refine calls_of_codeX (drawX_ok effs mixed) Tryz.func57 rfl Tryz.ntmps57 (Nat.le_of_ble_eq_true rfl) ?_
  refine Eq.mp (α := V57 c1 w R) ?_ h
  kernel_rfl

/- (*scrollback/parser.Parser).escaped -/
def V100 (p1 : Option Addr) (n2 : Int) (w : World) (R : Ending → World → Prop) : Prop := ∀ (x3 : List Value → World → Prop), (∀ (p4 : Option Addr) (k5 k6 : Nat) (w7 : World), (∀ (x8 : Nat → Value), ∃ (a9 : Addr), p1 = some a9 ∧ ∃ (s10 : ByteArray), w7.cell? (Addr.mk a9.block (a9.off + 6) none) = some (Value.string s10) ∧ 6 = 6 ∧ ∀ (k11 : Nat) (w12 : World), New w7 (Obj.cells (Array.mk [Value.int IntKind.i64 3, Value.int IntKind.i32 n2, Value.int IntKind.i32 0, Value.string s10, Value.slice none 0 0, Value.string (ByteArray.mk #[])]) 133) k11 w12 → Calls Tryz.prog 98 #[Value.pointer p1, Value.slice (some (Addr.mk k11 0 none)) 1 1] w12 fun (e13 : Ending) (w14 : World) => ∃ (p15 : Option Addr), ∃ (k16 : Nat), ∃ (k17 : Nat), e13 = Ending.returned (Value.slice p15 k16 k17) ∧ R (Ending.returned (Value.slice p15 k16 k17)) w14) → x3 [Value.slice p4 k5 k6] w7) → Calls Tryz.prog 96 #[Value.int IntKind.i32 n2, Value.int IntKind.i32 32, Value.int IntKind.i32 47] w fun (e18 : Ending) (w19 : World) => ∃ (b20 : Bool), e18 = Ending.returned (Value.bool b20) ∧ Br b20 (∃ (a21 : Addr), p1 = some a21 ∧ FreeW w19 (Addr.mk a21.block (a21.off + 4) none) 1 ∧ ∀ (w22 : World), Put w19 (Addr.mk a21.block (a21.off + 4) none) (Value.int IntKind.i64 2) w22 → Calls Tryz.prog 123 #[Value.pointer p1, Value.int IntKind.i32 n2] w22 fun (e23 : Ending) (w24 : World) => e23 = Ending.returned (Value.tuple #[]) ∧ R (Ending.returned (Value.slice none 0 0)) w24) (Calls Tryz.prog 96 #[Value.int IntKind.i32 n2, Value.int IntKind.i32 48, Value.int IntKind.i32 126] w19 fun (e25 : Ending) (w26 : World) => ∃ (b27 : Bool), e25 = Ending.returned (Value.bool b27) ∧ Br (!b27) (Calls Tryz.prog 98 #[Value.pointer p1, Value.slice none 0 0] w26 fun (e28 : Ending) (w29 : World) => ∃ (p30 : Option Addr), ∃ (k31 : Nat), ∃ (k32 : Nat), e28 = Ending.returned (Value.slice p30 k31 k32) ∧ R (Ending.returned (Value.slice p30 k31 k32)) w29) (∃ (a33 : Addr), p1 = some a33 ∧ ∃ (s34 : ByteArray), w26.cell? (Addr.mk a33.block (a33.off + 6) none) = some (Value.string s34) ∧ Br (decide ((↑s34.size : Int) > 2)) (Calls Tryz.prog 98 #[Value.pointer p1, Value.slice none 0 0] w26 fun (e35 : Ending) (w36 : World) => ∃ (p37 : Option Addr), ∃ (k38 : Nat), ∃ (k39 : Nat), e35 = Ending.returned (Value.slice p37 k38 k39) ∧ R (Ending.returned (Value.slice p37 k38 k39)) w36) (∃ (a40 : Addr), p1 = some a40 ∧ ∃ (n41 : Int), w26.cell? (Addr.mk a40.block (a40.off + 4) none) = some (Value.int IntKind.i64 n41) ∧ Br (n41 == 1) (Br (n2 == 91) (Calls Tryz.prog 97 #[Value.pointer p1, Value.int IntKind.i64 3] w26 fun (e42 : Ending) (w43 : World) => ∃ (p44 : Option Addr), ∃ (k45 : Nat), ∃ (k46 : Nat), e42 = Ending.returned (Value.slice p44 k45 k46) ∧ R (Ending.returned (Value.slice p44 k45 k46)) w43) (Br (n2 == 93) (Calls Tryz.prog 97 #[Value.pointer p1, Value.int IntKind.i64 7] w26 fun (e47 : Ending) (w48 : World) => ∃ (p49 : Option Addr), ∃ (k50 : Nat), ∃ (k51 : Nat), e47 = Ending.returned (Value.slice p49 k50 k51) ∧ R (Ending.returned (Value.slice p49 k50 k51)) w48) (∀ (x52 : List Value → World → Prop), (∀ (b53 : Bool) (w54 : World), (∀ (x55 : Nat → Value), Br b53 (Calls Tryz.prog 97 #[Value.pointer p1, Value.int IntKind.i64 8] w54 fun (e56 : Ending) (w57 : World) => ∃ (p58 : Option Addr), ∃ (k59 : Nat), ∃ (k60 : Nat), e56 = Ending.returned (Value.slice p58 k59 k60) ∧ R (Ending.returned (Value.slice p58 k59 k60)) w57) (x3 [Value.slice none 0 0] w54)) → x52 [Value.bool b53] w54) → Br (n2 == 80) (x52 [Value.bool (n2 == 80)] w26) (Br (n2 == 88) (x52 [Value.bool (n2 == 88)] w26) (Br (n2 == 94) (x52 [Value.bool (n2 == 94)] w26) (x52 [Value.bool (n2 == 95)] w26)))))) (x3 [Value.slice none 0 0] w26))))
theorem r100 (p1 : Option Addr) (n2 : Int) (w : World) (R : Ending → World → Prop) (h : V100 p1 n2 w R) : Calls Tryz.prog 100 #[Value.pointer p1, Value.int IntKind.i32 n2] w R := by
  refine calls_of_codeX (drawX_ok effs mixed) Tryz.func100 rfl Tryz.ntmps100 (Nat.le_of_ble_eq_true rfl) ?_
  refine Eq.mp (α := V100 p1 n2 w R) ?_ h
  kernel_rfl

/- (*scrollback/parser.Parser).control -/
def V101 (p1 : Option Addr) (n2 : Int) (w : World) (R : Ending → World → Prop) : Prop := ∃ (a3 : Addr), p1 = some a3 ∧ ∃ (n4 : Int), w.cell? (Addr.mk a3.block (a3.off + 4) none) = some (Value.int IntKind.i64 n4) ∧ Br (n4 == 3) (∀ (x5 : List Value → World → Prop), (∀ (p6 : Option Addr) (k7 k8 : Nat) (w9 : World), (∀ (x10 : Nat → Value), R (Ending.returned (Value.slice none 0 0)) w9) → x5 [Value.slice p6 k7 k8] w9) → Calls Tryz.prog 96 #[Value.int IntKind.i32 n2, Value.int IntKind.i32 32, Value.int IntKind.i32 126] w fun (e11 : Ending) (w12 : World) => ∃ (b13 : Bool), e11 = Ending.returned (Value.bool b13) ∧ Br (!b13) (Calls Tryz.prog 98 #[Value.pointer p1, Value.slice none 0 0] w12 fun (e14 : Ending) (w15 : World) => ∃ (p16 : Option Addr), ∃ (k17 : Nat), ∃ (k18 : Nat), e14 = Ending.returned (Value.slice p16 k17 k18) ∧ R (Ending.returned (Value.slice p16 k17 k18)) w15) (Calls Tryz.prog 96 #[Value.int IntKind.i32 n2, Value.int IntKind.i32 64, Value.int IntKind.i32 126] w12 fun (e19 : Ending) (w20 : World) => ∃ (b21 : Bool), e19 = Ending.returned (Value.bool b21) ∧ Br b21 (∀ (x22 : List Value → World → Prop), (∀ (p23 : Option Addr) (k24 k25 : Nat) (w26 : World), (∀ (x27 : Nat → Value), ∃ (a29 : Addr), p1 = some a29 ∧ ∃ (n30 : Int), w26.cell? (Addr.mk a29.block (a29.off + 5) none) = some (Value.int IntKind.i32 n30) ∧ ∃ (a31 : Addr), p1 = some a31 ∧ ∃ (a32 : Addr), p1 = some a32 ∧ ∃ (s33 : ByteArray), w26.cell? (Addr.mk a32.block (a32.off + 6) none) = some (Value.string s33) ∧ ∃ (x34 : Value → World → Prop), (∀ (v35 : Value), Grows (x34 v35)) ∧ (∀ (w36 : World), Below w26.1.size w26 w36 → Calls Tryz.prog 124 #[Value.pointer (some (Addr.mk a31.block (a31.off + 7) none))] w36 fun (e37 : Ending) (w38 : World) => ∃ (p39 : Option Addr), ∃ (k40 : Nat), ∃ (k41 : Nat), e37 = Ending.returned (Value.slice p39 k40 k41) ∧ Below w36.1.size w36 w38 ∧ x34 (Value.slice p39 k40 k41) w38) ∧ ∀ (p42 : Option Addr) (k43 k44 : Nat), ∃ (x45 : Value → World → Prop), (∀ (v46 : Value), Grows (x45 v46)) ∧ (∀ (w47 : World), Below w26.1.size w26 w47 ∧ x34 (Value.slice p42 k43 k44) w47 → 6 = 6 ∧ ∀ (k48 : Nat) (w49 : World), New w47 (Obj.cells (Array.mk [Value.int IntKind.i64 4, Value.int IntKind.i32 n2, Value.int IntKind.i32 n30, Value.string s33, Value.slice p42 k43 k44, Value.string (ByteArray.mk #[])]) 133) k48 w49 → Below w47.1.size w47 w49 ∧ x45 (Value.slice (some (Addr.mk k48 0 none)) 1 1) w49) ∧ ∀ (p50 : Option Addr) (k51 k52 : Nat) (w53 : World), (Below w26.1.size w26 w53 ∧ x34 (Value.slice p42 k43 k44) w53) ∧ x45 (Value.slice p50 k51 k52) w53 → Calls Tryz.prog 98 #[Value.pointer p1, Value.slice p50 k51 k52] w53 fun (e54 : Ending) (w55 : World) => ∃ (p56 : Option Addr), ∃ (k57 : Nat), ∃ (k58 : Nat), e54 = Ending.returned (Value.slice p56 k57 k58) ∧ R (Ending.returned (Value.slice p56 k57 k58)) w55) → x22 [Value.slice p23 k24 k25] w26) → ∃ (a59 : Addr), p1 = some a59 ∧ ∃ (n60 : Int), w20.cell? (Addr.mk a59.block (a59.off + 4) none) = some (Value.int IntKind.i64 n60) ∧ Br (n60 == 6) (Calls Tryz.prog 98 #[Value.pointer p1, Value.slice none 0 0] w20 fun (e61 : Ending) (w62 : World) => ∃ (p63 : Option Addr), ∃ (k64 : Nat), ∃ (k65 : Nat), e61 = Ending.returned (Value.slice p63 k64 k65) ∧ R (Ending.returned (Value.slice p63 k64 k65)) w62) (∃ (a66 : Addr), p1 = some a66 ∧ ∃ (s67 : ByteArray), w20.cell? (Addr.mk a66.block (a66.off + 6) none) = some (Value.string s67) ∧ Br (decide ((↑s67.size : Int) > 2)) (Calls Tryz.prog 98 #[Value.pointer p1, Value.slice none 0 0] w20 fun (e68 : Ending) (w69 : World) => ∃ (p70 : Option Addr), ∃ (k71 : Nat), ∃ (k72 : Nat), e68 = Ending.returned (Value.slice p70 k71 k72) ∧ R (Ending.returned (Value.slice p70 k71 k72)) w69) (x22 [Value.slice none 0 0] w20))) (∃ (a73 : Addr), p1 = some a73 ∧ ∃ (n74 : Int), w20.cell? (Addr.mk a73.block (a73.off + 4) none) = some (Value.int IntKind.i64 n74) ∧ Br (n74 == 6) (x5 [Value.slice none 0 0] w20) (Calls Tryz.prog 96 #[Value.int IntKind.i32 n2, Value.int IntKind.i32 32, Value.int IntKind.i32 47] w20 fun (e75 : Ending) (w76 : World) => ∃ (b77 : Bool), e75 = Ending.returned (Value.bool b77) ∧ Br b77 (∃ (a78 : Addr), p1 = some a78 ∧ FreeW w76 (Addr.mk a78.block (a78.off + 4) none) 1 ∧ ∀ (w79 : World), Put w76 (Addr.mk a78.block (a78.off + 4) none) (Value.int IntKind.i64 5) w79 → Calls Tryz.prog 123 #[Value.pointer p1, Value.int IntKind.i32 n2] w79 fun (e80 : Ending) (w81 : World) => e80 = Ending.returned (Value.tuple #[]) ∧ x5 [Value.slice none 0 0] w81) (Calls Tryz.prog 96 #[Value.int IntKind.i32 n2, Value.int IntKind.i32 60, Value.int IntKind.i32 63] w76 fun (e82 : Ending) (w83 : World) => ∃ (b84 : Bool), e82 = Ending.returned (Value.bool b84) ∧ Br b84 (∃ (a85 : Addr), p1 = some a85 ∧ ∃ (n86 : Int), w83.cell? (Addr.mk a85.block (a85.off + 4) none) = some (Value.int IntKind.i64 n86) ∧ Br (n86 == 3) (∃ (a87 : Addr), p1 = some a87 ∧ FreeW w83 (Addr.mk a87.block (a87.off + 4) none) 1 ∧ ∀ (w88 : World), Put w83 (Addr.mk a87.block (a87.off + 4) none) (Value.int IntKind.i64 4) w88 → ∃ (a89 : Addr), p1 = some a89 ∧ FreeW w88 (Addr.mk a89.block (a89.off + 5) none) 1 ∧ ∀ (w90 : World), Put w88 (Addr.mk a89.block (a89.off + 5) none) (Value.int IntKind.i32 n2) w90 → x5 [Value.slice none 0 0] w90) (∃ (a91 : Addr), p1 = some a91 ∧ Calls Tryz.prog 125 #[Value.pointer (some (Addr.mk a91.block (a91.off + 7) none)), Value.int IntKind.i32 n2] w83 fun (e92 : Ending) (w93 : World) => ∃ (b94 : Bool), e92 = Ending.returned (Value.bool b94) ∧ Br b94 (∃ (a95 : Addr), p1 = some a95 ∧ FreeW w93 (Addr.mk a95.block (a95.off + 4) none) 1 ∧ ∀ (w96 : World), Put w93 (Addr.mk a95.block (a95.off + 4) none) (Value.int IntKind.i64 4) w96 → x5 [Value.slice none 0 0] w96) (∃ (a97 : Addr), p1 = some a97 ∧ FreeW w93 (Addr.mk a97.block (a97.off + 4) none) 1 ∧ ∀ (w98 : World), Put w93 (Addr.mk a97.block (a97.off + 4) none) (Value.int IntKind.i64 6) w98 → x5 [Value.slice none 0 0] w98))) (∃ (a99 : Addr), p1 = some a99 ∧ Calls Tryz.prog 125 #[Value.pointer (some (Addr.mk a99.block (a99.off + 7) none)), Value.int IntKind.i32 n2] w83 fun (e100 : Ending) (w101 : World) => ∃ (b102 : Bool), e100 = Ending.returned (Value.bool b102) ∧ Br b102 (∃ (a103 : Addr), p1 = some a103 ∧ FreeW w101 (Addr.mk a103.block (a103.off + 4) none) 1 ∧ ∀ (w104 : World), Put w101 (Addr.mk a103.block (a103.off + 4) none) (Value.int IntKind.i64 4) w104 → x5 [Value.slice none 0 0] w104) (∃ (a105 : Addr), p1 = some a105 ∧ FreeW w101 (Addr.mk a105.block (a105.off + 4) none) 1 ∧ ∀ (w106 : World), Put w101 (Addr.mk a105.block (a105.off + 4) none) (Value.int IntKind.i64 6) w106 → x5 [Value.slice none 0 0] w106))))))) (∃ (a107 : Addr), p1 = some a107 ∧ ∃ (n108 : Int), w.cell? (Addr.mk a107.block (a107.off + 4) none) = some (Value.int IntKind.i64 n108) ∧ ∀ (x109 : List Value → World → Prop), (∀ (p110 : Option Addr) (k111 k112 : Nat) (w113 : World), (∀ (x114 : Nat → Value), R (Ending.returned (Value.slice none 0 0)) w113) → x109 [Value.slice p110 k111 k112] w113) → Calls Tryz.prog 96 #[Value.int IntKind.i32 n2, Value.int IntKind.i32 32, Value.int IntKind.i32 126] w fun (e115 : Ending) (w116 : World) => ∃ (b117 : Bool), e115 = Ending.returned (Value.bool b117) ∧ Br (!b117) (Calls Tryz.prog 98 #[Value.pointer p1, Value.slice none 0 0] w116 fun (e118 : Ending) (w119 : World) => ∃ (p120 : Option Addr), ∃ (k121 : Nat), ∃ (k122 : Nat), e118 = Ending.returned (Value.slice p120 k121 k122) ∧ R (Ending.returned (Value.slice p120 k121 k122)) w119) (Calls Tryz.prog 96 #[Value.int IntKind.i32 n2, Value.int IntKind.i32 64, Value.int IntKind.i32 126] w116 fun (e123 : Ending) (w124 : World) => ∃ (b125 : Bool), e123 = Ending.returned (Value.bool b125) ∧ Br b125 (∀ (x126 : List Value → World → Prop), (∀ (p127 : Option Addr) (k128 k129 : Nat) (w130 : World), (∀ (x131 : Nat → Value), ∃ (a133 : Addr), p1 = some a133 ∧ ∃ (n134 : Int), w130.cell? (Addr.mk a133.block (a133.off + 5) none) = some (Value.int IntKind.i32 n134) ∧ ∃ (a135 : Addr), p1 = some a135 ∧ ∃ (a136 : Addr), p1 = some a136 ∧ ∃ (s137 : ByteArray), w130.cell? (Addr.mk a136.block (a136.off + 6) none) = some (Value.string s137) ∧ ∃ (x138 : Value → World → Prop), (∀ (v139 : Value), Grows (x138 v139)) ∧ (∀ (w140 : World), Below w130.1.size w130 w140 → Calls Tryz.prog 124 #[Value.pointer (some (Addr.mk a135.block (a135.off + 7) none))] w140 fun (e141 : Ending) (w142 : World) => ∃ (p143 : Option Addr), ∃ (k144 : Nat), ∃ (k145 : Nat), e141 = Ending.returned (Value.slice p143 k144 k145) ∧ Below w140.1.size w140 w142 ∧ x138 (Value.slice p143 k144 k145) w142) ∧ ∀ (p146 : Option Addr) (k147 k148 : Nat), ∃ (x149 : Value → World → Prop), (∀ (v150 : Value), Grows (x149 v150)) ∧ (∀ (w151 : World), Below w130.1.size w130 w151 ∧ x138 (Value.slice p146 k147 k148) w151 → 6 = 6 ∧ ∀ (k152 : Nat) (w153 : World), New w151 (Obj.cells (Array.mk [Value.int IntKind.i64 4, Value.int IntKind.i32 n2, Value.int IntKind.i32 n134, Value.string s137, Value.slice p146 k147 k148, Value.string (ByteArray.mk #[])]) 133) k152 w153 → Below w151.1.size w151 w153 ∧ x149 (Value.slice (some (Addr.mk k152 0 none)) 1 1) w153) ∧ ∀ (p154 : Option Addr) (k155 k156 : Nat) (w157 : World), (Below w130.1.size w130 w157 ∧ x138 (Value.slice p146 k147 k148) w157) ∧ x149 (Value.slice p154 k155 k156) w157 → Calls Tryz.prog 98 #[Value.pointer p1, Value.slice p154 k155 k156] w157 fun (e158 : Ending) (w159 : World) => ∃ (p160 : Option Addr), ∃ (k161 : Nat), ∃ (k162 : Nat), e158 = Ending.returned (Value.slice p160 k161 k162) ∧ R (Ending.returned (Value.slice p160 k161 k162)) w159) → x126 [Value.slice p127 k128 k129] w130) → ∃ (a163 : Addr), p1 = some a163 ∧ ∃ (n164 : Int), w124.cell? (Addr.mk a163.block (a163.off + 4) none) = some (Value.int IntKind.i64 n164) ∧ Br (n164 == 6) (Calls Tryz.prog 98 #[Value.pointer p1, Value.slice none 0 0] w124 fun (e165 : Ending) (w166 : World) => ∃ (p167 : Option Addr), ∃ (k168 : Nat), ∃ (k169 : Nat), e165 = Ending.returned (Value.slice p167 k168 k169) ∧ R (Ending.returned (Value.slice p167 k168 k169)) w166) (∃ (a170 : Addr), p1 = some a170 ∧ ∃ (s171 : ByteArray), w124.cell? (Addr.mk a170.block (a170.off + 6) none) = some (Value.string s171) ∧ Br (decide ((↑s171.size : Int) > 2)) (Calls Tryz.prog 98 #[Value.pointer p1, Value.slice none 0 0] w124 fun (e172 : Ending) (w173 : World) => ∃ (p174 : Option Addr), ∃ (k175 : Nat), ∃ (k176 : Nat), e172 = Ending.returned (Value.slice p174 k175 k176) ∧ R (Ending.returned (Value.slice p174 k175 k176)) w173) (x126 [Value.slice none 0 0] w124))) (∃ (a177 : Addr), p1 = some a177 ∧ ∃ (n178 : Int), w124.cell? (Addr.mk a177.block (a177.off + 4) none) = some (Value.int IntKind.i64 n178) ∧ Br (n178 == 6) (x109 [Value.slice none 0 0] w124) (Calls Tryz.prog 96 #[Value.int IntKind.i32 n2, Value.int IntKind.i32 32, Value.int IntKind.i32 47] w124 fun (e179 : Ending) (w180 : World) => ∃ (b181 : Bool), e179 = Ending.returned (Value.bool b181) ∧ Br b181 (∃ (a182 : Addr), p1 = some a182 ∧ FreeW w180 (Addr.mk a182.block (a182.off + 4) none) 1 ∧ ∀ (w183 : World), Put w180 (Addr.mk a182.block (a182.off + 4) none) (Value.int IntKind.i64 5) w183 → Calls Tryz.prog 123 #[Value.pointer p1, Value.int IntKind.i32 n2] w183 fun (e184 : Ending) (w185 : World) => e184 = Ending.returned (Value.tuple #[]) ∧ x109 [Value.slice none 0 0] w185) (Calls Tryz.prog 96 #[Value.int IntKind.i32 n2, Value.int IntKind.i32 60, Value.int IntKind.i32 63] w180 fun (e186 : Ending) (w187 : World) => ∃ (b188 : Bool), e186 = Ending.returned (Value.bool b188) ∧ Br b188 (∃ (a189 : Addr), p1 = some a189 ∧ ∃ (n190 : Int), w187.cell? (Addr.mk a189.block (a189.off + 4) none) = some (Value.int IntKind.i64 n190) ∧ Br (n190 == 3) (∃ (a191 : Addr), p1 = some a191 ∧ FreeW w187 (Addr.mk a191.block (a191.off + 4) none) 1 ∧ ∀ (w192 : World), Put w187 (Addr.mk a191.block (a191.off + 4) none) (Value.int IntKind.i64 4) w192 → ∃ (a193 : Addr), p1 = some a193 ∧ FreeW w192 (Addr.mk a193.block (a193.off + 5) none) 1 ∧ ∀ (w194 : World), Put w192 (Addr.mk a193.block (a193.off + 5) none) (Value.int IntKind.i32 n2) w194 → x109 [Value.slice none 0 0] w194) (Br (n108 == 4) (∃ (a195 : Addr), p1 = some a195 ∧ Calls Tryz.prog 125 #[Value.pointer (some (Addr.mk a195.block (a195.off + 7) none)), Value.int IntKind.i32 n2] w187 fun (e196 : Ending) (w197 : World) => ∃ (b198 : Bool), e196 = Ending.returned (Value.bool b198) ∧ Br b198 (∃ (a199 : Addr), p1 = some a199 ∧ FreeW w197 (Addr.mk a199.block (a199.off + 4) none) 1 ∧ ∀ (w200 : World), Put w197 (Addr.mk a199.block (a199.off + 4) none) (Value.int IntKind.i64 4) w200 → x109 [Value.slice none 0 0] w200) (∃ (a201 : Addr), p1 = some a201 ∧ FreeW w197 (Addr.mk a201.block (a201.off + 4) none) 1 ∧ ∀ (w202 : World), Put w197 (Addr.mk a201.block (a201.off + 4) none) (Value.int IntKind.i64 6) w202 → x109 [Value.slice none 0 0] w202)) (∃ (a203 : Addr), p1 = some a203 ∧ FreeW w187 (Addr.mk a203.block (a203.off + 4) none) 1 ∧ ∀ (w204 : World), Put w187 (Addr.mk a203.block (a203.off + 4) none) (Value.int IntKind.i64 6) w204 → x109 [Value.slice none 0 0] w204))) (Br (n108 == 4) (∃ (a205 : Addr), p1 = some a205 ∧ Calls Tryz.prog 125 #[Value.pointer (some (Addr.mk a205.block (a205.off + 7) none)), Value.int IntKind.i32 n2] w187 fun (e206 : Ending) (w207 : World) => ∃ (b208 : Bool), e206 = Ending.returned (Value.bool b208) ∧ Br b208 (∃ (a209 : Addr), p1 = some a209 ∧ FreeW w207 (Addr.mk a209.block (a209.off + 4) none) 1 ∧ ∀ (w210 : World), Put w207 (Addr.mk a209.block (a209.off + 4) none) (Value.int IntKind.i64 4) w210 → x109 [Value.slice none 0 0] w210) (∃ (a211 : Addr), p1 = some a211 ∧ FreeW w207 (Addr.mk a211.block (a211.off + 4) none) 1 ∧ ∀ (w212 : World), Put w207 (Addr.mk a211.block (a211.off + 4) none) (Value.int IntKind.i64 6) w212 → x109 [Value.slice none 0 0] w212)) (∃ (a213 : Addr), p1 = some a213 ∧ FreeW w187 (Addr.mk a213.block (a213.off + 4) none) 1 ∧ ∀ (w214 : World), Put w187 (Addr.mk a213.block (a213.off + 4) none) (Value.int IntKind.i64 6) w214 → x109 [Value.slice none 0 0] w214)))))))
theorem r101 (p1 : Option Addr) (n2 : Int) (w : World) (R : Ending → World → Prop) (h : V101 p1 n2 w R) : Calls Tryz.prog 101 #[Value.pointer p1, Value.int IntKind.i32 n2] w R := by
  refine calls_of_codeX (drawX_ok effs mixed) Tryz.func101 rfl Tryz.ntmps101 (Nat.le_of_ble_eq_true rfl) ?_
  refine Eq.mp (α := V101 p1 n2 w R) ?_ h
  kernel_rfl

/- math/bits.Mul64 -/
def V279 (n1 : Int) (n2 : Int) (w : World) (R : Ending → World → Prop) : Prop := R (Ending.returned (Value.tuple #[Value.int IntKind.u64 (IntKind.u64.wrap (IntKind.u64.wrap (IntKind.u64.wrap (n1.fdiv (2 ^ 32) * n2.fdiv (2 ^ 32)) + (IntKind.u64.wrap (IntKind.u64.wrap (n1.fdiv (2 ^ 32) * IntKind.u64.wrap (↑(BitVec.ofInt IntKind.u64.bits n2 &&& BitVec.ofInt IntKind.u64.bits 4294967295).toNat : Int)) + (IntKind.u64.wrap (IntKind.u64.wrap (↑(BitVec.ofInt IntKind.u64.bits n1 &&& BitVec.ofInt IntKind.u64.bits 4294967295).toNat : Int) * IntKind.u64.wrap (↑(BitVec.ofInt IntKind.u64.bits n2 &&& BitVec.ofInt IntKind.u64.bits 4294967295).toNat : Int))).fdiv (2 ^ 32))).fdiv (2 ^ 32)) + (IntKind.u64.wrap (IntKind.u64.wrap (↑(BitVec.ofInt IntKind.u64.bits (IntKind.u64.wrap (IntKind.u64.wrap (n1.fdiv (2 ^ 32) * IntKind.u64.wrap (↑(BitVec.ofInt IntKind.u64.bits n2 &&& BitVec.ofInt IntKind.u64.bits 4294967295).toNat : Int)) + (IntKind.u64.wrap (IntKind.u64.wrap (↑(BitVec.ofInt IntKind.u64.bits n1 &&& BitVec.ofInt IntKind.u64.bits 4294967295).toNat : Int) * IntKind.u64.wrap (↑(BitVec.ofInt IntKind.u64.bits n2 &&& BitVec.ofInt IntKind.u64.bits 4294967295).toNat : Int))).fdiv (2 ^ 32))) &&& BitVec.ofInt IntKind.u64.bits 4294967295).toNat : Int) + IntKind.u64.wrap (IntKind.u64.wrap (↑(BitVec.ofInt IntKind.u64.bits n1 &&& BitVec.ofInt IntKind.u64.bits 4294967295).toNat : Int) * n2.fdiv (2 ^ 32)))).fdiv (2 ^ 32))), Value.int IntKind.u64 (IntKind.u64.wrap (n1 * n2))])) w
theorem r279 (n1 : Int) (n2 : Int) (w : World) (R : Ending → World → Prop) (h : V279 n1 n2 w R) : Calls Tryz.prog 279 #[Value.int IntKind.u64 n1, Value.int IntKind.u64 n2] w R := by
  refine calls_of_codeX (drawX_ok effs mixed) Tryz.func279 rfl Tryz.ntmps279 (Nat.le_of_ble_eq_true rfl) ?_
  refine Eq.mp (α := V279 n1 n2 w R) ?_ h
  kernel_rfl

/- slices.Clone[[]scrollback/api.Line,scrollback/api.Line] -/
def V287 (p1 : Option Addr) (k2 : Nat) (k3 : Nat) (w : World) (R : Ending → World → Prop) : Prop := Br p1.isNone (R (Ending.returned (Value.slice none 0 0)) w) (∀ (k4 : Nat) (w5 : World), New w (Obj.cells #[] 96) k4 w5 → ∃ (p6 : Option Addr), ∃ (k7 : Nat), ∃ (k8 : Nat), ∃ (w9 : World), Runs Tryz.prog (Builtin.append_ #[44, 44] 44 #[Value.slice (some (Addr.mk k4 0 none)) 0 0, Value.slice p1 k2 k3]) w5 (Value.slice p6 k7 k8) w9 ∧ R (Ending.returned (Value.slice p6 k7 k8)) w9)
theorem r287 (p1 : Option Addr) (k2 : Nat) (k3 : Nat) (w : World) (R : Ending → World → Prop) (h : V287 p1 k2 k3 w R) : Calls Tryz.prog 287 #[Value.slice p1 k2 k3] w R := by
  refine calls_of_codeX (drawX_ok effs mixed) Tryz.func287 rfl Tryz.ntmps287 (Nat.le_of_ble_eq_true rfl) ?_
  refine Eq.mp (α := V287 p1 k2 k3 w R) ?_ h
  kernel_rfl

/- (*scrollback/sheet.Sheet).Drop -/
end Go.Proofs

namespace Go.Proofs
open Go Go.X Go.RowKit
set_option linter.unusedVariables false
set_option maxRecDepth 1000000
/- (*scrollback/screen.Screen).move -/
def V157 (p1 : Option Addr) (n2 : Int) (p3 : Option Addr) (k4 : Nat) (k5 : Nat) (w : World) (R : Ending → World → Prop) : Prop := ∃ (n7 : Int), (∀ (w8 : World), Below w.1.size w w8 → Calls Tryz.prog 204 #[Value.slice p3 k4 k5, Value.int IntKind.i64 0] w8 fun (e9 : Ending) (w10 : World) => ∃ (n11 : Int), e9 = Ending.returned (Value.int IntKind.i64 n11) ∧ Below w8.1.size w8 w10 ∧ Value.int IntKind.i64 n11 = Value.int IntKind.i64 n7) ∧ ∃ (c12 : Array Value), (∀ (w13 : World), Below w.1.size w w13 → Calls Tryz.prog 104 #[Value.pointer p1] w13 fun (e14 : Ending) (w15 : World) => ∃ (c16 : Array Value), e14 = Ending.returned (Value.agg c16) ∧ Below w13.1.size w13 w15 ∧ Value.agg c16 = Value.agg c12) ∧ ∃ (a17 : Addr), p1 = some a17 ∧ ∃ (c18 : Array Value), cellsW w (Addr.mk a17.block (a17.off + 4) none) 3 = some c18 ∧ ∀ (k19 k20 : Nat) (w21 : World), (Below w.1.size w w21 ∧ AtO w.1.size k19 (Obj.cells #[Value.int IntKind.i64 0, Value.int IntKind.i64 0, Value.int IntKind.i64 0, Value.int IntKind.i64 0, Value.bool false] 207) w21) ∧ AtO w.1.size k20 (Obj.cells #[Value.int IntKind.i64 0, Value.int IntKind.i64 0, Value.bool false] 30) w21 → c12.size = 5 ∧ OneCells c12 ∧ FreeW w21 (Addr.mk k19 0 none) 5 ∧ ∀ (w22 : World), Puts w21 (Addr.mk k19 0 none) c12.1 w22 → (∃ (c23 : Array Value), cellsW w22 (Addr.mk a17.block (a17.off + 4) none) 3 = some c23 ∧ Value.agg c23 = Value.agg c18) ∧ c18.size = 3 ∧ OneCells c18 ∧ FreeW w22 (Addr.mk k20 0 none) 3 ∧ ∀ (w24 : World), Puts w22 (Addr.mk k20 0 none) c18.1 w24 → (∃ (c25 : Array Value), cellsW w24 (Addr.mk a17.block (a17.off + 4) none) 3 = some c25 ∧ Value.agg c25 = Value.agg c18) ∧ ∀ (x26 : List Value → World → Prop), (∀ (n27 : Int) (b28 : Bool) (w29 : World), (∀ (x30 : Nat → Value) (x31 : List Value → World → Prop), (∀ (n32 : Int) (w33 : World), (∀ (x34 : Nat → Value) (x35 : List Value → World → Prop), (∀ (w36 : World), (∀ (x37 : Nat → Value), R (Ending.returned (Value.tuple #[Value.bool true, Value.int IntKind.i64 n32])) w36) → x35 [] w36) → Br (n32 == 0) (∃ (c38 : Array Value), cellsW w33 (Addr.mk k20 0 none) 3 = some c38 ∧ ∃ (a39 : Addr), p1 = some a39 ∧ c38.size = 3 ∧ OneCells c38 ∧ FreeW w33 (Addr.mk a39.block (a39.off + 4) none) 3 ∧ ∀ (w40 : World), Puts w33 (Addr.mk a39.block (a39.off + 4) none) c38.1 w40 → x35 [] w40) (x35 [] w33)) → x31 [Value.int IntKind.i64 n32] w33) → Br (n27 == 0) (Br (n2 == 69) (∃ (c41 : Array Value), cellsW w29 (Addr.mk k19 0 none) 5 = some c41 ∧ ∃ (c42 : Array Value), cellsW w29 (Addr.mk k20 0 none) 3 = some c42 ∧ Calls Tryz.prog 143 #[Value.agg c41, Value.agg c42] w29 fun (e43 : Ending) (w44 : World) => ∃ (c45 : Array Value), ∃ (n46 : Int), e43 = Ending.returned (Value.tuple #[Value.agg c45, Value.int IntKind.i64 n46]) ∧ c45.size = 3 ∧ OneCells c45 ∧ FreeW w44 (Addr.mk k20 0 none) 3 ∧ ∀ (w47 : World), Puts w44 (Addr.mk k20 0 none) c45.1 w47 → x31 [Value.int IntKind.i64 n46] w47) (Br (n2 == 70) (∃ (c48 : Array Value), cellsW w29 (Addr.mk k19 0 none) 5 = some c48 ∧ ∃ (c49 : Array Value), cellsW w29 (Addr.mk k20 0 none) 3 = some c49 ∧ Calls Tryz.prog 143 #[Value.agg c48, Value.agg c49] w29 fun (e50 : Ending) (w51 : World) => ∃ (c52 : Array Value), ∃ (n53 : Int), e50 = Ending.returned (Value.tuple #[Value.agg c52, Value.int IntKind.i64 n53]) ∧ c52.size = 3 ∧ OneCells c52 ∧ FreeW w51 (Addr.mk k20 0 none) 3 ∧ ∀ (w54 : World), Puts w51 (Addr.mk k20 0 none) c52.1 w54 → x31 [Value.int IntKind.i64 n53] w54) (x31 [Value.int IntKind.i64 n27] w29))) (x31 [Value.int IntKind.i64 n27] w29)) → x26 [Value.int IntKind.i64 n27, Value.bool b28] w29) → ∀ (x55 : List Value → World → Prop), (∀ (b56 : Bool) (w57 : World), (∀ (x58 : Nat → Value), Br b56 (∃ (c59 : Array Value), cellsW w57 (Addr.mk k19 0 none) 5 = some c59 ∧ ∃ (c60 : Array Value), cellsW w57 (Addr.mk k20 0 none) 3 = some c60 ∧ Calls Tryz.prog 205 #[Value.agg c59, Value.agg c60, Value.int IntKind.i64 n7] w57 fun (e61 : Ending) (w62 : World) => ∃ (c63 : Array Value), ∃ (n64 : Int), e61 = Ending.returned (Value.tuple #[Value.agg c63, Value.int IntKind.i64 n64]) ∧ c63.size = 3 ∧ OneCells c63 ∧ FreeW w62 (Addr.mk k20 0 none) 3 ∧ ∀ (w65 : World), Puts w62 (Addr.mk k20 0 none) c63.1 w65 → x26 [Value.int IntKind.i64 n64, Value.bool false] w65) (∀ (x66 : List Value → World → Prop), (∀ (b67 : Bool) (w68 : World), (∀ (x69 : Nat → Value), Br b67 (∃ (c70 : Array Value), cellsW w68 (Addr.mk k19 0 none) 5 = some c70 ∧ ∃ (c71 : Array Value), cellsW w68 (Addr.mk k20 0 none) 3 = some c71 ∧ Calls Tryz.prog 206 #[Value.agg c70, Value.agg c71, Value.int IntKind.i64 n7] w68 fun (e72 : Ending) (w73 : World) => ∃ (c74 : Array Value), ∃ (n75 : Int), e72 = Ending.returned (Value.tuple #[Value.agg c74, Value.int IntKind.i64 n75]) ∧ c74.size = 3 ∧ OneCells c74 ∧ FreeW w73 (Addr.mk k20 0 none) 3 ∧ ∀ (w76 : World), Puts w73 (Addr.mk k20 0 none) c74.1 w76 → x26 [Value.int IntKind.i64 n75, Value.bool false] w76) (Br (n2 == 67) (∃ (c77 : Array Value), cellsW w68 (Addr.mk k19 0 none) 5 = some c77 ∧ ∃ (c78 : Array Value), cellsW w68 (Addr.mk k20 0 none) 3 = some c78 ∧ Calls Tryz.prog 207 #[Value.agg c77, Value.agg c78, Value.int IntKind.i64 n7] w68 fun (e79 : Ending) (w80 : World) => ∃ (c81 : Array Value), ∃ (n82 : Int), e79 = Ending.returned (Value.tuple #[Value.agg c81, Value.int IntKind.i64 n82]) ∧ c81.size = 3 ∧ OneCells c81 ∧ FreeW w80 (Addr.mk k20 0 none) 3 ∧ ∀ (w83 : World), Puts w80 (Addr.mk k20 0 none) c81.1 w83 → x26 [Value.int IntKind.i64 n82, Value.bool false] w83) (Br (n2 == 68) (∃ (c84 : Array Value), cellsW w68 (Addr.mk k19 0 none) 5 = some c84 ∧ ∃ (c85 : Array Value), cellsW w68 (Addr.mk k20 0 none) 3 = some c85 ∧ Calls Tryz.prog 140 #[Value.agg c84, Value.agg c85, Value.int IntKind.i64 n7] w68 fun (e86 : Ending) (w87 : World) => ∃ (c88 : Array Value), ∃ (n89 : Int), e86 = Ending.returned (Value.tuple #[Value.agg c88, Value.int IntKind.i64 n89]) ∧ c88.size = 3 ∧ OneCells c88 ∧ FreeW w87 (Addr.mk k20 0 none) 3 ∧ ∀ (w90 : World), Puts w87 (Addr.mk k20 0 none) c88.1 w90 → x26 [Value.int IntKind.i64 n89, Value.bool false] w90) (Br (n2 == 71) (∃ (c91 : Array Value), cellsW w68 (Addr.mk k19 0 none) 5 = some c91 ∧ ∃ (c92 : Array Value), cellsW w68 (Addr.mk k20 0 none) 3 = some c92 ∧ inInt (n7 - 1) ∧ Calls Tryz.prog 188 #[Value.agg c91, Value.agg c92, Value.int IntKind.i64 (n7 - 1)] w68 fun (e93 : Ending) (w94 : World) => ∃ (c95 : Array Value), ∃ (n96 : Int), e93 = Ending.returned (Value.tuple #[Value.agg c95, Value.int IntKind.i64 n96]) ∧ c95.size = 3 ∧ OneCells c95 ∧ FreeW w94 (Addr.mk k20 0 none) 3 ∧ ∀ (w97 : World), Puts w94 (Addr.mk k20 0 none) c95.1 w97 → x26 [Value.int IntKind.i64 n96, Value.bool false] w97) (Br (n2 == 100) (∃ (c98 : Array Value), cellsW w68 (Addr.mk k19 0 none) 5 = some c98 ∧ ∃ (c99 : Array Value), cellsW w68 (Addr.mk k20 0 none) 3 = some c99 ∧ inInt (n7 - 1) ∧ Calls Tryz.prog 208 #[Value.agg c98, Value.agg c99, Value.int IntKind.i64 (n7 - 1)] w68 fun (e100 : Ending) (w101 : World) => ∃ (c102 : Array Value), ∃ (n103 : Int), e100 = Ending.returned (Value.tuple #[Value.agg c102, Value.int IntKind.i64 n103]) ∧ c102.size = 3 ∧ OneCells c102 ∧ FreeW w101 (Addr.mk k20 0 none) 3 ∧ ∀ (w104 : World), Puts w101 (Addr.mk k20 0 none) c102.1 w104 → x26 [Value.int IntKind.i64 n103, Value.bool false] w104) (∀ (x105 : List Value → World → Prop), (∀ (b106 : Bool) (w107 : World), (∀ (x108 : Nat → Value), Br b106 (∃ (c110 : Array Value), cellsW w107 (Addr.mk k19 0 none) 5 = some c110 ∧ inInt (n7 - 1) ∧ ∃ (n111 : Int), (∀ (w112 : World), Below w107.1.size w107 w112 → Calls Tryz.prog 204 #[Value.slice p3 k4 k5, Value.int IntKind.i64 1] w112 fun (e113 : Ending) (w114 : World) => ∃ (n115 : Int), e113 = Ending.returned (Value.int IntKind.i64 n115) ∧ Below w112.1.size w112 w114 ∧ Value.int IntKind.i64 n115 = Value.int IntKind.i64 n111) ∧ inInt (n111 - 1) ∧ ∃ (c116 : Array Value), ∃ (n117 : Int), (∀ (w118 : World), Below w107.1.size w107 w118 → Calls Tryz.prog 209 #[Value.agg c110, Value.int IntKind.i64 (n7 - 1), Value.int IntKind.i64 (n111 - 1)] w118 fun (e119 : Ending) (w120 : World) => ∃ (c121 : Array Value), ∃ (n122 : Int), e119 = Ending.returned (Value.tuple #[Value.agg c121, Value.int IntKind.i64 n122]) ∧ Below w118.1.size w118 w120 ∧ Value.tuple #[Value.agg c121, Value.int IntKind.i64 n122] = Value.tuple #[Value.agg c116, Value.int IntKind.i64 n117]) ∧ ∀ (w123 : World), Below w107.1.size w107 w123 → c116.size = 3 ∧ OneCells c116 ∧ FreeW w123 (Addr.mk k20 0 none) 3 ∧ ∀ (w124 : World), Puts w123 (Addr.mk k20 0 none) c116.1 w124 → x26 [Value.int IntKind.i64 n117, Value.bool false] w124) (Br (n2 == 73) (Calls Tryz.prog 141 #[Value.pointer p1, Value.int IntKind.i64 n7] w107 fun (e125 : Ending) (w126 : World) => ∃ (n127 : Int), e125 = Ending.returned (Value.int IntKind.i64 n127) ∧ R (Ending.returned (Value.tuple #[Value.bool true, Value.int IntKind.i64 n127])) w126) (Br (n2 == 90) (Calls Tryz.prog 141 #[Value.pointer p1, Value.int IntKind.i64 (IntKind.i64.wrap (0 - n7))] w107 fun (e128 : Ending) (w129 : World) => ∃ (n130 : Int), e128 = Ending.returned (Value.int IntKind.i64 n130) ∧ R (Ending.returned (Value.tuple #[Value.bool true, Value.int IntKind.i64 n130])) w129) (R (Ending.returned (Value.tuple #[Value.bool false, Value.int IntKind.i64 0])) w107)))) → x105 [Value.bool b106] w107) → Br (n2 == 72) (x105 [Value.bool (n2 == 72)] w68) (x105 [Value.bool (n2 == 102)] w68))))))) → x66 [Value.bool b67] w68) → Br (n2 == 66) (x66 [Value.bool (n2 == 66)] w57) (x66 [Value.bool (n2 == 69)] w57))) → x55 [Value.bool b56] w57) → Br (n2 == 65) (x55 [Value.bool (n2 == 65)] w24) (x55 [Value.bool (n2 == 70)] w24)
theorem r157 (p1 : Option Addr) (n2 : Int) (p3 : Option Addr) (k4 : Nat) (k5 : Nat) (w : World) (R : Ending → World → Prop) (h : V157 p1 n2 p3 k4 k5 w R) : Calls Tryz.prog 157 #[Value.pointer p1, Value.int IntKind.i32 n2, Value.slice p3 k4 k5] w R := by
  refine calls_of_codeX (drawX_ok effs mixed) Tryz.func157 rfl Tryz.ntmps157 (Nat.le_of_ble_eq_true rfl) ?_
  refine Eq.mp (α := V157 p1 n2 p3 k4 k5 w R) ?_ h
  kernel_rfl

-- SLOW 157 20693 ms
end Go.Proofs

namespace Go.Proofs
open Go Go.X Go.RowKit
set_option linter.unusedVariables false
set_option maxRecDepth 1000000
/- scrollback/scrollbacktop.TopEchoes -/
def V3 (n1 : Int) (n2 : Int) (p3 : Option Addr) (k4 : Nat) (k5 : Nat) (w : World) (R : Ending → World → Prop) : Prop := ∀ (x6 : List Value → World → Prop), (∀ (n7 n8 : Int) (p9 : Option Addr) (k10 k11 : Nat) (w12 : World), (∀ (x13 : Nat → Value), Calls Tryz.prog 4 #[Value.agg #[Value.int IntKind.i64 n7, Value.int IntKind.i64 n8, Value.int IntKind.i64 100]] w12 fun (e14 : Ending) (w15 : World) => ∃ (p16 : Option Addr), e14 = Ending.returned (Value.pointer p16) ∧ ∀ (k17 : Nat) (w18 : World), New w15 (Obj.cells #[Value.slice none 0 0, Value.int IntKind.i64 n7, Value.int IntKind.i64 n8, Value.int IntKind.i64 0, Value.int IntKind.i64 0, Value.bool false] 32) k17 w18 → Br p16.isNone (R (Ending.returned (Value.bool false)) w18) (∃ (x19 : List Value → World → Prop), ∃ (x20 : List Value → World → Nat), x19 [Value.int IntKind.i64 0] w18 ∧ ∀ (n21 : Int) (w22 : World) (x23 : Nat → Value), x19 [Value.int IntKind.i64 n21] w22 → Br (decide (n21 < n7)) (∃ (a25 : Addr), some (Addr.mk k17 0 none) = some a25 ∧ ∃ (p26 : Option Addr), ∃ (k27 : Nat), ∃ (k28 : Nat), w22.cell? a25 = some (Value.slice p26 k27 k28) ∧ ∃ (x29 : Value → Prop), ∃ (x30 : Value → World → Prop), (∀ (v31 : Value), Grows (x30 v31)) ∧ (∀ (w32 : World), Below w22.1.size w22 w32 → (0 : Int) ≤ n8 ∧ n8 ≤ n8 ∧ (↑1 : Int) * n8 ≤ 281474976710656 ∧ n8 ≤ 9223372036854775807 ∧ ∀ (k33 : Nat) (w34 : World), New w32 (Obj.cells (zeroRow #[Value.int IntKind.u8 0] (n8.toNat * 1)) 5) k33 w34 → Below w32.1.size w32 w34 ∧ x29 (Value.slice (some (Addr.mk k33 0 none)) n8.toNat n8.toNat) ∧ x30 (Value.slice (some (Addr.mk k33 0 none)) n8.toNat n8.toNat) w34) ∧ ∀ (p35 : Option Addr) (k36 k37 : Nat), x29 (Value.slice p35 k36 k37) → ∃ (x38 : Value → Prop), ∃ (x39 : Value → World → Prop), (∀ (v40 : Value), Grows (x39 v40)) ∧ (∀ (w41 : World), Below w22.1.size w22 w41 ∧ x30 (Value.slice p35 k36 k37) w41 → ∀ (k42 : Nat) (w43 : World), New w41 (Obj.cells #[Value.slice p35 k36 k37] 22) k42 w43 → Below w41.1.size w41 w43 ∧ x38 (Value.slice (some (Addr.mk k42 0 none)) 1 1) ∧ x39 (Value.slice (some (Addr.mk k42 0 none)) 1 1) w43) ∧ ∀ (p44 : Option Addr) (k45 k46 : Nat), x38 (Value.slice p44 k45 k46) → ∀ (w47 : World), (Below w22.1.size w22 w47 ∧ x30 (Value.slice p35 k36 k37) w47) ∧ x39 (Value.slice p44 k45 k46) w47 → ∃ (p48 : Option Addr), ∃ (k49 : Nat), ∃ (k50 : Nat), ∃ (w51 : World), Runs Tryz.prog (Builtin.append_ #[28, 28] 28 #[Value.slice p26 k27 k28, Value.slice p44 k45 k46]) w47 (Value.slice p48 k49 k50) w51 ∧ ∃ (a52 : Addr), some (Addr.mk k17 0 none) = some a52 ∧ FreeW w51 a52 1 ∧ ∀ (w53 : World), Put w51 a52 (Value.slice p48 k49 k50) w53 → inInt (n21 + 1) ∧ x19 [Value.int IntKind.i64 (n21 + 1)] w53 ∧ x20 [Value.int IntKind.i64 (n21 + 1)] w53 < x20 [Value.int IntKind.i64 n21] w22) (∃ (x54 : List Value → World → Prop), ∃ (x55 : List Value → World → Nat), x54 [Value.bool false, Value.int IntKind.i64 0] w22 ∧ ∀ (b56 : Bool) (n57 : Int) (w58 : World) (x59 : Nat → Value), x54 [Value.bool b56, Value.int IntKind.i64 n57] w58 → Br (decide (n57 < (↑k10 : Int))) ((0 : Int) ≤ n57 ∧ n57 < (↑k10 : Int) ∧ ∃ (k60 : Nat), ∃ (k61 : Nat), p9 = some (Addr.mk k60 k61 none) ∧ ∃ (n62 : Int), w58.cell? (Addr.mk k60 (k61 + n57.toNat * 1) none) = some (Value.int IntKind.u8 n62) ∧ Calls Tryz.prog 5 #[Value.int IntKind.u8 n62] w58 fun (e63 : Ending) (w64 : World) => ∃ (c65 : Array Value), e63 = Ending.returned (Value.agg c65) ∧ ∀ (k66 : Nat) (w67 : World), New w64 (Obj.cells #[Value.int IntKind.i64 0, Value.int IntKind.i32 0, Value.bool false, Value.bool false, Value.bool false] 35) k66 w67 → c65.size = 5 ∧ OneCells c65 ∧ FreeW w67 (Addr.mk k66 0 none) 5 ∧ ∀ (w68 : World), Puts w67 (Addr.mk k66 0 none) c65.1 w68 → ∃ (c69 : Array Value), cellsW w68 (Addr.mk k66 0 none) 5 = some c69 ∧ c69.size = 5 ∧ ∀ (k70 : Nat) (w71 : World), New w68 (Obj.cells (Array.mk (catA c69 [])) 35) k70 w71 → Calls Tryz.prog 6 #[Value.agg #[Value.bool false, Value.bool true, Value.bool true], Value.slice (some (Addr.mk k70 0 none)) 1 1] w71 fun (e72 : Ending) (w73 : World) => ∃ (p74 : Option Addr), ∃ (k75 : Nat), ∃ (k76 : Nat), ∃ (n77 : Int), e72 = Ending.returned (Value.tuple #[Value.slice p74 k75 k76, Value.int IntKind.i64 n77]) ∧ ∀ (x78 : List Value → World → Prop), (∀ (b79 : Bool) (w80 : World), (∀ (x81 : Nat → Value), ∃ (c82 : Array Value), cellsW w80 (Addr.mk k66 0 none) 5 = some c82 ∧ Calls Tryz.prog 8 #[Value.pointer (some (Addr.mk k17 0 none)), Value.agg c82] w80 fun (e83 : Ending) (w84 : World) => e83 = Ending.returned (Value.tuple #[]) ∧ Calls Tryz.prog 9 #[Value.pointer p16] w84 fun (e85 : Ending) (w86 : World) => ∃ (p87 : Option Addr), ∃ (k88 : Nat), ∃ (k89 : Nat), ∃ (n90 : Int), ∃ (n91 : Int), e85 = Ending.returned (Value.tuple #[Value.slice p87 k88 k89, Value.int IntKind.i64 n90, Value.int IntKind.i64 n91]) ∧ Calls Tryz.prog 10 #[Value.slice p87 k88 k89] w86 fun (e92 : Ending) (w93 : World) => ∃ (p94 : Option Addr), ∃ (k95 : Nat), ∃ (k96 : Nat), ∃ (n97 : Int), e92 = Ending.returned (Value.tuple #[Value.slice p94 k95 k96, Value.int IntKind.i64 n97]) ∧ ∀ (x98 : List Value → World → Prop), (∀ (b99 : Bool) (w100 : World), (∀ (x101 : Nat → Value), ∃ (x102 : List Value → World → Prop), ∃ (x103 : List Value → World → Nat), x102 [Value.bool b99, Value.int IntKind.i64 0] w100 ∧ ∀ (b104 : Bool) (n105 : Int) (w106 : World) (x107 : Nat → Value), x102 [Value.bool b104, Value.int IntKind.i64 n105] w106 → Br (decide (n105 < (↑k95 : Int))) ((0 : Int) ≤ n105 ∧ n105 < (↑k95 : Int) ∧ ∃ (k109 : Nat), ∃ (k110 : Nat), p94 = some (Addr.mk k109 k110 none) ∧ ∃ (s111 : ByteArray), w106.cell? (Addr.mk k109 (k110 + n105.toNat * 1) none) = some (Value.string s111) ∧ ∃ (a112 : Addr), some (Addr.mk k17 0 none) = some a112 ∧ ∃ (p113 : Option Addr), ∃ (k114 : Nat), ∃ (k115 : Nat), w106.cell? a112 = some (Value.slice p113 k114 k115) ∧ (0 : Int) ≤ n105 ∧ n105 < (↑k114 : Int) ∧ ∃ (k116 : Nat), ∃ (k117 : Nat), p113 = some (Addr.mk k116 k117 none) ∧ ∃ (p118 : Option Addr), ∃ (k119 : Nat), ∃ (k120 : Nat), w106.cell? (Addr.mk k116 (k117 + n105.toNat * 1) none) = some (Value.slice p118 k119 k120) ∧ ∃ (s121 : ByteArray), (∀ (w122 : World), Below w106.1.size w106 w122 → Calls Tryz.prog 12 #[Value.slice p118 k119 k120] w122 fun (e123 : Ending) (w124 : World) => ∃ (s125 : ByteArray), e123 = Ending.returned (Value.string s125) ∧ Below w122.1.size w122 w124 ∧ Value.string s125 = Value.string s121) ∧ ∀ (w126 : World), Below w106.1.size w106 w126 → Br (!ByteArray.toList.loop s111 0 [] == ByteArray.toList.loop s121 0 []) (R (Ending.returned (Value.bool false)) w126) (inInt (n105 + 1) ∧ x102 [Value.bool b104, Value.int IntKind.i64 (n105 + 1)] w126 ∧ x103 [Value.bool b104, Value.int IntKind.i64 (n105 + 1)] w126 < x103 [Value.bool b104, Value.int IntKind.i64 n105] w106)) (inInt (n57 + 1) ∧ x54 [Value.bool b104, Value.int IntKind.i64 (n57 + 1)] w106 ∧ x55 [Value.bool b104, Value.int IntKind.i64 (n57 + 1)] w106 < x55 [Value.bool b56, Value.int IntKind.i64 n57] w58)) → x98 [Value.bool b99] w100) → Br (n91 != 0) (∀ (w128 : World), Below w93.1.size w93 w128 → R (Ending.returned (Value.bool false)) w128) (Br (n97 != 0) (∀ (w129 : World), Below w93.1.size w93 w129 → R (Ending.returned (Value.bool false)) w129) (Br (n90 != 0) (∀ (w130 : World), Below w93.1.size w93 w130 → R (Ending.returned (Value.bool false)) w130) (∃ (a131 : Addr), some (Addr.mk k17 0 none) = some a131 ∧ ∃ (p132 : Option Addr), ∃ (k133 : Nat), ∃ (k134 : Nat), w93.cell? a131 = some (Value.slice p132 k133 k134) ∧ Br ((↑k95 : Int) != (↑k133 : Int)) (∀ (w135 : World), Below w93.1.size w93 w135 → R (Ending.returned (Value.bool false)) w135) (∃ (a136 : Addr), some (Addr.mk k17 0 none) = some a136 ∧ ∃ (c137 : Array Value), cellsW w93 (Addr.mk a136.block (a136.off + 3) none) 3 = some c137 ∧ ∃ (x138 : Value → Prop), ∃ (x139 : Value → World → Prop), (∀ (v140 : Value), Grows (x139 v140)) ∧ (∀ (w141 : World), Below w93.1.size w93 w141 → Calls Tryz.prog 11 #[Value.pointer p16] w141 fun (e142 : Ending) (w143 : World) => ∃ (c144 : Array Value), e142 = Ending.returned (Value.agg c144) ∧ Below w141.1.size w141 w143 ∧ x138 (Value.agg c144) ∧ x139 (Value.agg c144) w143) ∧ ∀ (c145 : Array Value), x138 (Value.agg c145) → ∃ (b146 : Bool), Is Tryz.prog (Op.equal 30 (Value.agg (c145.extract 5 8)) (Value.agg c137)) b146 ∧ ∀ (w147 : World), Below w93.1.size w93 w147 ∧ x139 (Value.agg c145) w147 → Br (!b146) (R (Ending.returned (Value.bool false)) w147) (x98 [Value.bool b79] w147)))))) → x78 [Value.bool b79] w80) → Br (n77 != 0) (R (Ending.returned (Value.bool false)) w73) (∃ (s148 : ByteArray), ∃ (w149 : World), Runs Tryz.prog (convert 22 9 (Value.slice p74 k75 k76)) w73 (Value.string s148) w149 ∧ Calls Tryz.prog 7 #[Value.pointer p16, Value.string s148] w149 fun (e150 : Ending) (w151 : World) => ∃ (n152 : Int), e150 = Ending.returned (Value.int IntKind.i64 n152) ∧ Br (decide (n152 < 0)) (R (Ending.returned (Value.bool false)) w151) (x78 [Value.bool b56] w151))) (R (Ending.returned (Value.bool true)) w58)))) → x6 [Value.int IntKind.i64 n7, Value.int IntKind.i64 n8, Value.slice p9 k10 k11] w12) → Br (decide (n1 < 1)) (∀ (k153 : Nat) (w154 : World), New w (Obj.cells #[Value.int IntKind.u8 10, Value.int IntKind.u8 27, Value.int IntKind.u8 44, Value.int IntKind.u8 61, Value.int IntKind.u8 78, Value.int IntKind.u8 0, Value.int IntKind.u8 95, Value.int IntKind.u8 5, Value.int IntKind.u8 10, Value.int IntKind.u8 7, Value.int IntKind.u8 27, Value.int IntKind.u8 6, Value.int IntKind.u8 3, Value.int IntKind.u8 44, Value.int IntKind.u8 5, Value.int IntKind.u8 5, Value.int IntKind.u8 8, Value.int IntKind.u8 61] 5) k153 w154 → ∃ (p155 : Option Addr), ∃ (k156 : Nat), ∃ (k157 : Nat), ∃ (w158 : World), Runs Tryz.prog (convert 22 22 (Value.slice (some (Addr.mk k153 0 none)) 18 18)) w154 (Value.slice p155 k156 k157) w158 ∧ x6 [Value.int IntKind.i64 2, Value.int IntKind.i64 4, Value.slice p155 k156 k157] w158) (Br (decide (n1 > 6)) (∀ (k159 : Nat) (w160 : World), New w (Obj.cells #[Value.int IntKind.u8 10, Value.int IntKind.u8 27, Value.int IntKind.u8 44, Value.int IntKind.u8 61, Value.int IntKind.u8 78, Value.int IntKind.u8 0, Value.int IntKind.u8 95, Value.int IntKind.u8 5, Value.int IntKind.u8 10, Value.int IntKind.u8 7, Value.int IntKind.u8 27, Value.int IntKind.u8 6, Value.int IntKind.u8 3, Value.int IntKind.u8 44, Value.int IntKind.u8 5, Value.int IntKind.u8 5, Value.int IntKind.u8 8, Value.int IntKind.u8 61] 5) k159 w160 → ∃ (p161 : Option Addr), ∃ (k162 : Nat), ∃ (k163 : Nat), ∃ (w164 : World), Runs Tryz.prog (convert 22 22 (Value.slice (some (Addr.mk k159 0 none)) 18 18)) w160 (Value.slice p161 k162 k163) w164 ∧ x6 [Value.int IntKind.i64 2, Value.int IntKind.i64 4, Value.slice p161 k162 k163] w164) (Br (decide (n2 < 1)) (∀ (k165 : Nat) (w166 : World), New w (Obj.cells #[Value.int IntKind.u8 10, Value.int IntKind.u8 27, Value.int IntKind.u8 44, Value.int IntKind.u8 61, Value.int IntKind.u8 78, Value.int IntKind.u8 0, Value.int IntKind.u8 95, Value.int IntKind.u8 5, Value.int IntKind.u8 10, Value.int IntKind.u8 7, Value.int IntKind.u8 27, Value.int IntKind.u8 6, Value.int IntKind.u8 3, Value.int IntKind.u8 44, Value.int IntKind.u8 5, Value.int IntKind.u8 5, Value.int IntKind.u8 8, Value.int IntKind.u8 61] 5) k165 w166 → ∃ (p167 : Option Addr), ∃ (k168 : Nat), ∃ (k169 : Nat), ∃ (w170 : World), Runs Tryz.prog (convert 22 22 (Value.slice (some (Addr.mk k165 0 none)) 18 18)) w166 (Value.slice p167 k168 k169) w170 ∧ x6 [Value.int IntKind.i64 2, Value.int IntKind.i64 4, Value.slice p167 k168 k169] w170) (Br (decide (n2 > 16)) (∀ (k171 : Nat) (w172 : World), New w (Obj.cells #[Value.int IntKind.u8 10, Value.int IntKind.u8 27, Value.int IntKind.u8 44, Value.int IntKind.u8 61, Value.int IntKind.u8 78, Value.int IntKind.u8 0, Value.int IntKind.u8 95, Value.int IntKind.u8 5, Value.int IntKind.u8 10, Value.int IntKind.u8 7, Value.int IntKind.u8 27, Value.int IntKind.u8 6, Value.int IntKind.u8 3, Value.int IntKind.u8 44, Value.int IntKind.u8 5, Value.int IntKind.u8 5, Value.int IntKind.u8 8, Value.int IntKind.u8 61] 5) k171 w172 → ∃ (p173 : Option Addr), ∃ (k174 : Nat), ∃ (k175 : Nat), ∃ (w176 : World), Runs Tryz.prog (convert 22 22 (Value.slice (some (Addr.mk k171 0 none)) 18 18)) w172 (Value.slice p173 k174 k175) w176 ∧ x6 [Value.int IntKind.i64 2, Value.int IntKind.i64 4, Value.slice p173 k174 k175] w176) (Br (decide ((↑k4 : Int) > 80)) (∀ (k177 : Nat) (w178 : World), New w (Obj.cells #[Value.int IntKind.u8 10, Value.int IntKind.u8 27, Value.int IntKind.u8 44, Value.int IntKind.u8 61, Value.int IntKind.u8 78, Value.int IntKind.u8 0, Value.int IntKind.u8 95, Value.int IntKind.u8 5, Value.int IntKind.u8 10, Value.int IntKind.u8 7, Value.int IntKind.u8 27, Value.int IntKind.u8 6, Value.int IntKind.u8 3, Value.int IntKind.u8 44, Value.int IntKind.u8 5, Value.int IntKind.u8 5, Value.int IntKind.u8 8, Value.int IntKind.u8 61] 5) k177 w178 → ∃ (p179 : Option Addr), ∃ (k180 : Nat), ∃ (k181 : Nat), ∃ (w182 : World), Runs Tryz.prog (convert 22 22 (Value.slice (some (Addr.mk k177 0 none)) 18 18)) w178 (Value.slice p179 k180 k181) w182 ∧ x6 [Value.int IntKind.i64 2, Value.int IntKind.i64 4, Value.slice p179 k180 k181] w182) (x6 [Value.int IntKind.i64 n1, Value.int IntKind.i64 n2, Value.slice p3 k4 k5] w)))))
theorem r3 (n1 : Int) (n2 : Int) (p3 : Option Addr) (k4 : Nat) (k5 : Nat) (w : World) (R : Ending → World → Prop) (h : V3 n1 n2 p3 k4 k5 w R) : Calls Tryz.prog 3 #[Value.int IntKind.i64 n1, Value.int IntKind.i64 n2, Value.slice p3 k4 k5] w R := by
  refine calls_of_codeX (drawXg_ok true effs mixed) Tryz.func3 rfl Tryz.ntmps3 (Nat.le_of_ble_eq_true rfl) ?_
  refine Eq.mp (α := V3 n1 n2 p3 k4 k5 w R) ?_ h
  kernel_rfl

end Go.Proofs

namespace Go.Proofs
open Go Go.X Go.RowKit
set_option linter.unusedVariables false
set_option linter.unusedSimpArgs false
set_option maxRecDepth 100000

/-- A way that is not taken makes no memory that was there another. -/
def colZ : Array Value := #[.int .i64 0, .int .u8 0, .int .u8 0, .int .u8 0, .int .u8 0]
def penZ : Array Value := #[.int .i64 0, .int .u8 0, .int .u8 0, .int .u8 0, .int .u8 0, .int .i64 0, .int .u8 0, .int .u8 0, .int .u8 0, .int .u8 0, .int .u8 0]
def celL (r : Int) : List Value := [.int .i32 r, .int .i32 0, .int .i32 0, .int .i32 0, .int .i64 1, .int .i64 0, .int .u8 0, .int .u8 0, .int .u8 0, .int .u8 0, .int .i64 0, .int .u8 0, .int .u8 0, .int .u8 0, .int .u8 0, .int .u8 0]
def cel (r : Int) : Array Value := (celL r).toArray

theorem isEq54 : Is Tryz.prog (Op.equal 54 (.agg colZ) (.agg colZ)) true := by
  unfold Is
  kernel_rfl

theorem c222 (w : World) : Calls Tryz.prog 222 #[.agg colZ] w fun e w' => e = .returned (.bool true) ∧ Chg Non w w' := by
  refine r222 _ _ _ ?_
  unfold V222
  refine all_new ?_
  simp only [cell?_blk, blk_alloc_new, at?_cells, colZ, List.getElem?_toArray, List.getElem?_cons_zero, Option.some.injEq, Value.int.injEq, true_and, exists_eq_left', beq_self_eq_true, br_true, cellsW_blk, row?_cells]
  refine ⟨colZ, rfl, true, isEq54, rfl, (Chg.refl _ _).alloc _⟩

theorem c162 (w : World) : Calls Tryz.prog 162 #[.agg penZ] w fun e w' => e = .returned (.bool true) ∧ Chg Non w w' := by
  refine r162 _ _ _ ?_
  unfold V162
  refine all_new ?_
  refine ⟨colZ, ?_, ?_⟩
  · simp only [cellsW_blk, blk_alloc_new, row?_cells]; rfl
  refine Calls.then (c222 _) ?_
  rintro e w1 ⟨rfl, h1⟩
  refine ⟨true, rfl, ?_⟩
  rw [br_true]
  have hb : blk w1 w.heap.size = some (.cells penZ 57) := by rw [h1.block _ (by rw [size_alloc]; omega) (fun x => x), blk_alloc_new]
  refine ⟨colZ, ?_, ?_⟩
  · simp only [cellsW_blk, hb, row?_cells]; rfl
  refine Calls.then (c222 _) ?_
  rintro e w2 ⟨rfl, h2⟩
  exact ⟨true, rfl, rfl, ((Chg.refl _ _).alloc _).trans (h1.trans h2)⟩

theorem c116 (w : World) : Calls Tryz.prog 116 #[.agg penZ] w fun e w' => e = .returned (.agg (cel 0)) ∧ Chg Non w w' := by
  refine r116 _ _ _ ?_
  unfold V116
  refine all_new ?_
  refine all_new ?_
  refine ⟨penZ, ?_, rfl, rfl, rfl, ?_, all_puts ?_⟩
  · simp (disch := simp [size_alloc]) only [cellsW_blk, blk_alloc_ne, blk_alloc_new, row?_cells]; rfl
  · rw [freeW_iff, blk_alloc_new, free?_cells]; exact Nat.le_refl 16
  refine ⟨cel 0, ?_, rfl, ?_⟩
  · simp only [catA, penZ, putCells_cons, putCells_nil, List.drop_succ_cons, List.drop_zero, List.cons_append, List.nil_append, cellsW_blk, blk_setCell, blk_alloc_new, map_setO_cells, row?_cells]
    rfl
  · simp only [catA, penZ, putCells_cons, putCells_nil, List.drop_succ_cons, List.drop_zero, List.cons_append, List.nil_append]
    repeat' (refine Chg.setCell ?_ _ (.inl ?_))
    all_goals first | (simp [size_alloc]; done) | skip
    exact ((Chg.refl _ _).alloc _).alloc _
end Go.Proofs

namespace Go.Proofs
open Go Go.X Go.RowKit
set_option linter.unusedVariables false
set_option linter.unusedSimpArgs false
set_option maxRecDepth 100000

theorem c233 (lo hi r : Int) (w : World) (h1 : r < lo) (h2 : r ≤ hi) : Calls Tryz.prog 233 #[.agg #[.int .i32 lo, .int .i32 hi], .int .i32 r] w fun e w' => e = .returned (.int .i64 1) ∧ Chg Non w w' := by
  refine r233 _ _ _ _ ?_
  unfold V233
  refine all_new ?_
  refine ⟨by decide, by decide, w.heap.size, 0, rfl, hi, ?_, ?_⟩
  · rw [cell?_blk, blk_alloc_new]; rfl
  refine br_dec (fun h => absurd h (by omega)) fun _ => ?_
  refine ⟨by decide, by decide, w.heap.size, 0, rfl, lo, ?_, ?_⟩
  · rw [cell?_blk, blk_alloc_new]; rfl
  exact br_dec (fun _ => ⟨rfl, (Chg.refl _ _).alloc _⟩) fun h => absurd h (by omega)

/-- Ranges that all begin behind a rune. -/
def Behind (c : Array Value) (n : Nat) (r : Int) : Prop := ∀ i, i < n → ∃ lo hi : Int, c.extract (i * 2) (i * 2 + 2) = #[.int .i32 lo, .int .i32 hi] ∧ r < lo ∧ r ≤ hi

theorem wrap64 {n : Int} (h0 : 0 ≤ n) (h1 : n < 100000) : IntKind.u64.wrap n = n := by
  simp only [IntKind.wrap]
  first
    | exact Int.emod_eq_of_lt h0 (by decide +revert)
    | (simp [IntKind.bits]; omega)
    | skip

theorem c232 (b n : Nat) (r : Int) (w : World) (c : Array Value) (T : TypeId) (hb : blk w b = some (.cells c T)) (hs : n * 2 ≤ c.size) (hn : n ≤ 1000) (hc : Behind c n r) :
    Calls Tryz.prog 232 #[.slice (some ⟨b, 0, none⟩) n n, .int .i32 r, .func (.func 233) #[] #[]] w fun e w' => e = .returned (.tuple #[.int .i64 0, .bool false]) ∧ Chg Non w w' := by
  refine r232_233 _ _ _ _ _ _ ?_
  unfold V232_233
  refine ⟨fun vs w' => Chg Non w w' ∧ ∃ j : Int, vs = [.int .i64 0, .int .i64 j] ∧ 0 ≤ j ∧ j ≤ n, fun vs _ => match vs with | [_, .int _ j] => j.toNat | _ => 0, ⟨Chg.refl _ _, n, rfl, by omega, by omega⟩, ?_⟩
  rintro n8 n9 w1 _ ⟨h1, j, hj, hj0, hjn⟩
  simp only [List.cons.injEq, Value.int.injEq, true_and, and_true] at hj
  obtain ⟨rfl, rfl⟩ := hj
  have hb1 : blk w1 b = some (.cells c T) := by rw [h1.block _ (blk_lt hb) (fun x => x)]; exact hb
  refine br_dec (fun hlt => ?_) fun hge => ?_
  · have hw : IntKind.u64.wrap (0 + n9) = n9 := by rw [Int.zero_add]; exact wrap64 hj0 (by omega)
    have hd : n9.fdiv (2 ^ 1) = n9 / 2 := by rw [show (2 : Int) ^ 1 = 2 from rfl]; exact Int.fdiv_eq_ediv_of_nonneg _ (by decide)
    rw [hw, hd]
    have hk : (n9 / 2).toNat < n := by omega
    obtain ⟨lo, hi, he, hl, hh⟩ := hc _ hk
    refine ⟨by unfold inInt; omega, by unfold inInt; omega, by omega, by omega, b, 0, rfl, #[.int .i32 lo, .int .i32 hi], ?_, ?_⟩
    · rw [Nat.zero_add, cellsW_blk, hb1, row?_cells, if_pos (by omega), he]
    refine Calls.then (c233 lo hi r _ hl hh) ?_
    rintro e w2 ⟨rfl, h2⟩
    refine ⟨1, rfl, br_dec (fun h => absurd h (by decide)) fun _ => ?_⟩
    refine ⟨⟨h1.trans h2, _, rfl, by omega, by omega⟩, ?_⟩
    show (n9 / 2).toNat < n9.toNat
    omega
  · have h9 : n9 = 0 := by omega
    refine br_dec (fun hlt => ?_) fun hge => ⟨rfl, h1⟩
    have hk : 0 < n := by omega
    obtain ⟨lo, hi, he, hl, hh⟩ := hc 0 hk
    refine ⟨by omega, by omega, b, 0, rfl, #[.int .i32 lo, .int .i32 hi], ?_, ?_⟩
    · have : (0 : Nat) + (0 : Int).toNat * 2 = 0 := rfl
      rw [this, cellsW_blk, hb1, row?_cells, if_pos (by omega)]
      simpa using he
    refine Calls.then (c233 lo hi r _ hl hh) ?_
    rintro e w2 ⟨rfl, h2⟩
    exact ⟨1, rfl, rfl, h1.trans h2⟩

theorem c174 (b n : Nat) (r : Int) (w : World) (c : Array Value) (T : TypeId) (hb : blk w b = some (.cells c T)) (hs : n * 2 ≤ c.size) (hn : n ≤ 1000) (hc : Behind c n r) :
    Calls Tryz.prog 174 #[.slice (some ⟨b, 0, none⟩) n n, .int .i32 r] w fun e w' => e = .returned (.bool false) ∧ Chg Non w w' := by
  refine r174 _ _ _ _ _ _ ?_
  refine Calls.then (c232 b n r w c T hb hs hn hc) ?_
  rintro e w1 ⟨rfl, h1⟩
  exact ⟨0, false, rfl, rfl, h1⟩
end Go.Proofs

namespace Go.Proofs
open Go Go.X Go.RowKit
set_option linter.unusedVariables false
set_option linter.unusedSimpArgs false
set_option maxRecDepth 100000

def rngL (l : List (Int × Int)) : List Value := l.flatMap fun p => [.int .i32 p.1, .int .i32 p.2]
def rngC (l : List (Int × Int)) : Array Value := (rngL l).toArray
theorem rngL_length : ∀ l, (rngL l).length = l.length * 2
  | [] => rfl
  | p :: l => by have := rngL_length l; simp only [rngL, List.flatMap_cons, List.length_append, List.length_cons, List.length_nil] at *; omega
theorem rng_at : ∀ (l : List (Int × Int)) (i : Nat) (h : i < l.length), ((rngL l).drop (i * 2)).take 2 = [.int .i32 l[i].1, .int .i32 l[i].2]
  | [], i, h => by simp at h
  | p :: l, 0, h => by simp [rngL]
  | p :: l, i + 1, h => by
    have := rng_at l i (by simpa using h)
    rw [show (i + 1) * 2 = i * 2 + 2 by omega]
    simpa [rngL] using this
theorem behind_rng {l : List (Int × Int)} {r : Int} (h : ∀ p ∈ l, r < p.1 ∧ r ≤ p.2) : Behind (rngC l) l.length r := by
  intro i hi
  refine ⟨l[i].1, l[i].2, ?_, h _ (List.getElem_mem hi)⟩
  unfold rngC
  have := rng_at l i hi
  simp only [List.extract_toArray, List.extract_eq_take_drop]
  rw [show i * 2 + 2 - i * 2 = 2 by omega, this]

def marksR : List (Int × Int) := [(0x300, 0x36f), (0x483, 0x489), (0x591, 0x5bd), (0x610, 0x61a), (0x64b, 0x65f), (0x6d6, 0x6dc), (0xe31, 0xe31), (0xe34, 0xe3a), (0xe47, 0xe4e), (0x1ab0, 0x1aff), (0x1dc0, 0x1dff), (0x200b, 0x200f), (0x20d0, 0x20ff), (0x302a, 0x302f), (0x3099, 0x309a), (0xfe00, 0xfe0f), (0xfe20, 0xfe2f), (0xe0100, 0xe01ef)]
def wideR : List (Int × Int) := [(0x1100, 0x115f), (0x2329, 0x232a), (0x2e80, 0x3029), (0x3030, 0x303e), (0x3041, 0x3098), (0x309b, 0x33ff), (0x3400, 0x4dbf), (0x4e00, 0xa4cf), (0xa960, 0xa97f), (0xac00, 0xd7a3), (0xf900, 0xfaff), (0xfe30, 0xfe6f), (0xff00, 0xff60), (0xffe0, 0xffe6), (0x1f300, 0x1f64f), (0x1f680, 0x1f6ff), (0x1f900, 0x1f9ff), (0x20000, 0x2fffd), (0x30000, 0x3fffd)]

/-- What package variables hold. -/
structure Glob (w : World) : Prop where
  marks : ∃ T, blk w 1 = some (.cells (rngC marksR) T)
  wide : ∃ T, blk w 2 = some (.cells (rngC wideR) T)

theorem Glob.next {w w' : World} {F : Nat → Prop} (g : Glob w) (h : Chg F w w') (h1 : ¬ F 1) (h2 : ¬ F 2) : Glob w' := by
  obtain ⟨⟨T, hm⟩, ⟨T', hw⟩⟩ := g
  exact ⟨⟨T, by rw [h.block _ (blk_lt hm) h1]; exact hm⟩, ⟨T', by rw [h.block _ (blk_lt hw) h2]; exact hw⟩⟩
theorem Glob.non {w w' : World} (g : Glob w) (h : Chg Non w w') : Glob w' := g.next h (fun x => x) (fun x => x)

theorem c131 (r : Int) (w : World) (g : Glob w) (h1 : 32 ≤ r) (h2 : r ≤ 126) : Calls Tryz.prog 131 #[.int .i32 r] w fun e w' => e = .returned (.int .i64 1) ∧ Chg Non w w' := by
  refine r131 _ _ _ ?_
  unfold V131
  intro K hK
  refine br_dec (fun h => absurd h (by omega)) fun _ => br_dec (fun h => absurd h (by omega)) fun _ => br_dec (fun h => absurd h (by omega)) fun _ => br_dec (fun h => absurd h (by omega)) fun _ => ?_
  refine ⟨_, rfl, ?_⟩
  obtain ⟨T, hm⟩ := g.marks
  refine Calls.then (c174 1 18 r w _ _ hm (by unfold rngC; rw [List.size_toArray, rngL_length]; decide) (by decide) (behind_rng ?_)) ?_
  · intro p hp; revert p; simp only [marksR, List.forall_mem_cons]; refine ⟨?_, ?_, ?_, ?_, ?_, ?_, ?_, ?_, ?_, ?_, ?_, ?_, ?_, ?_, ?_, ?_, ?_, ?_, ?_⟩ <;> first | omega | (intro p hp; cases hp)
  rintro e w1 ⟨rfl, k1⟩
  refine ⟨false, rfl, ?_⟩
  rw [br_false]
  refine ⟨_, rfl, ?_⟩
  obtain ⟨T', hw⟩ := (g.non k1).wide
  refine Calls.then (c174 2 19 r w1 _ _ hw (by unfold rngC; rw [List.size_toArray, rngL_length]; decide) (by decide) (behind_rng ?_)) ?_
  · intro p hp; revert p; simp only [wideR, List.forall_mem_cons]; refine ⟨?_, ?_, ?_, ?_, ?_, ?_, ?_, ?_, ?_, ?_, ?_, ?_, ?_, ?_, ?_, ?_, ?_, ?_, ?_, ?_⟩ <;> first | omega | (intro p hp; cases hp)
  rintro e w2 ⟨rfl, k2⟩
  refine ⟨false, rfl, ?_⟩
  rw [br_false]
  exact hK 0 w2 fun _ => ⟨rfl, k1.trans k2⟩
end Go.Proofs

namespace Go.Proofs
open Go Go.X Go.RowKit
set_option linter.unusedVariables false
set_option linter.unusedSimpArgs false
set_option maxRecDepth 100000

/-- Runes of the cells that are spoken of: none, or a printed one of ASCII. -/
def Ru (r : Int) : Prop := r = 0 ∨ (32 ≤ r ∧ r ≤ 126)

theorem isEq147 : Is Tryz.prog (Op.equal 147 (.agg #[.int .i32 0, .int .i32 0, .int .i32 0]) (.agg #[.int .i32 0, .int .i32 0, .int .i32 0])) true := by
  unfold Is
  kernel_rfl

theorem c115 (r : Int) (w : World) (g : Glob w) (hr : Ru r) : Calls Tryz.prog 115 #[.agg (cel r)] w fun e w' => e = .returned (.bool true) ∧ Chg Non w w' := by
  refine r115 _ _ _ ?_
  unfold V115
  refine all_new ?_
  have hb0 : blk (w.alloc (.cells (cel r) 149)) w.heap.size = some (.cells (cel r) 149) := blk_alloc_new _ _
  refine ⟨penZ, ?_, ?_⟩
  · simp only [cellsW_blk, hb0, row?_cells]; rfl
  refine Calls.then (c162 _) ?_
  rintro e w1 ⟨rfl, h1⟩
  have hb : blk w1 w.heap.size = some (.cells (cel r) 149) := by rw [h1.block _ (by rw [size_alloc]; omega) (fun x => x), hb0]
  have k1 : Chg Non w w1 := ((Chg.refl _ _).alloc _).trans h1
  refine ⟨true, rfl, ?_⟩
  simp only [Bool.not_true, br_false]
  refine ⟨r, by rw [cell?_blk, hb]; rfl, ?_⟩
  rcases hr with rfl | hr
  · simp only [beq_self_eq_true, br_true]
    refine ⟨1, by rw [cell?_blk, hb]; rfl, ?_⟩
    rw [show ((1 : Int) == 0) = false from rfl, br_false]
    refine ⟨1, by rw [cell?_blk, hb]; rfl, ?_⟩
    simp only [beq_self_eq_true, br_true]
    refine ⟨#[.int .i32 0, .int .i32 0, .int .i32 0], ?_, true, isEq147, rfl, k1⟩
    rw [cellsW_blk, hb]; rfl
  · rw [show (r == 0) = false by simp; omega, br_false]
    refine ⟨#[.int .i32 0, .int .i32 0, .int .i32 0], by rw [cellsW_blk, hb]; rfl, ?_⟩
    refine ⟨fun vs w' => w' = w1 ∧ ∃ (b : Bool) (i : Int), vs = [.bool b, .int .i64 i] ∧ 0 ≤ i ∧ i ≤ 3, fun vs _ => match vs with | [_, .int _ j] => (3 - j).toNat | _ => 0, ⟨rfl, false, 0, rfl, by omega, by omega⟩, ?_⟩
    rintro b n w2 _ ⟨rfl, b', i, hj, hj0, hjn⟩
    simp only [List.cons.injEq, Value.int.injEq, Value.bool.injEq, true_and, and_true] at hj
    obtain ⟨rfl, rfl⟩ := hj
    refine br_dec (fun hlt => ?_) fun hge => ?_
    · intro K hK
      refine ⟨by omega, by omega, 0, ?_, ?_⟩
      · have : n = 0 ∨ n = 1 ∨ n = 2 := by omega
        rcases this with rfl | rfl | rfl <;> rfl
      rw [show ((0 : Int) != 0) = false from rfl, br_false]
      refine hK _ _ fun _ => ⟨by unfold inInt; omega, ⟨rfl, _, _, rfl, by omega, by omega⟩, ?_⟩
      show (3 - (n + 1)).toNat < (3 - n).toNat
      omega
    · refine ⟨1, by rw [cell?_blk, hb]; rfl, ?_⟩
      rw [show (decide ((1 : Int) > 0)) = true from rfl, br_true]
      refine ⟨1, by rw [cell?_blk, hb]; rfl, r, by rw [cell?_blk, hb]; rfl, 1, ?_, ?_⟩
      · intro w3 h3
        refine Calls.then (c131 r w3 ((g.non k1).non (.of_below h3)) hr.1 hr.2) ?_
        rintro e w4 ⟨rfl, h4⟩
        exact ⟨1, rfl, h4.below, rfl⟩
      · intro w3 h3
        exact ⟨rfl, k1.trans (.of_below h3)⟩
end Go.Proofs

namespace Go.Proofs
open Go Go.X Go.RowKit
set_option linter.unusedVariables false
set_option linter.unusedSimpArgs false
set_option maxRecDepth 100000

/-- Cells with these runes stand at the begin of a row. -/
structure CellsIn (c : Array Value) (rs : List Int) : Prop where
  size : rs.length * 16 ≤ c.size
  at_ : ∀ i (h : i < rs.length), c.extract (i * 16) (i * 16 + 16) = cel rs[i]
  ok : ∀ r ∈ rs, Ru r

theorem CellsIn.one {c : Array Value} {rs : List Int} (h : CellsIn c rs) {i : Nat} (hi : i < rs.length) (j : Nat) (hj : j < 16) : c[i * 16 + j]? = (cel rs[i])[j]? := by
  rw [← h.at_ i hi, Array.getElem?_extract]
  have := h.size
  rw [if_pos (by omega)]

theorem c89 (b : Nat) (rs : List Int) (w : World) (c : Array Value) (T : TypeId) (k : Nat) (g : Glob w) (hb : blk w b = some (.cells c T)) (hc : CellsIn c rs) (hn : rs.length ≤ 100000) :
    Calls Tryz.prog 89 #[.slice (some ⟨b, 0, none⟩) rs.length k] w fun e w' => e = .returned (.bool true) ∧ Chg Non w w' := by
  refine r89 _ _ _ _ _ ?_
  unfold V89
  refine ⟨fun vs w' => Chg Non w w' ∧ ∃ (b : Bool) (i : Int), vs = [.bool b, .int .i64 i] ∧ 0 ≤ i ∧ i ≤ rs.length, fun vs _ => match vs with | [_, .int _ j] => (rs.length - j).toNat | _ => 0, ⟨Chg.refl _ _, false, 0, rfl, by omega, by omega⟩, ?_⟩
  rintro b6 n w1 _ ⟨h1, b', i, hj, hj0, hjn⟩
  simp only [List.cons.injEq, Value.int.injEq, Value.bool.injEq, true_and, and_true] at hj
  obtain ⟨rfl, rfl⟩ := hj
  have hb1 : blk w1 b = some (.cells c T) := by rw [h1.block _ (blk_lt hb) (fun x => x)]; exact hb
  refine br_dec (fun hlt => ?_) fun hge => ⟨rfl, h1⟩
  intro K hK
  have hk : n.toNat < rs.length := by omega
  have hsz := hc.size
  have hK' : ∀ w2, Chg Non w1 w2 → K [.bool b6] w2 := fun w2 h2 => hK _ _ fun _ => ⟨by unfold inInt; omega, ⟨h1.trans h2, _, _, rfl, by omega, by omega⟩, by
    show ((rs.length : Int) - (n + 1)).toNat < ((rs.length : Int) - n).toNat
    omega⟩
  refine ⟨by omega, by omega, b, 0, rfl, cel rs[n.toNat], ?_, all_new ?_⟩
  · rw [Nat.zero_add, cellsW_blk, hb1, row?_cells, if_pos (by omega), hc.at_ _ hk]
  refine ⟨rfl, rfl, ?_, all_puts ?_⟩
  · rw [freeW_iff, blk_alloc_new, free?_cells]; exact Nat.le_refl 16
  generalize hw2 : putCells _ _ _ = w2
  have hn2 : blk w2 w1.heap.size = some (.cells (cel rs[n.toNat]) 149) := by
    rw [← hw2]; exact putCells_all (blk_alloc_new _ _) rfl
  have h2 : Chg Non w1 w2 := by
    rw [← hw2]; exact ((Chg.refl _ _).alloc _).putCells _ (.inl (Nat.le_refl _))
  have hb2 : blk w2 b = some (.cells c T) := by rw [h2.block _ (blk_lt hb1) (fun x => x)]; exact hb1
  have hv : ∀ w3, Below w2.heap.size w2 w3 → Calls Tryz.prog 115 #[.agg (cel rs[n.toNat])] w3 fun e w4 => ∃ b : Bool, e = .returned (.bool b) ∧ Below w3.heap.size w3 w4 ∧ Value.bool b = Value.bool true := by
    intro w3 h3
    refine Calls.then (c115 _ w3 (((g.non h1).non h2).non (.of_below h3)) (hc.ok _ (List.getElem_mem hk))) ?_
    rintro e w4 ⟨rfl, h4⟩
    exact ⟨true, rfl, h4.below, rfl⟩
  have hcw : cellsW w2 ⟨w1.heap.size, 0, none⟩ 16 = some (cel rs[n.toNat]) := by rw [cellsW_blk, hn2]; rfl
  have hwd : w2.cell? ⟨w1.heap.size, 4, none⟩ = some (.int .i64 1) := by rw [cell?_blk, hn2]; rfl
  refine br_dec (fun hpos => ?_) fun hnp => ?_
  · refine ⟨by unfold inInt; omega, by omega, by omega, b, 0, rfl, 1, ?_, _, hcw, true, hv, ?_⟩
    · have := hc.one (i := (n - 1).toNat) (by omega) 4 (by decide)
      rw [cell?_blk, hb2]
      show c[0 + (n - 1).toNat * 16 + 4]? = _
      rw [Nat.zero_add, this]; rfl
    simp only [Bool.not_true, br_false]
    refine ⟨1, hwd, ?_⟩
    refine br_bool (fun h => absurd h (by decide)) fun _ => ?_
    refine br_bool (fun h => absurd h (by decide)) fun _ => ?_
    refine ⟨1, hwd, br_bool (fun h => absurd h (by decide)) fun _ => ?_⟩
    exact fun w3 h3 => hK' w3 (h2.trans (.of_below h3))
  · refine ⟨_, hcw, true, hv, ?_⟩
    simp only [Bool.not_true, br_false]
    refine ⟨1, hwd, br_bool (fun h => absurd h (by decide)) fun _ => ?_⟩
    refine ⟨1, hwd, br_bool (fun h => absurd h (by decide)) fun _ => ?_⟩
    exact fun w3 h3 => hK' w3 (h2.trans (.of_below h3))
end Go.Proofs

namespace Go.Proofs
open Go Go.X Go.RowKit
set_option linter.unusedVariables false
set_option linter.unusedSimpArgs false
set_option maxRecDepth 100000

theorem c56 (b : Nat) (rs : List Int) (w : World) (c : Array Value) (T : TypeId) (k : Nat) (so : Bool) (g : Glob w) (hb : blk w b = some (.cells c T)) (hc : CellsIn c rs) (hn : rs.length ≤ 1000) :
    Calls Tryz.prog 56 #[.agg #[.slice (some ⟨b, 0, none⟩) rs.length k, .bool so]] w fun e w' => e = .returned (.bool true) ∧ Chg Non w w' := by
  refine r56 _ _ _ ?_
  unfold V56
  refine all_new ?_
  have h1 : Chg Non w (w.alloc (.cells #[.slice (some ⟨b, 0, none⟩) rs.length k, .bool so] 96)) := (Chg.refl _ _).alloc _
  refine ⟨_, _, _, by rw [cell?_blk, blk_alloc_new]; rfl, br_dec (fun _ => ?_) fun h => absurd (by omega) h⟩
  refine ⟨_, _, _, by rw [cell?_blk, blk_alloc_new]; rfl, ?_⟩
  refine Calls.then (c89 b rs _ c T k (g.non h1) (by rw [h1.block _ (blk_lt hb) (fun x => x)]; exact hb) hc (by omega)) ?_
  rintro e w1 ⟨rfl, h2⟩
  exact ⟨true, rfl, rfl, h1.trans h2⟩
end Go.Proofs
