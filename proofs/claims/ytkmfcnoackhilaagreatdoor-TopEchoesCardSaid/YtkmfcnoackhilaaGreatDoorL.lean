/-
Ranges over functions: the ring's copy; strings.Builder; rows of text.
-/
import Derived.Test.YtkmfcnoackhilaaGreatDoorK
import Derived.RangeFuncBox
import Derived.RangeFuncLeaves
import Derived.WalkKit
import Derived.OwnWalkIn
import Derived.TacticsInMore
import Derived.LoopNIn
import Derived.LoopIn
import Derived.Shelf.Abstract
import Derived.Lib.Walk
import Derived.Lib.Builder
import Derived.Lib.UnsafeStr
import Derived.Shelf.RegionOpenPlain
import Derived.Laws.Externs
set_option linter.unusedVariables false
set_option linter.unusedSimpArgs false
namespace Go.Proofs
open Go Go.X Go.RowKit
set_option linter.unusedVariables false
set_option linter.unusedSimpArgs false
attribute [local go_sem] Oper.semAt_some
set_option maxRecDepth 100000 in
set_option maxHeartbeats 2000000 in
theorem it111 (l rg n₀ b len cap : Nat) (xs : List Value) (hx : xs.length = len) (hreach : len ≤ 1000) (hb : b < n₀) (J : Nat → World → Prop) (W : World)
    (hY : ∀ k (hk : k < xs.length) W1, J k W1 → YieldAt Fence.wide 0 Tryz.prog l #[xs[k]] W1 fun e W' => e = .returned (.bool true) ∧ J (k + 1) W' ∧ Below n₀ W1 W')
    (hr : W.cell? ⟨rg, 4, none⟩ = some (.slice (some ⟨b, 0, none⟩) len cap)) (hc : ∀ j (h : j < xs.length), W.cell? ⟨b, j, none⟩ = some xs[j]) (h0 : J 0 W) :
    CallsIn Fence.wide 0 Tryz.prog 111 #[.pointer (some ⟨rg, 0, none⟩), .func (.yield l) #[] #[]] W fun e W' => (∃ v, e = .returned v) ∧ J xs.length W' := by
  refine callsIn_of_wp Tryz.func111 rfl trivial ?_ rfl
  simp only [Tryz.ntmps111, List.size_toArray, List.length_cons, List.length_nil, Nat.reduceAdd, Nat.reduceSub, Array.replicate_succ, Array.replicate_zero, List.push_toArray, List.append_toArray, List.nil_append, List.cons_append]
  gi_wp2
  gi_loopw [11] (fun i wr => ∃ k : Nat, k ≤ len ∧ i = .int .i64 k ∧ J k wr ∧ Below n₀ W wr)
    (fun i _ => len - (intOf i).toNat)
  case atStart => exact ⟨0, Nat.zero_le _, rfl, h0, Below.refl _ _⟩
  case round =>
    obtain ⟨k, hk, rfl, hJs, hnx⟩ := hrel
    by_cases hlt : k < len
    · obtain ⟨fn, tmps, assign, body, hy, hR⟩ := hY k (by omega) wr hJs
      have hcx' : wr.cell? ⟨b, k, none⟩ = some xs[k] := (hnx.cell (p := ⟨b, k, none⟩) hb).trans (hc k (by omega))
      gi_wp2
      refine ⟨rfl, hR.mono ?_⟩
      rintro e W3 ⟨rfl, hJ3, hk3⟩
      gi_wp2
      go_roundw
      case rel => exact ⟨k + 1, by omega, by simp, hJ3, hnx.trans hk3⟩
      case measure => simp [intOf]; omega
    · obtain rfl : k = len := by omega
      gi_wp2
      go_end0
      exact ⟨⟨_, rfl⟩, by rw [hx]; exact hJs⟩
set_option maxRecDepth 100000 in
set_option maxHeartbeats 2000000 in
theorem it111n (l rg : Nat) (J : Nat → World → Prop) (W : World) (hr : W.cell? ⟨rg, 4, none⟩ = some (.slice none 0 0)) (h0 : J 0 W) :
    CallsIn Fence.wide 0 Tryz.prog 111 #[.pointer (some ⟨rg, 0, none⟩), .func (.yield l) #[] #[]] W fun e W' => (∃ v, e = .returned v) ∧ J 0 W' := by
  refine callsIn_of_wp Tryz.func111 rfl trivial ?_ rfl
  simp only [Tryz.ntmps111, List.size_toArray, List.length_cons, List.length_nil, Nat.reduceAdd, Nat.reduceSub, Array.replicate_succ, Array.replicate_zero, List.push_toArray, List.append_toArray, List.nil_append, List.cons_append]
  gi_wp2
  gi_loopw [11] (fun i wr => i = .int .i64 0 ∧ J 0 wr) (fun _ _ => 0)
  case atStart => exact ⟨rfl, h0⟩
  case round =>
    obtain ⟨rfl, hJs⟩ := hrel
    gi_wp2
    go_end0
    exact ⟨⟨_, rfl⟩, hJs⟩

theorem it_pages (w : World) (rg C : Nat) (pv : Value) (ss : List Sht) (h : RingAt w rg C pv ss) (hm : ss.length ≤ 1000) : IterK Tryz.prog 111 #[.pointer (some ⟨rg, 0, none⟩)] (ptrs ss) w.heap.size w := by
  intro l J W hb hY h0
  have hr : RingAt W rg C pv ss := h.non (.of_below hb)
  have hl : (ptrs ss).length = ss.length := by unfold ptrs; simp
  have r4 : W.cell? ⟨rg, 4, none⟩ = some pv := rd1 hr.ring (by rfl)
  rcases hr.pages.2 with ⟨e, hn⟩ | ⟨g, cap, cur, e, _, h3⟩
  · subst e
    have h0l : ss.length = 0 := by simpa using hn
    have hs : ptrs ss = [] := List.length_eq_zero_iff.1 (by omega)
    refine (it111n l rg J W r4 h0).mono ?_
    rintro e W' ⟨a, b⟩
    exact ⟨a, by rw [hs]; exact b⟩
  · subst e
    refine it111 l rg w.heap.size g ss.length cap (ptrs ss) hl hm (own_lt h.pages rfl) J W hY r4 (fun j hj => ?_) h0
    have h4 : cur.toList.take (ss.length * 1) = ptrs ss := h3.2.2.2.2
    refine rd1 (c := cur) h3.1 ?_
    have h5 : (ptrs ss)[j]? = some (ptrs ss)[j] := List.getElem?_eq_getElem hj
    rw [← h5, ← h4, List.getElem?_take_of_lt (by omega)]
    simp
end Go.Proofs

namespace Go.Proofs
open Go Go.X Go.RowKit
set_option linter.unusedVariables false
set_option maxRecDepth 1000000
def P81 (rg : Nat) (w : World) (K : Env → World → Prop) : Prop := Calls Tryz.prog 88 #[Value.pointer (some (Addr.mk rg 0 none))] w fun (e1 : Ending) (w2 : World) => ∃ (b3 : Bool), e1 = Ending.returned (Value.bool b3) ∧ Br b3 False (∃ (a4 : Addr), some (Addr.mk rg 0 none) = some a4 ∧ ∃ (c5 : Array Value), cellsW w2 a4 5 = some c5 ∧ ∀ (k6 : Nat) (w7 : World), New w2 (Obj.cells #[Value.int IntKind.i64 0, Value.int IntKind.i64 0, Value.int IntKind.i64 0, Value.int IntKind.i64 0, Value.slice none 0 0] 189) k6 w7 → c5.size = 5 ∧ OneCells c5 ∧ FreeW w7 (Addr.mk k6 0 none) 5 ∧ ∀ (w8 : World), Puts w7 (Addr.mk k6 0 none) c5.1 w8 → FreeW w8 (Addr.mk k6 4 none) 1 ∧ ∀ (w9 : World), Put w8 (Addr.mk k6 4 none) (Value.slice none 0 0) w9 → K (((((((((((Env.init [Value.pointer (some (Addr.mk rg 0 none))]).set 2 (Value.pointer none)).set 5 (Value.pointer (some (Addr.mk rg 0 none)))).set 6 (Value.bool b3)).set 7 (Value.pointer (some (Addr.mk rg 0 none)))).set 8 (Value.pointer (some a4))).set 9 (Value.agg c5)).set 3 (Value.pointer (some (Addr.mk k6 0 none)))).set 10 (Value.pointer (some (Addr.mk k6 4 none)))).set 11 (Value.pointer (some (Addr.mk rg 0 none)))).set 12 (Value.func (Fn.func 111) #[Value.pointer (some (Addr.mk rg 0 none))] #[])) w9)

def P82 (rg : Nat) (n1 : Int) (n2 : Int) (w : World) (K : Env → World → Prop) : Prop := ∀ (k1 : Nat) (w2 : World), New w (Obj.cells #[Value.int IntKind.i64 n1] 3) k1 w2 → ∀ (k3 : Nat) (w4 : World), New w2 (Obj.cells #[Value.int IntKind.i64 n2] 3) k3 w4 → ∀ (k5 : Nat) (w6 : World), New w4 (Obj.cells #[Value.slice none 0 0] 44) k5 w6 → ∀ (k7 : Nat) (w8 : World), New w6 (Obj.cells #[Value.int IntKind.i64 0] 37) k7 w8 → Calls Tryz.prog 88 #[Value.pointer (some (Addr.mk rg 0 none))] w8 fun (e9 : Ending) (w10 : World) => ∃ (b11 : Bool), e9 = Ending.returned (Value.bool b11) ∧ Br b11 (FreeW w10 (Addr.mk k5 0 none) 1 ∧ ∀ (w12 : World), Put w10 (Addr.mk k5 0 none) (Value.slice none 0 0) w12 → FreeW w12 (Addr.mk k7 0 none) 1 ∧ ∀ (w13 : World), Put w12 (Addr.mk k7 0 none) (Value.int IntKind.i64 1) w13 → False) (∃ (n15 : Int), w10.cell? (Addr.mk k1 0 none) = some (Value.int IntKind.i64 n15) ∧ Br (decide (n15 < 0)) (∀ (w16 : World), Below w10.1.size w10 w16 → FreeW w16 (Addr.mk k5 0 none) 1 ∧ ∀ (w17 : World), Put w16 (Addr.mk k5 0 none) (Value.slice none 0 0) w17 → FreeW w17 (Addr.mk k7 0 none) 1 ∧ ∀ (w18 : World), Put w17 (Addr.mk k7 0 none) (Value.int IntKind.i64 3) w18 → False) (∃ (n19 : Int), w10.cell? (Addr.mk k3 0 none) = some (Value.int IntKind.i64 n19) ∧ ∃ (n20 : Int), w10.cell? (Addr.mk k1 0 none) = some (Value.int IntKind.i64 n20) ∧ Br (decide (n19 < n20)) (∀ (w21 : World), Below w10.1.size w10 w21 → FreeW w21 (Addr.mk k5 0 none) 1 ∧ ∀ (w22 : World), Put w21 (Addr.mk k5 0 none) (Value.slice none 0 0) w22 → FreeW w22 (Addr.mk k7 0 none) 1 ∧ ∀ (w23 : World), Put w22 (Addr.mk k7 0 none) (Value.int IntKind.i64 3) w23 → False) (∃ (n24 : Int), w10.cell? (Addr.mk k3 0 none) = some (Value.int IntKind.i64 n24) ∧ ∃ (a25 : Addr), some (Addr.mk rg 0 none) = some a25 ∧ ∃ (n26 : Int), w10.cell? (Addr.mk a25.block (a25.off + 3) none) = some (Value.int IntKind.i64 n26) ∧ ∀ (w27 : World), Below w10.1.size w10 w27 → Br (decide (n24 > n26)) (FreeW w27 (Addr.mk k5 0 none) 1 ∧ ∀ (w28 : World), Put w27 (Addr.mk k5 0 none) (Value.slice none 0 0) w28 → FreeW w28 (Addr.mk k7 0 none) 1 ∧ ∀ (w29 : World), Put w28 (Addr.mk k7 0 none) (Value.int IntKind.i64 3) w29 → False) (∃ (n31 : Int), w27.cell? (Addr.mk k1 0 none) = some (Value.int IntKind.i64 n31) ∧ ∃ (a32 : Addr), some (Addr.mk rg 0 none) = some a32 ∧ ∃ (n33 : Int), w27.cell? (Addr.mk a32.block (a32.off + 2) none) = some (Value.int IntKind.i64 n33) ∧ ∀ (w34 : World), Below w27.1.size w27 w34 → Br (decide (n31 < n33)) (FreeW w34 (Addr.mk k5 0 none) 1 ∧ ∀ (w35 : World), Put w34 (Addr.mk k5 0 none) (Value.slice none 0 0) w35 → FreeW w35 (Addr.mk k7 0 none) 1 ∧ ∀ (w36 : World), Put w35 (Addr.mk k7 0 none) (Value.int IntKind.i64 14) w36 → False) (∀ (k37 : Nat) (w38 : World), New w34 (Obj.cells #[Value.slice none 0 0] 44) k37 w38 → ∃ (a39 : Addr), some (Addr.mk rg 0 none) = some a39 ∧ ∃ (n40 : Int), w38.cell? (Addr.mk a39.block (a39.off + 2) none) = some (Value.int IntKind.i64 n40) ∧ ∀ (k41 : Nat) (w42 : World), New w38 (Obj.cells #[Value.int IntKind.i64 0] 3) k41 w42 → FreeW w42 (Addr.mk k41 0 none) 1 ∧ ∀ (w43 : World), Put w42 (Addr.mk k41 0 none) (Value.int IntKind.i64 n40) w43 → K ((((((((((((((((((((((((((((((((((((((((((((((((Env.init [Value.pointer (some (Addr.mk rg 0 none)), Value.int IntKind.i64 n1, Value.int IntKind.i64 n2]).set 4 (Value.pointer (some (Addr.mk k1 0 none)))).set 5 (Value.pointer (some (Addr.mk k3 0 none)))).set 6 (Value.pointer (some (Addr.mk k5 0 none)))).set 7 (Value.pointer (some (Addr.mk k7 0 none)))).set 16 (Value.pointer (some (Addr.mk rg 0 none)))).set 17 (Value.bool b11)).set 15 (Value.bool b11)).set 19 (Value.int IntKind.i64 n15)).set 20 (Value.bool (decide (n15 < 0)))).set 21 (Value.bool (decide (n15 < 0)))).set 21 (Value.bool false)).set 22 (Value.int IntKind.i64 n19)).set 21 (Value.bool false)).set 23 (Value.int IntKind.i64 n20)).set 21 (Value.bool false)).set 24 (Value.bool (decide (n19 < n20)))).set 25 (Value.bool (decide (n19 < n20)))).set 26 (Value.bool (decide (n19 < n20)))).set 26 (Value.bool false)).set 27 (Value.int IntKind.i64 n24)).set 26 (Value.bool false)).set 28 (Value.pointer (some (Addr.mk rg 0 none)))).set 26 (Value.bool false)).set 29 (Value.pointer (some a25))).set 26 (Value.bool false)).set 30 (Value.pointer (some (Addr.mk a25.block (a25.off + 3) none)))).set 26 (Value.bool false)).set 31 (Value.int IntKind.i64 n26)).set 26 (Value.bool false)).set 32 (Value.bool (decide (n24 > n26)))).set 33 (Value.bool (decide (n24 > n26)))).set 18 (Value.bool (decide (n24 > n26)))).set 35 (Value.int IntKind.i64 n31)).set 36 (Value.pointer (some (Addr.mk rg 0 none)))).set 37 (Value.pointer (some a32))).set 38 (Value.pointer (some (Addr.mk a32.block (a32.off + 2) none)))).set 39 (Value.int IntKind.i64 n33)).set 40 (Value.bool (decide (n31 < n33)))).set 34 (Value.bool (decide (n31 < n33)))).set 8 (Value.pointer (some (Addr.mk k37 0 none)))).set 41 (Value.pointer (some (Addr.mk rg 0 none)))).set 42 (Value.pointer (some a39))).set 43 (Value.pointer (some (Addr.mk a39.block (a39.off + 2) none)))).set 44 (Value.int IntKind.i64 n40)).set 9 (Value.pointer (some (Addr.mk k41 0 none)))).set 45 (Value.pointer (some (Addr.mk rg 0 none)))).set 46 (Value.func (Fn.func 111) #[Value.pointer (some (Addr.mk rg 0 none))] #[])) w43)))))

def B81 (k : Nat) (x : Nat) (u : Nat → Value) (w : World) (K : World → Prop) : Prop := ∃ (p2 : Option Addr), ∃ (k3 : Nat), ∃ (k4 : Nat), w.cell? (Addr.mk k 4 none) = some (Value.slice p2 k3 k4) ∧ ∃ (x5 : Value → World → Prop), (∀ (v6 : Value), Grows (x5 v6)) ∧ (∀ (w7 : World), Below w.1.size w w7 → Calls Tryz.prog 112 #[Value.pointer (some (Addr.mk x 0 none))] w7 fun (e8 : Ending) (w9 : World) => ∃ (p10 : Option Addr), e8 = Ending.returned (Value.pointer p10) ∧ Below w7.1.size w7 w9 ∧ x5 (Value.pointer p10) w9) ∧ ∀ (p11 : Option Addr), ∃ (x12 : Value → World → Prop), (∀ (v13 : Value), Grows (x12 v13)) ∧ (∀ (w14 : World), Below w.1.size w w14 ∧ x5 (Value.pointer p11) w14 → ∀ (k15 : Nat) (w16 : World), New w14 (Obj.cells #[Value.pointer p11] 212) k15 w16 → Below w14.1.size w14 w16 ∧ x12 (Value.slice (some (Addr.mk k15 0 none)) 1 1) w16) ∧ ∀ (p17 : Option Addr) (k18 k19 : Nat) (w20 : World), (Below w.1.size w w20 ∧ x5 (Value.pointer p11) w20) ∧ x12 (Value.slice p17 k18 k19) w20 → ∃ (p21 : Option Addr), ∃ (k22 : Nat), ∃ (k23 : Nat), ∃ (w24 : World), Runs Tryz.prog (Builtin.append_ #[187, 187] 187 #[Value.slice p2 k3 k4, Value.slice p17 k18 k19]) w20 (Value.slice p21 k22 k23) w24 ∧ FreeW w24 (Addr.mk k 4 none) 1 ∧ ∀ (w25 : World), Put w24 (Addr.mk k 4 none) (Value.slice p21 k22 k23) w25 → K w25

def B82 (b4 : Nat) (b5 : Nat) (b6 : Nat) (b7 : Nat) (b8 : Nat) (b9 : Nat) (x : Nat) (u : Nat → Value) (w : World) (K : World → Prop) : Prop := Calls Tryz.prog 113 #[Value.pointer (some (Addr.mk x 0 none))] w fun (e1 : Ending) (w2 : World) => ∃ (n3 : Int), e1 = Ending.returned (Value.int IntKind.i64 n3) ∧ ∃ (n4 : Int), w2.cell? (Addr.mk b4 0 none) = some (Value.int IntKind.i64 n4) ∧ ∃ (n5 : Int), w2.cell? (Addr.mk b9 0 none) = some (Value.int IntKind.i64 n5) ∧ inInt (n4 - n5) ∧ ∃ (x6 : List Value → World → Prop), ∃ (x7 : List Value → World → Nat), x6 [Value.int IntKind.i64 (max 0 (n4 - n5))] w2 ∧ ∀ (n8 : Int) (w9 : World) (x10 : Nat → Value), x6 [Value.int IntKind.i64 n8] w9 → ∃ (n11 : Int), w9.cell? (Addr.mk b5 0 none) = some (Value.int IntKind.i64 n11) ∧ ∃ (n12 : Int), w9.cell? (Addr.mk b9 0 none) = some (Value.int IntKind.i64 n12) ∧ inInt (n11 - n12) ∧ Br (decide (n8 < min n3 (n11 - n12))) (Calls Tryz.prog 114 #[Value.pointer (some (Addr.mk x 0 none)), Value.int IntKind.i64 n8] w9 fun (e13 : Ending) (w14 : World) => ∃ (c15 : Array Value), ∃ (n16 : Int), e13 = Ending.returned (Value.tuple #[Value.agg c15, Value.int IntKind.i64 n16]) ∧ ∀ (k17 : Nat) (w18 : World), New w14 (Obj.cells #[Value.slice none 0 0, Value.bool false] 96) k17 w18 → c15.size = 2 ∧ OneCells c15 ∧ FreeW w18 (Addr.mk k17 0 none) 2 ∧ ∀ (w19 : World), Puts w18 (Addr.mk k17 0 none) c15.1 w19 → Br (n16 != 0) (FreeW w19 (Addr.mk b6 0 none) 1 ∧ ∀ (w20 : World), Put w19 (Addr.mk b6 0 none) (Value.slice none 0 0) w20 → FreeW w20 (Addr.mk b7 0 none) 1 ∧ ∀ (w21 : World), Put w20 (Addr.mk b7 0 none) (Value.int IntKind.i64 n16) w21 → False) (∃ (p22 : Option Addr), ∃ (k23 : Nat), ∃ (k24 : Nat), w19.cell? (Addr.mk b8 0 none) = some (Value.slice p22 k23 k24) ∧ ∃ (c25 : Array Value), cellsW w19 (Addr.mk k17 0 none) 2 = some c25 ∧ c25.size = 2 ∧ ∀ (k26 : Nat) (w27 : World), New w19 (Obj.cells (Array.mk (catA c25 [])) 96) k26 w27 → ∃ (p28 : Option Addr), ∃ (k29 : Nat), ∃ (k30 : Nat), ∃ (w31 : World), Runs Tryz.prog (Builtin.append_ #[44, 44] 44 #[Value.slice p22 k23 k24, Value.slice (some (Addr.mk k26 0 none)) 1 1]) w27 (Value.slice p28 k29 k30) w31 ∧ FreeW w31 (Addr.mk b8 0 none) 1 ∧ ∀ (w32 : World), Put w31 (Addr.mk b8 0 none) (Value.slice p28 k29 k30) w32 → inInt (n8 + 1) ∧ x6 [Value.int IntKind.i64 (n8 + 1)] w32 ∧ x7 [Value.int IntKind.i64 (n8 + 1)] w32 < x7 [Value.int IntKind.i64 n8] w9)) (∃ (n33 : Int), w9.cell? (Addr.mk b9 0 none) = some (Value.int IntKind.i64 n33) ∧ inInt (n33 + n3) ∧ FreeW w9 (Addr.mk b9 0 none) 1 ∧ ∀ (w34 : World), Put w9 (Addr.mk b9 0 none) (Value.int IntKind.i64 (n33 + n3)) w34 → K w34)


theorem p81 (rg : Nat) (w : World) (K : Env → World → Prop) (h : P81 rg w K) : preX (drawX effs) Tryz.prog 21 [cA (body! Tryz.f81), cA (cB (body! Tryz.f81)), cA (cB (cB (body! Tryz.f81))), cA (cB (cB (cB (body! Tryz.f81)))), cA (cA (cB (cB (cB (cB (body! Tryz.f81))))))] (Env.init [.pointer (some ⟨rg, 0, none⟩)]) w K := by
  refine Eq.mp (α := P81 rg w K) ?_ h
  kernel_rfl
theorem p82 (rg : Nat) (n1 n2 : Int) (w : World) (K : Env → World → Prop) (h : P82 rg n1 n2 w K) : preX (drawX effs) Tryz.prog 80 [cA (body! Tryz.f82), cA (cB (body! Tryz.f82)), cA (cB (cB (body! Tryz.f82))), cA (cB (cB (cB (body! Tryz.f82)))), cA (cA (cB (cB (cB (cB (body! Tryz.f82))))))] (Env.init [.pointer (some ⟨rg, 0, none⟩), .int .i64 n1, .int .i64 n2]) w K := by
  refine Eq.mp (α := P82 rg n1 n2 w K) ?_ h
  kernel_rfl
theorem b81 (k x : Nat) (u : Nat → Value) (w : World) (K : World → Prop) (h : B81 k x u w K) : codeX (drawX effs) Tryz.prog 21 (cR (cI (cB (cA (cB (cB (cB (cB (body! Tryz.f81))))))))) (Env.set (Env.set (Env.gen (Env.init []) (List.range 21) [3] [.pointer (some ⟨k, 0, none⟩)] u) 13 (.pointer (some ⟨x, 0, none⟩))) 4 (.pointer (some ⟨x, 0, none⟩))) w (fun e _ w' => match e with | .normal => K w' | _ => False) := by
  refine Eq.mp (α := B81 k x u w K) ?_ h
  kernel_rfl
theorem b82 (b4 b5 b6 b7 b8 b9 x : Nat) (u : Nat → Value) (w : World) (K : World → Prop) (h : B82 b4 b5 b6 b7 b8 b9 x u w K) : codeX (drawX effs) Tryz.prog 80 (cR (cI (cB (cA (cB (cB (cB (cB (body! Tryz.f82))))))))) (Env.set (Env.set (Env.gen (Env.init []) (List.range 80) [4, 5, 6, 7, 8, 9] [.pointer (some ⟨b4, 0, none⟩), .pointer (some ⟨b5, 0, none⟩), .pointer (some ⟨b6, 0, none⟩), .pointer (some ⟨b7, 0, none⟩), .pointer (some ⟨b8, 0, none⟩), .pointer (some ⟨b9, 0, none⟩)] u) 47 (.pointer (some ⟨x, 0, none⟩))) 10 (.pointer (some ⟨x, 0, none⟩))) w (fun e _ w' => match e with | .normal => K w' | _ => False) := by
  refine Eq.mp (α := B82 b4 b5 b6 b7 b8 b9 x u w K) ?_ h
  kernel_rfl
end Go.Proofs

namespace Go.Proofs
open Go Go.X Go.RowKit
set_option linter.unusedVariables false
set_option linter.unusedSimpArgs false
set_option maxRecDepth 100000

theorem loopV0 (w : World) (R : Ending → World → Prop) (hR : R (.returned (.slice none 0 0)) w) : LoopV none 0 w R := by
  unfold LoopV
  refine ⟨fun vs w' => w' = w ∧ vs = [.slice none 0 0, .int .i64 0], fun _ _ => 0, ⟨rfl, rfl⟩, ?_⟩
  rintro p k1 k2 n w1 _ ⟨rfl, hj⟩
  simp only [List.cons.injEq, Value.slice.injEq, Value.int.injEq, true_and, and_true] at hj
  obtain ⟨⟨rfl, rfl, rfl⟩, rfl⟩ := hj
  exact br_f rfl hR

theorem c161 (w : World) (C : Nat) (s : Sht) (h : ShtAt w C s) (h0 : C ≠ 0) (hC : C ≤ 1000) (hm : s.l.length ≤ 1000) :
    Calls Tryz.prog 161 #[.pointer (some ⟨s.sb, 0, none⟩)] w fun e w' => ∃ v l', e = .returned v ∧ LinesV w' v l' ∧ RowsAt w' C l' ∧ txts l' = txts s.l ∧ (∀ x ∈ l', w.heap.size ≤ x.b) ∧ (∀ g, v.ownBlock = some g → w.heap.size ≤ g) ∧ Chg Non w w' := by
  suffices key : ∀ R : Ending → World → Prop, (∀ w' v l', LinesV w' v l' → RowsAt w' C l' → txts l' = txts s.l → (∀ x ∈ l', w.heap.size ≤ x.b) → (∀ g, v.ownBlock = some g → w.heap.size ≤ g) → Chg Non w w' → R (.returned v) w') → Calls Tryz.prog 161 #[.pointer (some ⟨s.sb, 0, none⟩)] w R from
    key _ fun w' v l' h1 h2 h3 h4 h5 h6 => ⟨v, l', rfl, h1, h2, h3, h4, h5, h6⟩
  intro R hR
  refine r161 _ _ _ ?_
  unfold V161
  refine Calls.then (c160 w s.sb _ h.blk) ?_
  rintro e w1 ⟨rfl, g1⟩
  have hl1 := h.lines.non g1
  have s1 := g1.size
  have hb1 := g1.get h.blk (not_non _)
  rcases hl1.2 with ⟨hv, hn⟩ | ⟨g, cap, cur, hv, _⟩
  · rw [hv] at hb1
    refine ⟨_, rfl, br_f rfl ⟨_, rfl, _, _, _, rd1 hb1 (by rfl), ?_⟩⟩
    have hn' : s.l = [] := List.length_eq_zero_iff.1 (by omega)
    refine loopV0 w1 R (hR w1 _ [] (LinesV.nil _) ⟨by simp, by simp⟩ (by rw [hn']) (by simp) (by intro g hg; cases hg) g1)
  · rw [hv] at hb1 hl1
    refine ⟨_, rfl, br_f rfl ⟨_, rfl, _, _, _, rd1 hb1 (by rfl), ?_⟩⟩
    refine loopV g s.l.length cap C s.l w1 hl1 (h.rows.non g1) h0 hC hm R ?_
    intro w' v l' h1 h2 h3 h4 h5 h6
    exact hR w' v l' h1 h2 h3 (fun x hx => Nat.le_trans s1 (h4 x hx)) (fun x hx => Nat.le_trans s1 (h5 x hx)) (by (repeat (first | exact Chg.refl _ _ | refine Chg.step (by assumption) ?_ (by (first | exact sub_non _ | exact sub_nil _ | (repeat (first | exact sub_nil _ | refine sub_new (by omega) ?_ | refine sub_old (by first | assumption | exact in_head _ _ | exact in_tail (in_head _ _) | exact in_tail (in_tail (in_head _ _)) | simp [In]) ?_)))))))

theorem c112 (w : World) (C : Nat) (s : Sht) (h : ShtAt w C s) (h0 : C ≠ 0) (hC : C ≤ 1000) (hm : s.l.length ≤ 1000) :
    Calls Tryz.prog 112 #[.pointer (some ⟨s.sb, 0, none⟩)] w fun e w' => ∃ s' : Sht, e = .returned (.pointer (some ⟨s'.sb, 0, none⟩)) ∧ ShtAt w' C s' ∧ txts s'.l = txts s.l ∧ w.heap.size ≤ s'.sb ∧ (∀ x ∈ s'.l, w.heap.size ≤ x.b) ∧ (∀ g, s'.v.ownBlock = some g → w.heap.size ≤ g) ∧ Chg Non w w' := by
  refine r112 _ _ _ ?_
  unfold V112
  refine Calls.then (c160 w s.sb _ h.blk) ?_
  rintro e w1 ⟨rfl, g1⟩
  have hs1 := h.non g1
  have s1 := g1.size
  refine ⟨_, rfl, br_f rfl ⟨_, rfl, _, rd1 hs1.blk (by rfl), _, rfl, _, rd1 hs1.blk (by rfl), fun v w' => ∃ l', LinesV w' v l' ∧ RowsAt w' C l' ∧ txts l' = txts s.l ∧ (∀ x ∈ l', w.heap.size ≤ x.b) ∧ (∀ g, v.ownBlock = some g → w.heap.size ≤ g), ?_, ?_, ?_⟩⟩
  · rintro v a b ⟨l', h1, h2, h3, h4, h5⟩ hb
    exact ⟨l', h1.non (.of_below hb), h2.non (.of_below hb), h3, h4, h5⟩
  · refine all_below ?_
    intro w2 s2 g2
    refine Calls.then (c161 w2 C s (hs1.non g2) h0 hC hm) ?_
    rintro e w3 ⟨v, l', rfl, h1, h2, h3, h4, h5, h6⟩
    obtain ⟨a, c, rfl⟩ := h1.slice
    exact ⟨_, _, _, rfl, h6.below, l', h1, h2, h3, fun x hx => by have := h4 x hx; omega, fun g hg => by have := h5 g hg; omega⟩
  · rintro p k19 k20 k w22 ⟨⟨hb, l', h1, h2, h3, h4, h5⟩, w23, ⟨hb23, _⟩, rfl, hb22⟩
    have s23 := hb23.size
    have hk : blk w22 w23.heap.size = some (.cells (shtA (.slice p k19 k20)) 259) := by
      have := hb22.block w23.heap.size (by omega)
      exact this.trans (blk_alloc_new w23 _)
    exact ⟨⟨w23.heap.size, .slice p k19 k20, l'⟩, rfl, ⟨hk, h1, h2⟩, h3, (by show w.heap.size ≤ w23.heap.size; omega), h4, h5, g1.trans (.of_below hb)⟩

theorem c114 (w : World) (C : Nat) (s : Sht) (i : Nat) (h : ShtAt w C s) (h0 : C ≠ 0) (hC : C ≤ 1000) (hi : i < s.l.length) :
    Calls Tryz.prog 114 #[.pointer (some ⟨s.sb, 0, none⟩), .int .i64 i] w fun e w' => ∃ b cap, e = .returned (.tuple #[.agg #[.slice (some ⟨b, 0, none⟩) C cap, .bool s.l[i].so], .int .i64 0]) ∧ RowAt w' b cap s.l[i].rs ∧ w.heap.size ≤ b ∧ Chg Non w w' := by
  refine r114 _ _ _ _ ?_
  unfold V114
  refine nw ?_
  intro k1 w1 e1 s1 b1 g1
  intro K hK
  refine Calls.then (c160 w1 s.sb _ (g1.get h.blk (not_non _))) ?_
  rintro e w2 ⟨rfl, g2⟩
  have h2 := (h.non g1).non g2
  have s2 := g2.size
  obtain ⟨g, cap, hv⟩ : ∃ g cap, s.v = .slice (some ⟨g, 0, none⟩) s.l.length cap := by
    rcases h2.lines.2 with ⟨_, hn⟩ | ⟨g, cap, cur, hv, _⟩
    · omega
    · exact ⟨g, cap, hv⟩
  have hb2 := h2.blk
  have hl2 := h2.lines
  rw [hv] at hb2 hl2
  have hlen := h2.rows.len s.l[i] (List.getElem_mem _)
  have hrow := h2.rows.row s.l[i] (List.getElem_mem _)
  refine ⟨_, rfl, br_f rfl (br_f cp ⟨_, rfl, _, _, _, rd1 hb2 (by rfl), br_f cp (hK _ _ fun _ => ⟨_, rfl, _, _, _, rd1 hb2 (by rfl), by omega, by omega, _, _, rfl, _, by rw [Nat.zero_add, Int.toNat_natCast]; exact hl2.line hi, ?_⟩)⟩)⟩
  refine Calls.then (c87 w2 _ _ _ _ hrow (by omega) (by omega)) ?_
  rintro e w3 ⟨b', cap', rfl, hr3, hb3, g3⟩
  rw [hlen]
  refine ⟨_, rfl, rfl, one_lit rfl, fw (g3.get (g2.get b1 (not_non _)) (not_non _)) (by (first | exact Nat.le_of_ble_eq_true rfl | (simp; done) | omega)), puts0A (g3.get (g2.get b1 (not_non _)) (not_non _)) (by rfl) ?_⟩
  intro w4 s4 b4 g4
  refine ⟨_, rdall b4 (by rfl), b', cap', rfl, hr3.next g4 (not_in_cons (by omega) (not_in_nil _)), by omega, ?_⟩
  exact ((g1.trans g2).trans g3).trans' g4 (sub_new (by omega) (sub_nil _))
end Go.Proofs

namespace Go.Proofs
open Go Go.X Go.RowKit
set_option linter.unusedVariables false
set_option linter.unusedSimpArgs false
set_option maxRecDepth 100000

/-- A ring that is being filled: its count is already that of the whole. -/
structure RingP (w : World) (rg C N : Nat) (pv : Value) (ss : List Sht) : Prop where
  ring : blk w rg = some (.cells (ringA N pv) 189)
  pages : w.ownsRow 0 212 1 pv ss.length (ptrs ss)
  sheets : ∀ s ∈ ss, ShtAt w C s
  apart : ss.Pairwise Apart
theorem RingP.next {F : Nat → Prop} {w w' : World} {rg C N : Nat} {pv : Value} {ss : List Sht} (h : RingP w rg C N pv ss) (k : Chg F w w') (h1 : ∀ j c T f, blk w j = some (.cells c T f) → ¬ F j) : RingP w' rg C N pv ss :=
  ⟨k.get h.ring (h1 _ _ _ _ h.ring), own_next h.pages k fun g hg => by obtain ⟨cur, hc⟩ := own_blk h.pages hg; exact h1 _ _ _ _ hc, fun s hs => (h.sheets s hs).next k (h1 _ _ _ _ (h.sheets s hs).blk)
    (fun g hg => by obtain ⟨cur, hc⟩ := own_blk (h.sheets s hs).lines hg; exact h1 _ _ _ _ hc) fun x hx => by obtain ⟨cur, hc, _⟩ := ((h.sheets s hs).rows.row x hx).ex; exact h1 _ _ _ _ hc, h.apart⟩
theorem RingP.non {w w' : World} {rg C N : Nat} {pv : Value} {ss : List Sht} (h : RingP w rg C N pv ss) (k : Chg Non w w') : RingP w' rg C N pv ss := h.next k fun _ _ _ _ _ => not_non _
theorem RingP.ringNe {w : World} {rg C N : Nat} {pv : Value} {ss : List Sht} (h : RingP w rg C N pv ss) {j : Nat} (hj : RB rg pv ss j) : j < w.heap.size := by
  rcases hj with rfl | hj | ⟨s, hs, rfl | hj⟩
  · exact blk_lt h.ring
  · exact own_lt h.pages hj.symm
  · exact blk_lt (h.sheets s hs).blk
  · exact (h.sheets s hs).lines.lt hj.symm

theorem add_page (w : World) (rg C N : Nat) (pv : Value) (ss : List Sht) (s' : Sht) (kp : Nat) (h : RingP w rg C N pv ss) (hs' : ShtAt w C s') (hap : ∀ s ∈ ss, Apart s s') (hkp : blk w kp = some (.cells #[.pointer (some ⟨s'.sb, 0, none⟩)] 212)) (hm : ss.length ≤ 1000) :
    ∃ a c w1, Runs Tryz.prog (Builtin.append_ #[187, 187] 187 #[pv, .slice (some ⟨kp, 0, none⟩) 1 1]) w (.slice a (ss.length + 1) c) w1 ∧ blk w1 rg = some (.cells (ringA N pv) 189) ∧ Chg (OwnB pv) w w1 ∧ (∀ j, OwnB (.slice a (ss.length + 1) c) j → OwnB pv j ∨ w.heap.size ≤ j) ∧
      ∀ w2, blk w2 rg = some (.cells (ringA N (.slice a (ss.length + 1) c)) 189) → Chg (In [rg]) w1 w2 → RingP w2 rg C N (.slice a (ss.length + 1) c) (ss ++ [s']) := by
  obtain ⟨hu, i, z, hi, hz, hsz, hzs, hby, hpos⟩ := elPtr
  obtain ⟨v', w1, hr, ho, hc, hn, hb⟩ := app_own (P := Tryz.prog) w 187 187 212 i z 1 hu hi hz hsz hzs hpos pv ss.length (ptrs ss) h.pages ⟨kp, 0, none⟩ 1 1 [.pointer (some ⟨s'.sb, 0, none⟩)] rfl (cells_of hkp (by rfl))
    (by intro u hu; rw [List.mem_singleton] at hu; subst hu; rfl) (by unfold maxLen; omega) (by rw [hby]; omega)
  obtain ⟨a, c, rfl, _⟩ := own_shape ho
  have hring := hc.get h.ring (own_ne h.pages h.ring (by decide))
  refine ⟨a, c, w1, hr, hring, hc, fun j hj => (hb j hj.symm).imp Eq.symm id, fun w2 b2 g2 => ?_⟩
  have nrg : ∀ {k : Nat} {c : Array Value} {T : TypeId} {f : Nat × Nat}, blk w1 k = some (.cells c T f) → T ≠ 189 → ¬ In [rg] k := fun {k c T f} hk hT => not_in_cons (blk_ne hk hring hT) (not_in_nil _)
  have keepN : ∀ {j : Nat} {c : Array Value} {T : TypeId}, blk w j = some (.cells c T) → T ≠ 189 → T ≠ 212 → ¬ OwnB pv j ∧ ¬ In [rg] j := fun {j c T} hj h1 h2 => ⟨own_ne h.pages hj h2, nrg (hc.get hj (own_ne h.pages hj h2)) h1⟩
  have keepS : ∀ s, ShtAt w C s → ShtAt w2 C s := fun s h1 => by
    have n1 := keepN h1.blk (by decide) (by decide)
    refine (h1.next hc n1.1 (fun j hj => ?_) fun x hx => ?_).next g2 n1.2 (fun j hj => ?_) fun x hx => ?_
    · obtain ⟨cur, hcur⟩ := own_blk h1.lines hj
      exact (keepN hcur (by decide) (by decide)).1
    · obtain ⟨cur, hcur, _⟩ := (h1.rows.row x hx).ex
      exact (keepN hcur (by decide) (by decide)).1
    · obtain ⟨cur, hcur⟩ := own_blk h1.lines hj
      exact (keepN hcur (by decide) (by decide)).2
    · obtain ⟨cur, hcur, _⟩ := (h1.rows.row x hx).ex
      exact (keepN hcur (by decide) (by decide)).2
  refine ⟨b2, ?_, fun s hs => ?_, ?_⟩
  · have hp : ptrs (ss ++ [s']) = ptrs ss ++ [.pointer (some ⟨s'.sb, 0, none⟩)] := by unfold ptrs; simp
    rw [hp, List.length_append, List.length_singleton]
    refine own_next ho g2 fun j hj => ?_
    obtain ⟨cur, hcur⟩ := own_blk ho hj
    exact nrg hcur (by decide)
  · rcases List.mem_append.1 hs with hs | hs
    · exact keepS s (h.sheets s hs)
    · rw [List.mem_singleton] at hs; subst hs
      exact keepS _ hs'
  · rw [List.pairwise_append]
    refine ⟨h.apart, by simp, fun s hs b hb => ?_⟩
    rw [List.mem_singleton] at hb; subst hb
    exact hap s hs

def tx (s : Sht) : List (List Int × Bool) := txts s.l
theorem kept_tx : ∀ {a b : List Sht}, a.map tx = b.map tx → txts (kept a) = txts (kept b)
  | [], [], _ => rfl
  | [], _ :: _, h => by cases h
  | _ :: _, [], h => by cases h
  | x :: a, y :: b, h => by
    simp only [List.map_cons, List.cons.injEq] at h
    have ih := kept_tx h.2
    have h1 : txts x.l = txts y.l := h.1
    unfold kept txts at *
    simp only [List.flatMap_cons, List.map_append]
    rw [h1, ih]
theorem txts_length (l : List GRow) : (txts l).length = l.length := by unfold txts; simp

theorem IterK.at {P : Program} {gf : Nat} {bd : Array Value} {xs : List Value} {n₀ : Nat} {w w' : World} (h : IterK P gf bd xs n₀ w) (hb : Below n₀ w w') : IterK P gf bd xs n₀ w' := fun l J W hW => h l J W (hb.trans hW)
theorem below_of {F : Nat → Prop} {W W' : World} {n : Nat} (h : Chg F W W') (hF : ∀ j, F j → n ≤ j) (hn : n ≤ W.heap.size) : Below n W W' := ⟨h.os, h.tape, h.output, h.size, fun k hk => h.block k (by omega) fun hf => by have := hF k hf; omega⟩
theorem chg_below {w W W' : World} (g : Chg Non w W) (h : Below w.heap.size W W') : Chg Non w W' := .of_below (g.below.trans h)

/-- What holds when k pages have been copied. -/
def CpI (w0 : World) (kR C N : Nat) (ss : List Sht) (k : Nat) (W : World) : Prop :=
  Chg Non w0 W ∧ w0.heap.size ≤ kR ∧ ∃ pv' ss', RingP W kR C N pv' ss' ∧ ss'.map tx = (ss.map tx).take k ∧ (∀ j, RB kR pv' ss' j → w0.heap.size ≤ j)

theorem c81 (w : World) (rg C : Nat) (pv : Value) (ss : List Sht) (h : RingAt w rg C pv ss) (h0 : C ≠ 0) (hC : C ≤ 1000) (hn : (kept ss).length ≤ 1000) (hss : ss.length ≤ 100) (h3 : 3 ≤ w.heap.size) :
    Calls Tryz.prog 81 #[.pointer (some ⟨rg, 0, none⟩)] w fun e w' => ∃ rg' pv' ss', e = .returned (.pointer (some ⟨rg', 0, none⟩)) ∧ RingAt w' rg' C pv' ss' ∧ txts (kept ss') = txts (kept ss) ∧ ss'.length = ss.length ∧ Chg Non w w' := by
  refine calls_of_marks Tryz.func81 rfl ?_
  rw [Tryz.ntmps81, act_init (Nat.le_of_ble_eq_true rfl)]
  show (nest [_, _, _, _] (.seq (.seq _ (.block _ (.rangeFunc _ #[_] _ _))) _)).wp _ _ _ _
  refine pre_sound2 (K := fun ρ w' => ∃ kR, ρ.get 3 = .pointer (some ⟨kR, 0, none⟩) ∧ ρ.get 12 = .func (.func 111) #[.pointer (some ⟨rg, 0, none⟩)] #[] ∧ CpI w kR C (kept ss).length ss 0 w') (drawX_ok effs mixed) (p81 rg w _ ?_) ?_
  · unfold P81
    refine Calls.then (c88 w rg _ pv h.ring) ?_
    rintro e w1 ⟨rfl, g1⟩
    refine ⟨_, rfl, br_f rfl ⟨_, rfl, _, rdall (g1.get h.ring (not_non _)) (by rfl), ?_⟩⟩
    refine nw ?_
    intro k2 w2 e2 s2 b2 g2
    refine ⟨rfl, one_lit ?_, fw b2 (by (first | exact Nat.le_of_ble_eq_true rfl | (simp; done) | omega)), puts0A b2 (by rfl) ?_⟩
    · obtain ⟨a, c, rfl, _⟩ := own_shape h.pages
      rfl
    intro w3 s3 b3 g3
    refine ⟨fw b3 (by (first | exact Nat.le_of_ble_eq_true rfl | (simp; done) | omega)), putL b3 (by rfl) ?_⟩
    intro w4 s4 b4 g4
    have := g1.size
    refine ⟨k2, rfl, rfl, by (repeat (first | exact Chg.refl _ _ | refine Chg.step (by assumption) ?_ (by (first | exact sub_non _ | exact sub_nil _ | (repeat (first | exact sub_nil _ | refine sub_new (by omega) ?_ | refine sub_old (by first | assumption | exact in_head _ _ | exact in_tail (in_head _ _) | exact in_tail (in_tail (in_head _ _)) | simp [In]) ?_)))))), by omega, .slice none 0 0, [], ⟨b4, World.ownsRow_nil _ _ _ _, by simp, List.Pairwise.nil⟩, by simp, ?_⟩
    rintro j (rfl | hj | ⟨s, hs, _⟩)
    · omega
    · cases hj
    · cases hs
  · rintro ρ w' ⟨kR, h3', h12, hI0⟩
    have gw : Chg Non w w' := hI0.1
    have sw := gw.size
    refine range_code (effs := effs) mixed (p := 13) (dd := 4) (gf := 111) (bd := #[.pointer (some ⟨rg, 0, none⟩)]) (by decide) (by rw [← h12]; rfl) (enters_of Tryz.func111 (by kernel_rfl) rfl) (ptrs ss) w.heap.size sw ((it_pages w rg C pv ss h (by omega)).at gw.below) (CpI w kR C (kept ss).length ss) ?_ hI0 (Env.gen (Env.init []) (List.range 21) [3] [.pointer (some ⟨kR, 0, none⟩)] ρ.get) (gen_lt ?_) (by kernel_rfl) (by kernel_rfl) ?_ ?_ ?_
    · rintro k W W' ⟨g, hk, pv', ss', hP, hm, hb⟩ hc
      refine ⟨?_, hk, pv', ss', hP.next hc fun j c T f hj => nc_cells hj, hm, hb⟩
      exact chg_below g (below_of hc (fun j hj => Nat.le_trans sw hj.1) g.size)
    · intro t v ht
      unfold lookupN lookupN at ht
      cases hb : Nat.beq 3 t with
      | true => rw [hb] at ht; rw [← Nat.eq_of_beq_eq_true hb, h3']; exact Option.some.inj ht
      | false => rw [hb] at ht; cases ht
    · intro x W K hK
      refine Eq.mp (α := K .normal (Env.set (Env.set (Env.gen (Env.init []) (List.range 21) [3] [.pointer (some ⟨kR, 0, none⟩)] ρ.get) 13 x) 4 x) W) ?_ hK
      kernel_rfl
    · rintro k hk W ⟨g, hkR, pv', ss', hP, hm, hb⟩
      have hkl : k < ss.length := by unfold ptrs at hk; simpa using hk
      have hx : (ptrs ss)[k] = .pointer (some ⟨ss[k].sb, 0, none⟩) := by
        have := ptrs_get ss k hkl
        rw [List.getElem?_eq_getElem hk] at this
        exact Option.some.inj this
      rw [hx]
      refine b81 kR ss[k].sb ρ.get W _ ?_
      unfold B81
      have hR : RingAt W rg C pv ss := h.non g
      have sg := g.size
      have hsl : ss'.length = k := by have := congrArg List.length hm; simp at this; omega
      obtain ⟨a, c, hpv, _⟩ := own_shape hP.pages
      have hring := hP.ring
      rw [hpv] at hring
      refine ⟨_, _, _, rd1 hring (by rfl), fun v w' => ∃ s' : Sht, v = .pointer (some ⟨s'.sb, 0, none⟩) ∧ ShtAt w' C s' ∧ tx s' = tx ss[k] ∧ W.heap.size ≤ s'.sb ∧ (∀ g, s'.v.ownBlock = some g → W.heap.size ≤ g), ?_, ?_, ?_⟩
      · rintro v x y ⟨s', h1, h2, h3, h4, h5⟩ hb
        exact ⟨s', h1, h2.non (.of_below hb), h3, h4, h5⟩
      · refine all_below ?_
        intro w2 s2 g2
        refine Calls.then (c112 w2 C ss[k] ((hR.non g2).sheets _ (List.getElem_mem _)) h0 hC (by have := h.le ss[k] (List.getElem_mem _); omega)) ?_
        rintro e w3 ⟨s', rfl, h1, h2, h3, h4, h5, h6⟩
        exact ⟨_, rfl, h6.below, s', rfl, h1, h2, by omega, fun g hg => by have := h5 g hg; omega⟩
      · intro p
        refine ⟨fun v w' => ∃ k, v = .slice (some ⟨k, 0, none⟩) 1 1 ∧ blk w' k = some (.cells #[.pointer p] 212) ∧ W.heap.size ≤ k, fun v => grows_blk v _ _ _, ?_, ?_⟩
        · rintro w14 ⟨hb14, _⟩ k15 w16 hn
          have := hb14.size
          refine nw (K := fun k15 w16 => Below w14.heap.size w14 w16 ∧ ∃ k, Value.slice (some ⟨k15, 0, none⟩) 1 1 = .slice (some ⟨k, 0, none⟩) 1 1 ∧ blk w16 k = some (.cells #[.pointer p] 212) ∧ W.heap.size ≤ k) ?_ k15 w16 hn
          intro k w' e s b g
          exact ⟨g.below, k, rfl, b, by omega⟩
        · rintro p17 k18 k19 w20 ⟨⟨hb20, s', hs', h1, h2, h3, h4⟩, kp, hkp, bkp, lkp⟩
          simp only [Value.pointer.injEq] at hs'
          simp only [Value.slice.injEq] at hkp
          obtain ⟨rfl, rfl, rfl⟩ := hkp
          subst hs'
          have g20 : Chg Non W w20 := .of_below hb20
          have hP20 := hP.non g20
          have s20 := g20.size
          obtain ⟨a', c', w24, hr, b24, g24, hob, hfin⟩ := add_page w20 kR C _ pv' ss' s' kp hP20 h1 (fun s hs => ⟨fun e => by have := hP.ringNe (.inr (.inr ⟨s, hs, .inl rfl⟩)); omega, fun g hg hg' => by have := hP.ringNe (.inr (.inr ⟨s, hs, .inr hg.symm⟩)); have := h4 g hg'; omega⟩) bkp (by omega)
          rw [hpv] at hr
          rw [hsl] at hr
          refine ⟨_, _, _, w24, by rw [hsl]; exact hr, fw b24 (by (first | exact Nat.le_of_ble_eq_true rfl | (simp; done) | omega)), putL (l' := [.int .i64 100, .int .i64 64, .int .i64 0, .int .i64 (kept ss).length, .slice a' (k + 1) c']) b24 (by rfl) ?_⟩
          intro w25 s25 b25 g25
          rw [hsl] at hfin
          have hnew := hfin w25 b25 g25
          have gF : Chg (fun j => OwnB pv' j ∨ j = kR) W w25 := (g20.mono fun j _ hj => hj.elim).trans' (g24.mono fun j _ hj => .inl hj) (fun j _ hj => hj) |>.trans' g25 (fun j _ hj => .inr (by unfold In at hj; rwa [List.mem_singleton] at hj))
          have hFn : ∀ j, OwnB pv' j ∨ j = kR → w.heap.size ≤ j := by
            rintro j (hj | rfl)
            · exact hb j (.inr (.inl hj))
            · exact hkR
          have hbel := below_of gF hFn sg
          refine ⟨keeps_of gF ?_, hbel, chg_below g hbel, hkR, _, _, hnew, ?_, ?_⟩
          · rintro j (hj | rfl) _
            · obtain ⟨cur, hc⟩ := own_blk hP.pages hj.symm; exact ⟨_, _, _, hc⟩
            · exact ⟨_, _, _, hP.ring⟩
          · rw [List.map_append, hm, List.map_singleton, h2, List.take_succ_eq_append_getElem (by simpa using hkl)]
            simp
          · rintro j (rfl | hj | ⟨s, hs, hj⟩)
            · exact hkR
            · rcases hob j (by rw [hsl]; exact hj) with q | q
              · exact hb j (.inr (.inl q))
              · omega
            · rcases List.mem_append.1 hs with hs | hs
              · exact hb j (.inr (.inr ⟨s, hs, hj⟩))
              · rw [List.mem_singleton] at hs; subst hs
                rcases hj with rfl | hj
                · omega
                · have := h4 j hj.symm; omega
    · rintro D W hD ⟨g, hkR, pv', ss', hP, hm, hb⟩ hdef
      have ha : act 21 ρ = ⟨#[ρ.get 0, ρ.get 1, ρ.get 2, ρ.get 3, ρ.get 4, ρ.get 5, ρ.get 6, ρ.get 7, ρ.get 8, ρ.get 9, ρ.get 10, ρ.get 11, ρ.get 12, ρ.get 13, ρ.get 14, ρ.get 15, ρ.get 16, ρ.get 17, ρ.get 18, ρ.get 19, ρ.get 20], []⟩ := rfl
      rw [ha, h3']
      go_wp2
      refine ⟨by simp, .inl ⟨_, _, rfl, run_takeDeferred hdef, ?_⟩⟩
      refine ⟨_, results_tmp rfl _ _ _, ?_⟩
      have hlt : D < W.heap.size := (Array.getElem?_eq_some_iff.1 hdef).1
      have gD : Chg (In [D]) W (W.putObj D (.deferred none)) := chg_putObj W D _
      have hP' := hP.next gD fun j c T f hj => not_in_cons (by rintro rfl; rw [show W.heap[j]? = some (.cells c T f) from hj] at hdef; cases hdef) (not_in_nil _)
      have hm' : ss'.map tx = ss.map tx := by
        rw [hm, List.take_of_length_le]
        unfold ptrs; simp
      have hsl : ss'.length = ss.length := by have := congrArg List.length hm'; simpa using this
      have hkt := kept_tx hm'
      have hkl : (kept ss').length = (kept ss).length := by have := congrArg List.length hkt; rwa [txts_length, txts_length] at this
      refine ⟨kR, pv', ss', rfl, ⟨?_, hP'.pages, hP'.sheets, ?_, hP'.apart, ?_⟩, hkt, hsl, ?_⟩
      · rw [hkl]; exact hP'.ring
      · intro s hs
        obtain ⟨i, hi, rfl⟩ := List.mem_iff_getElem.1 hs
        have h1 : (ss'.map tx)[i]? = (ss.map tx)[i]? := by rw [hm']
        rw [List.getElem?_map, List.getElem?_map, List.getElem?_eq_getElem hi, List.getElem?_eq_getElem (by omega)] at h1
        have h2 : tx ss'[i] = tx ss[i] := Option.some.inj h1
        have h3 := congrArg List.length h2
        unfold tx at h3
        rw [txts_length, txts_length] at h3
        rw [h3]; exact h.le _ (List.getElem_mem _)
      · intro j hj
        have := hb j hj
        omega
      · exact chg_below g (below_of gD (fun j hj => by unfold In at hj; rw [List.mem_singleton] at hj; omega) g.size)
end Go.Proofs

namespace Go.Proofs
open Go Go.X Go.RowKit
set_option linter.unusedVariables false
set_option linter.unusedSimpArgs false
set_option maxRecDepth 100000

theorem below_mid {w0 W W' : World} (h : Chg Non w0 W) (k : Chg Non w0 W') (s : W.heap.size ≤ W'.heap.size) : Below w0.heap.size W W' :=
  ⟨k.os.trans h.os.symm, k.tape.trans h.tape.symm, k.output.trans h.output.symm, s, fun i hi => (k.block i hi (not_non _)).trans (h.block i hi (not_non _)).symm⟩

structure RgJ (w0 W : World) (C N b4 b5 b6 b7 b8 b9 : Nat) (t : List (List Int × Bool)) (sum : Nat) (W' : World) : Prop where
  chg : Chg Non w0 W'
  keep : KeepsOthers W W'
  q4 : blk W' b4 = some (.cells #[.int .i64 0] 3)
  q5 : blk W' b5 = some (.cells #[.int .i64 N] 3)
  q6 : blk W' b6 = some (.cells #[.slice none 0 0] 44)
  q7 : blk W' b7 = some (.cells #[.int .i64 0] 37)
  q9 : blk W' b9 = some (.cells #[.int .i64 sum] 3)
  ex : ∃ v l, blk W' b8 = some (.cells #[v] 44) ∧ LinesV W' v l ∧ RowsAt W' C l ∧ txts l = t ∧ (∀ x ∈ l, w0.heap.size ≤ x.b) ∧ ∀ g, v.ownBlock = some g → w0.heap.size ≤ g

theorem RgJ.next {w0 W W' W'' : World} {C N b4 b5 b6 b7 b8 b9 : Nat} {t : List (List Int × Bool)} {sum : Nat} (h : RgJ w0 W C N b4 b5 b6 b7 b8 b9 t sum W') {F : Nat → Prop} (k : Chg F W' W'') (hF : ∀ j c T f, blk W' j = some (.cells c T f) → ¬ F j) (hlo : ∀ j, F j → w0.heap.size ≤ j) (W3 : World) (hk : KeepsOthers W3 W'') :
    RgJ w0 W3 C N b4 b5 b6 b7 b8 b9 t sum W'' := by
  obtain ⟨v, l, e1, e2, e3, e4, e5, e6⟩ := h.ex
  refine ⟨chg_below h.chg (below_of k hlo h.chg.size), hk, k.get h.q4 (hF _ _ _ _ h.q4), k.get h.q5 (hF _ _ _ _ h.q5), k.get h.q6 (hF _ _ _ _ h.q6), k.get h.q7 (hF _ _ _ _ h.q7), k.get h.q9 (hF _ _ _ _ h.q9), v, l, k.get e1 (hF _ _ _ _ e1), e2.next k ?_, e3.next k ?_, e4, e5, e6⟩
  · intro g hg; obtain ⟨cur, hc⟩ := own_blk e2 hg; exact hF _ _ _ _ hc
  · intro x hx; obtain ⟨c, hc, _⟩ := (e3.row x hx).ex; exact hF _ _ _ _ hc
theorem RgJ.non {w0 W W' W'' : World} {C N b4 b5 b6 b7 b8 b9 : Nat} {t : List (List Int × Bool)} {sum : Nat} (h : RgJ w0 W C N b4 b5 b6 b7 b8 b9 t sum W') (k : Chg Non W' W'') : RgJ w0 W C N b4 b5 b6 b7 b8 b9 t sum W'' :=
  h.next k (fun _ _ _ _ _ => not_non _) (fun _ h => h.elim) W (h.keep.trans (keeps_of k fun _ h => h.elim))

theorem kept_take (ss : List Sht) (k : Nat) (hk : k < ss.length) : kept (ss.take (k + 1)) = kept (ss.take k) ++ ss[k].l := by
  rw [List.take_succ_eq_append_getElem hk, kept_snoc]
theorem txts_append (a b : List GRow) : txts (a ++ b) = txts a ++ txts b := by unfold txts; simp
theorem kept_le (ss : List Sht) (k : Nat) : (kept (ss.take k)).length ≤ (kept ss).length := by
  have h : kept ss = kept (ss.take k) ++ kept (ss.drop k) := by
    conv => lhs; rw [← List.take_append_drop k ss]
    unfold kept; rw [List.flatMap_append]
  rw [h]; simp

/-- One line more. -/
theorem rg_step (w0 W w1 : World) (C N b4 b5 b6 b7 b8 b9 : Nat) (t : List (List Int × Bool)) (sum : Nat) (h : RgJ w0 W C N b4 b5 b6 b7 b8 b9 t sum w1) (d68 : b6 ≠ b8) (hm : t.length ≤ 100000) (rs : List Int) (so : Bool) (b cap : Nat) (hrow : RowAt w1 b cap rs) (hC : rs.length = C) (hb : w0.heap.size ≤ b) (k : Nat) (hk : blk w1 k = some (.cells #[.slice (some ⟨b, 0, none⟩) C cap, .bool so] 96)) (h8 : w0.heap.size ≤ b8) :
    ∃ a n c, w1.cell? ⟨b8, 0, none⟩ = some (.slice a n c) ∧ ∃ a' n' c' w2, Runs Tryz.prog (Builtin.append_ #[44, 44] 44 #[.slice a n c, .slice (some ⟨k, 0, none⟩) 1 1]) w1 (.slice a' n' c') w2 ∧ FreeW w2 ⟨b8, 0, none⟩ 1 ∧ ∀ w3, Put w2 ⟨b8, 0, none⟩ (.slice a' n' c') w3 → RgJ w0 W C N b4 b5 b6 b7 b8 b9 (t ++ [(rs, so)]) sum w3 := by
  obtain ⟨v, l, e1, e2, e3, e4, e5, e6⟩ := h.ex
  have hll : l.length = t.length := by rw [← e4, txts_length]
  have hk' : blk w1 k = some (.cells (hdr ⟨b, cap, rs, so⟩).toArray 96) := by rw [hk]; unfold hdr; rw [hC]
  obtain ⟨b', cap', w2, hr, hl2, hc2, hn⟩ := app_line w1 v l ⟨b, cap, rs, so⟩ k 1 e2 hk' (by omega)
  obtain ⟨a, c, hv⟩ := e2.slice
  have nv : ∀ {j : Nat} {c : Array Value} {T : TypeId} {f : Nat × Nat}, blk w1 j = some (.cells c T f) → T ≠ 96 → ¬ OwnB v j := fun hj hT => e2.ne hj hT
  have q8 := hc2.get e1 (nv e1 (by decide))
  have hrows : RowsAt w2 C (l ++ [⟨b, cap, rs, so⟩]) := by
    refine ⟨fun x hx => ?_, fun x hx => ?_⟩
    · rcases List.mem_append.1 hx with hx | hx
      · exact (e3.row x hx).next hc2 (by obtain ⟨c, hc, _⟩ := (e3.row x hx).ex; exact nv hc (by decide))
      · rw [List.mem_singleton] at hx; subst hx
        exact hrow.next hc2 (by obtain ⟨c, hc, _⟩ := hrow.ex; exact nv hc (by decide))
    · rcases List.mem_append.1 hx with hx | hx
      · exact e3.len x hx
      · rw [List.mem_singleton] at hx; subst hx; exact hC
  refine ⟨a, l.length, c, by rw [← hv]; exact rd1 e1 rfl, some ⟨b', 0, none⟩, l.length + 1, cap', w2, by rw [← hv]; exact hr, fw q8 (by (first | exact Nat.le_of_ble_eq_true rfl | (simp; done) | omega)), putL (l' := [.slice (some ⟨b', 0, none⟩) (l.length + 1) cap']) q8 (by rfl) ?_⟩
  intro w3 s3 b3 g3
  have gF : Chg (fun j => OwnB v j ∨ j = b8) w1 w3 := (hc2.mono fun j _ hj => .inl hj).trans' g3 fun j _ hj => .inr (by unfold In at hj; rwa [List.mem_singleton] at hj)
  have n3 : ∀ {j : Nat} {c : Array Value} {T : TypeId}, blk w1 j = some (.cells c T) → T ≠ 96 → T ≠ 44 → blk w3 j = some (.cells c T) := fun hj h1 h2 => gF.get hj (by
    rintro (q | q)
    · exact nv hj h1 q
    · exact blk_ne hj e1 h2 q)
  have hlo : ∀ j, OwnB v j ∨ j = b8 → w0.heap.size ≤ j := by
    rintro j (q | rfl)
    · exact e6 j q.symm
    · exact h8
  have h2g : ∀ {j : Nat} {c : Array Value} {T : TypeId} {f : Nat × Nat}, blk w2 j = some (.cells c T f) → T ≠ 44 → ¬ In [b8] j := fun hj hT => not_in_cons (blk_ne hj q8 hT) (not_in_nil _)
  refine ⟨chg_below h.chg (below_of gF hlo h.chg.size), h.keep.trans (keeps_of gF ?_), n3 h.q4 (by decide) (by decide), n3 h.q5 (by decide) (by decide), ?_, n3 h.q7 (by decide) (by decide), n3 h.q9 (by decide) (by decide), _, l ++ [⟨b, cap, rs, so⟩], b3, ?_, ?_, ?_, ?_, ?_⟩
  · rintro j (q | rfl) _
    · obtain ⟨cur, hc⟩ := own_blk e2 q.symm; exact ⟨_, _, _, hc⟩
    · exact ⟨_, _, _, e1⟩
  · exact gF.get h.q6 (by
      rintro (q | q)
      · exact nv h.q6 (by decide) q
      · exact d68 q)
  · refine hl2.next g3 fun g hg => ?_
    obtain ⟨cur, hc⟩ := own_blk hl2 hg; exact h2g hc (by decide)
  · refine hrows.next g3 fun x hx => ?_
    obtain ⟨c, hc, _⟩ := (hrows.row x hx).ex; exact h2g hc (by decide)
  · rw [txts_append, e4]; rfl
  · intro x hx
    rcases List.mem_append.1 hx with hx | hx
    · exact e5 x hx
    · rw [List.mem_singleton] at hx; subst hx; exact hb
  · intro g hg
    simp only [Value.ownBlock, Option.some.injEq] at hg
    subst hg
    rcases hn with q | q
    · exact e6 _ q
    · have := h.chg.size; omega

theorem act_of (tm : Array Value) : (act tm.size (.init tm.toList)).tmps = tm := by
  unfold act
  apply Array.ext
  · simp
  · intro i h1 h2
    simp only [List.getElem_toArray, List.getElem_map, List.getElem_range]
    show tm.toList.getD i undef = _
    simp [List.getD, h2]
theorem results_cells {fn : Func} {w : World} {v : Value} (tm : Array Value) (h : resX Tryz.prog tm.size fn.results.toList (.init tm.toList) w [] fun x => x = v) : (results fn tm).run Tryz.prog w = .ok v w := by
  obtain ⟨x, hx, rfl⟩ := resX_sound h
  rwa [act_of] at hx

theorem c82 (w : World) (rg C : Nat) (pv : Value) (ss : List Sht) (h : RingAt w rg C pv ss) (h0 : C ≠ 0) (hC : C ≤ 1000) (hn : (kept ss).length ≤ 1000) (hss : ss.length ≤ 100) :
    Calls Tryz.prog 82 #[.pointer (some ⟨rg, 0, none⟩), .int .i64 0, .int .i64 (kept ss).length] w fun e w' => ∃ v l, e = .returned (.tuple #[v, .int .i64 0]) ∧ LinesV w' v l ∧ RowsAt w' C l ∧ txts l = txts (kept ss) ∧ (∀ x ∈ l, w.heap.size ≤ x.b) ∧ (∀ g, v.ownBlock = some g → w.heap.size ≤ g) ∧ Chg Non w w' := by
  refine calls_of_marks Tryz.func82 rfl ?_
  rw [Tryz.ntmps82, act_init (Nat.le_of_ble_eq_true rfl)]
  show (nest [_, _, _, _] (.seq (.seq _ (.block _ (.rangeFunc _ #[_] _ _))) _)).wp _ _ _ _
  refine pre_sound2 (K := fun ρ w' => ∃ b4 b5 b6 b7 b8 b9, ρ.get 4 = .pointer (some ⟨b4, 0, none⟩) ∧ ρ.get 5 = .pointer (some ⟨b5, 0, none⟩) ∧ ρ.get 6 = .pointer (some ⟨b6, 0, none⟩) ∧ ρ.get 7 = .pointer (some ⟨b7, 0, none⟩) ∧ ρ.get 8 = .pointer (some ⟨b8, 0, none⟩) ∧ ρ.get 9 = .pointer (some ⟨b9, 0, none⟩) ∧ ρ.get 46 = .func (.func 111) #[.pointer (some ⟨rg, 0, none⟩)] #[] ∧
      (b4 ≠ b9 ∧ b5 ≠ b9 ∧ b6 ≠ b8 ∧ w.heap.size ≤ b6 ∧ w.heap.size ≤ b7 ∧ w.heap.size ≤ b8 ∧ w.heap.size ≤ b9) ∧ RgJ w w' C (kept ss).length b4 b5 b6 b7 b8 b9 [] 0 w') (drawX_ok effs mixed) (p82 rg 0 (kept ss).length w _ ?_) ?_
  · unfold P82
    refine nw ?_
    intro k1 w1 e1 s1 b1 g1
    refine nw ?_
    intro k2 w2 e2 s2 b2 g2
    refine nw ?_
    intro k3 w3 e3 s3 b3 g3
    refine nw ?_
    intro k4 w4 e4 s4 b4 g4
    have h4 := (((h.non g1).non g2).non g3).non g4
    refine Calls.then (c88 w4 rg _ pv h4.ring) ?_
    rintro e w5 ⟨rfl, g5⟩
    have h5 := h4.non g5
    have s5 := g5.size
    have q1 : blk w5 k1 = some (.cells #[.int .i64 0] 3) := by (repeat (first | assumption | refine Chg.get (by assumption) ?_ (by (repeat (first | exact not_non _ | exact not_in_nil _ | refine not_in_cons (by first | assumption | exact Ne.symm (by assumption) | omega) ?_)))))
    have q2 : blk w5 k2 = some (.cells #[.int .i64 (kept ss).length] 3) := by (repeat (first | assumption | refine Chg.get (by assumption) ?_ (by (repeat (first | exact not_non _ | exact not_in_nil _ | refine not_in_cons (by first | assumption | exact Ne.symm (by assumption) | omega) ?_)))))
    refine ⟨_, rfl, br_f rfl ⟨_, rd1 q1 (by rfl), br_f rfl ⟨_, rd1 q2 (by rfl), _, rd1 q1 (by rfl), br_f cp ⟨_, rd1 q2 (by rfl), _, rfl, _, rd1 h5.ring (by rfl), all_below ?_⟩⟩⟩⟩
    intro w6 s6 g6
    refine br_f cp ⟨_, rd1 (g6.get q1 (not_non _)) (by rfl), _, rfl, _, rd1 (h5.non g6).ring (by rfl), all_below ?_⟩
    intro w7 s7 g7
    refine br_f rfl (nw ?_)
    intro k8 w8 e8 s8 b8 g8
    have h8 := ((h5.non g6).non g7).non g8
    refine ⟨_, rfl, _, rd1 h8.ring (by rfl), nw ?_⟩
    intro k9 w9 e9 s9 b9 g9
    refine ⟨fw b9 (by (first | exact Nat.le_of_ble_eq_true rfl | (simp; done) | omega)), putL (l' := [.int .i64 0]) b9 (by rfl) ?_⟩
    intro w10 s10 b10 g10
    have n10 : ∀ j, j < k9 → ¬ In [k9] j := fun j hj => not_in_cons (by omega) (not_in_nil _)
    refine ⟨k1, k2, k3, k4, k8, k9, rfl, rfl, rfl, rfl, rfl, rfl, rfl, ⟨by omega, by omega, by omega, by omega, by omega, by omega, by omega⟩, ?_, KeepsOthers.refl _, ?_, ?_, ?_, ?_, b10, .slice none 0 0, [], ?_, LinesV.nil _, ⟨by simp, by simp⟩, rfl, by simp, by intro g hg; cases hg⟩
    · exact ((((((((g1.trans g2).trans g3).trans g4).trans g5).trans g6).trans g7).trans g8).trans g9).trans' g10 (sub_new (by omega) (sub_nil _))
    · exact g10.get (g9.get (g8.get (g7.get (g6.get q1 (not_non _)) (not_non _)) (not_non _)) (not_non _)) (n10 _ (by omega))
    · exact g10.get (g9.get (g8.get (g7.get (g6.get q2 (not_non _)) (not_non _)) (not_non _)) (not_non _)) (n10 _ (by omega))
    · exact g10.get (g9.get (g8.get (g7.get (g6.get (g5.get (g4.get b3 (not_non _)) (not_non _)) (not_non _)) (not_non _)) (not_non _)) (not_non _)) (n10 _ (by omega))
    · exact g10.get (g9.get (g8.get (g7.get (g6.get (g5.get b4 (not_non _)) (not_non _)) (not_non _)) (not_non _)) (not_non _)) (n10 _ (by omega))
    · exact g10.get (g9.get b8 (not_non _)) (n10 _ (by omega))
  · rintro ρ w' ⟨b4, b5, b6, b7, b8, b9, r4, r5, r6, r7, r8, r9, r46, ⟨d49, d59, d68, l6, l7, l8, l9⟩, hI0⟩
    have gw : Chg Non w w' := hI0.chg
    have sw := gw.size
    refine range_code (effs := effs) mixed (p := 47) (dd := 10) (gf := 111) (bd := #[.pointer (some ⟨rg, 0, none⟩)]) (by decide) (by rw [← r46]; rfl) (enters_of Tryz.func111 (by kernel_rfl) rfl) (ptrs ss) w.heap.size sw ((it_pages w rg C pv ss h (by omega)).at gw.below)
      (fun k W => RgJ w W C (kept ss).length b4 b5 b6 b7 b8 b9 (txts (kept (ss.take k))) (kept (ss.take k)).length W) ?_ hI0 (Env.gen (Env.init []) (List.range 80) [4, 5, 6, 7, 8, 9] [.pointer (some ⟨b4, 0, none⟩), .pointer (some ⟨b5, 0, none⟩), .pointer (some ⟨b6, 0, none⟩), .pointer (some ⟨b7, 0, none⟩), .pointer (some ⟨b8, 0, none⟩), .pointer (some ⟨b9, 0, none⟩)] ρ.get) (gen_lt ?_) (by kernel_rfl) (by kernel_rfl) ?_ ?_ ?_
    · intro k W W' hj hc
      exact hj.next hc (fun j c T f hj => nc_cells hj) (fun j hj => Nat.le_trans sw hj.1) _ (KeepsOthers.refl _)
    · intro t v ht
      unfold lookupN lookupN lookupN lookupN lookupN lookupN lookupN at ht
      cases hb : Nat.beq 4 t with
      | true => rw [hb] at ht; rw [← Nat.eq_of_beq_eq_true hb, r4]; exact Option.some.inj ht
      | false =>
      rw [hb] at ht
      simp only [cond_false] at ht
      cases hb : Nat.beq 5 t with
      | true => rw [hb] at ht; rw [← Nat.eq_of_beq_eq_true hb, r5]; exact Option.some.inj ht
      | false =>
      rw [hb] at ht
      simp only [cond_false] at ht
      cases hb : Nat.beq 6 t with
      | true => rw [hb] at ht; rw [← Nat.eq_of_beq_eq_true hb, r6]; exact Option.some.inj ht
      | false =>
      rw [hb] at ht
      simp only [cond_false] at ht
      cases hb : Nat.beq 7 t with
      | true => rw [hb] at ht; rw [← Nat.eq_of_beq_eq_true hb, r7]; exact Option.some.inj ht
      | false =>
      rw [hb] at ht
      simp only [cond_false] at ht
      cases hb : Nat.beq 8 t with
      | true => rw [hb] at ht; rw [← Nat.eq_of_beq_eq_true hb, r8]; exact Option.some.inj ht
      | false =>
      rw [hb] at ht
      simp only [cond_false] at ht
      cases hb : Nat.beq 9 t with
      | true => rw [hb] at ht; rw [← Nat.eq_of_beq_eq_true hb, r9]; exact Option.some.inj ht
      | false => rw [hb] at ht; cases ht
    · intro x W K hK
      refine Eq.mp (α := K .normal (Env.set (Env.set (Env.gen (Env.init []) (List.range 80) [4, 5, 6, 7, 8, 9] [.pointer (some ⟨b4, 0, none⟩), .pointer (some ⟨b5, 0, none⟩), .pointer (some ⟨b6, 0, none⟩), .pointer (some ⟨b7, 0, none⟩), .pointer (some ⟨b8, 0, none⟩), .pointer (some ⟨b9, 0, none⟩)] ρ.get) 47 x) 10 x) W) ?_ hK
      kernel_rfl
    · intro k hk W hJ
      have hkl : k < ss.length := by unfold ptrs at hk; simpa using hk
      have hx : (ptrs ss)[k] = .pointer (some ⟨ss[k].sb, 0, none⟩) := by
        have := ptrs_get ss k hkl
        rw [List.getElem?_eq_getElem hk] at this
        exact Option.some.inj this
      rw [hx]
      refine b82 b4 b5 b6 b7 b8 b9 ss[k].sb ρ.get W _ ?_
      unfold B82
      have hR : RingAt W rg C pv ss := h.non hJ.chg
      have hs := hR.sheets ss[k] (List.getElem_mem _)
      have hsl := h.le ss[k] (List.getElem_mem _)
      have hkt := kept_take ss k hkl
      have hkle := kept_le ss (k + 1)
      rw [hkt, List.length_append] at hkle
      refine Calls.then (c113 W _ _ _ hs.blk hs.lines) ?_
      rintro e w2 ⟨rfl, g2⟩
      have hJ2 := hJ.non g2
      refine ⟨_, rfl, _, rd1 hJ2.q4 (by rfl), _, rd1 hJ2.q9 (by rfl), by unfold inInt; omega, fun vs W' => ∃ i : Nat, vs = [.int .i64 i] ∧ i ≤ ss[k].l.length ∧ RgJ w W C (kept ss).length b4 b5 b6 b7 b8 b9 (txts (kept (ss.take k)) ++ (txts ss[k].l).take i) (kept (ss.take k)).length W', fun vs _ => match vs with | [.int _ j] => (1000 - j).toNat | _ => 0, ⟨0, by simp; omega, by omega, by simpa using hJ2⟩, ?_⟩
      rintro n8 w9 _ ⟨i, hi, hle, hJ9⟩
      simp only [List.cons.injEq, Value.int.injEq, true_and, and_true] at hi
      subst hi
      refine ⟨_, rd1 hJ9.q5 (by rfl), _, rd1 hJ9.q9 (by rfl), by unfold inInt; omega, br_dec (fun hlt => ?_) fun hge => ?_⟩
      · have hi : i < ss[k].l.length := by omega
        have hR9 : RingAt w9 rg C pv ss := h.non hJ9.chg
        have hs9 := hR9.sheets ss[k] (List.getElem_mem _)
        have s9 := hJ9.chg.size
        refine Calls.then (c114 w9 C ss[k] i hs9 h0 hC hi) ?_
        rintro e w14 ⟨b, cap, rfl, hrow, hb, g14⟩
        have hJ14 := hJ9.non g14
        have hlen := hs9.rows.len ss[k].l[i] (List.getElem_mem _)
        refine ⟨_, _, rfl, nw ?_⟩
        intro k17 w18 e18 s18 b18 g18
        have hJ18 := hJ14.non g18
        have s14 := g14.size
        refine ⟨rfl, one_lit rfl, fw b18 (by (first | exact Nat.le_of_ble_eq_true rfl | (simp; done) | omega)), puts0A b18 (by rfl) ?_⟩
        intro w19 s19 b19 g19
        have hJ19 : RgJ w W C (kept ss).length b4 b5 b6 b7 b8 b9 (txts (kept (ss.take k)) ++ (txts ss[k].l).take i) (kept (ss.take k)).length w19 := by
          have hz : ∀ j c T f, blk w14 j = some (.cells c T f) → ¬ In [k17] j := fun j c T f hj => not_in_cons (by have := blk_lt hj; omega) (not_in_nil _)
          have g1419 : Chg Non w14 w19 := g18.trans' g19 (sub_new (by omega) (sub_nil _))
          exact hJ14.non g1419
        refine br_f rfl ?_
        have hrow19 : RowAt w19 b cap ss[k].l[i].rs := (hrow.non g18).next g19 (not_in_cons (by have := hrow.lt; omega) (not_in_nil _))
        obtain ⟨v, l, e1, e2, e3, e4, e5, e6⟩ := hJ19.ex
        obtain ⟨a, c, hv⟩ := e2.slice
        rw [hv] at e1
        refine ⟨_, _, _, rd1 e1 (by rfl), _, rdall b19 (by rfl), rfl, nwC ?_⟩
        intro k26 w27 e27 s27 b27 g27
        have hJ27 := hJ19.non g27
        obtain ⟨a2, n2, c2, q1, a', n', c', w31, hr, hf, hput⟩ := rg_step w W w27 C _ b4 b5 b6 b7 b8 b9 _ _ hJ27 d68 (by rw [List.length_append, txts_length, List.length_take]; omega) ss[k].l[i].rs ss[k].l[i].so b cap (hrow19.non g27) hlen (by omega) k26 b27 l8
        have q2 : w27.cell? ⟨b8, 0, none⟩ = some (.slice a l.length c) := rd1 (g27.get e1 (not_non _)) (by rfl)
        rw [q2] at q1
        injection q1 with q1
        injection q1 with qa qb qc
        subst qa qb qc
        refine ⟨a', n', c', w31, hr, hf, fun w32 hp => ?_⟩
        have hJ32 := hput w32 hp
        refine ⟨by unfold inInt; omega, ⟨i + 1, by simp, by omega, ?_⟩, by show ((1000 : Int) - ((i : Int) + 1)).toNat < ((1000 : Int) - (i : Int)).toNat; omega⟩
        rw [List.take_succ_eq_append_getElem (by rw [txts_length]; exact hi), ← List.append_assoc]
        have hti : (txts ss[k].l)[i]'(by rw [txts_length]; exact hi) = (ss[k].l[i].rs, ss[k].l[i].so) := by unfold txts; simp
        rw [hti]; exact hJ32
      · have hi : i = ss[k].l.length := by omega
        subst hi
        refine ⟨_, rd1 hJ9.q9 (by rfl), by unfold inInt; omega, fw hJ9.q9 (by (first | exact Nat.le_of_ble_eq_true rfl | (simp; done) | omega)), putL (l' := [.int .i64 (((kept (ss.take k)).length + ss[k].l.length : Nat) : Int)]) hJ9.q9 (by simp) ?_⟩
        intro w34 s34 b34 g34
        have n9 : ∀ {j : Nat} {c : Array Value} {T : TypeId} {f : Nat × Nat}, blk w9 j = some (.cells c T f) → T ≠ 3 → ¬ In [b9] j := fun hj hT => not_in_cons (blk_ne hj hJ9.q9 hT) (not_in_nil _)
        obtain ⟨v, l, e1, e2, e3, e4, e5, e6⟩ := hJ9.ex
        have hlo9 : ∀ j, In [b9] j → w.heap.size ≤ j := fun j hj => by unfold In at hj; rw [List.mem_singleton] at hj; omega
        have hk34 : KeepsOthers W w34 := hJ9.keep.trans (keeps_of g34 fun j hj _ => by unfold In at hj; rw [List.mem_singleton] at hj; subst hj; exact ⟨_, _, _, hJ9.q9⟩)
        have gc := chg_below hJ9.chg (below_of g34 hlo9 hJ9.chg.size)
        refine ⟨hk34, below_mid hJ.chg gc hk34.size, gc, KeepsOthers.refl _, g34.get hJ9.q4 (not_in_cons d49 (not_in_nil _)), g34.get hJ9.q5 (not_in_cons d59 (not_in_nil _)), g34.get hJ9.q6 (n9 hJ9.q6 (by decide)), g34.get hJ9.q7 (n9 hJ9.q7 (by decide)), ?_, v, l, g34.get e1 (n9 e1 (by decide)), e2.next g34 ?_, e3.next g34 ?_, ?_, e5, e6⟩
        · rw [hkt, List.length_append]; exact b34
        · intro g hg; obtain ⟨cur, hc⟩ := own_blk e2 hg; exact n9 hc (by decide)
        · intro x hx; obtain ⟨c, hc, _⟩ := (e3.row x hx).ex; exact n9 hc (by decide)
        · have ht : (txts ss[k].l).take ss[k].l.length = txts ss[k].l := List.take_of_length_le (by rw [txts_length]; exact Nat.le_refl _)
          rw [e4, ht, hkt, txts_append]
    · rintro D W hD hJ hdef
      obtain ⟨v, l, e1, e2, e3, e4, e5, e6⟩ := hJ.ex
      have ha : act 80 ρ = ⟨#[ρ.get 0, ρ.get 1, ρ.get 2, ρ.get 3, ρ.get 4, ρ.get 5, ρ.get 6, ρ.get 7, ρ.get 8, ρ.get 9, ρ.get 10, ρ.get 11, ρ.get 12, ρ.get 13, ρ.get 14, ρ.get 15, ρ.get 16, ρ.get 17, ρ.get 18, ρ.get 19, ρ.get 20, ρ.get 21, ρ.get 22, ρ.get 23, ρ.get 24, ρ.get 25, ρ.get 26, ρ.get 27, ρ.get 28, ρ.get 29, ρ.get 30, ρ.get 31, ρ.get 32, ρ.get 33, ρ.get 34, ρ.get 35, ρ.get 36, ρ.get 37, ρ.get 38, ρ.get 39, ρ.get 40, ρ.get 41, ρ.get 42, ρ.get 43, ρ.get 44, ρ.get 45, ρ.get 46, ρ.get 47, ρ.get 48, ρ.get 49, ρ.get 50, ρ.get 51, ρ.get 52, ρ.get 53, ρ.get 54, ρ.get 55, ρ.get 56, ρ.get 57, ρ.get 58, ρ.get 59, ρ.get 60, ρ.get 61, ρ.get 62, ρ.get 63, ρ.get 64, ρ.get 65, ρ.get 66, ρ.get 67, ρ.get 68, ρ.get 69, ρ.get 70, ρ.get 71, ρ.get 72, ρ.get 73, ρ.get 74, ρ.get 75, ρ.get 76, ρ.get 77, ρ.get 78, ρ.get 79], []⟩ := rfl
      rw [ha, r4, r5, r6, r7, r8, r9]
      obtain ⟨a, c, hv⟩ := e2.slice
      rw [hv] at e1
      have c8 : W.cell? ⟨b8, 0, none⟩ = some (.slice a l.length c) := rd1 e1 (by rfl)
      have c6 : W.cell? ⟨b6, 0, none⟩ = some (.slice none 0 0) := rd1 hJ.q6 (by rfl)
      have c7 : W.cell? ⟨b7, 0, none⟩ = some (.int .i64 0) := rd1 hJ.q7 (by rfl)
      have f6 : W.frozen? ⟨b6, 0, none⟩ = false := by
        unfold World.frozen?; rw [show W.heap[b6]? = some (.cells #[.slice none 0 0] 44) from hJ.q6]; rfl
      have f7 : W.frozen? ⟨b7, 0, none⟩ = false := by
        unfold World.frozen?; rw [show W.heap[b7]? = some (.cells #[.int .i64 0] 37) from hJ.q7]; rfl
      have d67 : b7 ≠ b6 := blk_ne hJ.q7 hJ.q6 (by decide)
      have c7' : (W.setCell ⟨b6, 0, none⟩ (.slice a l.length c)).cell? ⟨b7, 0, none⟩ = some (.int .i64 0) := by
        rw [cell?_blk, blk_setCell_ne _ _ d67, ← cell?_blk]; exact c7
      have f7' : (W.setCell ⟨b6, 0, none⟩ (.slice a l.length c)).frozen? ⟨b7, 0, none⟩ = false := by
        rw [World.frozen?_setCell]; exact f7
      go_wp2
      obtain ⟨W2, hW2⟩ : ∃ W2, (W.setCell ⟨b6, 0, none⟩ (.slice a l.length c)).setCell ⟨b7, 0, none⟩ (.int .i64 0) = W2 := ⟨_, rfl⟩
      rw [hW2]
      have hlt : D < W.heap.size := (Array.getElem?_eq_some_iff.1 hdef).1
      have nD : ∀ {j : Nat} {c : Array Value} {T : TypeId}, blk W j = some (.cells c T) → D ≠ j := by
        rintro j c T hj rfl
        rw [show W.heap[D]? = some (.cells c T) from hj] at hdef; cases hdef
      have hd2 : W2.heap[D]? = some (.deferred (some [])) := by
        rw [← hW2]
        show blk _ D = _
        rw [blk_setCell_ne _ _ (nD hJ.q7), blk_setCell_ne _ _ (nD hJ.q6)]; exact hdef
      have g2 : Chg (fun j => j = b6 ∨ j = b7) W W2 := by
        rw [← hW2]; exact ((Chg.refl _ W).setCell _ (.inr (.inl rfl))).setCell _ (.inr (.inr rfl))
      have gD : Chg (In [D]) W2 (W2.putObj D (.deferred none)) := chg_putObj W2 D _
      have gF : Chg (fun j => j = b6 ∨ j = b7 ∨ j = D) W (W2.putObj D (.deferred none)) := (g2.mono fun j _ hj => hj.elim .inl fun h => .inr (.inl h)).trans' gD fun j _ hj => .inr (.inr (by unfold In at hj; rwa [List.mem_singleton] at hj))
      have k6 : blk (W2.putObj D (.deferred none)) b6 = some (.cells #[.slice a l.length c] 44) := gD.get (by
        rw [← hW2, blk_setCell_ne _ _ (Ne.symm d67), blk_setCell, hJ.q6]; rfl) (not_in_cons (Ne.symm (nD hJ.q6)) (not_in_nil _))
      have k7 : blk (W2.putObj D (.deferred none)) b7 = some (.cells #[.int .i64 0] 37) := gD.get (by
        rw [← hW2, blk_setCell, blk_setCell_ne _ _ d67, hJ.q7]; rfl) (not_in_cons (Ne.symm (nD hJ.q7)) (not_in_nil _))
      refine ⟨by simp, .inl ⟨_, _, rfl, run_takeDeferred hd2, ?_⟩⟩
      refine ⟨.tuple #[.slice a l.length c, .int .i64 0], results_cells _ ?_, ?_⟩
      · exact ⟨_, _, _, rd1 k6 (by rfl), _, rd1 k7 (by rfl), rfl⟩
      have nF : ∀ {j : Nat} {c : Array Value} {T : TypeId}, blk W j = some (.cells c T) → T ≠ 44 → T ≠ 37 → ¬ (j = b6 ∨ j = b7 ∨ j = D) := by
        rintro j c T hj h1 h2 (e | e | e)
        · exact blk_ne hj hJ.q6 h1 e
        · exact blk_ne hj hJ.q7 h2 e
        · exact nD hj e.symm
      rw [hv] at e2 e6
      refine ⟨.slice a l.length c, rfl, l, e2.next gF ?_, e3.next gF ?_, ?_, e5, e6, ?_⟩
      · intro g hg; obtain ⟨cur, hc⟩ := own_blk e2 hg; exact nF hc (by decide) (by decide)
      · intro x hx
        obtain ⟨c, hc, _⟩ := (e3.row x hx).ex
        exact nF hc (by decide) (by decide)
      · rw [e4, List.take_of_length_le]
        unfold ptrs; simp
      · exact chg_below hJ.chg (below_of gF (by rintro j (rfl | rfl | rfl) <;> omega) hJ.chg.size)
end Go.Proofs

namespace Go.Proofs
open Go Go.X Go.RowKit
set_option linter.unusedVariables false
set_option linter.unusedSimpArgs false
set_option maxHeartbeats 2000000
set_option maxRecDepth 100000

theorem c91_used (b : Nat) (w : World) (h0 : w.cell? ⟨b, 0, none⟩ = some (.pointer (some ⟨b, 0, none⟩))) :
    Calls Tryz.prog 91 #[.pointer (some ⟨b, 0, none⟩)] w fun e w' => e = .returned (.tuple #[]) ∧ w' = w := by
  obtain ⟨j, hj, _⟩ := Option.map_eq_some_iff.1 (show (Tryz.prog.info? 145).map (·.size) = some 2 by kernel_rfl)
  go_enter Tryz.func91, Tryz.ntmps91
  go_wp2
  rw [Lib.run_neq_ptr_same w _ Tryz.underlying143 hj]
  go_wp2
  go_end0
  exact ⟨rfl, rfl⟩

theorem c91_fresh (b : Nat) (w : World) (h0 : w.cell? ⟨b, 0, none⟩ = some (.pointer none)) (hsh : w.shape? b = some (145, 2)) (hfz : w.frozen? ⟨b, 0, none⟩ = false) :
    Calls Tryz.prog 91 #[.pointer (some ⟨b, 0, none⟩)] w fun e w' => e = .returned (.tuple #[]) ∧ w' = w.setCell ⟨b, 0, none⟩ (.pointer (some ⟨b, 0, none⟩)) := by
  obtain ⟨j, hj, hjs⟩ := Option.map_eq_some_iff.1 (show (Tryz.prog.info? 145).map (·.size) = some 2 by kernel_rfl)
  go_enter Tryz.func91, Tryz.ntmps91
  go_wp2
  rw [Lib.run_to_unsafe w ⟨b, 0, none⟩ Tryz.underlying143 Tryz.underlying217 hj (by rw [hjs]; decide) hsh (Nat.zero_lt_succ 1)]
  simp only [Result.andThen]
  rw [Oper.upon_value]
  go_wp2
  rw [run_callFunc_extern Tryz.func117 (by kernel_rfl) (by kernel_rfl) (by kernel_rfl) (e := Extern.AbiNoEscape.same) (by kernel_rfl)]
  rw [Lib.run_noEscape]
  simp only [Result.andThen]
  rw [Oper.upon_value]
  go_wp2
  rw [Lib.run_from_unsafe w ⟨b, 0, none⟩ Tryz.underlying217 Tryz.underlying143 hj hsh (by kernel_rfl)]
  simp only [Result.andThen]
  rw [Oper.upon_value]
  go_wp2
  go_end0
  exact ⟨rfl, rfl⟩
end Go.Proofs

namespace Go.Proofs
open Go Go.X Go.RowKit
set_option linter.unusedVariables false
set_option linter.unusedSimpArgs false
set_option maxHeartbeats 2000000
set_option maxRecDepth 100000

theorem chg_freeze (w : World) (g n : Nat) : Chg (In [g]) w (w.drew.freeze ⟨g, 0, none⟩ n) := by
  unfold World.freeze
  split
  · exact ⟨rfl, rfl, rfl, Nat.le_refl _, fun k hk hn => rfl⟩
  · exact ⟨rfl, rfl, rfl, by simp, fun k hk hn => by
      have hne : g ≠ k := fun e => hn (by rw [e]; exact in_head _ _)
      show (Array.modify _ _ _)[k]? = _
      rw [Array.getElem?_modify, if_neg hne]; rfl⟩

theorem c60 (b g cap : Nat) (p : Value) (cur : Array Value) (l : List UInt8) (h0 : l ≠ []) (w : World) (hbk : blk w b = some (.cells #[p, .slice (some ⟨g, 0, none⟩) l.length cap] 145)) (hg : blk w g = some (.cells cur 5)) (hcap : l.length ≤ cap) (hcur : l.length ≤ cur.size) (hm : l.length ≤ 1000000) (ht : cur.toList.take l.length = Lib.byteCells l) :
    Calls Tryz.prog 60 #[.pointer (some ⟨b, 0, none⟩)] w fun e w' => e = .returned (.string ⟨l.toArray⟩) ∧ Chg (In [g]) w w' := by
  have hl0 : l.length ≠ 0 := by simpa using h0
  have c1 : w.drew.cell? ⟨b, 1, none⟩ = some (.slice (some ⟨g, 0, none⟩) l.length cap) := by
    show w.cell? _ = _
    exact rd1 hbk rfl
  have hSD : (Builtin.unsafeSliceData_ #[22] 192 #[.slice (some ⟨g, 0, none⟩) l.length cap]).run Tryz.prog w.drew = .ok (.pointer (some ⟨g, 0, none⟩)) w.drew :=
    Lib.run_unsafeSliceData_row _ _ _ _ _ _ (by omega)
  have hUS : (Builtin.unsafeString_ #[192, 3] 9 #[.pointer (some ⟨g, 0, none⟩), .int .i64 l.length]).run Tryz.prog w.drew = .ok (.string ⟨l.toArray⟩) (w.drew.freeze ⟨g, 0, none⟩ l.length) := by
    refine Lib.run_unsafeString_row w.drew 192 3 9 5 Tryz.underlying192 (by kernel_rfl) g cur.size (by have hg' : w.drew.heap[g]? = some (.cells cur 5 (0, 0)) := hg; simp [World.shape?, hg']) l h0 hcur (by omega) ?_
    intro j x hx
    show w.cell? _ = _
    have h1 : (Lib.byteCells l)[j]? = some (.int .u8 x.toNat) := by simp [Lib.byteCells, hx]
    exact cells_of hg (o := 0) (by rw [List.drop_zero, Lib.byteCells_length]; exact ht) j _ h1
  have hmx : Tryz.prog.follows .mixedOrders = true := mixed
  go_enter Tryz.func60, Tryz.ntmps60
  go_wp2
  go_region_o
  all_goals (go_wp2; go_ret; exact ⟨rfl, chg_freeze w g _⟩)

theorem c60_nil (b : Nat) (p : Value) (w : World) (hbk : blk w b = some (.cells #[p, .slice none 0 0] 145)) :
    Calls Tryz.prog 60 #[.pointer (some ⟨b, 0, none⟩)] w fun e w' => e = .returned (.string ⟨#[]⟩) ∧ Chg Non w w' := by
  have hUS := fun (W : World) (q : Option Addr) => Lib.run_unsafeString_none (P := Tryz.prog) (w := W) 192 3 9 q
  have c1 : w.drew.cell? ⟨b, 1, none⟩ = some (.slice none 0 0) := by
    show w.cell? _ = _
    exact rd1 hbk rfl
  have hSD : (Builtin.unsafeSliceData_ #[22] 192 #[.slice none 0 0]).run Tryz.prog w.drew = .ok (.pointer none) w.drew := rfl
  have hmx : Tryz.prog.follows .mixedOrders = true := mixed
  go_enter Tryz.func60, Tryz.ntmps60
  go_wp2
  go_region_o
  all_goals (go_wp2; go_ret; exact ⟨rfl, ⟨rfl, rfl, rfl, Nat.le_refl _, fun k hk hn => rfl⟩⟩)
end Go.Proofs

namespace Go.Proofs
open Go Go.X Go.RowKit
set_option linter.unusedVariables false
set_option linter.unusedSimpArgs false
set_option maxRecDepth 100000

theorem isEq149z : Is Tryz.prog (Op.equal 149 (.agg (cel 0)) (.agg (cel 0))) true := by
  unfold Is
  kernel_rfl
theorem isEq149a (n : Nat) : Is Tryz.prog (Op.equal 149 (.agg (cel ((n + 1 : Nat) : Int))) (.agg (cel 0))) false := by
  unfold Is
  kernel_rfl

theorem c90 (w : World) (r : Int) (hr : Ru r) : Calls Tryz.prog 90 #[.agg (cel r)] w fun e w' => e = .returned (.bool (r == 0)) ∧ Chg Non w w' := by
  refine r90 _ _ _ ?_
  unfold V90
  refine nw ?_
  intro k2 w3 e3 s3 b3 g3
  refine ⟨_, rdall b3 (by rfl), _, floA fun w' s' g' => c116 w', ?_⟩
  rcases hr with rfl | ⟨h1, h2⟩
  · exact ⟨_, isEq149z, all_below fun w' s' g' => ⟨rfl, g3.trans g'⟩⟩
  · obtain ⟨n, rfl⟩ : ∃ n : Nat, r = ((n + 1 : Nat) : Int) := ⟨r.toNat - 1, by omega⟩
    refine ⟨_, isEq149a n, all_below fun w' s' g' => ⟨?_, g3.trans g'⟩⟩
    rw [show (((n + 1 : Nat) : Int) == 0) = false from by simp; omega]

structure IsUsed (rs : List Int) (n : Nat) : Prop where
  le : n ≤ rs.length
  last : ∀ i, i + 1 = n → rs[i]? ≠ some 0
  rest : ∀ i, n ≤ i → i < rs.length → rs[i]? = some 0
theorem IsUsed.uniq {rs : List Int} {n m : Nat} (h : IsUsed rs n) (k : IsUsed rs m) : n = m := by
  rcases Nat.lt_trichotomy n m with q | q | q
  · exact absurd (h.rest (m - 1) (by omega) (by have := k.le; omega)) (k.last (m - 1) (by omega))
  · exact q
  · exact absurd (k.rest (n - 1) (by omega) (by have := h.le; omega)) (h.last (n - 1) (by omega))

theorem c57 (w : World) (b cap : Nat) (rs : List Int) (so : Bool) (h : RowAt w b cap rs) (hm : rs.length ≤ 1000) :
    Calls Tryz.prog 57 #[.agg #[.slice (some ⟨b, 0, none⟩) rs.length cap, .bool so]] w fun e w' => ∃ n : Nat, e = .returned (.int .i64 n) ∧ IsUsed rs n ∧ Chg Non w w' := by
  refine r57 _ _ _ ?_
  unfold V57
  refine nw ?_
  intro k2 w3 e3 s3 b3 g3
  refine ⟨_, _, _, rd1 b3 (by rfl), ?_⟩
  intro X hX
  refine ⟨fun vs w' => Chg Non w3 w' ∧ ∃ n : Nat, vs = [.int .i64 n] ∧ n ≤ rs.length ∧ ∀ i, n ≤ i → i < rs.length → rs[i]? = some 0, fun vs _ => match vs with | [.int _ j] => j.toNat | _ => 0, ⟨Chg.refl _ _, rs.length, rfl, Nat.le_refl _, fun i h1 h2 => by omega⟩, ?_⟩
  rintro n13 w14 _ ⟨g14, n, hn, hle, hz⟩
  simp only [List.cons.injEq, Value.int.injEq, true_and, and_true] at hn
  subst hn
  have gg : Chg Non w w14 := g3.trans g14
  have hrow := h.non gg
  obtain ⟨c, hb, hc, _⟩ := hrow.ex
  refine br_dec (fun hgt => ?_) fun hng => ?_
  · obtain ⟨i, rfl⟩ : ∃ i, n = i + 1 := ⟨n - 1, by omega⟩
    have hi : i < rs.length := by omega
    have e1 : (((i + 1 : Nat) : Int) - 1) = (i : Int) := by omega
    have hsz := hc.size
    have h16 : i * 16 + 16 ≤ rs.length * 16 := by omega
    refine ⟨_, _, _, rd1 (g14.get b3 (not_non _)) (by rfl), by unfold inInt; omega, by omega, by omega, _, _, rfl, cel rs[i], by rw [e1, Nat.zero_add, Int.toNat_natCast]; exact rdx hb (by omega) (hc.at_ i hi), ?_⟩
    refine Calls.then (c90 w14 rs[i] (hc.ok _ (List.getElem_mem _))) ?_
    rintro e w23 ⟨rfl, g23⟩
    refine ⟨_, rfl, ?_⟩
    by_cases hr : rs[i] = 0
    · refine br_f (by simp [hr]) ⟨by unfold inInt; omega, ⟨g14.trans g23, i, by rw [e1], by omega, ?_⟩, by show (((i + 1 : Nat) : Int) - 1).toNat < (((i + 1 : Nat) : Int)).toNat; omega⟩
      intro j h1 h2
      rcases Nat.lt_or_ge j (i + 1) with q | q
      · have : j = i := by omega
        subst this; rw [List.getElem?_eq_getElem h2, hr]
      · exact hz j q h2
    · refine br_t (by simp [hr]) (hX _ _ fun _ => ⟨i + 1, rfl, ⟨hle, ?_, hz⟩, gg.trans g23⟩)
      intro j hj
      have : j = i := by omega
      subst this; rw [List.getElem?_eq_getElem hi]; simpa using hr
  · refine hX _ _ fun _ => ⟨n, rfl, ⟨hle, fun i hi => by omega, hz⟩, gg⟩

def tbyte (r : Int) : UInt8 := if r = 0 then 32 else UInt8.ofNat r.toNat
def text (rs : List Int) (n : Nat) : List UInt8 := (rs.take n).map tbyte
def textB (rs : List Int) (n : Nat) : ByteArray := ⟨(text rs n).toArray⟩

theorem encode_small (r : Int) (h1 : 32 ≤ r) (h2 : r ≤ 126) : Utf8.encode r = ⟨#[UInt8.ofNat r.toNat]⟩ := by
  have hv : Utf8.valid r = true := by
    unfold Utf8.valid
    rw [decide_eq_true (show 0 ≤ r by omega), decide_eq_true (show r < 0xD800 by omega)]
    rfl
  unfold Utf8.encode
  rw [hv]
  dsimp only
  rw [if_pos rfl, if_pos (by omega)]

theorem c59 (w : World) (r : Int) (hr : Ru r) : Calls Tryz.prog 59 #[.agg (cel r)] w fun e w' => e = .returned (.string ⟨#[tbyte r]⟩) ∧ Chg Non w w' := by
  refine r59 _ _ _ ?_
  unfold V59
  refine nw ?_
  intro k2 w3 e3 s3 b3 g3
  refine ⟨_, rd1 b3 (by rfl), br_f rfl ⟨_, rd1 b3 (by rfl), ?_⟩⟩
  rcases hr with rfl | ⟨h1, h2⟩
  · exact br_t rfl ⟨rfl, g3⟩
  · refine br_f (by simp; omega) ⟨_, rd1 b3 (by rfl), _, rdc (d := [.int .i32 0, .int .i32 0, .int .i32 0]) b3 (by rfl) (by (first | exact Nat.le_of_ble_eq_true rfl | (simp; done) | omega)), ?_⟩
    refine ⟨fun vs w' => Chg Non w3 w' ∧ ∃ n : Nat, vs = [.string (Utf8.encode r), .int .i64 n], fun vs _ => match vs with | [_, .int _ j] => (3 - j).toNat | _ => 0, ⟨Chg.refl _ _, 0, rfl⟩, ?_⟩
    rintro s10 n11 w12 _ ⟨g12, n, hn⟩
    simp only [List.cons.injEq, Value.int.injEq, Value.string.injEq, true_and, and_true] at hn
    obtain ⟨rfl, rfl⟩ := hn
    refine br_dec (fun hlt => ?_) fun hge => ?_
    · intro X hX
      have hn : n < 3 := by omega
      refine ⟨by omega, by omega, 0, ?_, br_f rfl (hX _ _ fun _ => ⟨by unfold inInt; omega, ⟨g12, n + 1, by simp⟩, by show ((3 : Int) - ((n : Int) + 1)).toNat < ((3 : Int) - (n : Int)).toNat; omega⟩)⟩
      rw [Int.toNat_natCast]
      rcases (show n = 0 ∨ n = 1 ∨ n = 2 by omega) with rfl | rfl | rfl <;> rfl
    · refine ⟨?_, g3.trans g12⟩
      rw [encode_small r h1 h2]
      unfold tbyte
      rw [if_neg (by omega)]
end Go.Proofs

namespace Go.Proofs
open Go Go.X Go.RowKit
set_option linter.unusedVariables false
set_option linter.unusedSimpArgs false
set_option maxRecDepth 100000

theorem used_ex (rs : List Int) : ∃ n, IsUsed rs n := by
  suffices h : ∀ m, m ≤ rs.length → (∀ i, m ≤ i → i < rs.length → rs[i]? = some 0) → ∃ n, IsUsed rs n from h rs.length (Nat.le_refl _) fun i h1 h2 => by omega
  intro m
  induction m with
  | zero => intro h1 h2; exact ⟨0, h1, fun i hi => by omega, h2⟩
  | succ m ih =>
    intro h1 h2
    by_cases hz : rs[m]? = some 0
    · refine ih (by omega) fun i h3 h4 => ?_
      rcases Nat.lt_or_ge i (m + 1) with q | q
      · have : i = m := by omega
        subst this; exact hz
      · exact h2 i q h4
    · refine ⟨m + 1, h1, fun i hi => ?_, h2⟩
      have : i = m := by omega
      subst this; exact hz
noncomputable def usedN (rs : List Int) : Nat := Classical.choose (used_ex rs)
theorem usedN_ok (rs : List Int) : IsUsed rs (usedN rs) := Classical.choose_spec (used_ex rs)
noncomputable def txt (rs : List Int) : ByteArray := textB rs (usedN rs)

theorem own_up {w : World} {n₀ : Nat} {e : TypeId} {size : Nat} {v : Value} {n : Nat} {xs : List Value} (h : w.ownsRow 0 e size v n xs) (hb : ∀ g, v.ownBlock = some g → n₀ ≤ g) : w.ownsRow n₀ e size v n xs := by
  refine ⟨h.1, ?_⟩
  rcases h.2 with q | ⟨g, cap, cur, rfl, _, r⟩
  · exact .inl q
  · exact .inr ⟨g, cap, cur, rfl, hb g rfl, r⟩
theorem own_dn {w : World} {n₀ : Nat} {e : TypeId} {size : Nat} {v : Value} {n : Nat} {xs : List Value} (h : w.ownsRow n₀ e size v n xs) : w.ownsRow 0 e size v n xs ∧ ∀ g, v.ownBlock = some g → n₀ ≤ g := by
  rcases h.2 with q | ⟨g, cap, cur, rfl, hb, r⟩
  · exact ⟨⟨h.1, .inl q⟩, by rw [q.1]; intro g hg; cases hg⟩
  · exact ⟨⟨h.1, .inr ⟨g, cap, cur, rfl, Nat.zero_le _, r⟩⟩, fun j hj => by simp only [Value.ownBlock, Option.some.injEq] at hj; omega⟩

structure BldAt (w : World) (n₀ b : Nat) (l : List UInt8) : Prop where
  ex : ∃ p v, blk w b = some (.cells #[.pointer p, v] 145) ∧ (p = none ∨ p = some ⟨b, 0, none⟩) ∧ w.ownsRow 0 5 1 v l.length (Lib.byteCells l) ∧ (l = [] → v = .slice none 0 0) ∧ n₀ ≤ b ∧ ∀ g, v.ownBlock = some g → n₀ ≤ g
theorem BldAt.non {w w' : World} {n₀ b : Nat} {l : List UInt8} (h : BldAt w n₀ b l) (k : Chg Non w w') : BldAt w' n₀ b l := by
  obtain ⟨p, v, h1, h2, h3, h4, h5, h6⟩ := h.ex
  exact ⟨p, v, k.get h1 (not_non _), h2, own_non h3 k, h4, h5, h6⟩
theorem BldAt.lt {w : World} {n₀ b : Nat} {l : List UInt8} (h : BldAt w n₀ b l) : b < w.heap.size := by obtain ⟨p, v, h1, _⟩ := h.ex; exact blk_lt h1

theorem c91 (w : World) (b : Nat) (p : Option Addr) (v : Value) (hb : blk w b = some (.cells #[.pointer p, v] 145)) (hp : p = none ∨ p = some ⟨b, 0, none⟩) :
    Calls Tryz.prog 91 #[.pointer (some ⟨b, 0, none⟩)] w fun e w' => e = .returned (.tuple #[]) ∧ blk w' b = some (.cells #[.pointer (some ⟨b, 0, none⟩), v] 145) ∧ Chg (In [b]) w w' := by
  rcases hp with rfl | rfl
  · refine Calls.then (c91_fresh b w (rd1 hb rfl) (by unfold World.shape?; rw [show w.heap[b]? = some (.cells #[.pointer none, v] 145) from hb]; rfl) (by unfold World.frozen?; rw [show w.heap[b]? = some (.cells #[.pointer none, v] 145) from hb]; rfl)) ?_
    rintro e w' ⟨rfl, rfl⟩
    refine ⟨rfl, ?_, (Chg.refl _ w).setCell _ (.inr (in_head _ _))⟩
    rw [blk_setCell, hb]; rfl
  · refine Calls.then (c91_used b w (rd1 hb rfl)) ?_
    rintro e w' ⟨rfl, rfl⟩
    exact ⟨rfl, hb, Chg.refl _ _⟩

theorem c58 (w : World) (n₀ b : Nat) (l : List UInt8) (t : ByteArray) (h : BldAt w n₀ b l) (ht : t.size ≠ 0) (hm : l.length + t.size ≤ 100000) (hn : n₀ ≤ w.heap.size) :
    Calls Tryz.prog 58 #[.pointer (some ⟨b, 0, none⟩), .string t] w fun e w' => e = .returned (.tuple #[.int .i64 t.size, .nilIface]) ∧ BldAt w' n₀ b (l ++ t.data.toList) ∧ Below n₀ w w' := by
  obtain ⟨p, v, h1, h2, h3, h4, h5, h6⟩ := h.ex
  refine r58 _ _ _ _ ?_
  unfold V58
  refine Calls.then (c91 w b p v h1 h2) ?_
  rintro e w4 ⟨rfl, b4, g4⟩
  have h3' : w4.ownsRow 0 5 1 v l.length (Lib.byteCells l) := own_next h3 g4 fun g hg => not_in_cons (by
    obtain ⟨cur, hc⟩ := own_blk h3 hg
    exact blk_ne hc h1 (by decide)) (not_in_nil _)
  obtain ⟨i0, hi, hz0, hz1, hz2⟩ := info_parts (show (Tryz.prog.info? 5).map (fun i => (i.zero, i.size, i.bytes)) = some (some (.int .u8 0), 1, 1) by kernel_rfl)
  obtain ⟨v', w12, hr, ho, hg, hnil⟩ := Lib.run_append_own_string (P := Tryz.prog) (w := w4) n₀ 22 9 22 5 i0 Tryz.underlying22 Tryz.underlying9 hi hz0 hz1 hz2 v l.length (Lib.byteCells l) (own_up h3' h6) t (by unfold maxLen; omega) (by omega) (Nat.le_trans hn g4.size)
  obtain ⟨ho, hob⟩ := own_dn ho
  obtain ⟨a, c, rfl, _⟩ := own_shape h3'
  obtain ⟨a', c', rfl, _⟩ := own_shape ho
  have g12 : Chg (OwnB (.slice a l.length c)) w4 w12 := .of_grown hg
  have b12 : blk w12 b = some (.cells #[.pointer (some ⟨b, 0, none⟩), .slice a l.length c] 145) := g12.get b4 (own_ne h3' b4 (by decide))
  refine ⟨rfl, _, rfl, _, _, _, rd1 b4 (by rfl), _, _, _, w12, hr, _, rfl, fw b12 (by (first | exact Nat.le_of_ble_eq_true rfl | (simp; done) | omega)), putL (l' := [.pointer (some ⟨b, 0, none⟩), .slice a' (l.length + t.size) c']) b12 (by rfl) ?_⟩
  intro w14 s14 b14 g14
  have hsz : w4.heap.size ≤ w12.heap.size := hg.size
  have hlt : (l ++ t.data.toList).length = l.length + t.size := by rw [List.length_append]; rfl
  have gF : Chg (fun j => j = b ∨ OwnB (.slice a l.length c) j) w w14 := ((g4.mono fun j _ hj => .inl (by unfold In at hj; rwa [List.mem_singleton] at hj)).trans' g12 fun j _ hj => .inr hj).trans' g14 fun j _ hj => .inl (by unfold In at hj; rwa [List.mem_singleton] at hj)
  refine ⟨rfl, ⟨_, _, b14, .inr rfl, ?_, ?_, h5, ?_⟩, below_of gF ?_ hn⟩
  · rw [hlt, Lib.byteCells_append]
    refine own_next ho g14 fun g hg => not_in_cons ?_ (not_in_nil _)
    obtain ⟨cur, hc⟩ := own_blk ho hg
    exact blk_ne hc b12 (by decide)
  · intro e
    have := congrArg List.length e
    rw [hlt] at this
    rw [List.length_nil] at this; omega
  · exact hob
  · rintro j (rfl | hj)
    · exact h5
    · exact h6 j hj.symm

theorem text_succ (rs : List Int) (i : Nat) (h : i < rs.length) : text rs (i + 1) = text rs i ++ [tbyte rs[i]] := by
  unfold text; rw [List.take_succ_eq_append_getElem h, List.map_append]; rfl
theorem text_length (rs : List Int) (i : Nat) (h : i ≤ rs.length) : (text rs i).length = i := by unfold text; simp; omega

theorem c29 (w : World) (b cap : Nat) (rs : List Int) (so : Bool) (h : RowAt w b cap rs) (hm : rs.length ≤ 1000) :
    Calls Tryz.prog 29 #[.agg #[.slice (some ⟨b, 0, none⟩) rs.length cap, .bool so]] w fun e w' => e = .returned (.string (txt rs)) ∧ Chg Non w w' := by
  refine r29 _ _ _ ?_
  unfold V29
  refine nw ?_
  intro k2 w3 e3 s3 b3 g3
  refine nw ?_
  intro k4 w5 e5 s5 b5 g5
  have b3' := g5.get b3 (not_non _)
  have g35 : Chg Non w w5 := g3.trans g5
  have hu := usedN_ok rs
  have hcap := h.le
  refine ⟨_, _, _, rd1 b3' (by rfl), _, rdall b3' (by rfl), (usedN rs : Int), floI ?_, by omega, by have := hu.le; omega, all_below ?_⟩
  · intro w' s' g'
    refine Calls.then (c57 w' b cap rs so (h.non (g35.trans g')) hm) ?_
    rintro e w2 ⟨n, rfl, hn, gg⟩
    rw [hn.uniq hu]; exact ⟨rfl, gg⟩
  intro w16 s16 g16
  have hb0 : BldAt w16 w.heap.size k4 [] := ⟨none, .slice none 0 0, g16.get b5 (not_non _), .inl rfl, World.ownsRow_nil _ _ _ _, fun _ => rfl, by omega, by intro g hg; cases hg⟩
  refine ⟨fun vs w' => Chg Non w w' ∧ ∃ i : Nat, vs = [.int .i64 i] ∧ i ≤ usedN rs ∧ BldAt w' w.heap.size k4 (text rs i), fun vs _ => match vs with | [.int _ j] => (1000 - j).toNat | _ => 0, ⟨g35.trans g16, 0, rfl, Nat.zero_le _, hb0⟩, ?_⟩
  rintro n19 w20 _ ⟨g20, i, hi, hle, hB⟩
  simp only [List.cons.injEq, Value.int.injEq, true_and, and_true] at hi
  subst hi
  have hle' := hu.le
  have s20 := g20.size
  refine br_dec (fun hlt => ?_) fun hge => ?_
  · have hi : i < rs.length := by omega
    obtain ⟨c, hb, hc, _⟩ := (h.non g20).ex
    have hsz := hc.size
    have h16 : i * 16 + 16 ≤ rs.length * 16 := by omega
    refine ⟨by omega, by omega, _, _, rfl, cel rs[i], by rw [Nat.zero_add, Int.toNat_natCast]; exact rdx hb (by omega) (hc.at_ i hi), ?_⟩
    refine nw ?_
    intro k25 w26 e26 s26 b26 g26
    refine ⟨rfl, one_lit rfl, fw b26 (by (first | exact Nat.le_of_ble_eq_true rfl | (simp; done) | omega)), puts0A b26 (by rfl) ?_⟩
    intro w27 s27 b27 g27
    have gg : Chg Non w20 w27 := g26.trans' g27 (sub_new (by omega) (sub_nil _))
    refine ⟨_, rdall b27 (by rfl), ?_⟩
    refine Calls.then (c59 w27 rs[i] (hc.ok _ (List.getElem_mem _))) ?_
    rintro e w30 ⟨rfl, g30⟩
    have hB30 := (hB.non gg).non g30
    have s27' := gg.size
    have s30 := g30.size
    refine ⟨_, rfl, ?_⟩
    refine Calls.then (c58 w30 w.heap.size k4 (text rs i) _ hB30 (by show (1 : Nat) ≠ 0; decide) (by rw [text_length _ _ (by omega)]; show i + 1 ≤ 100000; omega) (by omega)) ?_
    rintro e w33 ⟨rfl, hB33, hb33⟩
    have g33 : Chg Non w w33 := chg_below ((g20.trans gg).trans g30) hb33
    refine ⟨_, _, rfl, by unfold inInt; omega, ⟨g33, i + 1, by simp, by omega, ?_⟩, by show ((1000 : Int) - ((i : Int) + 1)).toNat < ((1000 : Int) - (i : Int)).toNat; omega⟩
    rw [text_succ _ _ hi]; exact hB33
  · have hi : i = usedN rs := by omega
    subst hi
    obtain ⟨p, v, h1, h2, h3, h4, h5, h6⟩ := hB.ex
    by_cases h0 : text rs (usedN rs) = []
    · rw [h4 h0] at h1
      refine Calls.then (c60_nil k4 _ w20 h1) ?_
      rintro e w37 ⟨rfl, g37⟩
      refine ⟨_, rfl, ?_, g20.trans g37⟩
      unfold txt textB; rw [h0]
    · have hl0 : (text rs (usedN rs)).length ≠ 0 := fun e => h0 (List.length_eq_zero_iff.1 e)
      obtain ⟨g, cap', cur, rfl, hg, q1, q2, q3, q4⟩ := own_slice h3 hl0
      rw [Nat.mul_one] at q4 q3
      refine Calls.then (c60 k4 g cap' _ cur (text rs (usedN rs)) h0 w20 h1 hg q1 (by omega) (by rw [text_length _ _ (by omega)]; omega) q4) ?_
      rintro e w37 ⟨rfl, g37⟩
      exact ⟨_, rfl, rfl, g20.trans' g37 (sub_new (h6 g rfl) (sub_nil _))⟩

theorem c28 (w : World) (C b cap : Nat) (l : List GRow) (gl : Glob w) (h : LinesV w (.slice (some ⟨b, 0, none⟩) l.length cap) l) (hr : RowsAt w C l) (hC : C ≤ 1000) (hm : l.length ≤ 1000) :
    Calls Tryz.prog 28 #[.slice (some ⟨b, 0, none⟩) l.length cap] w fun e w' => e = .returned (.bool true) ∧ Chg Non w w' := by
  refine r28 _ _ _ _ _ ?_
  unfold V28
  refine ⟨fun vs w' => Chg Non w w' ∧ ∃ i : Nat, vs = [.bool false, .int .i64 i] ∧ i ≤ l.length, fun vs _ => match vs with | [_, .int _ j] => (1000 - j).toNat | _ => 0, ⟨Chg.refl _ _, 0, rfl, Nat.zero_le _⟩, ?_⟩
  rintro b6 n7 w8 _ ⟨g8, i, hi, hle⟩
  simp only [List.cons.injEq, Value.int.injEq, Value.bool.injEq, true_and, and_true] at hi
  obtain ⟨rfl, rfl⟩ := hi
  have s8 := g8.size
  refine br_dec (fun hlt => ?_) fun hge => ⟨rfl, g8⟩
  have hi : i < l.length := by omega
  refine ⟨by omega, by omega, _, _, rfl, _, by rw [Nat.zero_add, Int.toNat_natCast]; exact (h.non g8).line hi, ?_⟩
  refine nw ?_
  intro k13 w14 e14 s14 b14 g14
  refine ⟨rfl, one_lit rfl, fw b14 (by (first | exact Nat.le_of_ble_eq_true rfl | (simp; done) | omega)), puts0A b14 (by rfl) ?_⟩
  intro w15 s15 b15 g15
  have gg : Chg Non w8 w15 := g14.trans' g15 (sub_new (by omega) (sub_nil _))
  have hlen := hr.len l[i] (List.getElem_mem _)
  refine ⟨_, rdall b15 (by rfl), ?_⟩
  refine Calls.then (c56r w15 _ _ _ _ ((gl.non g8).non gg) (((hr.non g8).non gg).row l[i] (List.getElem_mem _)) (by omega)) ?_
  rintro e w18 ⟨rfl, g18⟩
  exact ⟨_, rfl, br_f rfl ⟨by unfold inInt; omega, ⟨(g8.trans gg).trans g18, i + 1, by simp, by omega⟩, by show ((1000 : Int) - ((i : Int) + 1)).toNat < ((1000 : Int) - (i : Int)).toNat; omega⟩⟩

theorem elStr : Elem 47 9 1 16 := elem_of (by kernel_rfl) (by kernel_rfl) (by decide)
noncomputable def strs (l : List GRow) : List Value := l.map fun x => .string (txt x.rs)
theorem strs_length (l : List GRow) : (strs l).length = l.length := by unfold strs; simp

theorem c10 (w : World) (C b cap : Nat) (l : List GRow) (gl : Glob w) (h : LinesV w (.slice (some ⟨b, 0, none⟩) l.length cap) l) (hr : RowsAt w C l) (hC : C ≤ 1000) (hm : l.length ≤ 1000) :
    Calls Tryz.prog 10 #[.slice (some ⟨b, 0, none⟩) l.length cap] w fun e w' => ∃ v, e = .returned (.tuple #[v, .int .i64 0]) ∧ w'.ownsRow 0 9 1 v l.length (strs l) ∧ (∀ g, v.ownBlock = some g → w.heap.size ≤ g) ∧ Chg Non w w' := by
  refine r10 _ _ _ _ _ ?_
  unfold V10
  refine Calls.then (c28 w C b cap l gl h hr hC hm) ?_
  rintro e w5 ⟨rfl, g5⟩
  have s5 := g5.size
  refine ⟨_, rfl, br_f rfl ⟨fun vs w' => Chg Non w w' ∧ ∃ (i : Nat) (v : Value), vs = [v, .int .i64 i] ∧ i ≤ l.length ∧ w'.ownsRow 0 9 1 v i (strs (l.take i)) ∧ ∀ g, v.ownBlock = some g → w.heap.size ≤ g, fun vs _ => match vs with | [_, .int _ j] => (1000 - j).toNat | _ => 0, ⟨g5, 0, _, rfl, Nat.zero_le _, World.ownsRow_nil _ _ _ _, by intro g hg; cases hg⟩, ?_⟩⟩
  rintro p9 k10 k11 n12 w13 _ ⟨g13, i, v, hi, hle, ho, hv⟩
  simp only [List.cons.injEq, Value.int.injEq, true_and, and_true] at hi
  obtain ⟨rfl, rfl⟩ := hi
  have s13 := g13.size
  refine br_dec (fun hlt => ?_) fun hge => ?_
  · have hi : i < l.length := by omega
    refine ⟨by omega, by omega, _, _, rfl, _, by rw [Nat.zero_add, Int.toNat_natCast]; exact (h.non g13).line hi, ?_⟩
    refine nw ?_
    intro k18 w19 e19 s19 b19 g19
    refine ⟨rfl, one_lit rfl, fw b19 (by (first | exact Nat.le_of_ble_eq_true rfl | (simp; done) | omega)), puts0A b19 (by rfl) ?_⟩
    intro w20 s20 b20 g20
    have gg : Chg Non w13 w20 := g19.trans' g20 (sub_new (by omega) (sub_nil _))
    have hlen := hr.len l[i] (List.getElem_mem _)
    refine ⟨_, rdall b20 (by rfl), ?_⟩
    refine Calls.then (c29 w20 _ _ _ _ (((hr.non g13).non gg).row l[i] (List.getElem_mem _)) (by omega)) ?_
    rintro e w23 ⟨rfl, g23⟩
    refine ⟨_, rfl, nw ?_⟩
    intro k25 w26 e26 s26 b26 g26
    have ho26 := own_non (own_non (own_non ho gg) g23) g26
    obtain ⟨hu, i0, z, hi0, hz, hsz, hzs, hby, hpos⟩ := elStr
    obtain ⟨v', w30, hrun, ho30, hc30, hnil, hblk⟩ := app_own (P := Tryz.prog) w26 47 47 9 i0 z 1 hu hi0 hz hsz hzs hpos _ i _ ho26 ⟨k25, 0, none⟩ 1 1 [.string (txt l[i].rs)] rfl (cells_of b26 (by rfl))
      (by intro u hu; rw [List.mem_singleton] at hu; subst hu; rfl) (by unfold maxLen; omega) (by rw [hby]; omega)
    obtain ⟨a', c', rfl, _⟩ := own_shape ho30
    have gall : Chg Non w w26 := ((g13.trans gg).trans g23).trans g26
    refine ⟨_, _, _, w30, hrun, by unfold inInt; omega, ⟨gall.trans' hc30 fun j hj hf => absurd (hv j hf.symm) (by omega), i + 1, .slice a' (i + 1) c', by simp, by omega, ?_, ?_⟩, by show ((1000 : Int) - ((i : Int) + 1)).toNat < ((1000 : Int) - (i : Int)).toNat; omega⟩
    · rw [List.take_succ_eq_append_getElem hi]
      unfold strs at ho30 ⊢
      rw [List.map_append]; exact ho30
    · intro g hg
      have := gall.size
      rcases hblk g hg with q | q
      · exact hv g q
      · omega
  · have hi : i = l.length := by omega
    subst hi
    rw [List.take_length] at ho
    exact ⟨_, rfl, ho, hv, g13⟩
end Go.Proofs
