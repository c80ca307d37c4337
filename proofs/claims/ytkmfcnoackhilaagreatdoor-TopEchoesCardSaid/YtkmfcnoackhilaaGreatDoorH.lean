/-
Contracts: areas, rows, lines, the grid.
-/
import Derived.Test.YtkmfcnoackhilaaGreatDoorV
import Derived.Laws.Bits64
import Derived.Laws.BitsLemmas
import Derived.Laws.Closers25
set_option linter.unusedVariables false
set_option linter.unusedSimpArgs false
namespace Go.Proofs
open Go Go.X Go.RowKit
set_option linter.unusedVariables false
set_option linter.unusedSimpArgs false
set_option maxRecDepth 100000

/-- Areas and cursors. -/
def areA (R C t b : Int) (o : Bool) : Array Value := #[.int .i64 R, .int .i64 C, .int .i64 t, .int .i64 b, .bool o]
theorem kp {p : Prop} (h : p := by (repeat (first | assumption | refine Chg.get (by assumption) ?_ (by (repeat (first | exact not_non _ | exact not_in_nil _ | refine not_in_cons (by first | assumption | exact Ne.symm (by assumption) | omega) ?_)))))) : p := h
theorem cp {p : Prop} (h : p := by (first | rfl | (simp only [beq_self_eq_true]; done) | (simp only [decide_eq_true_eq, decide_eq_false_iff_not, beq_iff_eq, bne_iff_ne, ne_eq, beq_eq_false_iff_ne, bne_eq_false_iff_eq, Bool.not_eq_true', Bool.not_eq_false', Bool.not_true, Bool.not_false]; omega))) : p := h
def curA (r c : Int) (p : Bool) : Array Value := #[.int .i64 r, .int .i64 c, .bool p]

theorem c255 (R C t b : Int) (o : Bool) (w : World) (h : 1 ≤ R ∧ R ≤ 1000 ∧ 1 ≤ C ∧ C ≤ 1000 ∧ 0 ≤ t ∧ t ≤ b ∧ b < R) :
    Calls Tryz.prog 255 #[.agg (areA R C t b o)] w fun e w' => e = .returned (.bool true) ∧ Chg Non w w' := by
  refine r255 _ _ _ ?_
  unfold V255
  repeat (first | (refine nw ?_; intro _ _ _ _ _ _) | refine ⟨_, rdall kp (by rfl), ?_⟩ | refine ⟨_, rd1 kp (by rfl), ?_⟩ | refine ⟨_, _, _, rd1 kp (by rfl), ?_⟩ | refine br_t cp ?_ | refine br_f cp ?_ | (refine ⟨_, rfl, ?_⟩; try dsimp only) | (refine ⟨_, _, rfl, ?_⟩; try dsimp only) | refine And.intro (by unfold inInt; omega) ?_ | (refine ⟨rfl, one_lit rfl, fw kp (by (first | exact Nat.le_of_ble_eq_true rfl | (simp; done) | omega)), puts0A kp (by rfl) ?_⟩; intro _ _ _ _) | (refine ⟨rfl, one_lit rfl, fw kp (by (first | exact Nat.le_of_ble_eq_true rfl | (simp; done) | omega)), puts0 kp (by rfl) ?_⟩; intro _ _ _ _) | (refine ⟨fw kp (by (first | exact Nat.le_of_ble_eq_true rfl | (simp; done) | omega)), putL kp (by ((try simp only [List.set_cons_zero, List.set_cons_succ]); rfl)) ?_⟩; intro _ _ _ _) | refine And.intro (by omega) ?_ | refine And.intro ⟨_, rd1 kp (by rfl), rfl⟩ ?_ | (refine nwB ?_; intro _ _ _ _ _ _) | (refine all_below ?_; intro _ _ _))
  exact ⟨by simp; omega, by (repeat (first | exact Chg.refl _ _ | refine Chg.step (by assumption) ?_ (by (first | exact sub_non _ | exact sub_nil _ | (repeat (first | exact sub_nil _ | refine sub_new (by omega) ?_ | refine sub_old (by first | assumption | exact in_head _ _ | exact in_tail (in_head _ _) | exact in_tail (in_tail (in_head _ _)) | simp [In]) ?_))))))⟩

theorem c242 (R C t b : Int) (o : Bool) (r c : Int) (p : Bool) (w : World) (h : 1 ≤ R ∧ R ≤ 1000 ∧ 1 ≤ C ∧ C ≤ 1000 ∧ 0 ≤ t ∧ t ≤ b ∧ b < R) (hc : 0 ≤ r ∧ r < R ∧ 0 ≤ c ∧ c < C) (hp : p = true → c = C - 1) :
    Calls Tryz.prog 242 #[.agg (areA R C t b o), .agg (curA r c p)] w fun e w' => e = .returned (.bool true) ∧ Chg Non w w' := by
  refine r242 _ _ _ _ ?_
  unfold V242
  repeat (first | (refine nw ?_; intro _ _ _ _ _ _) | refine ⟨_, rdall kp (by rfl), ?_⟩ | refine ⟨_, rd1 kp (by rfl), ?_⟩ | refine ⟨_, _, _, rd1 kp (by rfl), ?_⟩ | refine br_t cp ?_ | refine br_f cp ?_ | (refine ⟨_, rfl, ?_⟩; try dsimp only) | (refine ⟨_, _, rfl, ?_⟩; try dsimp only) | refine And.intro (by unfold inInt; omega) ?_ | (refine ⟨rfl, one_lit rfl, fw kp (by (first | exact Nat.le_of_ble_eq_true rfl | (simp; done) | omega)), puts0A kp (by rfl) ?_⟩; intro _ _ _ _) | (refine ⟨rfl, one_lit rfl, fw kp (by (first | exact Nat.le_of_ble_eq_true rfl | (simp; done) | omega)), puts0 kp (by rfl) ?_⟩; intro _ _ _ _) | (refine ⟨fw kp (by (first | exact Nat.le_of_ble_eq_true rfl | (simp; done) | omega)), putL kp (by ((try simp only [List.set_cons_zero, List.set_cons_succ]); rfl)) ?_⟩; intro _ _ _ _) | refine And.intro (by omega) ?_ | refine And.intro ⟨_, rd1 kp (by rfl), rfl⟩ ?_ | (refine nwB ?_; intro _ _ _ _ _ _) | (refine all_below ?_; intro _ _ _))
  intro K hK
  repeat (first | (refine nw ?_; intro _ _ _ _ _ _) | refine ⟨_, rdall kp (by rfl), ?_⟩ | refine ⟨_, rd1 kp (by rfl), ?_⟩ | refine ⟨_, _, _, rd1 kp (by rfl), ?_⟩ | refine br_t cp ?_ | refine br_f cp ?_ | (refine ⟨_, rfl, ?_⟩; try dsimp only) | (refine ⟨_, _, rfl, ?_⟩; try dsimp only) | refine And.intro (by unfold inInt; omega) ?_ | (refine ⟨rfl, one_lit rfl, fw kp (by (first | exact Nat.le_of_ble_eq_true rfl | (simp; done) | omega)), puts0A kp (by rfl) ?_⟩; intro _ _ _ _) | (refine ⟨rfl, one_lit rfl, fw kp (by (first | exact Nat.le_of_ble_eq_true rfl | (simp; done) | omega)), puts0 kp (by rfl) ?_⟩; intro _ _ _ _) | (refine ⟨fw kp (by (first | exact Nat.le_of_ble_eq_true rfl | (simp; done) | omega)), putL kp (by ((try simp only [List.set_cons_zero, List.set_cons_succ]); rfl)) ?_⟩; intro _ _ _ _) | refine And.intro (by omega) ?_ | refine And.intro ⟨_, rd1 kp (by rfl), rfl⟩ ?_ | (refine nwB ?_; intro _ _ _ _ _ _) | (refine all_below ?_; intro _ _ _))
  refine Calls.then (c255 _ _ _ _ _ _ h) ?_
  rintro e w1 ⟨rfl, h1⟩
  repeat (first | (refine nw ?_; intro _ _ _ _ _ _) | refine ⟨_, rdall kp (by rfl), ?_⟩ | refine ⟨_, rd1 kp (by rfl), ?_⟩ | refine ⟨_, _, _, rd1 kp (by rfl), ?_⟩ | refine br_t cp ?_ | refine br_f cp ?_ | (refine ⟨_, rfl, ?_⟩; try dsimp only) | (refine ⟨_, _, rfl, ?_⟩; try dsimp only) | refine And.intro (by unfold inInt; omega) ?_ | (refine ⟨rfl, one_lit rfl, fw kp (by (first | exact Nat.le_of_ble_eq_true rfl | (simp; done) | omega)), puts0A kp (by rfl) ?_⟩; intro _ _ _ _) | (refine ⟨rfl, one_lit rfl, fw kp (by (first | exact Nat.le_of_ble_eq_true rfl | (simp; done) | omega)), puts0 kp (by rfl) ?_⟩; intro _ _ _ _) | (refine ⟨fw kp (by (first | exact Nat.le_of_ble_eq_true rfl | (simp; done) | omega)), putL kp (by ((try simp only [List.set_cons_zero, List.set_cons_succ]); rfl)) ?_⟩; intro _ _ _ _) | refine And.intro (by omega) ?_ | refine And.intro ⟨_, rd1 kp (by rfl), rfl⟩ ?_ | (refine nwB ?_; intro _ _ _ _ _ _) | (refine all_below ?_; intro _ _ _))
  refine hK _ _ fun _ => ?_
  repeat (first | (refine nw ?_; intro _ _ _ _ _ _) | refine ⟨_, rdall kp (by rfl), ?_⟩ | refine ⟨_, rd1 kp (by rfl), ?_⟩ | refine ⟨_, _, _, rd1 kp (by rfl), ?_⟩ | refine br_t cp ?_ | refine br_f cp ?_ | (refine ⟨_, rfl, ?_⟩; try dsimp only) | (refine ⟨_, _, rfl, ?_⟩; try dsimp only) | refine And.intro (by unfold inInt; omega) ?_ | (refine ⟨rfl, one_lit rfl, fw kp (by (first | exact Nat.le_of_ble_eq_true rfl | (simp; done) | omega)), puts0A kp (by rfl) ?_⟩; intro _ _ _ _) | (refine ⟨rfl, one_lit rfl, fw kp (by (first | exact Nat.le_of_ble_eq_true rfl | (simp; done) | omega)), puts0 kp (by rfl) ?_⟩; intro _ _ _ _) | (refine ⟨fw kp (by (first | exact Nat.le_of_ble_eq_true rfl | (simp; done) | omega)), putL kp (by ((try simp only [List.set_cons_zero, List.set_cons_succ]); rfl)) ?_⟩; intro _ _ _ _) | refine And.intro (by omega) ?_ | refine And.intro ⟨_, rd1 kp (by rfl), rfl⟩ ?_ | (refine nwB ?_; intro _ _ _ _ _ _) | (refine all_below ?_; intro _ _ _))
  refine br_bool (fun hf => ?_) fun ht => ?_
  · exact ⟨rfl, by (repeat (first | exact Chg.refl _ _ | refine Chg.step (by assumption) ?_ (by (first | exact sub_non _ | exact sub_nil _ | (repeat (first | exact sub_nil _ | refine sub_new (by omega) ?_ | refine sub_old (by first | assumption | exact in_head _ _ | exact in_tail (in_head _ _) | exact in_tail (in_tail (in_head _ _)) | simp [In]) ?_))))))⟩
  · repeat (first | (refine nw ?_; intro _ _ _ _ _ _) | refine ⟨_, rdall kp (by rfl), ?_⟩ | refine ⟨_, rd1 kp (by rfl), ?_⟩ | refine ⟨_, _, _, rd1 kp (by rfl), ?_⟩ | refine br_t cp ?_ | refine br_f cp ?_ | (refine ⟨_, rfl, ?_⟩; try dsimp only) | (refine ⟨_, _, rfl, ?_⟩; try dsimp only) | refine And.intro (by unfold inInt; omega) ?_ | (refine ⟨rfl, one_lit rfl, fw kp (by (first | exact Nat.le_of_ble_eq_true rfl | (simp; done) | omega)), puts0A kp (by rfl) ?_⟩; intro _ _ _ _) | (refine ⟨rfl, one_lit rfl, fw kp (by (first | exact Nat.le_of_ble_eq_true rfl | (simp; done) | omega)), puts0 kp (by rfl) ?_⟩; intro _ _ _ _) | (refine ⟨fw kp (by (first | exact Nat.le_of_ble_eq_true rfl | (simp; done) | omega)), putL kp (by ((try simp only [List.set_cons_zero, List.set_cons_succ]); rfl)) ?_⟩; intro _ _ _ _) | refine And.intro (by omega) ?_ | refine And.intro ⟨_, rd1 kp (by rfl), rfl⟩ ?_ | (refine nwB ?_; intro _ _ _ _ _ _) | (refine all_below ?_; intro _ _ _))
    exact ⟨by simp at ht; simp [hp ht], by (repeat (first | exact Chg.refl _ _ | refine Chg.step (by assumption) ?_ (by (first | exact sub_non _ | exact sub_nil _ | (repeat (first | exact sub_nil _ | refine sub_new (by omega) ?_ | refine sub_old (by first | assumption | exact in_head _ _ | exact in_tail (in_head _ _) | exact in_tail (in_tail (in_head _ _)) | simp [In]) ?_))))))⟩
end Go.Proofs

namespace Go.Proofs
open Go Go.X Go.RowKit
set_option linter.unusedVariables false
set_option linter.unusedSimpArgs false
set_option maxRecDepth 100000

/-- Elements of rows: how many cells and bytes one has. -/
def Elem (s e : TypeId) (size bytes : Nat) : Prop := Tryz.prog.underlying s = some (.slice e) ∧ ∃ i z, Tryz.prog.info? e = some i ∧ i.zero = some z ∧ i.size = size ∧ z.cells.size = size ∧ i.bytes = bytes ∧ 0 < size
theorem elem_of {s e size bytes : Nat} (hu : Tryz.prog.underlying s = some (.slice e)) (h : ((Tryz.prog.info? e).bind fun i => i.zero.map fun z => [i.size, z.cells.size, i.bytes]) = some [size, size, bytes]) (hp : 0 < size) : Elem s e size bytes := by
  cases hi : Tryz.prog.info? e with
  | none => rw [hi] at h; cases h
  | some i =>
    rw [hi] at h
    simp only [Option.bind_some] at h
    cases hz : i.zero with
    | none => rw [hz] at h; cases h
    | some z =>
      rw [hz] at h
      simp only [Option.map_some, Option.some.injEq, List.cons.injEq, and_true] at h
      exact ⟨hu, i, z, hi, hz, h.1, h.2.1, h.2.2, hp⟩

theorem elCell : Elem 94 149 16 64 := elem_of (by kernel_rfl) (by kernel_rfl) (by decide)
theorem elLine : Elem 44 96 2 32 := elem_of (by kernel_rfl) (by kernel_rfl) (by decide)

/-- A row of cells with these runes, in a block. -/
structure RowAt (w : World) (b cap : Nat) (rs : List Int) : Prop where
  ex : ∃ c, blk w b = some (.cells c 149) ∧ CellsIn c rs ∧ c.size = cap * 16 ∧ cap ≤ maxLen

theorem RowAt.lt {w : World} {b cap : Nat} {rs : List Int} (h : RowAt w b cap rs) : b < w.heap.size := by obtain ⟨c, hb, _⟩ := h.ex; exact blk_lt hb
theorem RowAt.next {F : Nat → Prop} {w w' : World} {b cap : Nat} {rs : List Int} (h : RowAt w b cap rs) (k : Chg F w w') (hf : ¬ F b) : RowAt w' b cap rs := by
  obtain ⟨c, hb, h2⟩ := h.ex; exact ⟨c, k.get hb hf, h2⟩
theorem RowAt.le {w : World} {b cap : Nat} {rs : List Int} (h : RowAt w b cap rs) : rs.length ≤ cap := by
  obtain ⟨c, hb, h1, h2, _⟩ := h.ex
  have := h1.size; omega
theorem RowAt.non {w w' : World} {b cap : Nat} {rs : List Int} (h : RowAt w b cap rs) (k : Chg Non w w') : RowAt w' b cap rs := h.next k (not_non _)

theorem celL_one (r : Int) : ∀ u ∈ celL r, u.oneCell' = true := by
  intro u hu; simp only [celL, List.mem_cons, List.not_mem_nil, or_false] at hu
  rcases hu with rfl | rfl | rfl | rfl | rfl | rfl | rfl | rfl | rfl | rfl | rfl | rfl | rfl | rfl | rfl | rfl <;> rfl

/-- The cells of these runes. -/
def celsL (rs : List Int) : List Value := rs.flatMap celL
theorem celL_length (r : Int) : (celL r).length = 16 := rfl
theorem celsL_length : ∀ rs, (celsL rs).length = rs.length * 16
  | [] => rfl
  | r :: rs => by
    have := celsL_length rs
    unfold celsL at *
    rw [List.flatMap_cons, List.length_append, this, celL_length, List.length_cons]; omega
theorem celsL_one (rs : List Int) : ∀ u ∈ celsL rs, u.oneCell' = true := by
  intro u hu; unfold celsL at hu; obtain ⟨r, _, h⟩ := List.mem_flatMap.1 hu; exact celL_one r u h
theorem celsL_at : ∀ (rs : List Int) (i : Nat) (h : i < rs.length), ((celsL rs).drop (i * 16)).take 16 = celL rs[i]
  | [], i, h => by simp at h
  | r :: rs, 0, h => by simp [celsL, celL]
  | r :: rs, i + 1, h => by
    have := celsL_at rs i (by simpa using h)
    have e : celsL (r :: rs) = celL r ++ celsL rs := by simp [celsL]
    rw [e, show (i + 1) * 16 = (celL r).length + i * 16 by rw [celL_length]; omega, List.drop_append, List.drop_of_length_le (by omega), List.nil_append, Nat.add_sub_cancel_left]
    simpa using this
/-- A block that begins with the cells of these runes. -/
theorem CellsIn.of_take {c : Array Value} {rs : List Int} (h : c.toList.take (rs.length * 16) = celsL rs) (ok : ∀ r ∈ rs, Ru r) : CellsIn c rs := by
  have hl : rs.length * 16 ≤ c.size := by
    have := congrArg List.length h
    rw [celsL_length, List.length_take] at this
    simp only [Array.length_toList] at this; omega
  refine ⟨hl, fun i hi => ?_, ok⟩
  have h1 := celsL_at rs i hi
  rw [← h, List.drop_take, List.take_take] at h1
  rw [show min 16 (rs.length * 16 - i * 16) = 16 by omega] at h1
  apply Array.ext'
  rw [Array.toList_extract, List.extract_eq_take_drop, show i * 16 + 16 - i * 16 = 16 by omega, h1]
  rfl
theorem CellsIn.take {c : Array Value} {rs : List Int} (h : CellsIn c rs) : c.toList.take (rs.length * 16) = celsL rs := by
  obtain ⟨hs, ha, _⟩ := h
  have : ∀ k, k ≤ rs.length → c.toList.take (k * 16) = celsL (rs.take k) := by
    intro k
    induction k with
    | zero => intro _; simp [celsL]
    | succ k ih =>
      intro hk
      have h1 := ha k (by omega)
      have h2 : (c.toList.drop (k * 16)).take 16 = celL rs[k] := by
        have := congrArg Array.toList h1
        rw [Array.toList_extract, List.extract_eq_take_drop, show k * 16 + 16 - k * 16 = 16 by omega] at this
        exact this
      rw [show (k + 1) * 16 = k * 16 + 16 by omega, List.take_add, ih (by omega), h2]
      have e : rs.take (k + 1) = rs.take k ++ [rs[k]] := List.take_succ_eq_append_getElem (by omega)
      rw [e]
      unfold celsL
      rw [List.flatMap_append]
      simp only [List.flatMap_cons, List.flatMap_nil, List.append_nil]
  have := this rs.length (Nat.le_refl _)
  simpa using this

/-- Cells of memory, one behind the other. -/
theorem cells_of {w : World} {b : Nat} {c : Array Value} {T : TypeId} {f : Nat × Nat} {o : Nat} {l : List Value} (hb : blk w b = some (.cells c T f)) (h : (c.toList.drop o).take l.length = l) : ∀ j v, l[j]? = some v → w.cell? ((⟨b, o, none⟩ : Addr).add j) = some v := by
  intro j v hj
  have e : (⟨b, o, none⟩ : Addr).add j = ⟨b, o + j, none⟩ := by unfold Addr.add; split <;> simp_all
  rw [e, cell?_blk, hb, at?_cells]
  have hlt : j < l.length := (List.getElem?_eq_some_iff.1 hj).1
  rw [← h, List.getElem?_take, if_pos hlt, List.getElem?_drop] at hj
  simpa using hj

/-- A row of a list that was added to: in its block. -/
theorem own_slice {w : World} {e : TypeId} {size : Nat} {v : Value} {n : Nat} {xs : List Value} (h : w.ownsRow 0 e size v n xs) (hn : n ≠ 0) :
    ∃ g cap cur, v = .slice (some ⟨g, 0, none⟩) n cap ∧ blk w g = some (.cells cur e) ∧ n ≤ cap ∧ cap ≤ maxLen ∧ cur.size = cap * size ∧ cur.toList.take (n * size) = xs := by
  rcases h.2 with ⟨_, h⟩ | ⟨g, cap, cur, h1, _, h2, h3, h4, h5, h6⟩
  · exact absurd h hn
  · exact ⟨g, cap, cur, h1, h2, h3, h4, h5, h6⟩

theorem c64 (w : World) (b cap : Nat) (rs : List Int) (h : RowAt w b cap rs) (h0 : rs.length ≠ 0) (hm : rs.length ≤ 1000) :
    Calls Tryz.prog 64 #[.slice (some ⟨b, 0, none⟩) rs.length cap] w fun e w' => ∃ b' cap', e = .returned (.slice (some ⟨b', 0, none⟩) rs.length cap') ∧ RowAt w' b' cap' rs ∧ w.heap.size ≤ b' ∧ Chg Non w w' := by
  refine r64 _ _ _ _ _ ?_
  unfold V64
  refine br_f rfl ?_
  refine nw ?_
  intro k w1 hk hs hb hc
  obtain ⟨c, hbc, hci, hcs, hcm⟩ := (h.non hc).ex
  obtain ⟨hu, i, z, hi, hz, hsz, hzs, hby, hpos⟩ := elCell
  obtain ⟨v', w2, hr, ho, hc2, hnil, hblk⟩ := app_own (P := Tryz.prog) w1 94 94 149 i z 16 hu hi hz hsz hzs hpos (.slice (some ⟨k, 0, none⟩) 0 0) 0 []
    ⟨rfl, .inr ⟨k, 0, #[], rfl, Nat.zero_le _, hb, Nat.le_refl _, by unfold maxLen; omega, rfl, rfl⟩⟩ ⟨b, 0, none⟩ rs.length cap (celsL rs) (by rw [celsL_length]) (cells_of hbc (by rw [celsL_length, List.drop_zero]; exact hci.take)) (celsL_one rs) (by unfold maxLen; omega) (by rw [hby]; omega)
  rw [Nat.zero_add] at ho
  obtain ⟨g, cap', cur, rfl, hg, hn1, hn2, hn3, hn4⟩ := own_slice ho h0
  refine ⟨_, _, _, w2, hr, ?_⟩
  have hkg : w.heap.size ≤ g := by
    rcases hblk g rfl with hx | hx
    · simp only [Value.ownBlock, Option.some.injEq] at hx; omega
    · omega
  refine ⟨g, cap', rfl, ⟨cur, hg, .of_take (by simpa using hn4) hci.ok, hn3, hn2⟩, hkg, hc.step (Chg.refl _ _) (sub_non _) |>.trans' hc2 ?_⟩
  intro j hj hx
  unfold OwnB at hx
  simp only [Value.ownBlock, Option.some.injEq] at hx
  omega

theorem c87 (w : World) (b cap : Nat) (rs : List Int) (so : Bool) (h : RowAt w b cap rs) (h0 : rs.length ≠ 0) (hm : rs.length ≤ 1000) :
    Calls Tryz.prog 87 #[.agg #[.slice (some ⟨b, 0, none⟩) rs.length cap, .bool so]] w fun e w' => ∃ b' cap', e = .returned (.agg #[.slice (some ⟨b', 0, none⟩) rs.length cap', .bool so]) ∧ RowAt w' b' cap' rs ∧ w.heap.size ≤ b' ∧ Chg Non w w' := by
  refine r87 _ _ _ ?_
  unfold V87
  refine nw ?_
  intro k1 w1 e1 s1 b1 g1
  refine nw ?_
  intro k2 w2 e2 s2 b2 g2
  repeat (first | (refine nw ?_; intro _ _ _ _ _ _) | refine ⟨_, rdall kp (by rfl), ?_⟩ | refine ⟨_, rd1 kp (by rfl), ?_⟩ | refine ⟨_, _, _, rd1 kp (by rfl), ?_⟩ | refine br_t cp ?_ | refine br_f cp ?_ | (refine ⟨_, rfl, ?_⟩; try dsimp only) | (refine ⟨_, _, rfl, ?_⟩; try dsimp only) | refine And.intro (by unfold inInt; omega) ?_ | (refine ⟨rfl, one_lit rfl, fw kp (by (first | exact Nat.le_of_ble_eq_true rfl | (simp; done) | omega)), puts0A kp (by rfl) ?_⟩; intro _ _ _ _) | (refine ⟨rfl, one_lit rfl, fw kp (by (first | exact Nat.le_of_ble_eq_true rfl | (simp; done) | omega)), puts0 kp (by rfl) ?_⟩; intro _ _ _ _) | (refine ⟨fw kp (by (first | exact Nat.le_of_ble_eq_true rfl | (simp; done) | omega)), putL kp (by ((try simp only [List.set_cons_zero, List.set_cons_succ]); rfl)) ?_⟩; intro _ _ _ _) | refine And.intro (by omega) ?_ | refine And.intro ⟨_, rd1 kp (by rfl), rfl⟩ ?_ | (refine nwB ?_; intro _ _ _ _ _ _) | (refine all_below ?_; intro _ _ _))
  refine Calls.then (c64 w2 b cap rs ((h.non g1).non g2) h0 hm) ?_
  rintro e w3 ⟨b', cap', rfl, hr, hb', g3⟩
  have := g3.size
  refine ⟨_, _, _, rfl, fw kp (by (first | exact Nat.le_of_ble_eq_true rfl | (simp; done) | omega)), ?_⟩
  refine putL kp (by rfl) ?_
  intro w4 s4 b4 g4
  refine ⟨_, rdall kp (by rfl), ?_⟩
  refine ⟨rfl, one_lit rfl, fw kp (by (first | exact Nat.le_of_ble_eq_true rfl | (simp; done) | omega)), puts0A kp (by rfl) ?_⟩
  intro w5 s5 b5 g5
  refine ⟨_, rdall kp (by rfl), ?_⟩
  have := hr.lt
  exact ⟨b', cap', rfl, (hr.next g4 (by (repeat (first | exact not_non _ | exact not_in_nil _ | refine not_in_cons (by first | assumption | exact Ne.symm (by assumption) | omega) ?_)))).next g5 (by (repeat (first | exact not_non _ | exact not_in_nil _ | refine not_in_cons (by first | assumption | exact Ne.symm (by assumption) | omega) ?_))), by omega, by (repeat (first | exact Chg.refl _ _ | refine Chg.step (by assumption) ?_ (by (first | exact sub_non _ | exact sub_nil _ | (repeat (first | exact sub_nil _ | refine sub_new (by omega) ?_ | refine sub_old (by first | assumption | exact in_head _ _ | exact in_tail (in_head _ _) | exact in_tail (in_tail (in_head _ _)) | simp [In]) ?_))))))⟩
end Go.Proofs

namespace Go.Proofs
open Go Go.X Go.RowKit
set_option linter.unusedVariables false
set_option linter.unusedSimpArgs false
set_option maxRecDepth 100000

theorem celsL_add (a b : Nat) : celsL (List.replicate (a + b) 0) = celsL (List.replicate a 0) ++ celsL (List.replicate b 0) := by
  unfold celsL; rw [← List.replicate_append_replicate, List.flatMap_append]

theorem blk_setRow {w : World} {g : Nat} {c : Array Value} {T : TypeId} {f : Nat × Nat} (d : Array Value) (h : blk w g = some (.cells c T f)) : blk (w.setRow g d) g = some (.cells d T f) := setRow_heap w g c d T f h
theorem chg_setRow (w : World) (g : Nat) (d : Array Value) : Chg (In [g]) w (w.setRow g d) :=
  ⟨rfl, rfl, rfl, by simp, fun k _ hk => setRow_other w g k d (fun e => hk (by subst e; exact in_head _ _))⟩
theorem size_setRow (w : World) (g : Nat) (d : Array Value) : (w.setRow g d).heap.size = w.heap.size := by simp
theorem size_zeroRow (z : Array Value) (n : Nat) : (zeroRow z n).size = n := by unfold zeroRow; simp

theorem c279 (y : Nat) (w : World) (hy : y < 4294967296) : Calls Tryz.prog 279 #[.int .u64 ((1 : Nat) : Int), .int .u64 (y : Int)] w fun e w' => e = .returned (.tuple #[.int .u64 0, .int .u64 (y : Int)]) ∧ Chg Non w w' := by
  refine r279 _ _ _ _ ?_
  unfold V279
  have hm : (BitVec.ofInt IntKind.u64.bits (y : Int) &&& BitVec.ofInt IntKind.u64.bits 4294967295).toNat = y := by
    rw [BitVec.toNat_and]
    have h1 : (BitVec.ofInt IntKind.u64.bits (y : Int)).toNat = y := by
      rw [BitVec.toNat_ofInt]; show ((y : Int) % (2 ^ 64 : Nat)).toNat = y; omega
    have h2 : (BitVec.ofInt IntKind.u64.bits 4294967295).toNat = 2 ^ 32 - 1 := rfl
    rw [h1, h2, Nat.and_two_pow_sub_one_eq_mod]; omega
  have hm1 : (BitVec.ofInt IntKind.u64.bits ((1 : Nat) : Int) &&& BitVec.ofInt IntKind.u64.bits 4294967295).toNat = 1 := rfl
  have hw : ∀ n : Nat, n < 4294967296 → IntKind.u64.wrap (n : Int) = n := fun n hn => by rw [IntKind.wrap_u64]; omega
  have hd : ∀ n : Nat, n < 4294967296 → (n : Int).fdiv (2 ^ 32) = 0 := fun n hn => by
    rw [Int.fdiv_eq_ediv_of_nonneg _ (by decide)]; omega
  have h0 : IntKind.u64.wrap 0 = 0 := rfl
  have hz : (BitVec.ofInt IntKind.u64.bits 0 &&& BitVec.ofInt IntKind.u64.bits 4294967295).toNat = 0 := rfl
  simp only [hm, hm1, hw y hy, hw 1 (by omega), hd y hy, hd 1 (by omega), Int.zero_mul, Int.mul_zero, h0, Int.add_zero, Int.zero_add, hz, Int.ofNat_zero]
  rw [show (((1 : Nat) : Int) * (y : Int)) = (y : Int) by omega, hw y hy, hd y hy]
  simp only [h0, Int.zero_fdiv, hz, Int.ofNat_zero, Int.add_zero]
  exact ⟨trivial, Chg.refl _ _⟩
theorem c223 (y : Nat) (w : World) (hy : y < 4294967296) : Calls Tryz.prog 223 #[.int .u64 ((1 : Nat) : Int), .int .u64 (y : Int)] w fun e w' => e = .returned (.tuple #[.int .u64 0, .int .u64 (y : Int)]) ∧ Chg Non w w' := by
  refine r223 _ _ _ _ ?_
  unfold V223
  refine Calls.then (c279 y w hy) ?_
  rintro e w1 ⟨rfl, g1⟩
  exact ⟨_, _, rfl, rfl, g1⟩

theorem c163 (w : World) (b : Nat) (C : Nat) (hb : blk w b = some (.cells (cel 0) 149)) (h0 : 1 ≤ C) (hm : C ≤ 1000) :
    Calls Tryz.prog 163 #[.slice (some ⟨b, 0, none⟩) 1 1, .int .i64 C] w fun e w' => ∃ b', e = .returned (.slice (some ⟨b', 0, none⟩) C C) ∧ RowAt w' b' C (List.replicate C 0) ∧ w.heap.size ≤ b' ∧ Chg Non w w' := by
  refine r163 _ _ _ _ _ _ ?_
  unfold V163
  intro K hK
  refine br_f cp (hK _ fun _ => ?_)
  rw [show IntKind.u64.wrap ((1 : Nat) : Int) = ((1 : Nat) : Int) by rw [IntKind.wrap_u64]; rfl, show IntKind.u64.wrap (C : Int) = (C : Int) by rw [IntKind.wrap_u64]; omega]
  refine Calls.then (c223 C w (by omega)) ?_
  rintro e w1 ⟨rfl, g1⟩
  refine ⟨_, _, rfl, ?_⟩
  intro K2 hK2
  refine br_f rfl (br_f cp (hK2 _ fun _ => ?_))
  refine ⟨by unfold inInt; omega, by omega, by omega, by omega, by omega, ?_⟩
  refine nw ?_
  intro k w2 e2 s2 b2 g2
  rw [show (C : Int).toNat = C by omega] at *
  obtain ⟨hu, i, z, hi, hz, hsz, hzs, hby, hpos⟩ := elCell
  have hbb : blk w2 b = some (.cells (cel 0) 149) := by (repeat (first | assumption | refine Chg.get (by assumption) ?_ (by (repeat (first | exact not_non _ | exact not_in_nil _ | refine not_in_cons (by first | assumption | exact Ne.symm (by assumption) | omega) ?_)))))
  have hkb : b ≠ k := by have := blk_lt hb; have := g1.size; omega
  have hr := copy_runs (P := Tryz.prog) w2 94 94 3 149 i k 0 C C ⟨b, 0, none⟩ 1 1 _ 149 (celL 0) hu hi b2 (by rw [hsz, celL_length, Nat.min_eq_left (by omega)]) (cells_of hbb rfl) (by rw [celL_length, size_zeroRow]; omega) (celL_one 0)
  rw [Nat.min_eq_left (by omega)] at hr
  refine ⟨_, _, hr, ?_⟩
  generalize hw3 : w2.setRow k _ = w3
  have g3 : Chg (In [k]) w2 w3 := by rw [← hw3]; exact chg_setRow _ _ _
  have b3 : ∃ cur, blk w3 k = some (.cells cur 149) ∧ cur.size = C * 16 ∧ cur.toList.take (1 * 16) = celsL (List.replicate 1 0) := by
    refine ⟨_, by rw [← hw3]; exact blk_setRow _ b2, ?_, ?_⟩
    · simp [celL_length, size_zeroRow]; omega
    · rfl
  have hg3 : Chg Non w w3 := by
    have := g1.size
    (repeat (first | exact Chg.refl _ _ | refine Chg.step (by assumption) ?_ (by (first | exact sub_non _ | exact sub_nil _ | (repeat (first | exact sub_nil _ | refine sub_new (by omega) ?_ | refine sub_old (by first | assumption | exact in_head _ _ | exact in_tail (in_head _ _) | exact in_tail (in_tail (in_head _ _)) | simp [In]) ?_))))))
  have hk0 : w.heap.size ≤ k := by have := g1.size; omega
  clear hw3 hr
  refine ⟨fun vs w' => Chg Non w w' ∧ ∃ j : Nat, vs = [.int .i64 j] ∧ 1 ≤ j ∧ j ≤ C ∧ ∃ cur, blk w' k = some (.cells cur 149) ∧ cur.size = C * 16 ∧ cur.toList.take (j * 16) = celsL (List.replicate j 0),
    fun vs _ => match vs with | [.int _ j] => (C - j).toNat | _ => 0, ⟨hg3, 1, rfl, by omega, h0, b3⟩, ?_⟩
  rintro n w4 _ ⟨g4, j, hj, hj1, hjC, cur, b4, hcs, hct⟩
  simp only [List.cons.injEq, Value.int.injEq, true_and, and_true] at hj
  subst hj
  refine br_dec (fun hlt => ?_) fun hge => ?_
  · refine ⟨by omega, by omega, by omega, by omega, all_below ?_⟩
    intro w5 s5 g5
    have hjC' : j ≠ C := by omega
    have b5 : blk w5 k = some (.cells cur 149) := by (repeat (first | assumption | refine Chg.get (by assumption) ?_ (by (repeat (first | exact not_non _ | exact not_in_nil _ | refine not_in_cons (by first | assumption | exact Ne.symm (by assumption) | omega) ?_)))))
    rw [show ((j : Int)).toNat = j by omega]
    have ha : cutA (some (⟨k, 0, none⟩ : Addr)) (j * 16) C j = some ⟨k, j * 16, none⟩ := by
      unfold cutA; rw [if_neg (by omega)]; simp [Addr.add_lit]
    rw [ha]
    have hm' : min j (C - j) ≤ j ∧ min j (C - j) ≤ C - j := ⟨Nat.min_le_left _ _, Nat.min_le_right _ _⟩
    have hm1 : 1 ≤ min j (C - j) := Nat.le_min.2 ⟨hj1, by omega⟩
    generalize hmm : min j (C - j) = m at *
    have hsrc : (cur.toList.drop 0).take (celsL (List.replicate m 0)).length = celsL (List.replicate m 0) := by
      rw [celsL_length, List.length_replicate, List.drop_zero]
      have e : cur.toList.take (m * 16) = (cur.toList.take (j * 16)).take (m * 16) := by rw [List.take_take, Nat.min_eq_left (by omega)]
      rw [e, hct, show j = m + (j - m) by omega, celsL_add, List.take_append_of_le_length (by rw [celsL_length, List.length_replicate]; omega), List.take_of_length_le (by rw [celsL_length, List.length_replicate]; omega)]
    have hr := copy_runs (P := Tryz.prog) w5 94 94 3 149 i k (j * 16) (C - j) (C - j) ⟨k, 0, none⟩ j C cur 149 (celsL (List.replicate m 0)) hu hi b5 (by rw [hsz, celsL_length, List.length_replicate, hmm]) (cells_of b5 hsrc) (by rw [celsL_length, List.length_replicate, hcs]; omega) (celsL_one _)
    rw [hmm] at hr
    refine ⟨_, _, hr, by unfold inInt; omega, ?_, ?_⟩
    · refine ⟨?_, j + m, by simp, by omega, by omega, _, blk_setRow _ b5, ?_, ?_⟩
      · have := chg_setRow w5 k (List.take (j * 16) cur.toList ++ celsL (List.replicate m 0) ++ List.drop (j * 16 + (celsL (List.replicate m 0)).length) cur.toList).toArray
        (repeat (first | exact Chg.refl _ _ | refine Chg.step (by assumption) ?_ (by (first | exact sub_non _ | exact sub_nil _ | (repeat (first | exact sub_nil _ | refine sub_new (by omega) ?_ | refine sub_old (by first | assumption | exact in_head _ _ | exact in_tail (in_head _ _) | exact in_tail (in_tail (in_head _ _)) | simp [In]) ?_))))))
      · simp [celsL_length, hcs]; omega
      · rw [celsL_add, List.append_assoc, hct, show (j + m) * 16 = (celsL (List.replicate j 0)).length + m * 16 by rw [celsL_length, List.length_replicate]; omega]
        rw [List.take_append, List.take_of_length_le (by omega)]
        congr 1
        rw [show (celsL (List.replicate j 0)).length + m * 16 - (celsL (List.replicate j 0)).length = (celsL (List.replicate m 0)).length by rw [celsL_length (List.replicate m 0), List.length_replicate]; omega]
        exact List.take_left
    · show ((C : Int) - ((j : Int) + (m : Int))).toNat < ((C : Int) - (j : Int)).toNat
      omega
  · have : j = C := by omega
    subst this
    exact ⟨k, rfl, ⟨cur, b4, .of_take (by rw [List.length_replicate]; exact hct) (fun r hr => by rw [List.mem_replicate] at hr; rw [hr.2]; exact .inl rfl), hcs, by unfold maxLen; omega⟩, hk0, g4⟩

theorem c118 (w : World) (C : Nat) (h0 : 1 ≤ C) (hm : C ≤ 1000) :
    Calls Tryz.prog 118 #[.int .i64 C, .agg penZ] w fun e w' => ∃ b cap, e = .returned (.agg #[.slice (some ⟨b, 0, none⟩) C cap, .bool false]) ∧ RowAt w' b cap (List.replicate C 0) ∧ w.heap.size ≤ b ∧ Chg Non w w' := by
  refine r118 _ _ _ _ ?_
  unfold V118
  refine nw ?_
  intro k1 w1 e1 s1 b1 g1
  refine nw ?_
  intro k2 w2 e2 s2 b2 g2
  refine ⟨_, rdall kp (by rfl), ?_⟩
  refine Calls.then (c116 w2) ?_
  rintro e w3 ⟨rfl, g3⟩
  refine ⟨_, rfl, rfl, nwC ?_⟩
  intro k3 w4 e4 s4 b4 g4
  have := g3.size
  refine Calls.then (c163 w4 k3 C b4 h0 hm) ?_
  rintro e w5 ⟨b', rfl, hr, hb', g5⟩
  have := g5.size
  refine ⟨_, _, _, rfl, rfl, one_lit rfl, fw kp (by (first | exact Nat.le_of_ble_eq_true rfl | (simp; done) | omega)), puts0 kp (by rfl) ?_⟩
  intro w6 s6 b6 g6
  refine ⟨_, rdall kp (by rfl), ?_⟩
  exact ⟨b', C, rfl, hr.next g6 (by (repeat (first | exact not_non _ | exact not_in_nil _ | refine not_in_cons (by first | assumption | exact Ne.symm (by assumption) | omega) ?_))), by omega, by (repeat (first | exact Chg.refl _ _ | refine Chg.step (by assumption) ?_ (by (first | exact sub_non _ | exact sub_nil _ | (repeat (first | exact sub_nil _ | refine sub_new (by omega) ?_ | refine sub_old (by first | assumption | exact in_head _ _ | exact in_tail (in_head _ _) | exact in_tail (in_tail (in_head _ _)) | simp [In]) ?_))))))⟩
end Go.Proofs

namespace Go.Proofs
open Go Go.X Go.RowKit
set_option linter.unusedVariables false
set_option linter.unusedSimpArgs false
set_option maxRecDepth 100000

/-- A row of a grid, of a history, or of a result: its cells' block, the block's capacity, its runes, and whether it is soft. -/
structure GRow where
  b : Nat
  cap : Nat
  rs : List Int
  so : Bool

def hdr (x : GRow) : List Value := [.slice (some ⟨x.b, 0, none⟩) x.rs.length x.cap, .bool x.so]
def hdrs (l : List GRow) : List Value := l.flatMap hdr
theorem hdrs_length : ∀ l, (hdrs l).length = l.length * 2
  | [] => rfl
  | x :: l => by
    have := hdrs_length l
    unfold hdrs at *
    rw [List.flatMap_cons, List.length_append, this, List.length_cons]; simp [hdr]; omega
theorem hdrs_one (l : List GRow) : ∀ u ∈ hdrs l, u.oneCell' = true := by
  intro u hu; unfold hdrs at hu; obtain ⟨r, _, h⟩ := List.mem_flatMap.1 hu
  simp only [hdr, List.mem_cons, List.not_mem_nil, or_false] at h
  rcases h with rfl | rfl <;> rfl
theorem hdrs_append (a b : List GRow) : hdrs (a ++ b) = hdrs a ++ hdrs b := by unfold hdrs; rw [List.flatMap_append]
theorem hdrs_at : ∀ (l : List GRow) (i : Nat) (h : i < l.length), ((hdrs l).drop (i * 2)).take 2 = hdr l[i]
  | [], i, h => by simp at h
  | r :: rs, 0, h => by simp [hdrs, hdr]
  | r :: rs, i + 1, h => by
    have := hdrs_at rs i (by simpa using h)
    have e : hdrs (r :: rs) = hdr r ++ hdrs rs := by simp [hdrs]
    rw [e, show (i + 1) * 2 = (hdr r).length + i * 2 by simp [hdr]; omega, List.drop_append, List.drop_of_length_le (by omega), List.nil_append, Nat.add_sub_cancel_left]
    simpa using this

/-- The rows' cells are there: each of so many columns, in its own block. -/
structure RowsAt (w : World) (C : Nat) (l : List GRow) : Prop where
  row : ∀ x ∈ l, RowAt w x.b x.cap x.rs
  len : ∀ x ∈ l, x.rs.length = C

theorem RowsAt.next {F : Nat → Prop} {w w' : World} {C : Nat} {l : List GRow} (h : RowsAt w C l) (k : Chg F w w') (hf : ∀ x ∈ l, ¬ F x.b) : RowsAt w' C l := ⟨fun x hx => (h.row x hx).next k (hf x hx), h.len⟩
theorem RowsAt.non {w w' : World} {C : Nat} {l : List GRow} (h : RowsAt w C l) (k : Chg Non w w') : RowsAt w' C l := h.next k fun x _ => not_non _

/-- A list of lines: nil, or in a block. -/
def LinesV (w : World) (v : Value) (l : List GRow) : Prop := w.ownsRow 0 96 2 v l.length (hdrs l)

theorem LinesV.nil (w : World) : LinesV w (.slice none 0 0) [] := World.ownsRow_nil _ _ _ _
theorem LinesV.next {F : Nat → Prop} {w w' : World} {v : Value} {l : List GRow} (h : LinesV w v l) (k : Chg F w w') (hf : ∀ g, v.ownBlock = some g → ¬ F g) : LinesV w' v l := by
  unfold LinesV at *
  obtain ⟨h1, h2⟩ := h
  refine ⟨h1, ?_⟩
  rcases h2 with h2 | ⟨g, cap, cur, rfl, hb, hg, h3⟩
  · exact .inl h2
  · exact .inr ⟨g, cap, cur, rfl, hb, k.get hg (hf g rfl), h3⟩
theorem LinesV.non {w w' : World} {v : Value} {l : List GRow} (h : LinesV w v l) (k : Chg Non w w') : LinesV w' v l := h.next k fun g _ => not_non g
theorem LinesV.lt {w : World} {v : Value} {l : List GRow} (h : LinesV w v l) {g : Nat} (hg : v.ownBlock = some g) : g < w.heap.size := (World.ownsRow.lt h g hg).2
/-- A line is added to a list. -/
theorem app_line (w : World) (v : Value) (l : List GRow) (x : GRow) (k c : Nat) (h : LinesV w v l) {f : Nat × Nat} (hk : blk w k = some (.cells (hdr x).toArray 96 f)) (hm : l.length ≤ 1000000) :
    ∃ b cap w', Runs Tryz.prog (Builtin.append_ #[44, 44] 44 #[v, .slice (some ⟨k, 0, none⟩) 1 c]) w (.slice (some ⟨b, 0, none⟩) (l.length + 1) cap) w' ∧ LinesV w' (.slice (some ⟨b, 0, none⟩) (l.length + 1) cap) (l ++ [x]) ∧ Chg (OwnB v) w w' ∧
      (v.ownBlock = some b ∨ w.heap.size ≤ b) := by
  obtain ⟨hu, i, z, hi, hz, hsz, hzs, hby, hpos⟩ := elLine
  obtain ⟨v', w', hr, ho, hc, hn, hb⟩ := app_own (P := Tryz.prog) w 44 44 96 i z 2 hu hi hz hsz hzs hpos v l.length (hdrs l) h ⟨k, 0, none⟩ 1 c (hdr x) rfl (cells_of hk (by rfl))
    (by intro u hu; simp only [hdr, List.mem_cons, List.not_mem_nil, or_false] at hu; rcases hu with rfl | rfl <;> rfl) (by unfold maxLen; omega) (by rw [hby]; omega)
  obtain ⟨g, cap, cur, rfl, h1, h2, h3, h4, h5⟩ := own_slice ho (by omega)
  refine ⟨g, cap, w', hr, ?_, hc, hb g rfl⟩
  unfold LinesV
  rw [List.length_append, hdrs_append]
  simpa [hdrs] using ho

theorem LinesV.ne {w : World} {v : Value} {l : List GRow} {k : Nat} {c : Array Value} {T : TypeId} {f : Nat × Nat} (h : LinesV w v l) (hk : blk w k = some (.cells c T f)) (hT : T ≠ 96) : ¬ OwnB v k := by
  intro ho
  rcases h.2 with ⟨rfl, _⟩ | ⟨g, cap, cur, rfl, _, hg, _⟩
  · cases ho
  · simp only [OwnB, Value.ownBlock, Option.some.injEq] at ho
    subst ho
    have hg' : blk w k = some (.cells cur 96) := hg
    rw [hk] at hg'
    injection hg' with e; injection e with e1 e2; exact hT e2
theorem LinesV.slice {w : World} {v : Value} {l : List GRow} (h : LinesV w v l) : ∃ a c, v = .slice a l.length c := by
  rcases h.2 with ⟨rfl, h2⟩ | ⟨g, cap, cur, rfl, _⟩
  · exact ⟨none, 0, by rw [h2]⟩
  · exact ⟨_, _, rfl⟩
theorem grows_row (v : Value) (C n : Nat) : Grows fun w => ∃ b cap, v = .agg #[.slice (some ⟨b, 0, none⟩) C cap, .bool false] ∧ RowAt w b cap (List.replicate C 0) ∧ n ≤ b := by
  rintro w w' ⟨b, cap, h1, h2, h3⟩ hb
  exact ⟨b, cap, h1, h2.non (.of_below hb), h3⟩
theorem grows_blk (v : Value) (c : Array Value) (T : TypeId) (n : Nat) : Grows fun w => ∃ k, v = .slice (some ⟨k, 0, none⟩) 1 1 ∧ blk w k = some (.cells c T) ∧ n ≤ k := by
  rintro w w' ⟨k, h1, h2, h3⟩ hb
  exact ⟨k, h1, (Chg.of_below hb).get h2 (not_non _), h3⟩

/-- A grid: its block, the rows' block, and the rows. -/
structure GridAt (w : World) (g rb rcap C : Nat) (l : List GRow) : Prop where
  grid : blk w g = some (.cells #[.int .i64 C, .slice (some ⟨rb, 0, none⟩) l.length rcap] 185)
  hd : LinesV w (.slice (some ⟨rb, 0, none⟩) l.length rcap) l
  rows : RowsAt w C l
  nodup : (l.map (·.b)).Nodup

theorem c92 (w : World) (R C : Nat) (h0 : 1 ≤ R ∧ R ≤ 1000) (h1 : 1 ≤ C ∧ C ≤ 1000) :
    Calls Tryz.prog 92 #[.int .i64 R, .int .i64 C] w fun e w' => ∃ g rb rcap l, e = .returned (.tuple #[.pointer (some ⟨g, 0, none⟩), .int .i64 0]) ∧ GridAt w' g rb rcap C l ∧ l.length = R ∧
      (∀ x ∈ l, x.rs = List.replicate C 0 ∧ x.so = false ∧ w.heap.size ≤ x.b) ∧ w.heap.size ≤ g ∧ w.heap.size ≤ rb ∧ Chg Non w w' := by
  refine r92 _ _ _ _ ?_
  unfold V92
  intro K hK
  repeat (first | (refine nw ?_; intro _ _ _ _ _ _) | refine ⟨_, rdall kp (by rfl), ?_⟩ | refine ⟨_, rd1 kp (by rfl), ?_⟩ | refine ⟨_, _, _, rd1 kp (by rfl), ?_⟩ | refine br_t cp ?_ | refine br_f cp ?_ | (refine ⟨_, rfl, ?_⟩; try dsimp only) | (refine ⟨_, _, rfl, ?_⟩; try dsimp only) | refine And.intro (by unfold inInt; omega) ?_ | (refine ⟨rfl, one_lit rfl, fw kp (by (first | exact Nat.le_of_ble_eq_true rfl | (simp; done) | omega)), puts0A kp (by rfl) ?_⟩; intro _ _ _ _) | (refine ⟨rfl, one_lit rfl, fw kp (by (first | exact Nat.le_of_ble_eq_true rfl | (simp; done) | omega)), puts0 kp (by rfl) ?_⟩; intro _ _ _ _) | (refine ⟨fw kp (by (first | exact Nat.le_of_ble_eq_true rfl | (simp; done) | omega)), putL kp (by ((try simp only [List.set_cons_zero, List.set_cons_succ]); rfl)) ?_⟩; intro _ _ _ _) | refine And.intro (by omega) ?_ | refine And.intro ⟨_, rd1 kp (by rfl), rfl⟩ ?_ | (refine nwB ?_; intro _ _ _ _ _ _) | (refine all_below ?_; intro _ _ _))
  refine hK _ _ _ fun _ => ?_
  refine nw ?_
  intro k w1 e1 s1 b1 g1
  refine ⟨fun vs w' => Chg Non w w' ∧ ∃ (j : Nat) (v : Value) (l : List GRow), vs = [.int .i64 j] ∧ j ≤ R ∧ l.length = j ∧ blk w' k = some (.cells #[.int .i64 C, v] 185) ∧ LinesV w' v l ∧ (∀ g, v.ownBlock = some g → w.heap.size ≤ g) ∧ RowsAt w' C l ∧ (l.map (·.b)).Nodup ∧
      ∀ x ∈ l, x.rs = List.replicate C 0 ∧ x.so = false ∧ w.heap.size ≤ x.b, fun vs _ => match vs with | [.int _ j] => (R - j).toNat | _ => 0,
      ⟨g1, 0, _, [], rfl, by omega, rfl, b1, LinesV.nil _, by intro g hg; simp [Value.ownBlock] at hg, ⟨by simp, by simp⟩, by simp, by simp⟩, ?_⟩
  rintro n w2 _ ⟨g2, _, v, l, hj, hjR, rfl, b2, hv, hvb, hrows, hnd, hx⟩
  simp only [List.cons.injEq, Value.int.injEq, true_and, and_true] at hj
  subst hj
  refine br_dec (fun hlt => ?_) fun hge => ?_
  · refine ⟨_, rfl, ?_⟩
    obtain ⟨va, vc, rfl⟩ := hv.slice
    refine ⟨_, _, _, rd1 b2 (by rfl), _, fun v => grows_row v C w2.heap.size, float fun w3 s3 g3 => ?_, fun c => ⟨_, fun v => grows_blk v c 96 w2.heap.size, ?_, ?_⟩⟩
    · refine Calls.then (c118 w3 C h1.1 h1.2) ?_
      rintro e w4 ⟨b, cap, rfl, hr, hb, g4⟩
      exact ⟨_, rfl, g4.below, b, cap, rfl, hr, by omega⟩
    · rintro w3 ⟨hbel, b, cap, hc, hr, hb⟩
      have := hbel.size
      injection hc with hc
      subst hc
      refine ⟨rfl, nwC ?_⟩
      intro k' w4 e4 s4 b4 g4
      exact ⟨g4.below, k', rfl, b4, by omega⟩
    · rintro p k33 k34 w3 ⟨⟨hbel, b, cap, hc, hr, hb⟩, k', hk', hbk, hk0⟩
      have g3 := Chg.of_below hbel
      have := g3.size
      injection hc with hc
      injection hk' with hk1 hk2 hk3
      subst hc; subst hk1; subst hk2; subst hk3
      have hv3 := hv.non g3
      obtain ⟨rb, rcap, w4, hr4, hv4, g4, hf4⟩ := app_line w3 _ l ⟨b, cap, List.replicate C 0, false⟩ k' 1 hv3 (by simpa [hdr] using hbk) (by omega)
      refine ⟨_, _, _, w4, hr4, _, rfl, ?_⟩
      dsimp only
      have b3 : blk w3 k = _ := g3.get b2 (not_non _)
      have b4 : blk w4 k = _ := g4.get b3 (hv3.ne b3 (by decide))
      refine ⟨fw b4 (by (first | exact Nat.le_of_ble_eq_true rfl | (simp; done) | omega)), putL b4 (by rfl) ?_⟩
      intro w5 s5 b5 g5
      have := g4.size
      have := g2.size
      have hrb : rb ≠ k := by
        intro e; subst e
        have hx := hv4.ne b4 (by decide)
        exact hx rfl
      have hrb0 : w.heap.size ≤ rb := by
        rcases hf4 with hx | hx
        · exact hvb _ hx
        · omega
      have hlt : ∀ x ∈ l, x.b < w2.heap.size := fun x hx => (hrows.row x hx).lt
      have hk0' : w.heap.size ≤ k := by omega
      have g4' : Chg Non w w4 := (g2.trans g3).trans' g4 (fun i hi ho => by
        have h := hvb i (by unfold OwnB at ho; exact ho.symm)
        omega)
      refine ⟨by unfold inInt; omega, ⟨g4'.trans' g5 (sub_new hk0' (sub_nil _)), l.length + 1, _, l ++ [⟨b, cap, List.replicate C 0, false⟩], by simp, by omega, by simp, b5, ?_, ?_, ?_, ?_, ?_⟩, ?_⟩
      · exact hv4.next g5 (fun g hg => not_in_cons (by simp only [Value.ownBlock, Option.some.injEq] at hg; omega) (not_in_nil _))
      · intro g hg; simp only [Value.ownBlock, Option.some.injEq] at hg; omega
      · have hrow4 : ∀ x : GRow, RowAt w3 x.b x.cap x.rs → RowAt w5 x.b x.cap x.rs := fun x hx => by
          obtain ⟨c, hc, _⟩ := hx.ex
          refine (hx.next g4 (hv3.ne hc (by decide))).next g5 (not_in_cons ?_ (not_in_nil _))
          intro e; rw [e, b3] at hc; injection hc with e; injection e with e1 e2; cases e2
        refine ⟨fun x hx => ?_, fun x hx => ?_⟩
        · rcases List.mem_append.1 hx with hx | hx
          · exact hrow4 x ((hrows.non g3).row x hx)
          · rw [List.mem_singleton] at hx; subst hx; exact hrow4 _ hr
        · rcases List.mem_append.1 hx with hx | hx
          · exact hrows.len x hx
          · rw [List.mem_singleton] at hx; subst hx; simp
      · rw [List.map_append, List.nodup_append]
        refine ⟨hnd, by simp, ?_⟩
        intro x hx y hy
        simp only [List.map_cons, List.map_nil, List.mem_singleton] at hy
        subst hy
        obtain ⟨z, hz, rfl⟩ := List.mem_map.1 hx
        have := hlt z hz
        omega
      · intro x hx'
        rcases List.mem_append.1 hx' with hx' | hx'
        · exact hx x hx'
        · rw [List.mem_singleton] at hx'; subst hx'; exact ⟨rfl, rfl, by show w.heap.size ≤ b; omega⟩
      · show ((R : Int) - ((l.length : Int) + 1)).toNat < ((R : Int) - (l.length : Int)).toNat
        omega
  · have hl : l.length = R := by omega
    obtain ⟨rb, rcap, cur, rfl, h3⟩ := own_slice hv (by omega)
    exact ⟨k, rb, rcap, l, rfl, ⟨b2, hv, hrows, hnd⟩, hl, hx, by omega, hvb rb rfl, g2⟩
end Go.Proofs

namespace Go.Proofs
open Go Go.X Go.RowKit
set_option linter.unusedVariables false
set_option linter.unusedSimpArgs false
set_option maxRecDepth 100000

theorem hdrs_get (l : List GRow) (i j : Nat) (h : i < l.length) (hj : j < 2) : (hdrs l)[i * 2 + j]? = (hdr l[i])[j]? := by
  have h1 := hdrs_at l i h
  rw [← h1, List.getElem?_take, if_pos hj, List.getElem?_drop]

theorem LinesV.at_ {w : World} {b n cap : Nat} {l : List GRow} (h : LinesV w (.slice (some ⟨b, 0, none⟩) n cap) l) : ∃ cur, blk w b = some (.cells cur 96) ∧ n = l.length ∧ n ≤ cap ∧ cap ≤ maxLen ∧ cur.size = cap * 2 ∧ cur.toList.take (l.length * 2) = hdrs l := by
  rcases h.2 with ⟨h1, _⟩ | ⟨g, cap', cur, h1, _, h2, h3, h4, h5, h6⟩
  · cases h1
  · injection h1 with h1 h1' h1''
    injection h1 with h1
    injection h1 with h1
    subst h1; subst h1'; subst h1''
    exact ⟨cur, h2, rfl, h3, h4, h5, h6⟩
theorem lines_at {cur : Array Value} {l : List GRow} (h : cur.toList.take (l.length * 2) = hdrs l) {i : Nat} (hi : i < l.length) {j : Nat} (hj : j < 2) : cur[i * 2 + j]? = (hdr l[i])[j]? := by
  rw [← hdrs_get l i j hi hj, ← h, List.getElem?_take, if_pos (by omega)]
  simp
theorem lines_two {cur : Array Value} {l : List GRow} (h : cur.toList.take (l.length * 2) = hdrs l) {i : Nat} (hi : i < l.length) : cur.extract (i * 2) (i * 2 + 2) = (hdr l[i]).toArray := by
  have h1 := hdrs_at l i hi
  have hl : l.length * 2 ≤ cur.size := by
    have := congrArg List.length h
    rw [hdrs_length, List.length_take] at this
    simp only [Array.length_toList] at this; omega
  rw [← h, List.drop_take, List.take_take, show min 2 (l.length * 2 - i * 2) = 2 by omega] at h1
  apply Array.ext'
  rw [Array.toList_extract, List.extract_eq_take_drop, show i * 2 + 2 - i * 2 = 2 by omega, h1]
/-- A line of a list, read from memory. -/
theorem LinesV.line {w : World} {b n cap : Nat} {l : List GRow} (h : LinesV w (.slice (some ⟨b, 0, none⟩) n cap) l) {i : Nat} (hi : i < l.length) : cellsW w ⟨b, i * 2, none⟩ 2 = some (hdr l[i]).toArray := by
  obtain ⟨cur, hb, h1, h2, h3, h4, h5⟩ := h.at_
  exact rdx hb (by omega) (lines_two h5 hi)
theorem LinesV.row {w : World} {b n cap : Nat} {l : List GRow} (h : LinesV w (.slice (some ⟨b, 0, none⟩) n cap) l) {i : Nat} (hi : i < l.length) : w.cell? ⟨b, i * 2, none⟩ = some (.slice (some ⟨l[i].b, 0, none⟩) l[i].rs.length l[i].cap) := by
  obtain ⟨cur, hb, h1, h2, h3, h4, h5⟩ := h.at_
  exact rd1 hb (lines_at h5 hi (j := 0) (by decide))

theorem c86 (w : World) (g C : Nat) (v : Value) (h : blk w g = some (.cells #[.int .i64 C, v] 185)) (h0 : C ≠ 0) :
    Calls Tryz.prog 86 #[.pointer (some ⟨g, 0, none⟩)] w fun e w' => e = .returned (.bool false) ∧ Chg Non w w' := by
  refine r86 _ _ _ ?_
  unfold V86
  repeat (first | (refine nw ?_; intro _ _ _ _ _ _) | refine ⟨_, rdall kp (by rfl), ?_⟩ | refine ⟨_, rd1 kp (by rfl), ?_⟩ | refine ⟨_, _, _, rd1 kp (by rfl), ?_⟩ | refine br_t cp ?_ | refine br_f cp ?_ | (refine ⟨_, rfl, ?_⟩; try dsimp only) | (refine ⟨_, _, rfl, ?_⟩; try dsimp only) | refine And.intro (by unfold inInt; omega) ?_ | (refine ⟨rfl, one_lit rfl, fw kp (by (first | exact Nat.le_of_ble_eq_true rfl | (simp; done) | omega)), puts0A kp (by rfl) ?_⟩; intro _ _ _ _) | (refine ⟨rfl, one_lit rfl, fw kp (by (first | exact Nat.le_of_ble_eq_true rfl | (simp; done) | omega)), puts0 kp (by rfl) ?_⟩; intro _ _ _ _) | (refine ⟨fw kp (by (first | exact Nat.le_of_ble_eq_true rfl | (simp; done) | omega)), putL kp (by ((try simp only [List.set_cons_zero, List.set_cons_succ]); rfl)) ?_⟩; intro _ _ _ _) | refine And.intro (by omega) ?_ | refine And.intro ⟨_, rd1 kp (by rfl), rfl⟩ ?_ | (refine nwB ?_; intro _ _ _ _ _ _) | (refine all_below ?_; intro _ _ _))
  exact ⟨by simp; omega, by (repeat (first | exact Chg.refl _ _ | refine Chg.step (by assumption) ?_ (by (first | exact sub_non _ | exact sub_nil _ | (repeat (first | exact sub_nil _ | refine sub_new (by omega) ?_ | refine sub_old (by first | assumption | exact in_head _ _ | exact in_tail (in_head _ _) | exact in_tail (in_tail (in_head _ _)) | simp [In]) ?_))))))⟩
theorem c183 (w : World) (g C : Nat) (v : Value) (h : blk w g = some (.cells #[.int .i64 C, v] 185)) :
    Calls Tryz.prog 183 #[.pointer (some ⟨g, 0, none⟩)] w fun e w' => e = .returned (.int .i64 C) ∧ Chg Non w w' := by
  refine r183 _ _ _ ?_
  unfold V183
  repeat (first | (refine nw ?_; intro _ _ _ _ _ _) | refine ⟨_, rdall kp (by rfl), ?_⟩ | refine ⟨_, rd1 kp (by rfl), ?_⟩ | refine ⟨_, _, _, rd1 kp (by rfl), ?_⟩ | refine br_t cp ?_ | refine br_f cp ?_ | (refine ⟨_, rfl, ?_⟩; try dsimp only) | (refine ⟨_, _, rfl, ?_⟩; try dsimp only) | refine And.intro (by unfold inInt; omega) ?_ | (refine ⟨rfl, one_lit rfl, fw kp (by (first | exact Nat.le_of_ble_eq_true rfl | (simp; done) | omega)), puts0A kp (by rfl) ?_⟩; intro _ _ _ _) | (refine ⟨rfl, one_lit rfl, fw kp (by (first | exact Nat.le_of_ble_eq_true rfl | (simp; done) | omega)), puts0 kp (by rfl) ?_⟩; intro _ _ _ _) | (refine ⟨fw kp (by (first | exact Nat.le_of_ble_eq_true rfl | (simp; done) | omega)), putL kp (by ((try simp only [List.set_cons_zero, List.set_cons_succ]); rfl)) ?_⟩; intro _ _ _ _) | refine And.intro (by omega) ?_ | refine And.intro ⟨_, rd1 kp (by rfl), rfl⟩ ?_ | (refine nwB ?_; intro _ _ _ _ _ _) | (refine all_below ?_; intro _ _ _))
  exact ⟨rfl, by (repeat (first | exact Chg.refl _ _ | refine Chg.step (by assumption) ?_ (by (first | exact sub_non _ | exact sub_nil _ | (repeat (first | exact sub_nil _ | refine sub_new (by omega) ?_ | refine sub_old (by first | assumption | exact in_head _ _ | exact in_tail (in_head _ _) | exact in_tail (in_tail (in_head _ _)) | simp [In]) ?_))))))⟩
theorem c234 (w : World) (g C n cap : Nat) (a : Option Addr) (h : blk w g = some (.cells #[.int .i64 C, .slice a n cap] 185)) :
    Calls Tryz.prog 234 #[.pointer (some ⟨g, 0, none⟩)] w fun e w' => e = .returned (.int .i64 n) ∧ Chg Non w w' := by
  refine r234 _ _ _ ?_
  unfold V234
  repeat (first | (refine nw ?_; intro _ _ _ _ _ _) | refine ⟨_, rdall kp (by rfl), ?_⟩ | refine ⟨_, rd1 kp (by rfl), ?_⟩ | refine ⟨_, _, _, rd1 kp (by rfl), ?_⟩ | refine br_t cp ?_ | refine br_f cp ?_ | (refine ⟨_, rfl, ?_⟩; try dsimp only) | (refine ⟨_, _, rfl, ?_⟩; try dsimp only) | refine And.intro (by unfold inInt; omega) ?_ | (refine ⟨rfl, one_lit rfl, fw kp (by (first | exact Nat.le_of_ble_eq_true rfl | (simp; done) | omega)), puts0A kp (by rfl) ?_⟩; intro _ _ _ _) | (refine ⟨rfl, one_lit rfl, fw kp (by (first | exact Nat.le_of_ble_eq_true rfl | (simp; done) | omega)), puts0 kp (by rfl) ?_⟩; intro _ _ _ _) | (refine ⟨fw kp (by (first | exact Nat.le_of_ble_eq_true rfl | (simp; done) | omega)), putL kp (by ((try simp only [List.set_cons_zero, List.set_cons_succ]); rfl)) ?_⟩; intro _ _ _ _) | refine And.intro (by omega) ?_ | refine And.intro ⟨_, rd1 kp (by rfl), rfl⟩ ?_ | (refine nwB ?_; intro _ _ _ _ _ _) | (refine all_below ?_; intro _ _ _))
  exact ⟨rfl, by (repeat (first | exact Chg.refl _ _ | refine Chg.step (by assumption) ?_ (by (first | exact sub_non _ | exact sub_nil _ | (repeat (first | exact sub_nil _ | refine sub_new (by omega) ?_ | refine sub_old (by first | assumption | exact in_head _ _ | exact in_tail (in_head _ _) | exact in_tail (in_tail (in_head _ _)) | simp [In]) ?_))))))⟩
theorem c283 (w : World) (g C n cap : Nat) (a : Option Addr) (row : Nat) (h : blk w g = some (.cells #[.int .i64 C, .slice a n cap] 185)) (h0 : C ≠ 0) (hr : row < n) :
    Calls Tryz.prog 283 #[.pointer (some ⟨g, 0, none⟩), .int .i64 row] w fun e w' => e = .returned (.int .i64 0) ∧ Chg Non w w' := by
  refine r283 _ _ _ _ ?_
  unfold V283
  intro K hK
  refine Calls.then (c86 w g C _ h h0) ?_
  rintro e w1 ⟨rfl, h1⟩
  repeat (first | (refine nw ?_; intro _ _ _ _ _ _) | refine ⟨_, rdall kp (by rfl), ?_⟩ | refine ⟨_, rd1 kp (by rfl), ?_⟩ | refine ⟨_, _, _, rd1 kp (by rfl), ?_⟩ | refine br_t cp ?_ | refine br_f cp ?_ | (refine ⟨_, rfl, ?_⟩; try dsimp only) | (refine ⟨_, _, rfl, ?_⟩; try dsimp only) | refine And.intro (by unfold inInt; omega) ?_ | (refine ⟨rfl, one_lit rfl, fw kp (by (first | exact Nat.le_of_ble_eq_true rfl | (simp; done) | omega)), puts0A kp (by rfl) ?_⟩; intro _ _ _ _) | (refine ⟨rfl, one_lit rfl, fw kp (by (first | exact Nat.le_of_ble_eq_true rfl | (simp; done) | omega)), puts0 kp (by rfl) ?_⟩; intro _ _ _ _) | (refine ⟨fw kp (by (first | exact Nat.le_of_ble_eq_true rfl | (simp; done) | omega)), putL kp (by ((try simp only [List.set_cons_zero, List.set_cons_succ]); rfl)) ?_⟩; intro _ _ _ _) | refine And.intro (by omega) ?_ | refine And.intro ⟨_, rd1 kp (by rfl), rfl⟩ ?_ | (refine nwB ?_; intro _ _ _ _ _ _) | (refine all_below ?_; intro _ _ _))
  refine hK _ _ fun _ => ?_
  exact ⟨rfl, by (repeat (first | exact Chg.refl _ _ | refine Chg.step (by assumption) ?_ (by (first | exact sub_non _ | exact sub_nil _ | (repeat (first | exact sub_nil _ | refine sub_new (by omega) ?_ | refine sub_old (by first | assumption | exact in_head _ _ | exact in_tail (in_head _ _) | exact in_tail (in_tail (in_head _ _)) | simp [In]) ?_))))))⟩
theorem c235 (w : World) (g C n cap : Nat) (a : Option Addr) (row col : Nat) (h : blk w g = some (.cells #[.int .i64 C, .slice a n cap] 185)) (hr : row < n) (hc : col < C) :
    Calls Tryz.prog 235 #[.pointer (some ⟨g, 0, none⟩), .int .i64 row, .int .i64 col] w fun e w' => e = .returned (.int .i64 0) ∧ Chg Non w w' := by
  refine r235 _ _ _ _ _ ?_
  unfold V235
  refine Calls.then (c283 w g C n cap a row h (by omega) hr) ?_
  rintro e w1 ⟨rfl, h1⟩
  refine ⟨_, rfl, ?_⟩
  intro K hK
  repeat (first | (refine nw ?_; intro _ _ _ _ _ _) | refine ⟨_, rdall kp (by rfl), ?_⟩ | refine ⟨_, rd1 kp (by rfl), ?_⟩ | refine ⟨_, _, _, rd1 kp (by rfl), ?_⟩ | refine br_t cp ?_ | refine br_f cp ?_ | (refine ⟨_, rfl, ?_⟩; try dsimp only) | (refine ⟨_, _, rfl, ?_⟩; try dsimp only) | refine And.intro (by unfold inInt; omega) ?_ | (refine ⟨rfl, one_lit rfl, fw kp (by (first | exact Nat.le_of_ble_eq_true rfl | (simp; done) | omega)), puts0A kp (by rfl) ?_⟩; intro _ _ _ _) | (refine ⟨rfl, one_lit rfl, fw kp (by (first | exact Nat.le_of_ble_eq_true rfl | (simp; done) | omega)), puts0 kp (by rfl) ?_⟩; intro _ _ _ _) | (refine ⟨fw kp (by (first | exact Nat.le_of_ble_eq_true rfl | (simp; done) | omega)), putL kp (by ((try simp only [List.set_cons_zero, List.set_cons_succ]); rfl)) ?_⟩; intro _ _ _ _) | refine And.intro (by omega) ?_ | refine And.intro ⟨_, rd1 kp (by rfl), rfl⟩ ?_ | (refine nwB ?_; intro _ _ _ _ _ _) | (refine all_below ?_; intro _ _ _))
  refine hK _ _ fun _ => ?_
  exact ⟨rfl, by (repeat (first | exact Chg.refl _ _ | refine Chg.step (by assumption) ?_ (by (first | exact sub_non _ | exact sub_nil _ | (repeat (first | exact sub_nil _ | refine sub_new (by omega) ?_ | refine sub_old (by first | assumption | exact in_head _ _ | exact in_tail (in_head _ _) | exact in_tail (in_tail (in_head _ _)) | simp [In]) ?_))))))⟩
theorem c236 (w : World) (b cap : Nat) (rs : List Int) (col : Nat) (h : RowAt w b cap rs) (hc : col ≤ rs.length) (hm : rs.length ≤ 1000) :
    Calls Tryz.prog 236 #[.slice (some ⟨b, 0, none⟩) rs.length cap, .int .i64 col] w fun e w' => e = .returned (.tuple #[]) ∧ Chg Non w w' := by
  refine r236 _ _ _ _ _ _ ?_
  unfold V236
  intro K hK
  by_cases h0 : col = 0
  · subst h0
    exact br_t rfl ⟨rfl, by (repeat (first | exact Chg.refl _ _ | refine Chg.step (by assumption) ?_ (by (first | exact sub_non _ | exact sub_nil _ | (repeat (first | exact sub_nil _ | refine sub_new (by omega) ?_ | refine sub_old (by first | assumption | exact in_head _ _ | exact in_tail (in_head _ _) | exact in_tail (in_tail (in_head _ _)) | simp [In]) ?_))))))⟩
  refine br_f cp ?_
  by_cases h1 : col = rs.length
  · exact br_t cp ⟨rfl, by (repeat (first | exact Chg.refl _ _ | refine Chg.step (by assumption) ?_ (by (first | exact sub_non _ | exact sub_nil _ | (repeat (first | exact sub_nil _ | refine sub_new (by omega) ?_ | refine sub_old (by first | assumption | exact in_head _ _ | exact in_tail (in_head _ _) | exact in_tail (in_tail (in_head _ _)) | simp [In]) ?_))))))⟩
  refine br_f cp ⟨by unfold inInt; omega, by omega, by omega, _, _, rfl, 1, ?_, br_t rfl ⟨rfl, by (repeat (first | exact Chg.refl _ _ | refine Chg.step (by assumption) ?_ (by (first | exact sub_non _ | exact sub_nil _ | (repeat (first | exact sub_nil _ | refine sub_new (by omega) ?_ | refine sub_old (by first | assumption | exact in_head _ _ | exact in_tail (in_head _ _) | exact in_tail (in_tail (in_head _ _)) | simp [In]) ?_))))))⟩⟩
  obtain ⟨c, hb, hci, _⟩ := h.ex
  have := hci.one (i := ((col : Int) - 1).toNat) (by omega) 4 (by decide)
  refine rd1 hb ?_
  dsimp only
  rw [Nat.zero_add, this]
  rfl
theorem hdrs_soft : ∀ (l : List GRow) (row : Nat) (so : Bool), row < l.length → hdrs (l.modify row fun x => { x with so := so }) = (hdrs l).set (row * 2 + 1) (.bool so)
  | [], row, so, hr => by simp at hr
  | x :: l, 0, so, hr => by simp [hdrs, hdr]
  | x :: l, row + 1, so, hr => by
    have := hdrs_soft l row so (by simpa using hr)
    have e : hdrs (x :: l) = hdr x ++ hdrs l := by simp [hdrs]
    rw [List.modify_succ_cons, e, show hdrs (x :: l.modify row fun x => { x with so := so }) = hdr x ++ hdrs (l.modify row fun x => { x with so := so }) by simp [hdrs], this]
    rw [List.set_append_right _ _ (by simp [hdr]; omega)]
    congr 2
    simp [hdr]; omega
theorem c239 (w : World) (g rb rcap C : Nat) (l : List GRow) (row : Nat) (so : Bool) (h : GridAt w g rb rcap C l) (h0 : C ≠ 0) (hr : row < l.length) :
    Calls Tryz.prog 239 #[.pointer (some ⟨g, 0, none⟩), .int .i64 row, .bool so] w fun e w' => e = .returned (.int .i64 0) ∧ Chg (In [rb]) w w' ∧ GridAt w' g rb rcap C (l.modify row fun x => { x with so := so }) := by
  refine r239 _ _ _ _ _ ?_
  unfold V239
  have hgr := h.grid
  refine Calls.then (c283 w g C _ _ _ row h.grid (by omega) hr) ?_
  rintro e w1 ⟨rfl, g1⟩
  refine ⟨_, rfl, ?_⟩
  intro K hK
  repeat (first | (refine nw ?_; intro _ _ _ _ _ _) | refine ⟨_, rdall kp (by rfl), ?_⟩ | refine ⟨_, rd1 kp (by rfl), ?_⟩ | refine ⟨_, _, _, rd1 kp (by rfl), ?_⟩ | refine br_t cp ?_ | refine br_f cp ?_ | (refine ⟨_, rfl, ?_⟩; try dsimp only) | (refine ⟨_, _, rfl, ?_⟩; try dsimp only) | refine And.intro (by unfold inInt; omega) ?_ | (refine ⟨rfl, one_lit rfl, fw kp (by (first | exact Nat.le_of_ble_eq_true rfl | (simp; done) | omega)), puts0A kp (by rfl) ?_⟩; intro _ _ _ _) | (refine ⟨rfl, one_lit rfl, fw kp (by (first | exact Nat.le_of_ble_eq_true rfl | (simp; done) | omega)), puts0 kp (by rfl) ?_⟩; intro _ _ _ _) | (refine ⟨fw kp (by (first | exact Nat.le_of_ble_eq_true rfl | (simp; done) | omega)), putL kp (by ((try simp only [List.set_cons_zero, List.set_cons_succ]); rfl)) ?_⟩; intro _ _ _ _) | refine And.intro (by omega) ?_ | refine And.intro ⟨_, rd1 kp (by rfl), rfl⟩ ?_ | (refine nwB ?_; intro _ _ _ _ _ _) | (refine all_below ?_; intro _ _ _))
  obtain ⟨cur, hb, h1, h2, h3, h4, h5⟩ := (h.hd.non g1).at_
  rw [Int.toNat_natCast, Nat.zero_add]
  refine ⟨fw hb (by omega), put1 hb ?_⟩
  intro w2 s2 b2 g2
  refine hK _ fun _ => ?_
  have hg : Chg (In [rb]) w w2 := g1.non.trans g2
  have hne : g ≠ rb := by rintro rfl; rw [g1.get h.grid (not_non _)] at hb; injection hb with e; injection e with _ e; cases e
  refine ⟨rfl, hg, ?_⟩
  refine ⟨by rw [List.length_modify]; exact hg.get h.grid (not_in_cons hne (not_in_nil _)), ?_, ?_, ?_⟩
  · have hh := hdrs_soft l row so hr
    unfold LinesV
    rw [List.length_modify]
    refine ⟨by rw [hdrs_length, List.length_modify], .inr ⟨rb, rcap, _, rfl, Nat.zero_le _, b2, h2, h3, by simp [h4], ?_⟩⟩
    rw [hh, ← h5]
    simp [List.take_set]
  · refine ⟨fun x hx => ?_, fun x hx => ?_⟩
    · obtain ⟨i, hi, rfl⟩ := List.mem_iff_getElem.1 hx
      rw [List.length_modify] at hi
      have hrow : RowAt w2 l[i].b l[i].cap l[i].rs := by
        refine (h.rows.row l[i] (List.getElem_mem _)).next hg (not_in_cons ?_ (not_in_nil _))
        obtain ⟨c, hc, _⟩ := ((h.rows.row l[i] (List.getElem_mem _)).non g1).ex
        rintro e; rw [e, hb] at hc; injection hc with e; injection e with _ e; cases e
      rw [List.getElem_modify]
      split <;> exact hrow
    · obtain ⟨i, hi, rfl⟩ := List.mem_iff_getElem.1 hx
      rw [List.length_modify] at hi
      have := h.rows.len l[i] (List.getElem_mem _)
      rw [List.getElem_modify]
      split <;> exact this
  · have : (l.modify row fun x => { x with so := so }).map (·.b) = l.map (·.b) := by
      apply List.ext_getElem?
      intro i
      simp only [List.getElem?_map, List.getElem?_modify]
      cases l[i]? <;> simp
      split <;> rfl
    rw [this]; exact h.nodup
end Go.Proofs

namespace Go.Proofs
open Go Go.X Go.RowKit
set_option linter.unusedVariables false
set_option linter.unusedSimpArgs false
set_option maxRecDepth 100000

theorem CellsIn.put {c : Array Value} {rs : List Int} (h : CellsIn c rs) {i : Nat} (hi : i < rs.length) {r : Int} (hr : Ru r) : CellsIn (putA c (i * 16) (celL r)) (rs.set i r) := by
  have hs := h.size
  refine ⟨by rw [List.length_set, putA_size]; exact hs, fun j hj => ?_, fun x hx => ?_⟩
  · rw [List.length_set] at hj
    have hj' := h.at_ j hj
    apply Array.ext_getElem?
    intro k
    by_cases hk : k < 16
    · rw [Array.getElem?_extract, putA_size, if_pos (by omega), putA_at _ _ _ _ (by rw [celL_length]; omega), celL_length]
      by_cases hij : i = j
      · subst hij
        rw [if_pos (by omega), List.getElem_set_self, show i * 16 + k - i * 16 = k by omega]
        simp [cel]
      · rw [if_neg (by omega), List.getElem_set_ne hij, ← hj', Array.getElem?_extract, if_pos (by omega)]
    · rw [Array.getElem?_eq_none (by rw [Array.size_extract, putA_size]; omega), Array.getElem?_eq_none (by show 16 ≤ k; omega)]
  · rcases List.mem_or_eq_of_mem_set hx with hx | rfl
    · exact h.ok x hx
    · exact hr
theorem RowAt.put {w w' : World} {b cap : Nat} {rs : List Int} (h : RowAt w b cap rs) {i : Nat} (hi : i < rs.length) {r : Int} (hr : Ru r)
    (hb : ∀ c, blk w b = some (.cells c 149) → blk w' b = some (.cells (putA c (i * 16) (celL r)) 149)) : RowAt w' b cap (rs.set i r) := by
  obtain ⟨c, h1, h2, h3, h4⟩ := h.ex
  exact ⟨_, hb c h1, h2.put hi hr, by rw [putA_size]; exact h3, h4⟩

theorem hdrs_congr : ∀ (l : List GRow) (row : Nat) (f : GRow → GRow), (∀ x, hdr (f x) = hdr x) → hdrs (l.modify row f) = hdrs l
  | [], row, f, h => by simp
  | x :: l, 0, f, h => by simp [hdrs, h]
  | x :: l, row + 1, f, h => by
    have := hdrs_congr l row f h
    rw [List.modify_succ_cons]
    simp only [hdrs, List.flatMap_cons] at *
    rw [this]
theorem map_b_congr (l : List GRow) (row : Nat) (f : GRow → GRow) (h : ∀ x, (f x).b = x.b) : (l.modify row f).map (·.b) = l.map (·.b) := by
  apply List.ext_getElem?
  intro i
  simp only [List.getElem?_map, List.getElem?_modify]
  cases l[i]? <;> simp
  split <;> simp [h]
theorem row_ne_lines {w : World} {b cap k : Nat} {rs : List Int} {c : Array Value} {T : TypeId} {f : Nat × Nat} (h : RowAt w b cap rs) (hk : blk w k = some (.cells c T f)) (hT : T ≠ 149) : b ≠ k := by
  obtain ⟨c', hc, _⟩ := h.ex
  rintro rfl; rw [hk] at hc; injection hc with e; injection e with _ e; exact hT e
theorem nodup_ne {l : List GRow} (h : (l.map (·.b)).Nodup) {i j : Nat} (hi : i < l.length) (hj : j < l.length) (hij : i ≠ j) : l[i].b ≠ l[j].b := by
  intro e
  have hi' : i < (l.map (·.b)).length := by simpa using hi
  have hj' : j < (l.map (·.b)).length := by simpa using hj
  have := (List.getElem_inj (h₀ := hi') (h₁ := hj') h).1 (by simpa using e)
  exact hij this

theorem c179 (w : World) (g rb rcap C : Nat) (l : List GRow) (row col : Nat) (r : Int) (gl : Glob w) (h : GridAt w g rb rcap C l) (hr : row < l.length) (hc : col < C) (hm : C ≤ 1000) (ru : Ru r) :
    Calls Tryz.prog 179 #[.pointer (some ⟨g, 0, none⟩), .int .i64 row, .int .i64 col, .agg (cel r)] w fun e w' => e = .returned (.int .i64 0) ∧ Chg (In [l[row].b]) w w' ∧ GridAt w' g rb rcap C (l.modify row fun x => { x with rs := x.rs.set col r }) := by
  refine r179 _ _ _ _ _ _ ?_
  unfold V179
  have hgr := h.grid
  have hlen := h.rows.len l[row] (List.getElem_mem _)
  refine nw ?_
  intro k w1 e1 s1 b1 g1
  refine Calls.then (c235 w1 g C _ _ _ row col (g1.get hgr (not_non _)) hr hc) ?_
  rintro e w2 ⟨rfl, g2⟩
  have := g2.size
  refine ⟨_, rfl, ?_⟩
  refine br_f rfl ?_
  intro K hK
  refine ⟨_, rdall kp (by rfl), true, float fun w3 s3 g3 => ?_, ?_⟩
  · refine Calls.then (c115 r w3 (((gl.non g1).non g2).non g3) ru) ?_
    rintro e w4 ⟨rfl, g4⟩
    exact ⟨true, rfl, g4.below, rfl⟩
  refine br_f rfl ⟨_, rd1 kp (by rfl), br_f rfl ?_⟩
  repeat (first | (refine nw ?_; intro _ _ _ _ _ _) | refine ⟨_, rdall kp (by rfl), ?_⟩ | refine ⟨_, rd1 kp (by rfl), ?_⟩ | refine ⟨_, _, _, rd1 kp (by rfl), ?_⟩ | refine br_t cp ?_ | refine br_f cp ?_ | (refine ⟨_, rfl, ?_⟩; try dsimp only) | (refine ⟨_, _, rfl, ?_⟩; try dsimp only) | refine And.intro (by unfold inInt; omega) ?_ | (refine ⟨rfl, one_lit rfl, fw kp (by (first | exact Nat.le_of_ble_eq_true rfl | (simp; done) | omega)), puts0A kp (by rfl) ?_⟩; intro _ _ _ _) | (refine ⟨rfl, one_lit rfl, fw kp (by (first | exact Nat.le_of_ble_eq_true rfl | (simp; done) | omega)), puts0 kp (by rfl) ?_⟩; intro _ _ _ _) | (refine ⟨fw kp (by (first | exact Nat.le_of_ble_eq_true rfl | (simp; done) | omega)), putL kp (by ((try simp only [List.set_cons_zero, List.set_cons_succ]); rfl)) ?_⟩; intro _ _ _ _) | refine And.intro (by omega) ?_ | refine And.intro ⟨_, rd1 kp (by rfl), rfl⟩ ?_ | (refine nwB ?_; intro _ _ _ _ _ _) | (refine all_below ?_; intro _ _ _))
  refine hK _ _ fun _ => ?_
  clear hK K
  rename_i w3 s3 g3 _
  obtain ⟨hrow, hline⟩ : RowAt w3 l[row].b l[row].cap l[row].rs ∧ w3.cell? ⟨rb, row * 2, none⟩ = some (.slice (some ⟨l[row].b, 0, none⟩) l[row].rs.length l[row].cap) := by
    have gw : Chg Non w w3 := by (repeat (first | exact Chg.refl _ _ | refine Chg.step (by assumption) ?_ (by (first | exact sub_non _ | exact sub_nil _ | (repeat (first | exact sub_nil _ | refine sub_new (by omega) ?_ | refine sub_old (by first | assumption | exact in_head _ _ | exact in_tail (in_head _ _) | exact in_tail (in_tail (in_head _ _)) | simp [In]) ?_))))))
    exact ⟨(h.rows.row l[row] (List.getElem_mem _)).non gw, (h.hd.non gw).row hr⟩
  refine ⟨_, rfl, _, _, _, rd1 kp (by rfl), by omega, by omega, _, _, rfl, ?_⟩
  rw [Int.toNat_natCast, Nat.zero_add]
  refine ⟨_, _, _, hline, ?_⟩
  refine Calls.then (c236 w3 _ _ _ col hrow (by omega) (by omega)) ?_
  rintro e w4 ⟨rfl, g4⟩
  refine ⟨rfl, _, rd1 kp (by rfl), by unfold inInt; omega, ?_⟩
  have e1' : ((col : Int) + 1) = ((col + 1 : Nat) : Int) := by omega
  rw [e1']
  refine Calls.then (c236 w4 _ _ _ (col + 1) (hrow.non g4) (by omega) (by omega)) ?_
  rintro e w5 ⟨rfl, g5⟩
  refine ⟨rfl, _, rdall kp (by rfl), by omega, by omega, _, _, rfl, rfl, one_lit rfl, ?_⟩
  have hrow5 := (hrow.non g4).non g5
  obtain ⟨c, hb, hci, hcs, hcm⟩ := hrow5.ex
  have hci' := hci.size
  rw [Int.toNat_natCast, Nat.zero_add]
  refine ⟨fw hb (by omega), putsA hb ?_⟩
  intro w6 s6 b6 g6
  intro K hK
  have hne : k ≠ l[row].b := by have := (h.rows.row l[row] (List.getElem_mem _)).lt; omega
  refine ⟨_, rd1 kp (by rfl), br_f rfl (hK _ fun _ => ?_)⟩
  have gF : Chg (In [l[row].b]) w w6 := by (repeat (first | exact Chg.refl _ _ | refine Chg.step (by assumption) ?_ (by (first | exact sub_non _ | exact sub_nil _ | (repeat (first | exact sub_nil _ | refine sub_new (by omega) ?_ | refine sub_old (by first | assumption | exact in_head _ _ | exact in_tail (in_head _ _) | exact in_tail (in_tail (in_head _ _)) | simp [In]) ?_))))))
  refine ⟨rfl, gF, ?_⟩
  have hother : ∀ (i : Nat) (hi : i < l.length), row ≠ i → RowAt w6 l[i].b l[i].cap l[i].rs := fun i hi hri => by
    have h1 := h.rows.row l[i] (List.getElem_mem hi)
    have h2 := nodup_ne h.nodup hi hr (fun e => hri e.symm)
    exact h1.next gF (not_in_cons h2 (not_in_nil _))
  have hsame : RowAt w6 l[row].b l[row].cap (l[row].rs.set col r) := by
    have b6' : blk w6 l[row].b = some (.cells (putA c (col * 16) (celL r)) 149) := b6
    exact ⟨_, b6', hci.put (by omega) ru, by rw [putA_size]; exact hcs, hcm⟩
  have hf : ∀ x : GRow, hdr { x with rs := x.rs.set col r } = hdr x := fun x => by simp [hdr]
  refine ⟨by rw [List.length_modify]; exact gF.get hgr (not_in_cons (row_ne_lines (h.rows.row l[row] (List.getElem_mem _)) hgr (by decide)).symm (not_in_nil _)), ?_, ?_, by rw [map_b_congr l row (fun x => { x with rs := x.rs.set col r }) (fun _ => rfl)]; exact h.nodup⟩
  · unfold LinesV
    rw [List.length_modify, hdrs_congr _ _ _ hf]
    refine h.hd.next gF fun j hj => ?_
    simp only [Value.ownBlock, Option.some.injEq] at hj
    subst hj
    obtain ⟨cur, hbr, _⟩ := h.hd.at_
    exact not_in_cons (row_ne_lines (h.rows.row l[row] (List.getElem_mem _)) hbr (by decide)).symm (not_in_nil _)
  · refine ⟨fun x hx => ?_, fun x hx => ?_⟩
    · obtain ⟨i, hi, rfl⟩ := List.mem_iff_getElem.1 hx
      rw [List.length_modify] at hi
      rw [List.getElem_modify]
      split
      · rename_i hri
        subst hri
        exact hsame
      · rename_i hri
        exact hother i hi hri
    · obtain ⟨i, hi, rfl⟩ := List.mem_iff_getElem.1 hx
      rw [List.length_modify] at hi
      have := h.rows.len l[i] (List.getElem_mem _)
      rw [List.getElem_modify]
      split <;> simp [this]
end Go.Proofs

namespace Go.Proofs
open Go Go.X Go.RowKit
set_option linter.unusedVariables false
set_option linter.unusedSimpArgs false
set_option maxRecDepth 100000

/-- What a list of rows holds: the runes and whether each is soft. -/
def txts (l : List GRow) : List (List Int × Bool) := l.map fun x => (x.rs, x.so)

/-- A line is added to a list of the function's own. -/
theorem app_local {w0 w : World} {v : Value} {l : List GRow} {C : Nat} (g : Chg Non w0 w) (h : LinesV w v l) (hv : ∀ b, v.ownBlock = some b → w0.heap.size ≤ b) (hr : RowsAt w C l) (x : GRow) (k c : Nat) {f : Nat × Nat} (hk : blk w k = some (.cells (hdr x).toArray 96 f)) (hx : RowAt w x.b x.cap x.rs) (hC : x.rs.length = C) (hm : l.length ≤ 1000000) :
    ∃ b cap w', Runs Tryz.prog (Builtin.append_ #[44, 44] 44 #[v, .slice (some ⟨k, 0, none⟩) 1 c]) w (.slice (some ⟨b, 0, none⟩) (l.length + 1) cap) w' ∧ LinesV w' (.slice (some ⟨b, 0, none⟩) (l.length + 1) cap) (l ++ [x]) ∧ w0.heap.size ≤ b ∧ RowsAt w' C (l ++ [x]) ∧ Chg Non w0 w' ∧
      (∀ j o, w0.heap.size ≤ j → blk w j = some o → (∀ c f, o ≠ .cells c 96 f) → blk w' j = some o) := by
  obtain ⟨b, cap, w', h1, h2, h3, h4⟩ := app_line w v l x k c h hk hm
  have hs := g.size
  have hrow : ∀ y : GRow, RowAt w y.b y.cap y.rs → RowAt w' y.b y.cap y.rs := fun y hy => by
    obtain ⟨cc, hc, _⟩ := hy.ex
    exact hy.next h3 (h.ne hc (by decide))
  refine ⟨b, cap, w', h1, h2, ?_, ⟨fun y hy => ?_, fun y hy => ?_⟩, g.trans' h3 ?_, ?_⟩
  · rcases h4 with h4 | h4
    · exact hv b h4
    · omega
  · rcases List.mem_append.1 hy with hy | hy
    · exact hrow y (hr.row y hy)
    · rw [List.mem_singleton] at hy; subst hy; exact hrow _ hx
  · rcases List.mem_append.1 hy with hy | hy
    · exact hr.len y hy
    · rw [List.mem_singleton] at hy; subst hy; exact hC
  · intro i hi ho
    have := hv i (by unfold OwnB at ho; exact ho.symm)
    omega
  · intro j o hj hb ho
    refine h3.get hb ?_
    rcases o with ⟨cc, T, f⟩ | _ | _ <;> first | (exact h.ne hb (fun e => ho cc f (by rw [e]))) | skip
    all_goals
      intro hh
      rcases h.2 with ⟨rfl, _⟩ | ⟨gg, cap, cur, rfl, _, hg, _⟩
      · cases hh
      · simp only [OwnB, Value.ownBlock, Option.some.injEq] at hh
        subst hh
        have hg' : blk w j = some (.cells cur 96) := hg
        rw [hb] at hg'; cases hg'

def LoopV (p6 : Option Addr) (k7 : Nat) (w3 : World) (R : Ending → World → Prop) : Prop := ∃ (x9 : List Value → World → Prop), ∃ (x10 : List Value → World → Nat), x9 [Value.slice none 0 0, Value.int IntKind.i64 0] w3 ∧ ∀ (p11 : Option Addr) (k12 k13 : Nat) (n14 : Int) (w15 : World) (x16 : Nat → Value), x9 [Value.slice p11 k12 k13, Value.int IntKind.i64 n14] w15 → Br (decide (n14 < (↑k7 : Int))) ((0 : Int) ≤ n14 ∧ n14 < (↑k7 : Int) ∧ ∃ (k17 : Nat), ∃ (k18 : Nat), p6 = some (Addr.mk k17 k18 none) ∧ ∃ (c19 : Array Value), cellsW w15 (Addr.mk k17 (k18 + n14.toNat * 2) none) 2 = some c19 ∧ ∀ (k20 : Nat) (w21 : World), New w15 (Obj.cells #[Value.slice none 0 0, Value.bool false] 96) k20 w21 → c19.size = 2 ∧ OneCells c19 ∧ FreeW w21 (Addr.mk k20 0 none) 2 ∧ ∀ (w22 : World), Puts w21 (Addr.mk k20 0 none) c19.1 w22 → ∃ (c23 : Array Value), cellsW w22 (Addr.mk k20 0 none) 2 = some c23 ∧ Calls Tryz.prog 87 #[Value.agg c23] w22 fun (e24 : Ending) (w25 : World) => ∃ (c26 : Array Value), e24 = Ending.returned (Value.agg c26) ∧ c26.size = 2 ∧ ∀ (k27 : Nat) (w28 : World), New w25 (Obj.cells (Array.mk (catA c26 [])) 96) k27 w28 → ∃ (p29 : Option Addr), ∃ (k30 : Nat), ∃ (k31 : Nat), ∃ (w32 : World), Runs Tryz.prog (Builtin.append_ #[44, 44] 44 #[Value.slice p11 k12 k13, Value.slice (some (Addr.mk k27 0 none)) 1 1]) w28 (Value.slice p29 k30 k31) w32 ∧ inInt (n14 + 1) ∧ x9 [Value.slice p29 k30 k31, Value.int IntKind.i64 (n14 + 1)] w32 ∧ x10 [Value.slice p29 k30 k31, Value.int IntKind.i64 (n14 + 1)] w32 < x10 [Value.slice p11 k12 k13, Value.int IntKind.i64 n14] w15) (R (Ending.returned (Value.slice p11 k12 k13)) w15)

theorem loopV (b n cap C : Nat) (l : List GRow) (w : World) (h : LinesV w (.slice (some ⟨b, 0, none⟩) n cap) l) (hr : RowsAt w C l) (h0 : C ≠ 0) (hC : C ≤ 1000) (hm : l.length ≤ 1000) (R : Ending → World → Prop)
    (hR : ∀ w' v l', LinesV w' v l' → RowsAt w' C l' → txts l' = txts l → (∀ x ∈ l', w.heap.size ≤ x.b) → (∀ g, v.ownBlock = some g → w.heap.size ≤ g) → Chg Non w w' → R (.returned v) w') :
    LoopV (some ⟨b, 0, none⟩) n w R := by
  obtain ⟨cur, hb, hn, _, _, _, htk⟩ := h.at_
  subst hn
  unfold LoopV
  refine ⟨fun vs w' => Chg Non w w' ∧ ∃ (v : Value) (l' : List GRow), vs = [v, .int .i64 l'.length] ∧ LinesV w' v l' ∧ RowsAt w' C l' ∧ txts l' = (txts l).take l'.length ∧ l'.length ≤ l.length ∧ (∀ x ∈ l', w.heap.size ≤ x.b) ∧ (∀ g, v.ownBlock = some g → w.heap.size ≤ g),
    fun vs _ => match vs with | [_, .int _ j] => (l.length - j).toNat | _ => 0, ⟨Chg.refl _ _, _, [], rfl, LinesV.nil _, ⟨by simp, by simp⟩, rfl, by simp, by simp, by intro g hg; cases hg⟩, ?_⟩
  rintro p k1 k2 n w1 _ ⟨g1, v, l', hj, hv, hr1, htx, hle, hx, hvb⟩
  simp only [List.cons.injEq, Value.int.injEq, true_and, and_true] at hj
  obtain ⟨rfl, rfl⟩ := hj
  refine br_dec (fun hlt => ?_) fun hge => ?_
  · have hi : l'.length < l.length := by omega
    refine ⟨by omega, by omega, _, _, rfl, _, by rw [Nat.zero_add, Int.toNat_natCast]; exact (h.non g1).line hi, ?_⟩
    have hrow := (hr.non g1).row l[l'.length] (List.getElem_mem _)
    have hlen := hr.len l[l'.length] (List.getElem_mem _)
    have s1 := g1.size
    refine nw ?_
    intro k w2 e2 s2 b2 g2
    refine ⟨rfl, one_lit rfl, fw kp (by (first | exact Nat.le_of_ble_eq_true rfl | (simp; done) | omega)), puts0A kp (by rfl) ?_⟩
    intro w3 s3 b3 g3
    refine ⟨_, rdall kp (by rfl), ?_⟩
    have hrow3 := (hrow.non g2).next g3 (not_in_cons (by have := hrow.lt; omega) (not_in_nil _))
    refine Calls.then (c87 w3 _ _ _ _ hrow3 (by omega) (by omega)) ?_
    rintro e w4 ⟨b', cap', rfl, hr4, hb4, g4⟩
    have s4 := g4.size
    refine ⟨_, rfl, rfl, nwC ?_⟩
    intro k' w5 e5 s5 b5 g5
    obtain ⟨va, vc, hve⟩ := hv.slice
    have hl' : ∀ x ∈ l', x.b < w1.heap.size := fun x hx => (hr1.row x hx).lt
    have hr5 : RowsAt w5 C l' := (((hr1.non g2).next g3 (fun x hx => not_in_cons (by have := hl' x hx; omega) (not_in_nil _))).non g4).non g5
    have hv5 : LinesV w5 (.slice p k1 k2) l' := (((hv.non g2).next g3 (fun j hj => not_in_cons (by have := hv.lt hj; omega) (not_in_nil _))).non g4).non g5
    have gg : Chg Non w w5 := by (repeat (first | exact Chg.refl _ _ | refine Chg.step (by assumption) ?_ (by (first | exact sub_non _ | exact sub_nil _ | (repeat (first | exact sub_nil _ | refine sub_new (by omega) ?_ | refine sub_old (by first | assumption | exact in_head _ _ | exact in_tail (in_head _ _) | exact in_tail (in_tail (in_head _ _)) | simp [In]) ?_))))))
    obtain ⟨rb, rcap, w6, hr6, hv6, hb6, hrw6, g6, _⟩ := app_local gg hv5 hvb hr5 ⟨b', cap', l[l'.length].rs, l[l'.length].so⟩ k' 1 b5 (hr4.non g5) hlen (by omega)
    refine ⟨_, _, _, w6, hr6, by unfold inInt; omega, ⟨g6, .slice (some ⟨rb, 0, none⟩) (l'.length + 1) rcap, l' ++ [⟨b', cap', l[l'.length].rs, l[l'.length].so⟩], by simp, by simpa using hv6, hrw6, ?_, by simp; omega, ?_, ?_⟩, ?_⟩
    · have : (txts l).take (l'.length + 1) = (txts l).take l'.length ++ [(l[l'.length].rs, l[l'.length].so)] := by
        rw [List.take_succ_eq_append_getElem (by simp [txts]; omega)]
        simp [txts]
      rw [List.length_append, List.length_singleton, this, ← htx]
      simp [txts]
    · intro x hx'
      rcases List.mem_append.1 hx' with hx' | hx'
      · exact hx x hx'
      · rw [List.mem_singleton] at hx'; subst hx'; show w.heap.size ≤ b'; omega
    · intro g hg; simp only [Value.ownBlock, Option.some.injEq] at hg; omega
    · show ((l.length : Int) - ((l'.length : Int) + 1)).toNat < ((l.length : Int) - (l'.length : Int)).toNat
      omega
  · have hl : l'.length = l.length := by omega
    exact hR w1 _ l' hv hr1 (by rw [htx, hl, List.take_of_length_le (by simp [txts])]) hx hvb g1

/-- A grid of which nothing is said but what it holds. -/
structure GridR (w : World) (g rb rcap C : Nat) (l : List GRow) : Prop where
  grid : blk w g = some (.cells #[.int .i64 C, .slice (some ⟨rb, 0, none⟩) l.length rcap] 185)
  hd : LinesV w (.slice (some ⟨rb, 0, none⟩) l.length rcap) l
  rows : RowsAt w C l
theorem GridAt.r {w : World} {g rb rcap C : Nat} {l : List GRow} (h : GridAt w g rb rcap C l) : GridR w g rb rcap C l := ⟨h.grid, h.hd, h.rows⟩
theorem GridR.non {w w' : World} {g rb rcap C : Nat} {l : List GRow} (h : GridR w g rb rcap C l) (k : Chg Non w w') : GridR w' g rb rcap C l := ⟨k.get h.grid (not_non _), h.hd.non k, h.rows.non k⟩
theorem GridAt.non {w w' : World} {g rb rcap C : Nat} {l : List GRow} (h : GridAt w g rb rcap C l) (k : Chg Non w w') : GridAt w' g rb rcap C l := ⟨k.get h.grid (not_non _), h.hd.non k, h.rows.non k, h.nodup⟩

theorem c53 (w : World) (g rb rcap C : Nat) (l : List GRow) (h : GridR w g rb rcap C l) (h0 : C ≠ 0) (hC : C ≤ 1000) (hm : l.length ≤ 1000) :
    Calls Tryz.prog 53 #[.pointer (some ⟨g, 0, none⟩)] w fun e w' => ∃ v l', e = .returned v ∧ LinesV w' v l' ∧ RowsAt w' C l' ∧ txts l' = txts l ∧ (∀ x ∈ l', w.heap.size ≤ x.b) ∧ (∀ g, v.ownBlock = some g → w.heap.size ≤ g) ∧ Chg Non w w' := by
  suffices key : ∀ R : Ending → World → Prop, (∀ w' v l', LinesV w' v l' → RowsAt w' C l' → txts l' = txts l → (∀ x ∈ l', w.heap.size ≤ x.b) → (∀ g, v.ownBlock = some g → w.heap.size ≤ g) → Chg Non w w' → R (.returned v) w') → Calls Tryz.prog 53 #[.pointer (some ⟨g, 0, none⟩)] w R from
    key _ fun w' v l' h1 h2 h3 h4 h5 h6 => ⟨v, l', rfl, h1, h2, h3, h4, h5, h6⟩
  intro R hR
  refine r53 _ _ _ ?_
  unfold V53
  have hgr := h.grid
  refine Calls.then (c86 w g C _ hgr h0) ?_
  rintro e w1 ⟨rfl, g1⟩
  refine ⟨_, rfl, br_f rfl ⟨_, rfl, _, _, _, rd1 kp (by rfl), ?_⟩⟩
  refine loopV rb l.length rcap C l w1 (h.hd.non g1) (h.rows.non g1) h0 hC hm R ?_
  intro w' v l' h1 h2 h3 h4 h5 h6
  have := g1.size
  exact hR w' v l' h1 h2 h3 (fun x hx => Nat.le_trans this (h4 x hx)) (fun x hx => Nat.le_trans this (h5 x hx)) (by (repeat (first | exact Chg.refl _ _ | refine Chg.step (by assumption) ?_ (by (first | exact sub_non _ | exact sub_nil _ | (repeat (first | exact sub_nil _ | refine sub_new (by omega) ?_ | refine sub_old (by first | assumption | exact in_head _ _ | exact in_tail (in_head _ _) | exact in_tail (in_tail (in_head _ _)) | simp [In]) ?_)))))))
end Go.Proofs

namespace Go.Proofs
open Go Go.X Go.RowKit
set_option linter.unusedVariables false
set_option linter.unusedSimpArgs false
set_option maxRecDepth 100000

def regA (t b : Int) : Array Value := #[.int .i64 t, .int .i64 b]

theorem c240 (w : World) (gl : Glob w) : Calls Tryz.prog 240 #[.agg penZ] w fun e w' => e = .returned (.bool true) ∧ Chg Non w w' := by
  refine r240 _ _ _ ?_
  unfold V240
  refine nw ?_
  intro k w1 e1 s1 b1 g1
  refine ⟨_, rdall kp (by rfl), ?_⟩
  refine Calls.then (c116 w1) ?_
  rintro e w2 ⟨rfl, g2⟩
  refine ⟨_, rfl, ?_⟩
  refine Calls.then (c115 0 w2 ((gl.non g1).non g2) (.inl rfl)) ?_
  rintro e w3 ⟨rfl, g3⟩
  exact ⟨_, rfl, rfl, by (repeat (first | exact Chg.refl _ _ | refine Chg.step (by assumption) ?_ (by (first | exact sub_non _ | exact sub_nil _ | (repeat (first | exact sub_nil _ | refine sub_new (by omega) ?_ | refine sub_old (by first | assumption | exact in_head _ _ | exact in_tail (in_head _ _) | exact in_tail (in_tail (in_head _ _)) | simp [In]) ?_))))))⟩

theorem c287 (w : World) (b cap : Nat) (cur : Array Value) (l : List GRow) (n : Nat) (hb : blk w b = some (.cells cur 96)) (hl : cur.toList.take (n * 2) = hdrs l) (hn : l.length = n) (h0 : n ≠ 0) (hm : n ≤ 1000) :
    Calls Tryz.prog 287 #[.slice (some ⟨b, 0, none⟩) n cap] w fun e w' => ∃ b' cap', e = .returned (.slice (some ⟨b', 0, none⟩) n cap') ∧ LinesV w' (.slice (some ⟨b', 0, none⟩) n cap') l ∧ w.heap.size ≤ b' ∧ Chg Non w w' := by
  refine r287 _ _ _ _ _ ?_
  unfold V287
  refine br_f rfl ?_
  refine nw ?_
  intro k w1 hk hs hb1 hc
  subst hn
  obtain ⟨hu, i, z, hi, hz, hsz, hzs, hby, hpos⟩ := elLine
  obtain ⟨v', w2, hr, ho, hc2, hnil, hblk⟩ := app_own (P := Tryz.prog) w1 44 44 96 i z 2 hu hi hz hsz hzs hpos (.slice (some ⟨k, 0, none⟩) 0 0) 0 []
    ⟨rfl, .inr ⟨k, 0, #[], rfl, Nat.zero_le _, hb1, Nat.le_refl _, by unfold maxLen; omega, rfl, rfl⟩⟩ ⟨b, 0, none⟩ l.length cap (hdrs l) (by rw [hdrs_length]) (cells_of (hc.get hb (not_non _)) (by rw [hdrs_length, List.drop_zero]; exact hl)) (hdrs_one l) (by unfold maxLen; omega) (by rw [hby]; omega)
  rw [Nat.zero_add] at ho
  obtain ⟨g, cap', cur, rfl, hg, hn1, hn2, hn3, hn4⟩ := own_slice ho h0
  refine ⟨_, _, _, w2, hr, ?_⟩
  have hkg : w.heap.size ≤ g := by
    rcases hblk g rfl with hx | hx
    · simp only [Value.ownBlock, Option.some.injEq] at hx; omega
    · omega
  refine ⟨g, cap', rfl, by simpa [LinesV] using ho, hkg, hc.step (Chg.refl _ _) (sub_non _) |>.trans' hc2 ?_⟩
  intro j hj hx
  unfold OwnB at hx
  simp only [Value.ownBlock, Option.some.injEq] at hx
  omega

/-- A region of all rows, rolled by nothing. -/
theorem c250z (w : World) (g rb rcap C : Nat) (l : List GRow) (gl : Glob w) (h : GridR w g rb rcap C l) (h0 : C ≠ 0) (hl : l.length ≠ 0) :
    Calls Tryz.prog 250 #[.pointer (some ⟨g, 0, none⟩), .agg (regA 0 (l.length - 1)), .int .i64 0, .agg penZ] w fun e w' => e = .returned (.tuple #[.slice none 0 0, .int .i64 0]) ∧ Chg Non w w' := by
  refine r250 _ _ _ _ _ _ ?_
  unfold V250
  have hgr := h.grid
  refine nw ?_
  intro k1 w1 e1 s1 b1 g1
  refine nw ?_
  intro k2 w2 e2 s2 b2 g2
  intro K hK
  clear hK
  refine Calls.then (c86 w2 g C _ kp h0) ?_
  rintro e w3 ⟨rfl, g3⟩
  repeat (first | (refine nw ?_; intro _ _ _ _ _ _) | refine ⟨_, rdall kp (by rfl), ?_⟩ | refine ⟨_, rd1 kp (by rfl), ?_⟩ | refine ⟨_, _, _, rd1 kp (by rfl), ?_⟩ | refine br_t cp ?_ | refine br_f cp ?_ | (refine ⟨_, rfl, ?_⟩; try dsimp only) | (refine ⟨_, _, rfl, ?_⟩; try dsimp only) | refine And.intro (by unfold inInt; omega) ?_ | (refine ⟨rfl, one_lit rfl, fw kp (by (first | exact Nat.le_of_ble_eq_true rfl | (simp; done) | omega)), puts0A kp (by rfl) ?_⟩; intro _ _ _ _) | (refine ⟨rfl, one_lit rfl, fw kp (by (first | exact Nat.le_of_ble_eq_true rfl | (simp; done) | omega)), puts0 kp (by rfl) ?_⟩; intro _ _ _ _) | (refine ⟨fw kp (by (first | exact Nat.le_of_ble_eq_true rfl | (simp; done) | omega)), putL kp (by ((try simp only [List.set_cons_zero, List.set_cons_succ]); rfl)) ?_⟩; intro _ _ _ _) | refine And.intro (by omega) ?_ | refine And.intro ⟨_, rd1 kp (by rfl), rfl⟩ ?_ | (refine nwB ?_; intro _ _ _ _ _ _) | (refine all_below ?_; intro _ _ _))
  rename_i w4 s4 g4
  refine Calls.then (c240 w4 ((((gl.non g1).non g2).non g3).non g4)) ?_
  rintro e w5 ⟨rfl, g5⟩
  repeat (first | (refine nw ?_; intro _ _ _ _ _ _) | refine ⟨_, rdall kp (by rfl), ?_⟩ | refine ⟨_, rd1 kp (by rfl), ?_⟩ | refine ⟨_, _, _, rd1 kp (by rfl), ?_⟩ | refine br_t cp ?_ | refine br_f cp ?_ | (refine ⟨_, rfl, ?_⟩; try dsimp only) | (refine ⟨_, _, rfl, ?_⟩; try dsimp only) | refine And.intro (by unfold inInt; omega) ?_ | (refine ⟨rfl, one_lit rfl, fw kp (by (first | exact Nat.le_of_ble_eq_true rfl | (simp; done) | omega)), puts0A kp (by rfl) ?_⟩; intro _ _ _ _) | (refine ⟨rfl, one_lit rfl, fw kp (by (first | exact Nat.le_of_ble_eq_true rfl | (simp; done) | omega)), puts0 kp (by rfl) ?_⟩; intro _ _ _ _) | (refine ⟨fw kp (by (first | exact Nat.le_of_ble_eq_true rfl | (simp; done) | omega)), putL kp (by ((try simp only [List.set_cons_zero, List.set_cons_succ]); rfl)) ?_⟩; intro _ _ _ _) | refine And.intro (by omega) ?_ | refine And.intro ⟨_, rd1 kp (by rfl), rfl⟩ ?_ | (refine nwB ?_; intro _ _ _ _ _ _) | (refine all_below ?_; intro _ _ _))
  exact ⟨rfl, by (repeat (first | exact Chg.refl _ _ | refine Chg.step (by assumption) ?_ (by (first | exact sub_non _ | exact sub_nil _ | (repeat (first | exact sub_nil _ | refine sub_new (by omega) ?_ | refine sub_old (by first | assumption | exact in_head _ _ | exact in_tail (in_head _ _) | exact in_tail (in_tail (in_head _ _)) | simp [In]) ?_))))))⟩

theorem LinesV.setRow {w w' : World} {b n cap : Nat} {l : List GRow} (h : LinesV w (.slice (some ⟨b, 0, none⟩) n cap) l) {i : Nat} (hi : i < l.length) (x : GRow)
    (hb : ∀ cur, blk w b = some (.cells cur 96) → blk w' b = some (.cells (putA cur (i * 2) (hdr x)) 96)) : LinesV w' (.slice (some ⟨b, 0, none⟩) n cap) (l.set i x) := by
  obtain ⟨cur, h1, h2, h3, h4, h5, h6⟩ := h.at_
  subst h2
  unfold LinesV
  rw [List.length_set]
  refine ⟨by rw [hdrs_length, List.length_set], .inr ⟨b, cap, _, rfl, Nat.zero_le _, hb cur h1, h3, h4, by rw [putA_size]; exact h5, ?_⟩⟩
  apply List.ext_getElem?
  intro j
  rw [List.getElem?_take]
  have hcur : l.length * 2 ≤ cur.size := by omega
  by_cases hj : j < l.length * 2
  · rw [if_pos hj, Array.getElem?_toList, putA_at _ _ _ _ (by simp [hdr]; omega)]
    have hjd : j = j / 2 * 2 + j % 2 := by omega
    have hlen2 : (hdr x).length = 2 := rfl
    have hlt : j / 2 < (l.set i x).length := by rw [List.length_set]; omega
    have hR : (hdrs (l.set i x))[j]? = (hdr (l.set i x)[j / 2])[j % 2]? := by
      have := hdrs_get (l.set i x) (j / 2) (j % 2) hlt (by omega)
      rw [← hjd] at this; exact this
    rw [hR, hlen2]
    by_cases hij : i = j / 2
    · subst hij
      rw [if_pos (by omega), List.getElem_set_self, show j - j / 2 * 2 = j % 2 by omega]
    · rw [if_neg (by omega), List.getElem_set_ne hij]
      have := lines_at h6 (i := j / 2) (by omega) (j := j % 2) (by omega)
      rw [← hjd] at this; exact this
  · rw [if_neg hj, List.getElem?_eq_none (by rw [hdrs_length, List.length_set]; omega)]

theorem LinesV.setSoft {w w' : World} {b n cap : Nat} {l : List GRow} (h : LinesV w (.slice (some ⟨b, 0, none⟩) n cap) l) {i : Nat} (hi : i < l.length) (so : Bool)
    (hb : ∀ cur, blk w b = some (.cells cur 96) → blk w' b = some (.cells (cur.setIfInBounds (i * 2 + 1) (.bool so)) 96)) : LinesV w' (.slice (some ⟨b, 0, none⟩) n cap) (l.modify i fun x => { x with so := so }) := by
  obtain ⟨cur, h1, h2, h3, h4, h5, h6⟩ := h.at_
  subst h2
  unfold LinesV
  rw [List.length_modify]
  refine ⟨by rw [hdrs_length, List.length_modify], .inr ⟨b, cap, _, rfl, Nat.zero_le _, hb cur h1, h3, h4, by simp [h5], ?_⟩⟩
  rw [hdrs_soft l i so hi, ← h6]
  simp [List.take_set]
/-- The lines but the first move to the front. -/
theorem LinesV.shift {w w' : World} {b n cap : Nat} {x : GRow} {l : List GRow} (h : LinesV w (.slice (some ⟨b, 0, none⟩) n cap) (x :: l))
    (hb : ∀ cur, blk w b = some (.cells cur 96) → blk w' b = some (.cells (cur.toList.take 0 ++ hdrs l ++ cur.toList.drop (0 + (hdrs l).length)).toArray 96)) :
    LinesV w' (.slice (some ⟨b, 0, none⟩) n cap) (l ++ [(x :: l)[l.length]]) := by
  obtain ⟨cur, h1, h2, h3, h4, h5, h6⟩ := h.at_
  subst h2
  unfold LinesV
  rw [show (l ++ [(x :: l)[l.length]]).length = (x :: l).length by simp]
  refine ⟨by rw [hdrs_length]; simp, .inr ⟨b, cap, _, rfl, Nat.zero_le _, hb cur h1, h3, h4, ?_, ?_⟩⟩
  · simp only [List.length_cons] at h3
    simp [hdrs_length]; omega
  · have h7 := hdrs_at (x :: l) l.length (by simp)
    rw [← h6, List.drop_take, List.take_take] at h7
    simp only [List.length_cons] at h7
    rw [show min 2 ((l.length + 1) * 2 - l.length * 2) = 2 by omega] at h7
    rw [hdrs_append, List.take_zero, List.nil_append, Nat.zero_add, hdrs_length, List.take_append, hdrs_length, List.take_of_length_le (by rw [hdrs_length]; simp; omega)]
    rw [show (x :: l).length * 2 - l.length * 2 = 2 by simp; omega, h7]
    simp [hdrs]
end Go.Proofs

namespace Go.Proofs
open Go Go.X Go.RowKit
set_option linter.unusedVariables false
set_option linter.unusedSimpArgs false
set_option maxRecDepth 100000

/-- The rows behind a step of the screen: the first one is gone, a blank one has come; what was the last one is not soft. -/
def rolled (l : List GRow) (y : GRow) : List GRow := (l.drop 1).modify (l.length - 2) (fun x => { x with so := false }) ++ [y]
theorem rolled_length (l : List GRow) (y : GRow) (h : l.length ≠ 0) : (rolled l y).length = l.length := by unfold rolled; simp; omega

theorem modify_left (l : List GRow) (z : GRow) (f : GRow → GRow) : ∀ i, i < l.length → (l ++ [z]).modify i f = l.modify i f ++ [z] := by
  induction l with
  | nil => intro i h; simp at h
  | cons x l ih =>
    intro i h
    cases i with
    | zero => simp
    | succ i => simp only [List.cons_append, List.modify_succ_cons, ih i (by simpa using h)]
theorem set_last (l : List GRow) (z y : GRow) : (l ++ [z]).set l.length y = l ++ [y] := by simp

theorem wrap_neg (n : Int) (h : 0 ≤ n ∧ n ≤ 100000) : IntKind.i64.wrap (0 - n) = -n := by
  rw [IntKind.wrap_i64]; omega

theorem c250o (w : World) (g rb rcap C : Nat) (x : GRow) (l : List GRow) (gl : Glob w) (h : GridAt w g rb rcap C (x :: l)) (h0 : C ≠ 0) (hC : C ≤ 1000) (hl : l.length + 1 ≤ 1000) :
    Calls Tryz.prog 250 #[.pointer (some ⟨g, 0, none⟩), .agg (regA 0 l.length), .int .i64 1, .agg penZ] w fun e w' => ∃ gb gcap y, e = .returned (.tuple #[.slice (some ⟨gb, 0, none⟩) 1 gcap, .int .i64 0]) ∧
      LinesV w' (.slice (some ⟨gb, 0, none⟩) 1 gcap) [x] ∧ w.heap.size ≤ gb ∧ gb < w'.heap.size ∧ GridAt w' g rb rcap C (rolled (x :: l) y) ∧ y.rs = List.replicate C 0 ∧ y.so = false ∧ w.heap.size ≤ y.b ∧ Chg (In [rb]) w w' := by
  suffices key : ∀ R : Ending → World → Prop, (∀ w' gb gcap y, LinesV w' (.slice (some ⟨gb, 0, none⟩) 1 gcap) [x] → w.heap.size ≤ gb → gb < w'.heap.size → GridAt w' g rb rcap C (rolled (x :: l) y) → y.rs = List.replicate C 0 → y.so = false → w.heap.size ≤ y.b → Chg (In [rb]) w w' →
      R (.returned (.tuple #[.slice (some ⟨gb, 0, none⟩) 1 gcap, .int .i64 0])) w') → Calls Tryz.prog 250 #[.pointer (some ⟨g, 0, none⟩), .agg (regA 0 l.length), .int .i64 1, .agg penZ] w R from
    key _ fun w' gb gcap y h1 h2 h3 h4 h5 h6 h7 h8 => ⟨gb, gcap, y, rfl, h1, h2, h3, h4, h5, h6, h7, h8⟩
  intro R hR
  refine r250 _ _ _ _ _ _ ?_
  unfold V250
  have hgr := h.grid
  have hhd := h.hd
  rw [List.length_cons] at hgr hhd
  obtain ⟨cur0, hb0, _, hcap, _, hcs0, _⟩ := hhd.at_
  have hrbg : rb ≠ g := by rintro rfl; rw [hgr] at hb0; injection hb0 with e; injection e with _ e; cases e
  have hrblt := blk_lt hb0
  refine nw ?_
  intro k1 w1 e1 s1 b1 g1
  refine nw ?_
  intro k2 w2 e2 s2 b2 g2
  intro K hK
  refine Calls.then (c86 w2 g C _ kp h0) ?_
  rintro e w3 ⟨rfl, g3⟩
  repeat (first | (refine nw ?_; intro _ _ _ _ _ _) | refine ⟨_, rdall kp (by rfl), ?_⟩ | refine ⟨_, rd1 kp (by rfl), ?_⟩ | refine ⟨_, _, _, rd1 kp (by rfl), ?_⟩ | refine br_t cp ?_ | refine br_f cp ?_ | (refine ⟨_, rfl, ?_⟩; try dsimp only) | (refine ⟨_, _, rfl, ?_⟩; try dsimp only) | refine And.intro (by unfold inInt; omega) ?_ | (refine ⟨rfl, one_lit rfl, fw kp (by (first | exact Nat.le_of_ble_eq_true rfl | (simp; done) | omega)), puts0A kp (by rfl) ?_⟩; intro _ _ _ _) | (refine ⟨rfl, one_lit rfl, fw kp (by (first | exact Nat.le_of_ble_eq_true rfl | (simp; done) | omega)), puts0 kp (by rfl) ?_⟩; intro _ _ _ _) | (refine ⟨fw kp (by (first | exact Nat.le_of_ble_eq_true rfl | (simp; done) | omega)), putL kp (by ((try simp only [List.set_cons_zero, List.set_cons_succ]); rfl)) ?_⟩; intro _ _ _ _) | refine And.intro (by omega) ?_ | refine And.intro ⟨_, rd1 kp (by rfl), rfl⟩ ?_ | (refine nwB ?_; intro _ _ _ _ _ _) | (refine all_below ?_; intro _ _ _))
  rename_i w4 s4 g4
  refine Calls.then (c240 w4 ((((gl.non g1).non g2).non g3).non g4)) ?_
  rintro e w5 ⟨rfl, g5⟩
  repeat (first | (refine nw ?_; intro _ _ _ _ _ _) | refine ⟨_, rdall kp (by rfl), ?_⟩ | refine ⟨_, rd1 kp (by rfl), ?_⟩ | refine ⟨_, _, _, rd1 kp (by rfl), ?_⟩ | refine br_t cp ?_ | refine br_f cp ?_ | (refine ⟨_, rfl, ?_⟩; try dsimp only) | (refine ⟨_, _, rfl, ?_⟩; try dsimp only) | refine And.intro (by unfold inInt; omega) ?_ | (refine ⟨rfl, one_lit rfl, fw kp (by (first | exact Nat.le_of_ble_eq_true rfl | (simp; done) | omega)), puts0A kp (by rfl) ?_⟩; intro _ _ _ _) | (refine ⟨rfl, one_lit rfl, fw kp (by (first | exact Nat.le_of_ble_eq_true rfl | (simp; done) | omega)), puts0 kp (by rfl) ?_⟩; intro _ _ _ _) | (refine ⟨fw kp (by (first | exact Nat.le_of_ble_eq_true rfl | (simp; done) | omega)), putL kp (by ((try simp only [List.set_cons_zero, List.set_cons_succ]); rfl)) ?_⟩; intro _ _ _ _) | refine And.intro (by omega) ?_ | refine And.intro ⟨_, rd1 kp (by rfl), rfl⟩ ?_ | (refine nwB ?_; intro _ _ _ _ _ _) | (refine all_below ?_; intro _ _ _))
  refine hK _ _ _ _ _ fun _ => ?_
  clear hK K
  have i0 : Int.toNat 0 = 0 := rfl
  have i1 : Int.toNat 1 = 1 := rfl
  have il : ((l.length : Int) + 1).toNat = l.length + 1 := by omega
  repeat (first | (refine nw ?_; intro _ _ _ _ _ _) | refine ⟨_, rdall kp (by rfl), ?_⟩ | refine ⟨_, rd1 kp (by rfl), ?_⟩ | refine ⟨_, _, _, rd1 kp (by rfl), ?_⟩ | refine br_t cp ?_ | refine br_f cp ?_ | (refine ⟨_, rfl, ?_⟩; try dsimp only) | (refine ⟨_, _, rfl, ?_⟩; try dsimp only) | refine And.intro (by unfold inInt; omega) ?_ | (refine ⟨rfl, one_lit rfl, fw kp (by (first | exact Nat.le_of_ble_eq_true rfl | (simp; done) | omega)), puts0A kp (by rfl) ?_⟩; intro _ _ _ _) | (refine ⟨rfl, one_lit rfl, fw kp (by (first | exact Nat.le_of_ble_eq_true rfl | (simp; done) | omega)), puts0 kp (by rfl) ?_⟩; intro _ _ _ _) | (refine ⟨fw kp (by (first | exact Nat.le_of_ble_eq_true rfl | (simp; done) | omega)), putL kp (by ((try simp only [List.set_cons_zero, List.set_cons_succ]); rfl)) ?_⟩; intro _ _ _ _) | refine And.intro (by omega) ?_ | refine And.intro ⟨_, rd1 kp (by rfl), rfl⟩ ?_ | (refine nwB ?_; intro _ _ _ _ _ _) | (refine all_below ?_; intro _ _ _))
  rename_i w6 s6 g6
  simp only [i0, i1, il, Nat.sub_zero, Nat.zero_mul, cut0]
  intro K hK
  have hk : K [.int .i64 1] w6 := ?_
  · have hm1 : max (1 : Int) (IntKind.i64.wrap (0 - 1)) = 1 := by rw [wrap_neg 1 (by omega)]; rfl
    rw [wrap_neg _ (by omega), hm1]
    refine br_t cp (br_dec (fun _ => hk) fun hh => ?_)
    have hl0 : l.length = 0 := by omega
    rw [hl0]; exact hk
  refine hK _ _ fun _ => ?_
  clear hK K
  simp only [i1]
  refine ⟨by unfold inInt; omega, by omega, by omega, ?_⟩
  intro K hK
  refine br_t rfl ⟨by omega, by omega, ?_⟩
  have b6k : blk w6 k2 = some (.cells penZ 57) := by (repeat (first | assumption | refine Chg.get (by assumption) ?_ (by (repeat (first | exact not_non _ | exact not_in_nil _ | refine not_in_cons (by first | assumption | exact Ne.symm (by assumption) | omega) ?_)))))
  have b6k1 : blk w6 k1 = some (.cells (regA 0 l.length) 108) := by (repeat (first | assumption | refine Chg.get (by assumption) ?_ (by (repeat (first | exact not_non _ | exact not_in_nil _ | refine not_in_cons (by first | assumption | exact Ne.symm (by assumption) | omega) ?_)))))
  obtain ⟨hrows6, hhd6, gF6⟩ : RowsAt w6 C (x :: l) ∧ LinesV w6 (.slice (some ⟨rb, 0, none⟩) (l.length + 1) rcap) (x :: l) ∧ Chg Non w w6 := by
    have gg : Chg Non w w6 := by (repeat (first | exact Chg.refl _ _ | refine Chg.step (by assumption) ?_ (by (first | exact sub_non _ | exact sub_nil _ | (repeat (first | exact sub_nil _ | refine sub_new (by omega) ?_ | refine sub_old (by first | assumption | exact in_head _ _ | exact in_tail (in_head _ _) | exact in_tail (in_tail (in_head _ _)) | simp [In]) ?_))))))
    exact ⟨h.rows.non gg, hhd.non gg, gg⟩
  have hx6 : LinesV w6 (.slice (some ⟨rb, 0, none⟩) (l.length + 1) rcap) (x :: l) := hhd6
  obtain ⟨cur, hb6, _, _, _, hcs, htk⟩ := hhd6.at_
  have htk1 : cur.toList.take (1 * 2) = hdrs [x] := by
    have : cur.toList.take (1 * 2) = (cur.toList.take ((x :: l).length * 2)).take (1 * 2) := by rw [List.take_take, Nat.min_eq_left (by simp only [List.length_cons]; omega)]
    rw [this, htk]; simp [hdrs, hdr]
  refine Calls.then (c287 w6 rb rcap cur [x] 1 hb6 htk1 rfl (by decide) (by decide)) ?_
  rintro e w7 ⟨gb, gcap, rfl, hgone, hgb, g7⟩
  refine ⟨_, _, _, rfl, by omega, by omega, ?_⟩
  have s7 := g7.size
  have b7g : blk w7 g = _ := g7.get (gF6.get hgr (not_non _)) (not_non _)
  have b7k : blk w7 k2 = some (.cells penZ 57) := g7.get b6k (not_non _)
  have b7k1 : blk w7 k1 = some (.cells (regA 0 l.length) 108) := g7.get b6k1 (not_non _)
  have hk2rb : k2 ≠ rb := by omega
  have b7 : blk w7 rb = some (.cells cur 96) := g7.get hb6 (not_non _)
  have hrb6 := blk_lt hb6
  obtain ⟨o', ho', hne⟩ := cut_some rb 0 (1 * 2) rcap 1
  obtain ⟨hu, i, z, hi, hz, hsz, hzs, hby, hpos⟩ := elLine
  have hsrc : (cur.toList.drop o').take (hdrs l).length = hdrs l := by
    rcases l with _ | ⟨a, l⟩
    · simp [hdrs]
    · rw [hne (by simp only [List.length_cons] at hcap; omega)]
      have h1 := congrArg (List.drop 2) htk
      have e3 : List.drop 2 (hdrs (x :: a :: l)) = hdrs (a :: l) := by simp [hdrs, hdr]
      rw [List.drop_take, e3] at h1
      rw [hdrs_length, Nat.zero_add]
      rw [show (x :: a :: l).length * 2 - 2 = (a :: l).length * 2 by simp only [List.length_cons]; omega] at h1
      exact h1
  have hr := copy_runs (P := Tryz.prog) w7 44 44 3 96 i rb 0 (l.length + 1) rcap ⟨rb, o', none⟩ (l.length + 1 - 1) (rcap - 1) cur 96 (hdrs l) hu hi b7 (by rw [hsz, hdrs_length, Nat.min_eq_left (by omega)]; omega) (cells_of b7 hsrc) (by rw [hdrs_length]; omega) (hdrs_one l)
  rw [ho']
  refine ⟨_, _, hr, ?_⟩
  generalize hw8 : w7.setRow rb _ = w8
  have g8 : Chg (In [rb]) w7 w8 := by rw [← hw8]; exact chg_setRow _ _ _
  have s8 : w8.heap.size = w7.heap.size := by rw [← hw8]; exact size_setRow _ _ _
  have hhd8 : LinesV w8 (.slice (some ⟨rb, 0, none⟩) (l.length + 1) rcap) (l ++ [(x :: l)[l.length]]) := by
    refine (hhd6.non g7).shift fun c hc => ?_
    rw [b7] at hc; injection hc with hc; injection hc with hc
    subst hc
    rw [← hw8]; exact blk_setRow _ b7
  generalize (x :: l)[l.length] = zz at hhd8
  clear hw8 hr
  -- behind the copy, and behind what was the last row's softness
  have hk3 : ∀ w9, Chg (In [rb]) w7 w9 → w9.heap.size = w7.heap.size → LinesV w9 (.slice (some ⟨rb, 0, none⟩) (l.length + 1) rcap) (l.modify (l.length - 1) (fun x => { x with so := false }) ++ [zz]) →
      K [.slice (some ⟨gb, 0, none⟩) 1 gcap, .slice (cutA (some ⟨rb, 0, none⟩) ((((l.length + 1 : Nat) : Int) - 1).toNat * 2) rcap (((l.length + 1 : Nat) : Int) - 1).toNat) (l.length + 1 - (((l.length + 1 : Nat) : Int) - 1).toNat) (rcap - (((l.length + 1 : Nat) : Int) - 1).toNat)] w9 := by
    intro w9 g9 s9 hhd9
    rw [show (((l.length + 1 : Nat) : Int) - 1).toNat = l.length by omega]
    refine hK _ _ _ _ _ _ _ fun _ => ?_
    rw [cut_ne (by omega), show l.length + 1 - l.length = 1 by omega, Nat.zero_add]
    generalize hl' : l.modify (l.length - 1) (fun x => { x with so := false }) = l' at hhd9
    have hl'n : l'.length = l.length := by rw [← hl']; simp
    refine ⟨fun vs w' => ∃ n : Int, vs = [.int .i64 n] ∧ Chg (In [rb]) w7 w' ∧ ((n = 0 ∧ LinesV w' (.slice (some ⟨rb, 0, none⟩) (l.length + 1) rcap) (l' ++ [zz])) ∨ (n = 1 ∧ ∃ y : GRow, LinesV w' (.slice (some ⟨rb, 0, none⟩) (l.length + 1) rcap) (l' ++ [y]) ∧ RowAt w' y.b y.cap y.rs ∧ y.rs = List.replicate C 0 ∧ y.so = false ∧ w7.heap.size ≤ y.b)),
      fun vs _ => match vs with | [.int _ n] => (1 - n).toNat | _ => 0, ⟨0, rfl, g9, .inl ⟨rfl, hhd9⟩⟩, ?_⟩
    rintro n w10 _ ⟨_, hj, g10, hcase⟩
    simp only [List.cons.injEq, Value.int.injEq, true_and, and_true] at hj
    subst hj
    have s10 := g10.size
    have b10g : blk w10 g = _ := g10.get b7g (not_in_cons (Ne.symm hrbg) (not_in_nil _))
    have b10k : blk w10 k2 = _ := g10.get b7k (not_in_cons hk2rb (not_in_nil _))
    rcases hcase with ⟨rfl, hhd10⟩ | ⟨rfl, y, hhd10, hy1, hy2, hy3, hy4⟩
    · refine br_t rfl ⟨_, rfl, _, rd1 b10g (by rfl), _, rdall b10k (by rfl), _, fun v => grows_row v C w10.heap.size, float fun w11 s11 g11 => ?_, fun c => ⟨by omega, by omega, _, _, rfl, ?_⟩⟩
      · refine Calls.then (c118 w11 C (by omega) hC) ?_
        rintro e w12 ⟨b, cap, rfl, hr, hb, g12⟩
        exact ⟨_, rfl, g12.below, b, cap, rfl, hr, by omega⟩
      · rintro w11 ⟨hbel, b, cap, hc, hry, hb⟩
        injection hc with hc
        subst hc
        have g11 := Chg.of_below hbel
        have s11 := g11.size
        obtain ⟨cur11, b11, _, _, _, hcs11, _⟩ := (hhd10.non g11).at_
        rw [i0, Nat.zero_mul, Nat.add_zero]
        refine ⟨rfl, one_lit rfl, fw b11 (by omega), putsA b11 ?_⟩
        intro w12 s12 b12 g12
        have hry' : RowAt w12 b cap (List.replicate C 0) := hry.next g12 (not_in_cons (by omega) (not_in_nil _))
        refine ⟨by unfold inInt; omega, ⟨1, rfl, (g10.trans g11.non).trans g12, .inr ⟨rfl, ⟨b, cap, List.replicate C 0, false⟩, ?_, hry', rfl, rfl, by show w7.heap.size ≤ b; omega⟩⟩, by show ((1 : Int) - (0 + 1)).toNat < ((1 : Int) - 0).toNat; decide⟩
        have := (hhd10.non g11).setRow (w' := w12) (i := l'.length) (by simp) ⟨b, cap, List.replicate C 0, false⟩ fun c hc => by
          rw [b11] at hc; injection hc with hc; injection hc with hc
          subst hc
          rw [hl'n]
          simpa [hdr] using b12
        rwa [set_last] at this
    · refine br_f rfl ?_
      intro K3 hK3
      have hk1rb : k1 ≠ rb := by omega
      refine ⟨_, rd1 (g10.get b7k1 (not_in_cons hk1rb (not_in_nil _))) (by rfl), br_f rfl (hK3 _ fun _ => ?_)⟩
      have hgb' : gb ≠ rb := by omega
      have gW : Chg (In [rb]) w w10 := (gF6.non.trans g7.non).trans g10
      have hgone10 : LinesV w10 (.slice (some ⟨gb, 0, none⟩) 1 gcap) [x] := hgone.next g10 fun j hj => by
        simp only [Value.ownBlock, Option.some.injEq] at hj
        exact not_in_cons (by omega) (not_in_nil _)
      have s6' := gF6.size
      have hroll : rolled (x :: l) y = l' ++ [y] := by unfold rolled; rw [← hl']; simp [show l.length + 1 - 2 = l.length - 1 by omega]
      have hrow : ∀ q ∈ l, RowAt w10 q.b q.cap q.rs := fun q hq => by
        have h1 := h.rows.row q (List.mem_cons_of_mem _ hq)
        exact h1.next gW (not_in_cons (row_ne_lines h1 hb0 (by decide)) (not_in_nil _))
      have hmem : ∀ q ∈ l', ∃ p ∈ l, q.b = p.b ∧ q.cap = p.cap ∧ q.rs = p.rs := fun q hq => by
        rw [← hl'] at hq
        obtain ⟨i, hi, rfl⟩ := List.mem_iff_getElem.1 hq
        rw [List.length_modify] at hi
        refine ⟨l[i], List.getElem_mem _, ?_⟩
        rw [List.getElem_modify]
        split <;> exact ⟨rfl, rfl, rfl⟩
      have hlgb := hgone.lt (g := gb) rfl
      refine hR w10 gb gcap y hgone10 (by omega) (by omega) ?_ hy2 hy3 (by omega) gW
      rw [hroll]
      have hlen' : (l' ++ [y]).length = l.length + 1 := by simp [hl'n]
      refine ⟨by rw [hlen']; exact b10g, by rw [hlen']; exact hhd10, ⟨fun q hq => ?_, fun q hq => ?_⟩, ?_⟩
      · rcases List.mem_append.1 hq with hq | hq
        · obtain ⟨p, hp, e1, e2, e3⟩ := hmem q hq
          rw [e1, e2, e3]; exact hrow p hp
        · rw [List.mem_singleton] at hq; subst hq; exact hy1
      · rcases List.mem_append.1 hq with hq | hq
        · obtain ⟨p, hp, e1, e2, e3⟩ := hmem q hq
          rw [e3]; exact h.rows.len p (List.mem_cons_of_mem _ hp)
        · rw [List.mem_singleton] at hq; subst hq; rw [hy2]; simp
      · rw [List.map_append, List.nodup_append]
        have hnd := h.nodup
        rw [List.map_cons, List.nodup_cons] at hnd
        have hmb : l'.map (·.b) = l.map (·.b) := by rw [← hl']; exact map_b_congr l _ (fun x => { x with so := false }) (fun _ => rfl)
        refine ⟨by rw [hmb]; exact hnd.2, by simp, ?_⟩
        intro a ha c hc
        rw [hmb] at ha
        obtain ⟨p, hp, rfl⟩ := List.mem_map.1 ha
        simp only [List.map_cons, List.map_nil, List.mem_singleton] at hc
        subst hc
        have := (h.rows.row p (List.mem_cons_of_mem _ hp)).lt
        omega
  clear hK
  refine br_dec (fun hlt => ?_) fun hge => ?_
  · refine ⟨by unfold inInt; omega, by unfold inInt; omega, by omega, by omega, _, _, rfl, ?_⟩
    obtain ⟨cur8, hb8, _, _, _, hcs8, _⟩ := hhd8.at_
    rw [Nat.zero_add]
    refine ⟨fw hb8 (by omega), put1 hb8 ?_⟩
    intro w9 s9 b9 g9
    refine hk3 w9 (g8.trans g9) (by omega) ?_
    have := hhd8.setSoft (w' := w9) (i := l.length - 1) (by simp; omega) false fun c hc => by
      rw [hb8] at hc; injection hc with hc; injection hc with hc
      subst hc
      rw [show (((l.length + 1 : Nat) : Int) - 1 - 1).toNat = l.length - 1 by omega] at b9
      exact b9
    rwa [modify_left _ _ _ _ (by omega)] at this
  · have hl0 : l = [] := List.eq_nil_of_length_eq_zero (by omega)
    subst hl0
    exact hk3 w8 g8 s8 hhd8
end Go.Proofs
