import Derived.Test.YtfmffobdkfgekaaGreatJm7
import Derived.Test.YtfmffobdkfgekaaGreatJm5
import Derived.Test.YtfmffobdkfgekaaGreatJm6
import Derived.Maps.AppendAt
/- The closure that Refused hands to follow: it notes the number of a refused move, and why. -/
set_option linter.unusedVariables false
set_option linter.unusedSimpArgs false
namespace Go.Proofs.YtfmffobdkfgekaaGreat
open Go.RowKit Go.Maps

/-- Of what was there only blocks of cells of type T have turned. -/
structure Chg (T : TypeId) (w w' : World) : Prop where
  size : w.heap.size ≤ w'.heap.size
  keep : ∀ (k : Nat) (o : Obj), w.heap[k]? = some o → (∀ cs, o ≠ .cells cs T (0, 0)) → w'.heap[k]? = some o
theorem Chg.of_below {T : TypeId} {w w' : World} (h : Below w.heap.size w w') : Chg T w w' := ⟨h.size, fun k o hk _ => (h.block k (Array.getElem?_eq_some_iff.1 hk).1).trans hk⟩
theorem own_chg {lo n sz : Nat} {T e : TypeId} {w w' : World} {v : Value} {xs : List Value} (h : w.ownsRow lo e sz v n xs) (hc : Chg T w w') (hne : e ≠ T) : w'.ownsRow lo e sz v n xs := by
  obtain ⟨g1, g2⟩ := h
  refine ⟨g1, ?_⟩
  rcases g2 with g2 | ⟨g, cap, cur, e1, e2, e3, e4⟩
  · exact .inl g2
  · exact .inr ⟨g, cap, cur, e1, e2, hc.keep _ _ e3 (fun cs he => hne (by cases he; rfl)), e4⟩
/-- A literal of one element of type e, in a block apart from v0's. -/
def LitAt (e : TypeId) (x : Value) (v0 u : Value) (w : World) : Prop := ∃ g, u = .slice (some ⟨g, 0, none⟩) 1 1 ∧ w.heap[g]? = some (.cells #[x] e (0, 0)) ∧ v0.ownBlock ≠ some g
theorem LitAt.chg {e T : TypeId} {x v0 u : Value} {w w' : World} (h : LitAt e x v0 u w) (hc : Chg T w w') (hne : e ≠ T) : LitAt e x v0 u w' := by
  obtain ⟨g, h1, h2, h3⟩ := h
  exact ⟨g, h1, hc.keep _ _ h2 (fun cs he => hne (by cases he; rfl)), h3⟩
theorem LitAt.grown {e : TypeId} {x v0 u : Value} {w w' : World} (h : LitAt e x v0 u w) (hg : w.grownBy w' v0.ownBlock) : LitAt e x v0 u w' := by
  obtain ⟨g, h1, h2, h3⟩ := h
  exact ⟨g, h1, (hg.block _ (Array.getElem?_eq_some_iff.1 h2).1 (fun he => h3 he.symm)).trans h2, h3⟩
theorem ex_store_slice {P : Program} {o : Oper} {ρ : Operand → Value} {t : TypeId} {x y : Operand} {p : Addr} {A : Option Addr} {n c : Nat} {v : Value} {w : World} (h : o.op = .store t x y) (hx : ρ x = .pointer (some p)) (hy : ρ y = .slice A n c) (hs : ∀ w, (sizeOf t).run P w = .ok 1 w) (hc : w.cell? p = some v) (hf : w.frozen? p = false) : (execOp ρ o).run P w = .ok .skip (w.setCell p (.slice A n c)) := by
  simp [execOp, h, hx, hy, Instr.storeAt, Instr.sureAddr, storeVar, hs, go_sem, hc, hf]
theorem infoErrR : (Tryz.prog.info? 32).map (fun i => (i.zero, i.size, i.bytes)) = some (some (.int .i64 0), 1, 8) := by kernel_rfl
/-- One number more on a row of the call's own. -/
theorem append_one {T E : TypeId} (hu : Tryz.prog.underlying T = some (.slice E)) (hinfo : (Tryz.prog.info? E).map (fun i => (i.zero, i.size, i.bytes)) = some (some (.int .i64 0), 1, 8)) {w : World} {base : Nat} {v u : Value} {ns : List Int} {x : Int}
    (hown : w.ownsRow base E 1 v ns.length (ns.map (.int .i64))) (hl : LitAt E (.int .i64 x) v u w) (hn : ns.length ≤ 100000) (hb : base ≤ w.heap.size) :
    ∃ v' w', (∀ ty, (Builtin.append_ #[T, T] ty #[v, u]).run Tryz.prog w = .ok v' w') ∧ w'.ownsRow base E 1 v' (ns ++ [x]).length ((ns ++ [x]).map (.int .i64)) ∧ w.grownBy w' v.ownBlock ∧ Chg E w w' ∧ Below base w w' := by
  obtain ⟨i0, hi, hz0, hz1, hz2⟩ := info_parts hinfo
  obtain ⟨g, rfl, hg, _⟩ := hl
  obtain ⟨v', W, hrun, q1, q2, _⟩ := run_append_own w base T 0 E i0 _ 1 8 hu hi hz0 hz1 hz2 rfl (by decide) v ns.length _ hown ⟨g, 0, none⟩ 1 1 [.int .i64 x] rfl
    (fun j y hy => by
      rw [add_off, (row_cells hg).1]
      cases j with
      | zero => exact hy
      | succ j => simp at hy) (fun y hy => by simp at hy; subst hy; rfl) (by unfold maxLen; omega) (by omega) hb
  refine ⟨v', W, fun ty => hrun, by rw [List.length_append, List.map_append]; exact q1, q2, ⟨q2.size, fun k o hk ho => ?_⟩, ⟨q2.os, q2.tape, q2.output, q2.size, fun k hk => q2.block k (by omega) fun e => by have := (hown.lt k e.symm).1; omega⟩⟩
  refine (q2.block k (Array.getElem?_eq_some_iff.1 hk).1 fun e => ?_).trans hk
  obtain ⟨cur, hc⟩ := own_block hown e.symm
  rw [hk] at hc
  exact ho cur (Option.some.inj hc)
/-- What the closure may do: below base nothing turns; else boxes and rows of numbers alone. -/
def numT (T : TypeId) : Prop := T = 3 ∨ T = 32 ∨ T = 22 ∨ T = 35
structure Eff (base : Nat) (w w' : World) : Prop where
  bel : Below base w w'
  size : w.heap.size ≤ w'.heap.size
  keep : ∀ (k : Nat) (o : Obj), w.heap[k]? = some o → (∀ cs T, numT T → o ≠ .cells cs T (0, 0)) → w'.heap[k]? = some o
theorem Eff.refl (base : Nat) (w : World) : Eff base w w := ⟨Below.refl _ _, Nat.le_refl _, fun _ _ h _ => h⟩
theorem Eff.below {base : Nat} {w w1 w2 : World} (h : Eff base w w1) (hb : Below w1.heap.size w1 w2) (hl : base ≤ w1.heap.size) : Eff base w w2 :=
  ⟨h.bel.trans (hb.mono hl), Nat.le_trans h.size hb.size, fun k o hk ho => by
    have h1 := h.keep k o hk ho
    exact (hb.block k (Array.getElem?_eq_some_iff.1 h1).1).trans h1⟩
theorem Eff.chg {base : Nat} {T : TypeId} {w w1 w2 : World} (h : Eff base w w1) (hb : Below base w1 w2) (hc : Chg T w1 w2) (hT : numT T) : Eff base w w2 :=
  ⟨h.bel.trans hb, Nat.le_trans h.size hc.size, fun k o hk ho => hc.keep k o (h.keep k o hk ho) fun cs => ho cs T hT⟩
/-- What has been noted: the boxes of two lists, each of them a row of the call's own. -/
structure RefAt (base : Nat) (w : World) (ob wb : Nat) (ns es : List Int) : Prop where
  low : base ≤ ob ∧ base ≤ wb ∧ base ≤ w.heap.size
  o : ∃ v, w.heap[ob]? = some (.cells #[v] 22 (0, 0)) ∧ w.ownsRow base 3 1 v ns.length (ns.map (.int .i64))
  e : ∃ v, w.heap[wb]? = some (.cells #[v] 35 (0, 0)) ∧ w.ownsRow base 32 1 v es.length (es.map (.int .i64))
theorem RefAt.cells {base : Nat} {w w' : World} {ob wb : Nat} {ns es : List Int} (h : RefAt base w ob wb ns es) (hs : w.heap.size ≤ w'.heap.size) (hk : ∀ (i : Nat) (cs : Array Value) (T : TypeId) (fz : Nat × Nat), w.heap[i]? = some (Obj.cells cs T fz) → w'.heap[i]? = some (Obj.cells cs T fz)) : RefAt base w' ob wb ns es := by
  have own : ∀ {e : TypeId} {v : Value} {n : Nat} {xs : List Value}, w.ownsRow base e 1 v n xs → w'.ownsRow base e 1 v n xs := fun h => by
    obtain ⟨g1, g2⟩ := h
    refine ⟨g1, ?_⟩
    rcases g2 with g2 | ⟨g, cap, cur, e1, e2, e3, e4⟩
    · exact .inl g2
    · exact .inr ⟨g, cap, cur, e1, e2, hk _ _ _ _ e3, e4⟩
  obtain ⟨⟨l1, l2, l3⟩, ⟨v, a1, a2⟩, ⟨u, b1, b2⟩⟩ := h
  exact ⟨⟨l1, l2, Nat.le_trans l3 hs⟩, ⟨v, hk _ _ _ _ a1, own a2⟩, ⟨u, hk _ _ _ _ b1, own b2⟩⟩
theorem RefAt.blw {base B : Nat} {w w' : World} {ob wb : Nat} {ns es : List Int} (h : RefAt base w ob wb ns es) (hb : BlwM B w w') : RefAt base w' ob wb ns es := h.cells hb.bel.size hb.cells
theorem RefAt.below {base : Nat} {w w' : World} {ob wb : Nat} {ns es : List Int} (h : RefAt base w ob wb ns es) (hb : Below w.heap.size w w') : RefAt base w' ob wb ns es :=
  h.cells hb.size fun i cs T fz hi => (hb.block i (Array.getElem?_eq_some_iff.1 hi).1).trans hi
/-- In the course of the closure's region: which of its two appends (a, b) and two stores (c, d) have been done. -/
structure RefMid (base : Nat) (w0 : World) (ob wb : Nat) (vo ve : Value) (ns es : List Int) (x y : Int) (a b c d : Bool) (W : World) : Prop where
  eff : Eff base w0 W
  low : base ≤ W.heap.size
  rowO : a = false → W.ownsRow base 3 1 vo ns.length (ns.map (.int .i64))
  rowE : b = false → W.ownsRow base 32 1 ve es.length (es.map (.int .i64))
  boxO : c = false → W.heap[ob]? = some (.cells #[vo] 22 (0, 0))
  boxE : d = false → W.heap[wb]? = some (.cells #[ve] 35 (0, 0))
  doneO : c = true → ∃ u, W.heap[ob]? = some (.cells #[u] 22 (0, 0)) ∧ W.ownsRow base 3 1 u (ns ++ [x]).length ((ns ++ [x]).map (.int .i64))
  doneE : d = true → ∃ u, W.heap[wb]? = some (.cells #[u] 35 (0, 0)) ∧ W.ownsRow base 32 1 u (es ++ [y]).length ((es ++ [y]).map (.int .i64))
  ca : c = true → a = true
  db : d = true → b = true
section
variable {base : Nat} {w0 W W' : World} {ob wb : Nat} {vo ve : Value} {ns es : List Int} {x y : Int} {a b c d : Bool}
theorem RefMid.below (h : RefMid base w0 ob wb vo ve ns es x y a b c d W) (hb : Below W.heap.size W W') : RefMid base w0 ob wb vo ve ns es x y a b c d W' := by
  have hg : GB W W' := ⟨hb.size, hb.block⟩
  have hk : ∀ (i : Nat) (o : Obj), W.heap[i]? = some o → W'.heap[i]? = some o := fun i o hi => (hb.block i (Array.getElem?_eq_some_iff.1 hi).1).trans hi
  refine ⟨h.eff.below hb h.low, Nat.le_trans h.low hb.size, fun e => own_gb (h.rowO e) hg, fun e => own_gb (h.rowE e) hg, fun e => hk _ _ (h.boxO e), fun e => hk _ _ (h.boxE e), fun e => ?_, fun e => ?_, h.ca, h.db⟩
  · obtain ⟨u, h1, h2⟩ := h.doneO e
    exact ⟨u, hk _ _ h1, own_gb h2 hg⟩
  · obtain ⟨u, h1, h2⟩ := h.doneE e
    exact ⟨u, hk _ _ h1, own_gb h2 hg⟩
theorem RefMid.appO (h : RefMid base w0 ob wb vo ve ns es x y false b c d W) (hb : Below base W W') (hc : Chg 3 W W') : RefMid base w0 ob wb vo ve ns es x y true b c d W' := by
  have hcf : c ≠ true := fun e => by have := h.ca e; cases this
  refine ⟨h.eff.chg hb hc (.inl rfl), Nat.le_trans h.low hc.size, (fun e => by cases e), fun e => own_chg (h.rowE e) hc (by decide), fun e => hc.keep _ _ (h.boxO e) (fun cs he => by cases he), fun e => hc.keep _ _ (h.boxE e) (fun cs he => by cases he), fun e => absurd e hcf, fun e => ?_, fun _ => rfl, h.db⟩
  obtain ⟨u, h1, h2⟩ := h.doneE e
  exact ⟨u, hc.keep _ _ h1 (fun cs he => by cases he), own_chg h2 hc (by decide)⟩
theorem RefMid.appE (h : RefMid base w0 ob wb vo ve ns es x y a false c d W) (hb : Below base W W') (hc : Chg 32 W W') : RefMid base w0 ob wb vo ve ns es x y a true c d W' := by
  have hdf : d ≠ true := fun e => by have := h.db e; cases this
  refine ⟨h.eff.chg hb hc (.inr (.inl rfl)), Nat.le_trans h.low hc.size, fun e => own_chg (h.rowO e) hc (by decide), (fun e => by cases e), fun e => hc.keep _ _ (h.boxO e) (fun cs he => by cases he), fun e => hc.keep _ _ (h.boxE e) (fun cs he => by cases he), fun e => ?_, fun e => absurd e hdf, h.ca, fun _ => rfl⟩
  obtain ⟨u, h1, h2⟩ := h.doneO e
  exact ⟨u, hc.keep _ _ h1 (fun cs he => by cases he), own_chg h2 hc (by decide)⟩
theorem box_set {w : World} {b : Nat} {v : Value} {T : TypeId} (h : w.heap[b]? = some (.cells #[v] T (0, 0))) (u : Value) : (w.setCell ⟨b, 0, none⟩ u).heap[b]? = some (.cells #[u] T (0, 0)) ∧ Chg T w (w.setCell ⟨b, 0, none⟩ u) ∧ ∀ {B}, B ≤ b → Below B w (w.setCell ⟨b, 0, none⟩ u) := by
  refine ⟨by simp [World.setCell, Array.getElem?_modify, h], ⟨by simp [World.setCell], fun k o hk ho => ?_⟩, fun hB => (Below.refl _ _).setCell hB _⟩
  refine (Below.heap_setCell _ _ _ _ (fun e => ?_)).trans hk
  have e : k = b := e
  subst e
  rw [h] at hk
  exact ho _ (Option.some.inj hk).symm
theorem RefMid.stoO (h : RefMid base w0 ob wb vo ve ns es x y true b false d W) (hb : base ≤ ob) {u : Value} (hu : W.ownsRow base 3 1 u (ns ++ [x]).length ((ns ++ [x]).map (.int .i64))) : RefMid base w0 ob wb vo ve ns es x y true b true d (W.setCell ⟨ob, 0, none⟩ u) := by
  obtain ⟨k1, k2, k3⟩ := box_set (h.boxO rfl) u
  refine ⟨h.eff.chg (k3 hb) k2 (.inr (.inr (.inl rfl))), Nat.le_trans h.low k2.size, (fun e => by cases e), fun e => own_chg (h.rowE e) k2 (by decide), (fun e => by cases e), fun e => k2.keep _ _ (h.boxE e) (fun cs he => by cases he), fun _ => ⟨u, k1, own_chg hu k2 (by decide)⟩, fun e => ?_, fun _ => rfl, h.db⟩
  obtain ⟨u, h1, h2⟩ := h.doneE e
  exact ⟨u, k2.keep _ _ h1 (fun cs he => by cases he), own_chg h2 k2 (by decide)⟩
theorem RefMid.stoE (h : RefMid base w0 ob wb vo ve ns es x y a true c false W) (hb : base ≤ wb) {u : Value} (hu : W.ownsRow base 32 1 u (es ++ [y]).length ((es ++ [y]).map (.int .i64))) : RefMid base w0 ob wb vo ve ns es x y a true c true (W.setCell ⟨wb, 0, none⟩ u) := by
  obtain ⟨k1, k2, k3⟩ := box_set (h.boxE rfl) u
  refine ⟨h.eff.chg (k3 hb) k2 (.inr (.inr (.inr rfl))), Nat.le_trans h.low k2.size, fun e => own_chg (h.rowO e) k2 (by decide), (fun e => by cases e), fun e => k2.keep _ _ (h.boxO e) (fun cs he => by cases he), (fun e => by cases e), fun e => ?_, fun _ => ⟨u, k1, own_chg hu k2 (by decide)⟩, h.ca, fun _ => rfl⟩
  obtain ⟨u, h1, h2⟩ := h.doneO e
  exact ⟨u, k2.keep _ _ h1 (fun cs he => by cases he), own_chg h2 k2 (by decide)⟩
end
theorem own_shape {w : World} {base n sz : Nat} {e : TypeId} {v : Value} {xs : List Value} (h : w.ownsRow base e sz v n xs) : ∃ A m c, v = .slice A m c := by
  rcases h.2 with ⟨rfl, _⟩ | ⟨g, cap, cur, rfl, _⟩ <;> exact ⟨_, _, _, rfl⟩
theorem refused1_no (x : Int) (w : World) (p q : Value) : Calls Tryz.prog 59 #[.int .i64 x, .int .i64 0, p, q] w fun e w' => e = .returned (.tuple #[]) ∧ w = w' := by
  go_enter Tryz.func59, Tryz.ntmps59
  go_wp2
  go_end0
  exact ⟨rfl, rfl⟩
set_option maxHeartbeats 1000000 in
set_option maxRecDepth 20000 in
theorem refused1_any {base : Nat} {w : World} {ob wb : Nat} {ns es : List Int} (x y : Int) (h : RefAt base w ob wb ns es) (hn : ns.length ≤ 10000) (he : es.length ≤ 10000) (hy : ¬ y = 0) :
    Calls Tryz.prog 59 #[.int .i64 x, .int .i64 y, .pointer (some ⟨ob, 0, none⟩), .pointer (some ⟨wb, 0, none⟩)] w fun e w' => e = .returned (.tuple #[]) ∧ RefAt base w' ob wb (ns ++ [x]) (es ++ [y]) ∧ Eff base w w' := by
  obtain ⟨⟨l1, l2, l3⟩, ⟨vo, a1, a2⟩, ⟨ve, b1, b2⟩⟩ := h
  have HI0 : RefMid base w ob wb vo ve ns es x y false false false false w := ⟨Eff.refl _ _, l3, fun _ => a2, fun _ => b2, fun _ => a1, fun _ => b1, (fun e => by cases e), (fun e => by cases e), (fun e => by cases e), (fun e => by cases e)⟩
  have HS := Lib.hid HI0
  have HVO := Lib.hid (fun g (hg : vo.ownBlock = some g) => (a2.lt g hg).2)
  have HVE := Lib.hid (fun g (hg : ve.ownBlock = some g) => (b2.lt g hg).2)
  have HL := Lib.hid (And.intro l1 l2)
  clear a1 a2 b1 b2 HI0 l1 l2
  go_enter Tryz.func59, Tryz.ntmps59
  go_wp2
  refine wp_region_rls (fun L W => RefMid base w ob wb vo ve ns es x y (L.getD 3 false) (L.getD 7 false) (L.getD 8 false) (L.getD 9 false) W ∧ w.heap.size ≤ W.heap.size)
    (fun i w w' => match i with | 3 => w.grownBy w' vo.ownBlock ∧ Chg 3 w w' | 7 => w.grownBy w' ve.ownBlock ∧ Chg 32 w w' | 8 => Chg 22 w w' | 9 => Chg 35 w w' | _ => GB w w')
    (fun i u W => match i with
      | 0 => u = vo | 1 => u = .int .i64 x | 2 => LitAt 3 (.int .i64 x) vo u W
      | 3 => W.ownsRow base 3 1 u (ns ++ [x]).length ((ns ++ [x]).map (.int .i64))
      | 4 => u = ve | 5 => u = .int .i64 y | 6 => LitAt 32 (.int .i64 y) ve u W
      | 7 => W.ownsRow base 32 1 u (es ++ [y]).length ((es ++ [y]).map (.int .i64))
      | _ => True)
    (by kernel_rfl) (by kernel_rfl) (by kernel_rfl) ?start ?stable ?step ?fin
  case start => exact ⟨HS.out.below (below_drewN (Below.refl _ w) 1), Nat.le_refl _⟩
  case stable =>
    intro i k u W W' hne h hG
    match k with
    | 2 =>
      match i with
      | 2 => exact absurd rfl hne
      | 3 => exact LitAt.grown h hG.1
      | 7 => exact LitAt.chg h hG.2 (by decide)
      | 8 => exact LitAt.chg h hG (by decide)
      | 9 => exact LitAt.chg h hG (by decide)
      | 0 | 1 | 4 | 5 | 6 | _ + 10 => exact LitAt.chg (T := 0) h ⟨hG.size, fun k o hk _ => (hG.block k (Array.getElem?_eq_some_iff.1 hk).1).trans hk⟩ (by decide)
    | 3 =>
      match i with
      | 3 => exact absurd rfl hne
      | 7 => exact own_chg h hG.2 (by decide)
      | 8 => exact own_chg h hG (by decide)
      | 9 => exact own_chg h hG (by decide)
      | 0 | 1 | 2 | 4 | 5 | 6 | _ + 10 => exact own_gb h hG
    | 6 =>
      match i with
      | 6 => exact absurd rfl hne
      | 3 => exact LitAt.chg h hG.2 (by decide)
      | 7 => exact LitAt.grown h hG.1
      | 8 => exact LitAt.chg h hG (by decide)
      | 9 => exact LitAt.chg h hG (by decide)
      | 0 | 1 | 2 | 4 | 5 | _ + 10 => exact LitAt.chg (T := 0) h ⟨hG.size, fun k o hk _ => (hG.block k (Array.getElem?_eq_some_iff.1 hk).1).trans hk⟩ (by decide)
    | 7 =>
      match i with
      | 7 => exact absurd rfl hne
      | 3 => exact own_chg h hG.2 (by decide)
      | 8 => exact own_chg h hG (by decide)
      | 9 => exact own_chg h hG (by decide)
      | 0 | 1 | 2 | 4 | 5 | 6 | _ + 10 => exact own_gb h hG
    | 0 | 1 | 4 | 5 | 8 | 9 | _ + 10 => exact h
  case step =>
    have same : ∀ (L : Array Bool) (i : Nat), i ≠ 3 → i ≠ 7 → i ≠ 8 → i ≠ 9 → ∀ {W : World}, RefMid base w ob wb vo ve ns es x y (L.getD 3 false) (L.getD 7 false) (L.getD 8 false) (L.getD 9 false) W → RefMid base w ob wb vo ve ns es x y ((L.setIfInBounds i true).getD 3 false) ((L.setIfInBounds i true).getD 7 false) ((L.setIfInBounds i true).getD 8 false) ((L.setIfInBounds i true).getD 9 false) W := fun L i h3 h7 h8 h9 W h => by
      rw [getD_set_ne false h3, getD_set_ne false h7, getD_set_ne false h8, getD_set_ne false h9]; exact h
    have mine : ∀ (L : Array Bool) (i : Nat), i < L.size → (L.setIfInBounds i true).getD i false = true := fun L i hi => by simp [hi]
    have no : ∀ {b : Bool}, (b = true → False) → b = false := fun {b} h => by cases b <;> simp_all
    refine ⟨?_, ?_, ?_, ?_, ?_, ?_, ?_, ?_, ?_, ?_, trivial⟩
    · refine stepl_run rfl rfl rfl fun a W L hp hI => ?_
      have h1 : a.tmps.getD 2 undef = .pointer (some ⟨ob, 0, none⟩) := hp.old 2 (by kernel_rfl)
      have hm : L.getD 8 false = false := no fun h => by
        have h3 := hp.closed 8 _ rfl h 3 (by decide)
        have h0 := hp.closed 3 _ rfl h3 0 (by decide)
        rw [hp.mine] at h0; cases h0
      exact ⟨_, _, ex_load rfl h1 (fun w => by simp [isAgg, go_sem]) ((row_cells (hI.1.boxO hm)).1 0), rfl, GB.refl _ _ rfl, same _ _ (by decide) (by decide) (by decide) (by decide) hI.1, hI.2⟩
    · exact stepl_run rfl rfl rfl fun a W L hp hI => ⟨_, _, ex_move rfl (show a.tmps.getD 0 undef = .int .i64 x from hp.old 0 (by kernel_rfl)), rfl, GB.refl _ _ rfl, same _ _ (by decide) (by decide) (by decide) (by decide) hI.1, hI.2⟩
    · refine stepl_run rfl rfl rfl fun a W L hp hI => ?_
      have h1 : a.tmps.getD 9 undef = .int .i64 x := hp.pre 1 (by decide) _ rfl
      have hb := (Below.refl W.heap.size W).alloc (Nat.le_refl _) (.cells #[.int .i64 x] 3)
      exact ⟨_, _, ex_slice1 rfl h1 (fun w => by simp [go_sem]), ⟨W.heap.size, rfl, heap_alloc_new _ _, fun e => by have := HVO.out _ e; have := hI.2; omega⟩, .of_below hb, same _ _ (by decide) (by decide) (by decide) (by decide) (hI.1.below hb), Nat.le_trans hI.2 hb.size⟩
    · refine stepl_run rfl rfl rfl fun a W L hp hI => ?_
      have h1 : a.tmps.getD 8 undef = vo := hp.pre 0 (by decide) _ rfl
      have h2 : LitAt 3 (.int .i64 x) vo (a.tmps.getD 10 undef) W := hp.pre 2 (by decide) _ rfl
      have hmid := hI.1
      rw [hp.mine] at hmid
      obtain ⟨v', W', hrun, q1, q2, q3, q4⟩ := append_one Tryz.underlying22 infoInt (hmid.rowO rfl) h2 (by omega) hmid.low
      refine ⟨_, _, ex_append rfl h1 rfl (hrun _), q1, ⟨q2, q3⟩, ?_, Nat.le_trans hI.2 q3.size⟩
      rw [mine L 3 (by rw [hp.size]; decide), getD_set_ne false (show 3 ≠ 7 by decide), getD_set_ne false (show 3 ≠ 8 by decide), getD_set_ne false (show 3 ≠ 9 by decide)]
      exact hmid.appO q4 q3
    · refine stepl_run rfl rfl rfl fun a W L hp hI => ?_
      have h1 : a.tmps.getD 3 undef = .pointer (some ⟨wb, 0, none⟩) := hp.old 3 (by kernel_rfl)
      have hm : L.getD 9 false = false := no fun h => by
        have h3 := hp.closed 9 _ rfl h 7 (by decide)
        have h0 := hp.closed 7 _ rfl h3 4 (by decide)
        rw [hp.mine] at h0; cases h0
      exact ⟨_, _, ex_load rfl h1 (fun w => by simp [isAgg, go_sem]) ((row_cells (hI.1.boxE hm)).1 0), rfl, GB.refl _ _ rfl, same _ _ (by decide) (by decide) (by decide) (by decide) hI.1, hI.2⟩
    · exact stepl_run rfl rfl rfl fun a W L hp hI => ⟨_, _, ex_move rfl (show a.tmps.getD 1 undef = .int .i64 y from hp.old 1 (by kernel_rfl)), rfl, GB.refl _ _ rfl, same _ _ (by decide) (by decide) (by decide) (by decide) hI.1, hI.2⟩
    · refine stepl_run rfl rfl rfl fun a W L hp hI => ?_
      have h1 : a.tmps.getD 13 undef = .int .i64 y := hp.pre 5 (by decide) _ rfl
      have hb := (Below.refl W.heap.size W).alloc (Nat.le_refl _) (.cells #[.int .i64 y] 32)
      exact ⟨_, _, ex_slice1 rfl h1 (fun w => by simp [go_sem]), ⟨W.heap.size, rfl, heap_alloc_new _ _, fun e => by have := HVE.out _ e; have := hI.2; omega⟩, .of_below hb, same _ _ (by decide) (by decide) (by decide) (by decide) (hI.1.below hb), Nat.le_trans hI.2 hb.size⟩
    · refine stepl_run rfl rfl rfl fun a W L hp hI => ?_
      have h1 : a.tmps.getD 12 undef = ve := hp.pre 4 (by decide) _ rfl
      have h2 : LitAt 32 (.int .i64 y) ve (a.tmps.getD 14 undef) W := hp.pre 6 (by decide) _ rfl
      have hmid := hI.1
      rw [hp.mine] at hmid
      obtain ⟨v', W', hrun, q1, q2, q3, q4⟩ := append_one Tryz.underlying35 infoErrR (hmid.rowE rfl) h2 (by omega) hmid.low
      refine ⟨_, _, ex_append rfl h1 rfl (hrun _), q1, ⟨q2, q3⟩, ?_, Nat.le_trans hI.2 q3.size⟩
      rw [mine L 7 (by rw [hp.size]; decide), getD_set_ne false (show 7 ≠ 3 by decide), getD_set_ne false (show 7 ≠ 8 by decide), getD_set_ne false (show 7 ≠ 9 by decide)]
      exact hmid.appE q4 q3
    · refine stepl_skip rfl rfl rfl fun a W L hp hI => ?_
      have h1 : a.tmps.getD 2 undef = .pointer (some ⟨ob, 0, none⟩) := hp.old 2 (by kernel_rfl)
      have h2 : W.ownsRow base 3 1 (a.tmps.getD 11 undef) (ns ++ [x]).length ((ns ++ [x]).map (.int .i64)) := hp.pre 3 (by decide) _ rfl
      obtain ⟨A, m, c, hu⟩ := own_shape h2
      rw [hu] at h2
      have hmid := hI.1
      rw [hp.mine, hp.did 3 (by decide)] at hmid
      obtain ⟨hcb, hfb⟩ := row_cells (hmid.boxO rfl)
      obtain ⟨k1, k2, k3⟩ := box_set (hmid.boxO rfl) (.slice A m c)
      refine ⟨_, ex_store_slice rfl h1 hu Tryz.sizeOf22 (hcb 0) (hfb 0), trivial, k2, ?_, Nat.le_trans hI.2 k2.size⟩
      rw [mine L 8 (by rw [hp.size]; decide), getD_set_ne false (show 8 ≠ 3 by decide), getD_set_ne false (show 8 ≠ 7 by decide), getD_set_ne false (show 8 ≠ 9 by decide), hp.did 3 (by decide)]
      exact hmid.stoO HL.out.1 h2
    · refine stepl_skip rfl rfl rfl fun a W L hp hI => ?_
      have h1 : a.tmps.getD 3 undef = .pointer (some ⟨wb, 0, none⟩) := hp.old 3 (by kernel_rfl)
      have h2 : W.ownsRow base 32 1 (a.tmps.getD 15 undef) (es ++ [y]).length ((es ++ [y]).map (.int .i64)) := hp.pre 7 (by decide) _ rfl
      obtain ⟨A, m, c, hu⟩ := own_shape h2
      rw [hu] at h2
      have hmid := hI.1
      rw [hp.mine, hp.did 7 (by decide)] at hmid
      obtain ⟨hcb, hfb⟩ := row_cells (hmid.boxE rfl)
      obtain ⟨k1, k2, k3⟩ := box_set (hmid.boxE rfl) (.slice A m c)
      refine ⟨_, ex_store_slice rfl h1 hu Tryz.sizeOf35 (hcb 0) (hfb 0), trivial, k2, ?_, Nat.le_trans hI.2 k2.size⟩
      rw [mine L 9 (by rw [hp.size]; decide), getD_set_ne false (show 9 ≠ 3 by decide), getD_set_ne false (show 9 ≠ 7 by decide), getD_set_ne false (show 9 ≠ 8 by decide), hp.did 7 (by decide)]
      exact hmid.stoE HL.out.2 h2
  case fin =>
    intro vs W L hl hall hI hR
    match vs, hl with
    | [v0, v1, v2, v3, v4, v5, v6, v7, v8, v9], _ =>
      simp only [putAll, Act.put, List.setIfInBounds_toArray, List.set_cons_succ, List.set_cons_zero]
      have HF := Lib.hid hI.1
      have H3 := Lib.hid (hall 3 (by decide))
      have H7 := Lib.hid (hall 7 (by decide))
      have H8 := Lib.hid (hall 8 (by decide))
      have H9 := Lib.hid (hall 9 (by decide))
      clear hI hR hall
      go_wp2
      go_end0
      exact ⟨rfl, ⟨⟨HL.out.1, HL.out.2, HF.out.low⟩, HF.out.doneO H8.out, HF.out.doneE H9.out⟩, HF.out.eff⟩
end Go.Proofs.YtfmffobdkfgekaaGreat
/- roster.Refused, and RefusedMoves of the reference. -/
set_option linter.unusedVariables false
set_option linter.unusedSimpArgs false
namespace Go.Proofs.YtfmffobdkfgekaaGreat
open Go.RowKit Go.Maps

/-! ### what is refused -/
def refsB (u : Int) : Book → Nat → List Mv → List (Int × Int)
  | _, _, [] => []
  | K, i, x :: l => (if x.time ≤ u ∧ ¬ whyB K x = 0 then [((i : Int), whyB K x)] else []) ++ refsB u (stepB u K x) (i + 1) l
theorem refsB_snoc (u : Int) (x : Mv) : ∀ (l : List Mv) (K : Book) (i : Nat), refsB u K i (l ++ [x]) = refsB u K i l ++ (if x.time ≤ u ∧ ¬ whyB (l.foldl (stepB u) K) x = 0 then [(((i + l.length : Nat) : Int), whyB (l.foldl (stepB u) K) x)] else [])
  | [], K, i => by simp only [List.nil_append, refsB, List.append_nil, List.length_nil, Nat.add_zero, List.foldl_nil]; rfl
  | y :: l, K, i => by
    rw [List.cons_append, refsB, refsB_snoc u x l, refsB, List.append_assoc, List.foldl_cons, List.length_cons, show i + 1 + l.length = i + (l.length + 1) by omega]
theorem refsB_len (u : Int) : ∀ (l : List Mv) (K : Book) (i : Nat), (refsB u K i l).length ≤ l.length
  | [], K, i => Nat.le_refl _
  | y :: l, K, i => by
    have := refsB_len u l (stepB u K y) (i + 1)
    rw [refsB, List.length_append, List.length_cons]
    split <;> simp <;> omega
def refsO : Office → Nat → List Mv → List (Int × Int)
  | _, _, [] => []
  | O, i, x :: l => (if ¬ errO O x = 0 then [((i : Int), errO O x)] else []) ++ refsO (followO O x) (i + 1) l
theorem refsO_snoc (x : Mv) : ∀ (l : List Mv) (O : Office) (i : Nat), refsO O i (l ++ [x]) = refsO O i l ++ (if ¬ errO (l.foldl followO O) x = 0 then [(((i + l.length : Nat) : Int), errO (l.foldl followO O) x)] else [])
  | [], O, i => by simp only [List.nil_append, refsO, List.append_nil, List.length_nil, Nat.add_zero, List.foldl_nil]; rfl
  | y :: l, O, i => by
    rw [List.cons_append, refsO, refsO_snoc x l, refsO, List.append_assoc, List.foldl_cons, List.length_cons, show i + 1 + l.length = i + (l.length + 1) by omega]
theorem refsO_len : ∀ (l : List Mv) (O : Office) (i : Nat), (refsO O i l).length ≤ l.length
  | [], O, i => Nat.le_refl _
  | y :: l, O, i => by
    have := refsO_len l (followO O y) (i + 1)
    rw [refsO, List.length_append, List.length_cons]
    split <;> simp <;> omega
theorem refs_same (u : Int) : ∀ (l : List Mv) {K : Book} {O : Office} (i : Nat), Sim K O → (∀ x ∈ l, Right x) → (∀ x ∈ l, x.time ≤ u) → refsB u K i l = refsO O i l
  | [], K, O, i, _, _, _ => rfl
  | x :: l, K, O, i, h, hr, hu => by
    have hx := hr x (by simp)
    have hxu := hu x (by simp)
    rw [refsB, refsO, h.why hx, show stepB u K x = followB K x by unfold stepB; rw [if_pos hxu]]
    rw [refs_same u l (i + 1) (h.step hx) (fun y hy => hr y (by simp [hy])) fun y hy => hu y (by simp [hy])]
    by_cases h0 : errO O x = 0
    · rw [if_neg (by simp [h0]), if_neg (by simp [h0])]
    · rw [if_pos ⟨hxu, h0⟩, if_pos h0]

/-! ### follow, with the closure -/
theorem BookIn.eff {base lo : Nat} {w w' : World} {kb bp bh bo bd ba : Nat} {K : Book} (h : BookIn lo w kb bp bh bo bd ba K) (he : Eff base w w') : BookIn lo w' kb bp bh bo bd ba K := by
  have cells : ∀ {i : Nat} {cs : Array Value} {T : TypeId}, w.heap[i]? = some (.cells cs T (0, 0)) → ¬ numT T → w'.heap[i]? = some (.cells cs T (0, 0)) := fun hi hT => he.keep _ _ hi fun cs' T' hn e => by cases e; exact hT hn
  have maps : ∀ {k : TypeId} {κ α : Type} {C : Codec Tryz.prog k κ} {vv : α → Value} {b : Nat} {M : List (κ × α)}, MapS C vv w b M → MapS C vv w' b M := fun hm => by
    obtain ⟨es, cl, hb⟩ := hm.isMap
    exact hm.keep ((he.keep _ _ hb fun cs T _ e => by cases e).trans hb.symm)
  have lists : ∀ {P : List (ByteArray × Value)} {f : ByteArray → List ByteArray}, Lists lo w P f → Lists lo w' P f := fun hl t => (hl t).keep he.size fun i cs hi => cells hi (by unfold numT; decide)
  obtain ⟨h1, h2, h3, ⟨P, p1, p2, p3⟩, ⟨H, q1, q2⟩, ⟨O, o1, o2⟩, ⟨D, d1, d2⟩, ⟨A, a1, a2⟩⟩ := h
  exact ⟨h1, h2, cells h3 (by unfold numT; decide), ⟨P, maps p1, lists p2, p3⟩, ⟨H, maps q1, lists q2⟩, ⟨O, maps o1, o2⟩, ⟨D, maps d1, d2⟩, ⟨A, maps a1, a2⟩⟩
set_option maxHeartbeats 1600000 in
set_option maxRecDepth 20000 in
theorem rfollow_ref {lo ob wb : Nat} {w0 w : World} {v : Value} {n : Nat} {l : List Mv} (b : Bd) (u : Int) (h : Sl lo w0 v 4 n (l.flatMap Mv.c)) (hw0 : Below w0.heap.size w0 w) (hl : l.length = n) (hn : n ≤ 800) (hok : ∀ x ∈ l, x.ok) (hb : b.ok) (hr : RefAt w0.heap.size w ob wb [] []) :
    Calls Tryz.prog 58 #[b.v, v, .int .i64 u, .func (.func 59) #[] #[.pointer (some ⟨ob, 0, none⟩), .pointer (some ⟨wb, 0, none⟩)]] w fun e w' => (∃ p, e = .returned p) ∧ RefAt w0.heap.size w' ob wb ((refsB u (book0 b) 0 l).map (·.1)) ((refsB u (book0 b) 0 l).map (·.2)) ∧ Below w0.heap.size w0 w' := by
  obtain ⟨A, c, rfl, hn2⟩ := h.shape
  have H := Lib.hid h
  have HW0 := Lib.hid hw0
  have HR := Lib.hid hr
  have HLL := Lib.hid hl
  have hls := hw0.size
  obtain ⟨m1, m2, m3, m4⟩ := b
  have hmm := @run_makeMap Tryz.prog
  clear h hw0 hr
  dsimp only [Bd.v]
  go_enter Tryz.func58, Tryz.ntmps58
  go_wp2
  obtain ⟨W0, hW0, hB0, hL0⟩ := book_made w (.cells #[.int .i64 m1, .int .i64 m2, .int .i64 m3, .int .i64 m4] 27) ⟨m1, m2, m3, m4⟩
  dsimp only at hW0
  rw [← hW0]
  clear hmm hW0
  generalize w.heap.size + 1 + 1 + 1 + 1 + 1 + 1 = kb at hB0 ⊢
  generalize w.heap.size + 1 + 1 + 1 + 1 + 1 = ba at hB0 ⊢
  generalize w.heap.size + 1 + 1 + 1 + 1 = bd at hB0 ⊢
  generalize w.heap.size + 1 + 1 + 1 = bo at hB0 ⊢
  generalize w.heap.size + 1 + 1 = bh at hB0 ⊢
  generalize w.heap.size + 1 = bp at hB0 ⊢
  go_loopw [22] (fun i wr => ∃ k : Nat, k ≤ n ∧ i = .int .i64 k ∧ BookIn w.heap.size wr kb bp bh bo bd ba ((l.take k).foldl (stepB u) (book0 ⟨m1, m2, m3, m4⟩)) ∧ BInv ⟨m1, m2, m3, m4⟩ k ((l.take k).foldl (stepB u) (book0 ⟨m1, m2, m3, m4⟩)) ∧ Below w0.heap.size w0 wr ∧ w.heap.size ≤ wr.heap.size ∧
    RefAt w0.heap.size wr ob wb ((refsB u (book0 ⟨m1, m2, m3, m4⟩) 0 (l.take k)).map (·.1)) ((refsB u (book0 ⟨m1, m2, m3, m4⟩) 0 (l.take k)).map (·.2))) (fun i _ => n - (intOf i).toNat)
  case atStart => exact ⟨0, by omega, rfl, hB0, inv0 _, HW0.out.trans (hL0.mono hls), hL0.size, HR.out.below hL0⟩
  case round =>
    clear hB0 hL0
    obtain ⟨k, hk, rfl, hbk, hinv, hbl, hsz, href⟩ := hrel
    by_cases hlt : k < n
    · obtain ⟨x, hx⟩ : ∃ x, l[k]? = some x := ⟨_, List.getElem?_eq_getElem (by omega)⟩
      have hxo := hok x (List.mem_of_getElem? hx)
      obtain ⟨bb, o, rfl, _, hbl2, h1, h2, h3, h4⟩ := mv_cells (H.out.below hbl) hx
      have htk : l.take (k + 1) = l.take k ++ [x] := by rw [List.take_add_one, hx]; rfl
      have hfo : (l.take (k + 1)).foldl (stepB u) (book0 ⟨m1, m2, m3, m4⟩) = stepB u ((l.take k).foldl (stepB u) (book0 ⟨m1, m2, m3, m4⟩)) x := by rw [htk, List.foldl_append]; rfl
      have hlk : (l.take k).length = k := by rw [List.length_take]; omega
      have hsn : refsB u (book0 ⟨m1, m2, m3, m4⟩) 0 (l.take (k + 1)) = refsB u (book0 ⟨m1, m2, m3, m4⟩) 0 (l.take k) ++ (if x.time ≤ u ∧ ¬ whyB ((l.take k).foldl (stepB u) (book0 ⟨m1, m2, m3, m4⟩)) x = 0 then [((k : Int), whyB ((l.take k).foldl (stepB u) (book0 ⟨m1, m2, m3, m4⟩)) x)] else []) := by
        rw [htk, refsB_snoc, hlk, Nat.zero_add]
      have hrl : (refsB u (book0 ⟨m1, m2, m3, m4⟩) 0 (l.take k)).length ≤ k := by have := refsB_len u (l.take k) (book0 ⟨m1, m2, m3, m4⟩) 0; omega
      have HFO := Lib.hid hfo
      have HSN := Lib.hid hsn
      clear hsn hlk
      generalize (l.take k).foldl (stepB u) (book0 ⟨m1, m2, m3, m4⟩) = K at hbk hinv HFO HSN
      generalize refsB u (book0 ⟨m1, m2, m3, m4⟩) 0 (l.take k) = Rk at href HSN hrl
      have HBK := Lib.hid hbk
      have HINV := Lib.hid hinv
      have HBL := Lib.hid hbl
      have HREF := Lib.hid href
      clear hbk hinv hbl hfo htk hx href
      obtain ⟨xt, xk, xa, xp⟩ := x
      dsimp only at h1 h2 h3 h4
      have ix : (0 : Int) ≤ (k : Int) ∧ (k : Int) < (n : Int) := ⟨by omega, by omega⟩
      by_cases hu : xt ≤ u
      · go_wp2_with fail
        have hal : Below wr.heap.size wr (wr.alloc (.cells #[.int .i64 xt, .int .i64 xk, .string xa, .string xp] 45)) := (Below.refl _ wr).alloc (Nat.le_refl _) _
        have hkb := HBK.out.below hal
        have href2 := HREF.out.below hal
        refine (follow_any hkb (by rw [alloc_size]; omega) (by rw [HINV.out.b]; exact hb) ⟨xt, xk, xa, xp⟩ hxo HINV.out.dr (fun k2 => by have := HINV.out.ad k2; omega) (fun t => by have := HINV.out.le t; omega)).mono ?_
        rintro e w2 ⟨rfl, hb2, hl2⟩
        have E := Lib.hid (And.intro hb2 (And.intro (href2.blw hl2) (And.intro ((HBL.out.alloc HBL.out.size _).trans (hl2.bel.mono (by omega))) (show w.heap.size ≤ w2.heap.size by have := hl2.bel.size; rw [alloc_size] at this; omega))))
        clear hkb hb2 hl2 href2 hal
        obtain ⟨y, hy⟩ : ∃ y, whyB K ⟨xt, xk, xa, xp⟩ = y := ⟨_, rfl⟩
        rw [hy]
        have HYY := Lib.hid hy
        clear hy
        by_cases hy0 : y = 0
        · subst hy0
          go_wp2_with fail
          refine (refused1_no _ _ _ _).mono ?_
          rintro e w3 ⟨rfl, rfl⟩
          go_wp2
          go_roundw
          case rel => exact ⟨k + 1, by omega, by go_num, by
            rw [HFO.out]; unfold stepB; rw [if_pos hu]; exact E.out.1, by
            rw [HFO.out]; unfold stepB; rw [if_pos hu]; exact inv_step HINV.out _ hxo, E.out.2.2.1, E.out.2.2.2, by
            rw [HSN.out, if_neg (fun c => c.2 HYY.out), List.append_nil]; exact E.out.2.1⟩
          case measure => simp [intOf]; omega
        · go_wp2_with fail
          refine (refused1_any k y E.out.2.1 (by rw [List.length_map]; omega) (by rw [List.length_map]; omega) hy0).mono ?_
          rintro e w3 ⟨rfl, hr3, he3⟩
          have E3 := Lib.hid (And.intro hr3 he3)
          clear hr3 he3
          go_wp2
          go_roundw
          case rel => exact ⟨k + 1, by omega, by go_num, by
            rw [HFO.out]; unfold stepB; rw [if_pos hu]; exact E.out.1.eff E3.out.2, by
            rw [HFO.out]; unfold stepB; rw [if_pos hu]; exact inv_step HINV.out _ hxo, E.out.2.2.1.trans E3.out.2.bel, Nat.le_trans E.out.2.2.2 E3.out.2.size, by
            rw [HSN.out, if_pos ⟨hu, by rw [HYY.out]; exact hy0⟩, List.map_append, List.map_append, HYY.out]; exact E3.out.1⟩
          case measure => simp [intOf]; omega
      · have hal : Below wr.heap.size wr (wr.alloc (.cells #[.int .i64 xt, .int .i64 xk, .string xa, .string xp] 45)) := (Below.refl _ wr).alloc (Nat.le_refl _) _
        have E := Lib.hid (And.intro (HBK.out.below hal) (And.intro (HREF.out.below hal) (HBL.out.alloc HBL.out.size (.cells #[.int .i64 xt, .int .i64 xk, .string xa, .string xp] 45))))
        clear hal
        go_wp2
        go_roundw
        case rel => exact ⟨k + 1, by omega, by go_num, by
          rw [HFO.out]; unfold stepB; rw [if_neg hu]; exact E.out.1, by
          rw [HFO.out]; unfold stepB; rw [if_neg hu]; exact HINV.out.mono (Nat.le_succ k), E.out.2.2, by rw [alloc_size]; omega, by
          rw [HSN.out, if_neg (fun c => hu c.1), List.append_nil]; exact E.out.2.1⟩
        case measure => simp [intOf]; omega
    · have hkn : k = n := by omega
      subst hkn
      rw [List.take_of_length_le (by omega)] at href
      have HREF := Lib.hid href
      have HBL := Lib.hid hbl
      clear hbk hinv hbl hlt href
      go_wp2
      go_ret
      exact ⟨⟨_, rfl⟩, HREF.out, HBL.out⟩
/-! ### Refused -/
def refusedB (b : Bd) (l : List Mv) : List (Int × Int) := if faultE b l = 0 then refsB 345686400000 (book0 b) 0 l else []
theorem sl_of_box {w : World} {base n : Nat} {e : TypeId} {v : Value} {ns : List Int} (h : w.ownsRow base e 1 v ns.length (ns.map (.int .i64))) (hn : ns.length ≤ 100000) : Sl 0 w v 1 ns.length (ns.map (.int .i64)) := (Sl.of_own h (by omega)).mono (Nat.zero_le _)
set_option maxHeartbeats 800000 in
set_option maxRecDepth 20000 in
theorem refused_any {lo : Nat} {w : World} {v : Value} {n : Nat} {l : List Mv} (b : Bd) (h : Sl lo w v 4 n (l.flatMap Mv.c)) (hl : l.length = n) (hn : n ≤ 800) (hok : ∀ x ∈ l, x.ok) (hb : b.ok) :
    Calls Tryz.prog 10 #[b.v, v] w fun e w' => ∃ v1 v2, e = .returned (.tuple #[v1, v2, .int .i64 (faultE b l)]) ∧ Sl 0 w' v1 1 (refusedB b l).length (((refusedB b l).map (·.1)).map (.int .i64)) ∧ Sl 0 w' v2 1 (refusedB b l).length (((refusedB b l).map (·.2)).map (.int .i64)) ∧ Below w.heap.size w w' := by
  have hA := (Below.refl w.heap.size w).alloc (Nat.le_refl _) (.cells #[.int .i64 b.most, .int .i64 b.hurt, .int .i64 b.adds, .int .i64 b.hold] 27)
  have hbox := heap_alloc_new w (.cells #[.int .i64 b.most, .int .i64 b.hurt, .int .i64 b.adds, .int .i64 b.hold] 27)
  have HC := Lib.hid (fault_any (w := w.alloc (.cells #[.int .i64 b.most, .int .i64 b.hurt, .int .i64 b.adds, .int .i64 b.hold] 27)) b (h.below hA) hl (by omega) hok)
  have HB := Lib.hid hbox
  have HA := Lib.hid hA
  have H := Lib.hid h
  have HOK := Lib.hid hb
  have hrl : (refsB 345686400000 (book0 b) 0 l).length ≤ 800 := by have := refsB_len 345686400000 l (book0 b) 0; omega
  obtain ⟨m1, m2, m3, m4⟩ := b
  clear h hA hbox
  dsimp only [Bd.v] at *
  go_enter Tryz.func10, Tryz.ntmps10
  go_wp2_with fail
  refine HC.out.mono ?_
  rintro e w2 ⟨rfl, hb2⟩
  have H2 := Lib.hid (HA.out.trans (hb2.mono (by simp)))
  have hbx : w2.heap[w.heap.size]? = some (.cells #[.int .i64 m1, .int .i64 m2, .int .i64 m3, .int .i64 m4] 27 (0, 0)) := (hb2.block _ (by simp)).trans HB.out
  have hsz2 : w.heap.size < w2.heap.size := (Array.getElem?_eq_some_iff.1 hbx).1
  clear hb2
  generalize hf : faultE ⟨m1, m2, m3, m4⟩ l = f
  by_cases h0 : f = 0
  · subst h0
    have hR0 : RefAt w.heap.size ((w2.alloc (.cells #[.slice none 0 0] 22)).alloc (.cells #[.slice none 0 0] 35)) w2.heap.size (w2.heap.size + 1) [] [] := by
      refine ⟨⟨by omega, by omega, by simp; omega⟩, ⟨_, ?_, World.ownsRow_nil _ _ _ _⟩, ⟨_, ?_, World.ownsRow_nil _ _ _ _⟩⟩
      · rw [Below.heap_alloc _ _ _ (by simp)]; exact heap_alloc_new _ _
      · have := heap_alloc_new (w2.alloc (.cells #[.slice none 0 0] 22)) (.cells #[.slice none 0 0] 35)
        rw [alloc_size] at this; exact this
    have hbx3 : ((w2.alloc (.cells #[.slice none 0 0] 22)).alloc (.cells #[.slice none 0 0] 35)).heap[w.heap.size]? = some (.cells #[.int .i64 m1, .int .i64 m2, .int .i64 m3, .int .i64 m4] 27 (0, 0)) := by
      rw [Below.heap_alloc _ _ _ (by simp; omega), Below.heap_alloc _ _ _ hsz2]; exact hbx
    have hW0 : Below w.heap.size w ((w2.alloc (.cells #[.slice none 0 0] 22)).alloc (.cells #[.slice none 0 0] 35)) := (H2.out.alloc (by omega) _).alloc (by simp; omega) _
    have HF := Lib.hid (rfollow_ref ⟨m1, m2, m3, m4⟩ 345686400000 H.out hW0 hl hn hok HOK.out hR0)
    obtain ⟨hcb, hfb⟩ := row_cells hbx3
    clear hR0 hbx3 hW0 hfb hbx
    go_wp2_with fail
    refine HF.out.mono ?_
    rintro e w3 ⟨⟨p, rfl⟩, href, hbl⟩
    have hrb : refusedB ⟨m1, m2, m3, m4⟩ l = refsB 345686400000 (book0 ⟨m1, m2, m3, m4⟩) 0 l := by unfold refusedB; rw [if_pos hf]
    rw [← hrb] at href hrl
    obtain ⟨⟨_, _, _⟩, ⟨vo, a1, a2⟩, ⟨ve, b1, b2⟩⟩ := href
    rw [List.length_map] at a2 b2
    have E := Lib.hid (And.intro ((Sl.of_own a2 (by omega)).mono (Nat.zero_le _)) (And.intro ((Sl.of_own b2 (by omega)).mono (Nat.zero_le _)) hbl))
    obtain ⟨hc1, hf1⟩ := row_cells a1
    obtain ⟨hc2, hf2⟩ := row_cells b1
    obtain ⟨A1, n1, c1, rfl⟩ := own_shape a2
    obtain ⟨A2, n2, c2, rfl⟩ := own_shape b2
    have HRB := Lib.hid hrb
    have HRL := Lib.hid hf
    clear a1 a2 b1 b2 hbl hcb hf1 hf2 hrb hf
    go_wp2
    go_quiet (fail)
    go_wp2
    refine bodyPost_ret (v := .tuple #[.slice A1 n1 c1, .slice A2 n2 c2, .int .i64 0]) (by simp [results, Tryz.results10, go_sem]) rfl ⟨_, _, by rw [HRL.out], E.out.1.below (below_drewN (Below.refl _ _) _), E.out.2.1.below (below_drewN (Below.refl _ _) _), below_drewN E.out.2.2 _⟩
  · have hrb : refusedB ⟨m1, m2, m3, m4⟩ l = [] := by unfold refusedB; rw [hf, if_neg h0]
    have HRB := Lib.hid hrb
    clear hrb hbx
    go_wp2
    refine bodyPost_ret (v := .tuple #[.slice none 0 0, .slice none 0 0, .int .i64 f]) (by simp [results, Tryz.results10, go_sem]) rfl ⟨_, _, by rw [hf], by rw [HRB.out]; exact Sl.nil _ _ _, by rw [HRB.out]; exact Sl.nil _ _ _, H2.out⟩
end Go.Proofs.YtfmffobdkfgekaaGreat
/- The reference's RefusedMoves. -/
set_option linter.unusedVariables false
set_option linter.unusedSimpArgs false
namespace Go.Proofs.YtfmffobdkfgekaaGreat
open Go.RowKit Go.Maps

theorem row_lt {lo : Nat} {w : World} {ob bm ba : Nat} {O : Office} (h : OfficeIn lo w ob bm ba O) {g : Nat} (hg : RowBlk w ba g) : g < w.heap.size ∧ ∃ cur, w.heap[g]? = some (.cells cur 3 (0, 0)) := by
  obtain ⟨h1, h2, h3, h4, A, a1, a2⟩ := h
  obtain ⟨p, hp, hpg⟩ := (row_blk a1 g).1 hg
  have hget := getM_mem a1.nodup (show (p.1, p.2) ∈ A from hp)
  have hown := a2.own p.1
  rw [hget] at hown
  exact ⟨(hown.lt g hpg).2, own_block hown hpg⟩
theorem OfficeIn.grown {lo : Nat} {w w' : World} {ob bm ba : Nat} {O : Office} (h : OfficeIn lo w ob bm ba O) {row : Option Nat} (hg : w.grownBy w' row) (hrow : ∀ g, row = some g → ¬ RowBlk w ba g ∧ ∃ cs T, w.heap[g]? = some (.cells cs T (0, 0)) ∧ T ≠ 161) : OfficeIn lo w' ob bm ba O ∧ w'.heap[ba]? = w.heap[ba]? := by
  obtain ⟨h1, h2, h3, h4, A, a1, a2⟩ := h
  have maps : ∀ {b : Nat}, isMap w b → w'.heap[b]? = w.heap[b]? := fun hm => by
    obtain ⟨es, cl, hb⟩ := hm
    exact hg.block _ (Array.getElem?_eq_some_iff.1 hb).1 fun e => by
      obtain ⟨_, cs, T, hc, _⟩ := hrow _ e.symm
      rw [hb] at hc; cases hc
  refine ⟨⟨h1, h2, (hg.block _ (Array.getElem?_eq_some_iff.1 h3).1 fun e => ?_).trans h3, h4.keep (maps h4.isMap), A, a1.keep (maps a1.isMap), fun t => (a2.own t).kept hg ?_, a2.apart⟩, maps a1.isMap⟩
  · obtain ⟨_, cs, T, hc, hT⟩ := hrow _ e.symm
    rw [h3] at hc; cases hc; exact hT rfl
  · cases hk : ((getM A t).getD (.slice none 0 0)).ownBlock with
    | none => exact .inl rfl
    | some k =>
      refine .inr fun e => (hrow _ e.symm).1 ((row_blk a1 k).2 ?_)
      cases hga : getM A t with
      | none => rw [hga] at hk; cases hk
      | some v => rw [hga] at hk; exact ⟨(t, v), getM_some hga, hk⟩
theorem own_ne {w : World} {b1 b2 n1 n2 s1 s2 : Nat} {e1 e2 : TypeId} {v1 v2 : Value} {x1 x2 : List Value} (h1 : w.ownsRow b1 e1 s1 v1 n1 x1) (h2 : w.ownsRow b2 e2 s2 v2 n2 x2) (hne : e1 ≠ e2) : v1.ownBlock = none ∨ v1.ownBlock ≠ v2.ownBlock := by
  cases hk : v1.ownBlock with
  | none => exact .inl rfl
  | some k =>
    refine .inr fun e => ?_
    obtain ⟨c1, h1⟩ := own_block h1 hk
    obtain ⟨c2, h2⟩ := own_block h2 e.symm
    rw [h1] at h2; cases h2; exact hne rfl
/-- The office, and the two lists of what was refused. -/
structure RefO (lo : Nat) (w : World) (ob bm ba : Nat) (O : Office) (vo ve : Value) (n1 n2 : Nat) (xs ys : List Value) : Prop where
  off : OfficeIn lo w ob bm ba O
  ro : w.ownsRow lo 3 1 vo n1 xs
  re : w.ownsRow lo 32 1 ve n2 ys
  ap : ∀ g, vo.ownBlock = some g → ¬ RowBlk w ba g
section
variable {lo : Nat} {w w' : World} {ob bm ba : Nat} {O : Office} {vo ve v' : Value} {n1 n2 : Nat} {xs ys : List Value}
theorem RefO.alloc (h : RefO lo w ob bm ba O vo ve n1 n2 xs ys) (o : Obj) : RefO lo (w.alloc o) ob bm ba O vo ve n1 n2 xs ys := by
  have hb : Below w.heap.size w (w.alloc o) := (Below.refl _ _).alloc (Nat.le_refl _) o
  refine ⟨h.off.below hb, h.ro.alloc _, h.re.alloc _, fun g hg => ?_⟩
  obtain ⟨cur, hc⟩ := own_block h.ro hg
  exact (FrO.below hb h.off.ba_lt g _ _ _ hc (h.ap g hg)).2
theorem RefO.appO {m : Nat} {zs : List Value} (h : RefO lo w ob bm ba O vo ve n1 n2 xs ys) (hown : w'.ownsRow lo 3 1 v' m zs) (hg : w.grownBy w' vo.ownBlock) (hl : v'.ownBlock = vo.ownBlock ∨ v'.ownBlock = some w.heap.size) : RefO lo w' ob bm ba O v' ve m n2 zs ys := by
  obtain ⟨k1, k2⟩ := h.off.grown hg fun g hgo => by
    obtain ⟨cur, hc⟩ := own_block h.ro hgo
    exact ⟨h.ap g hgo, cur, _, hc, by decide⟩
  refine ⟨k1, hown, h.re.kept hg (own_ne h.re h.ro (by decide)), fun g hgv hr => ?_⟩
  have hr' : RowBlk w ba g := by
    obtain ⟨es, cl, r1, r2⟩ := hr
    exact ⟨es, cl, k2.symm.trans r1, r2⟩
  rcases hl with hl | hl
  · exact h.ap g (by rw [← hl]; exact hgv) hr'
  · rw [hl] at hgv
    have := (row_lt h.off hr').1
    simp at hgv; omega
theorem RefO.appE {m : Nat} {zs : List Value} (h : RefO lo w ob bm ba O vo ve n1 n2 xs ys) (hown : w'.ownsRow lo 32 1 v' m zs) (hg : w.grownBy w' ve.ownBlock) : RefO lo w' ob bm ba O vo v' n1 m xs zs := by
  obtain ⟨k1, k2⟩ := h.off.grown hg fun g hgo => by
    obtain ⟨cur, hc⟩ := own_block h.re hgo
    refine ⟨fun hr => ?_, cur, _, hc, by decide⟩
    obtain ⟨_, cur2, hc2⟩ := row_lt h.off hr
    rw [hc] at hc2; cases hc2
  refine ⟨k1, h.ro.kept hg (own_ne h.ro h.re (by decide)), hown, fun g hgv hr => h.ap g hgv ?_⟩
  obtain ⟨es, cl, r1, r2⟩ := hr
  exact ⟨es, cl, k2.symm.trans r1, r2⟩
end
set_option maxHeartbeats 1600000 in
set_option maxRecDepth 20000 in
theorem refusedMoves_any {lo : Nat} {w : World} {v : Value} {n : Nat} {l : List Mv} (b : Bd) (h : Sl lo w v 4 n (l.flatMap Mv.c)) (hl : l.length = n) (hn : n ≤ 800) (hok : ∀ x ∈ l, x.ok) (hb : b.ok) :
    Calls Tryz.prog 15 #[b.v, v] w fun e w' => ∃ v1 v2, e = .returned (.tuple #[v1, v2]) ∧ Sl 0 w' v1 1 (refsO (office0 b) 0 l).length (((refsO (office0 b) 0 l).map (·.1)).map (.int .i64)) ∧ Sl 0 w' v2 1 (refsO (office0 b) 0 l).length (((refsO (office0 b) 0 l).map (·.2)).map (.int .i64)) ∧ Below w.heap.size w w' := by
  obtain ⟨i0, hi, hz0, hz1, hz2⟩ := info_parts infoInt
  obtain ⟨j0, hj, hj0, hj1, hj2⟩ := info_parts infoErrR
  obtain ⟨A, c, rfl, hn2⟩ := h.shape
  have hA := (Below.refl w.heap.size w).alloc (Nat.le_refl _) (.cells #[.int .i64 b.most, .int .i64 b.hurt, .int .i64 b.adds, .int .i64 b.hold] 27)
  have HN := Lib.hid (newOffice_any b (w.alloc (.cells #[.int .i64 b.most, .int .i64 b.hurt, .int .i64 b.adds, .int .i64 b.hold] 27)))
  have H := Lib.hid h
  have HA := Lib.hid hA
  have HLL := Lib.hid hl
  obtain ⟨m1, m2, m3, m4⟩ := b
  clear h hA
  dsimp only [Bd.v] at *
  go_enter Tryz.func15, Tryz.ntmps15
  go_wp2_with fail
  refine HN.out.mono ?_
  rintro e W ⟨ob, bm, ba, rfl, hof, hbw⟩
  have E0 := Lib.hid (And.intro (hof.lower (lo' := w.heap.size) (by simp)) (HA.out.trans (hbw.mono (by simp))))
  clear hof hbw
  go_wp2
  go_loopw [7, 8, 16] (fun vo ve i wr => ∃ k : Nat, k ≤ n ∧ i = .int .i64 k ∧ OfficeIn w.heap.size wr ob bm ba ((l.take k).foldl followO (office0 ⟨m1, m2, m3, m4⟩)) ∧ OInv ⟨m1, m2, m3, m4⟩ k ((l.take k).foldl followO (office0 ⟨m1, m2, m3, m4⟩)) ∧ Below w.heap.size w wr ∧
    wr.ownsRow w.heap.size 3 1 vo (refsO (office0 ⟨m1, m2, m3, m4⟩) 0 (l.take k)).length (((refsO (office0 ⟨m1, m2, m3, m4⟩) 0 (l.take k)).map (·.1)).map (.int .i64)) ∧
    wr.ownsRow w.heap.size 32 1 ve (refsO (office0 ⟨m1, m2, m3, m4⟩) 0 (l.take k)).length (((refsO (office0 ⟨m1, m2, m3, m4⟩) 0 (l.take k)).map (·.2)).map (.int .i64)) ∧ ∀ g, vo.ownBlock = some g → ¬ RowBlk wr ba g) (fun _ _ i _ => n - (intOf i).toNat)
  case atStart => exact ⟨0, by omega, rfl, E0.out.1, oinv0 _, E0.out.2, World.ownsRow_nil _ _ _ _, World.ownsRow_nil _ _ _ _, fun g hg => by cases hg⟩
  case round =>
    obtain ⟨k, hk, rfl, hbk, hinv, hbl, hro, hre, hap⟩ := hrel
    by_cases hlt : k < n
    · obtain ⟨x, hx⟩ : ∃ x, l[k]? = some x := ⟨_, List.getElem?_eq_getElem (by omega)⟩
      have hxo := hok x (List.mem_of_getElem? hx)
      obtain ⟨bb, o, rfl, _, hbl2, h1, h2, h3, h4⟩ := mv_cells (H.out.below hbl) hx
      have htk : l.take (k + 1) = l.take k ++ [x] := by rw [List.take_add_one, hx]; rfl
      have hfo : (l.take (k + 1)).foldl followO (office0 ⟨m1, m2, m3, m4⟩) = followO ((l.take k).foldl followO (office0 ⟨m1, m2, m3, m4⟩)) x := by rw [htk, List.foldl_append]; rfl
      have hlk : (l.take k).length = k := by rw [List.length_take]; omega
      have hsn : refsO (office0 ⟨m1, m2, m3, m4⟩) 0 (l.take (k + 1)) = refsO (office0 ⟨m1, m2, m3, m4⟩) 0 (l.take k) ++ (if ¬ errO ((l.take k).foldl followO (office0 ⟨m1, m2, m3, m4⟩)) x = 0 then [((k : Int), errO ((l.take k).foldl followO (office0 ⟨m1, m2, m3, m4⟩)) x)] else []) := by
        rw [htk, refsO_snoc, hlk, Nat.zero_add]
      have hrl : (refsO (office0 ⟨m1, m2, m3, m4⟩) 0 (l.take k)).length ≤ k := by have := refsO_len (l.take k) (office0 ⟨m1, m2, m3, m4⟩) 0; omega
      have HFO := Lib.hid hfo
      have HSN := Lib.hid hsn
      clear hsn hlk
      generalize (l.take k).foldl followO (office0 ⟨m1, m2, m3, m4⟩) = O at hbk hinv HFO HSN
      generalize refsO (office0 ⟨m1, m2, m3, m4⟩) 0 (l.take k) = Rk at hro hre HSN hrl
      have HBK := Lib.hid hbk
      have HINV := Lib.hid hinv
      have HBL := Lib.hid hbl
      have HRO := Lib.hid hro
      have HRE := Lib.hid hre
      have HAP := Lib.hid hap
      clear hbk hinv hbl hfo htk hx hro hre hap
      obtain ⟨xt, xk, xa, xp⟩ := x
      dsimp only at h1 h2 h3 h4
      have ix : (0 : Int) ≤ (k : Int) ∧ (k : Int) < (n : Int) := ⟨by omega, by omega⟩
      have hal : Below wr.heap.size wr (wr.alloc (.cells #[.int .i64 xt, .int .i64 xk, .string xa, .string xp] 45)) := (Below.refl _ wr).alloc (Nat.le_refl _) _
      have hkb := HBK.out.below hal
      have hfr1 := FrO.below hal HBK.out.ba_lt
      have hgal : GB wr (wr.alloc (.cells #[.int .i64 xt, .int .i64 xk, .string xa, .string xp] 45)) := .of_below hal
      go_wp2_with fail
      refine (ofollow_any hkb (by rw [alloc_size]; have := HBL.out.size; omega) (HINV.out.mono (by omega)) hb ⟨xt, xk, xa, xp⟩ hxo).mono ?_
      rintro e w2 ⟨rfl, hb2, hl2, hfr2⟩
      have hfr := hfr1.trans hfr2
      have hown : ∀ {e : TypeId} {v : Value} {m : Nat} {xs : List Value}, wr.ownsRow w.heap.size e 1 v m xs → (∀ g, v.ownBlock = some g → ¬ RowBlk wr ba g) → w2.ownsRow w.heap.size e 1 v m xs := fun hw hnr => by
        obtain ⟨g1, g2⟩ := hw
        refine ⟨g1, ?_⟩
        rcases g2 with g2 | ⟨g, cap, cur, rfl, f2, f3, f4⟩
        · exact .inl g2
        · exact .inr ⟨g, cap, cur, rfl, f2, (hfr g _ _ _ f3 (hnr g rfl)).1, f4⟩
      have hne : ∀ {v : Value} {m : Nat} {xs : List Value}, wr.ownsRow w.heap.size 32 1 v m xs → ∀ g, v.ownBlock = some g → ¬ RowBlk wr ba g := fun hw g hg hr => by
        obtain ⟨cur, hc⟩ := own_block hw hg
        obtain ⟨_, cur2, hc2⟩ := row_lt HBK.out hr
        rw [hc] at hc2; cases hc2
      have hro2 := hown HRO.out HAP.out
      have hre2 := hown HRE.out (hne HRE.out)
      have hap2 : ∀ g, u7.ownBlock = some g → ¬ RowBlk w2 ba g := fun g hg => by
        obtain ⟨cur, hc⟩ := own_block HRO.out hg
        exact (hfr g _ _ _ hc (HAP.out g hg)).2
      have hbl2 : Below w.heap.size w w2 := (HBL.out.alloc HBL.out.size _).trans hl2
      have E := Lib.hid (And.intro hb2 (And.intro hbl2 (And.intro hro2 (And.intro hre2 hap2))))
      clear hkb hb2 hl2 hfr1 hfr2 hfr hown hro2 hre2 hap2 hbl2 hal hgal hne
      obtain ⟨y, hy⟩ : ∃ y, errO O ⟨xt, xk, xa, xp⟩ = y := ⟨_, rfl⟩
      rw [hy]
      have HYY := Lib.hid hy
      clear hy
      by_cases hy0 : y = 0
      · subst hy0
        go_wp2
        go_roundw
        case rel => exact ⟨k + 1, by omega, by go_num, by rw [HFO.out]; exact E.out.1, by rw [HFO.out]; exact oinv_step HINV.out _ hxo, E.out.2.1, by
          rw [HSN.out, if_neg (fun c => c HYY.out), List.append_nil]; exact E.out.2.2.1, by
          rw [HSN.out, if_neg (fun c => c HYY.out), List.append_nil]; exact E.out.2.2.2.1, E.out.2.2.2.2⟩
        case measure => simp [intOf]; omega
      · go_wp2_with (at_builtin; refine wpList_append_own_at _ rfl _ _ 22 rfl w.heap.size 3 i0 _ 1 8 Tryz.underlying22 hi hz0 hz1 hz2 rfl (by decide) _ _ _ rfl (E.out.2.2.1.alloc _) ⟨w2.heap.size, 0, none⟩ 1 1 [.int .i64 k] rfl rfl ?c1 ?c2 ?c3 ?c4 ?c5 ?_)
        case c1 => exact new_cells rfl
        case c2 => exact fun u hu => by simp at hu; subst hu; rfl
        case c3 => unfold maxLen; omega
        case c4 => omega
        case c5 => have := E.out.2.1.size; simp; omega
        intro v3 w3 hown3 hg3 _ hl3
        have hre0 : RefO w.heap.size w2 ob bm ba (followO O ⟨xt, xk, xa, xp⟩) u7 u8 _ _ _ _ := ⟨E.out.1, E.out.2.2.1, E.out.2.2.2.1, E.out.2.2.2.2⟩
        have hre3 := (hre0.alloc (.cells #[.int .i64 k] 3)).appO hown3 hg3 (by rw [alloc_size]; exact hl3)
        have hb3 := (E.out.2.1.alloc E.out.2.1.size (.cells #[.int .i64 k] 3)).grown hg3 (by have := E.out.2.1.size; simp; omega) fun j hj => (E.out.2.2.1.lt j hj).1
        have R3 := Lib.hid (And.intro hre3 hb3)
        clear hre0 hre3 hb3 hown3 hg3 hl3
        go_wp2_with (at_builtin; refine wpList_append_own _ rfl _ _ 35 rfl w.heap.size 32 j0 _ 1 8 Tryz.underlying35 hj hj0 hj1 hj2 rfl (by decide) _ _ _ rfl (R3.out.1.re.alloc _) ⟨w3.heap.size, 0, none⟩ 1 1 [.int .i64 y] rfl rfl ?d1 ?d2 ?d3 ?d4 ?d5 ?_)
        case d1 => exact new_cells rfl
        case d2 => exact fun u hu => by simp at hu; subst hu; rfl
        case d3 => unfold maxLen; omega
        case d4 => omega
        case d5 => have := R3.out.2.size; simp; omega
        intro v4 w4 hown4 hg4 _
        have hre4 := (R3.out.1.alloc (.cells #[.int .i64 y] 32)).appE hown4 hg4
        have hb4 := (R3.out.2.alloc R3.out.2.size (.cells #[.int .i64 y] 32)).grown hg4 (by have := R3.out.2.size; simp; omega) fun j hj => (R3.out.1.re.lt j hj).1
        have R4 := Lib.hid (And.intro hre4 hb4)
        clear hre4 hb4 hown4 hg4
        go_wp2
        go_roundw
        case rel => exact ⟨k + 1, by omega, by go_num, by rw [HFO.out]; exact R4.out.1.off, by rw [HFO.out]; exact oinv_step HINV.out _ hxo, R4.out.2, by
          rw [HSN.out, if_pos (by rw [HYY.out]; exact hy0)]; simpa using R4.out.1.ro, by
          rw [HSN.out, if_pos (by rw [HYY.out]; exact hy0), HYY.out]; simpa using R4.out.1.re, R4.out.1.ap⟩
        case measure => simp [intOf]; omega
    · have hkn : k = n := by omega
      subst hkn
      rw [List.take_of_length_le (by omega)] at hro hre
      have hrl := refsO_len l (office0 ⟨m1, m2, m3, m4⟩) 0
      have E := Lib.hid (And.intro ((Sl.of_own hro (by omega)).mono (Nat.zero_le _)) (And.intro ((Sl.of_own hre (by omega)).mono (Nat.zero_le _)) hbl))
      clear hbk hinv hbl hlt hro hre hap
      go_wp2
      go_ret2
      exact ⟨_, _, rfl, E.out.1, E.out.2.1, E.out.2.2⟩
end Go.Proofs.YtfmffobdkfgekaaGreat
/- What the walk of the law MovesFollowed leans on: guarded operations of a region; refused moves are the same; the law's data. -/
set_option linter.unusedVariables false
set_option linter.unusedSimpArgs false
namespace Go.Proofs.YtfmffobdkfgekaaGreat
open Go.RowKit Go.Maps

section
variable {P : Program} {l : List Oper} {Q : Exit → Act → World → Prop} {a0 : Act} {n : Nat} {Inv : Nat → World → Prop} {G : World → World → Prop} {R : Nat → Value → World → Prop} {cost : Nat → Nat} {i : Nat} {o : Oper}
theorem ex_pick {ρ : Operand → Value} {c x y : Operand} {v : Value} {w : World} (h : o.op = .pick c x y) (hc : ρ c = .bool true) (hx : ρ x = v) : (execOp ρ o).run P w = .ok (.value v) w := by simp [execOp, h, hc, hx, asBool]
theorem wpOp_guard {k d : Nat} {K : Act → World → Prop} {a : Act} {w : World} (ho : l[i]? = some o) (hg : o.guard = some (k, true)) (hk : (l[k]?).bind (·.dst) = some d) (hv : a.tmps.getD d undef = .bool true) (h : o.wp P a w K Q) : wpOp P l.toArray Q i K a w := by
  unfold wpOp
  simp only [List.getElem?_toArray, ho]
  have hd : a.tmps[d]? = some (.bool true) := by
    rcases Nat.lt_or_ge d a.tmps.size with h' | h'
    · simp [h'] at hv ⊢; exact hv
    · simp [Array.getElem?_eq_none h', undef] at hv
  rw [if_pos (by unfold Region.wanted yielded; simp only [hg, List.getElem?_toArray, hk, Option.bind_some, hd]; rfl)]
  exact .inl h
/-- A guarded operation that yields a value; its guard holds. -/
theorem stepg_run {k d : Nat} (ho : l[i]? = some o) (hg : o.guard = some (k, true)) (hk : (l[k]?).bind (·.dst) = some d) (hv : ∀ (a : Act) (w : World) (m : Nat), RgPre l.toArray a0 R cost n m i o a w → a.tmps.getD d undef = .bool true) (hd : o.dst.isSome = true)
    (h : ∀ (a : Act) (w : World) (m : Nat), RgPre l.toArray a0 R cost n m i o a w → Inv (m + cost i) w → ∃ v w', (execOp a.eval o).run P w = .ok (.value v) w' ∧ R i v w' ∧ G w w' ∧ Inv m w') : StepAt P l.toArray Q a0 n Inv G R cost i o := by
  intro a w m hsz hdf hI hp
  refine wpOp_guard ho hg hk (hv a w m hp) ?_
  obtain ⟨v, w', hr, hR, hG, hI'⟩ := h a w m hp hI
  unfold Oper.wp
  rw [hr]
  exact ⟨v, rfl, fun h0 => (by rw [h0] at hd; cases hd), hR, hG, hI'⟩
/-- A guarded call of a Go function; its guard holds. -/
theorem stepg_call {k d : Nat} {f : FuncId} (ar : Act → Array Value) (ho : l[i]? = some o) (hg : o.guard = some (k, true)) (hk : (l[k]?).bind (·.dst) = some d) (hv : ∀ (a : Act) (w : World) (m : Nat), RgPre l.toArray a0 R cost n m i o a w → a.tmps.getD d undef = .bool true) (hd : o.dst.isSome = true)
    (he : ∀ (a : Act) (w : World), (execOp a.eval o).run P w = .ok (.enter f (ar a)) w)
    (h : ∀ (a : Act) (w : World) (m : Nat), RgPre l.toArray a0 R cost n m i o a w → Inv (m + cost i) w → Calls P f (ar a) w fun e w' => ∃ v, e = .returned v ∧ R i v w' ∧ G w w' ∧ Inv m w') : StepAt P l.toArray Q a0 n Inv G R cost i o := by
  intro a w m hsz hdf hI hp
  refine wpOp_guard ho hg hk (hv a w m hp) ?_
  unfold Oper.wp
  rw [he]
  rw [Oper.upon_enter]
  refine (h a w m hp hI).mono ?_
  rintro e w' ⟨v, rfl, hR, hG, hI'⟩
  exact ⟨v, rfl, fun h0 => (by rw [h0] at hd; cases hd), hR, hG, hI'⟩
end

theorem ex_bnds {o : Oper} {ρ : Operand → Value} {x : Operand} {bb : Nat} {m1 m2 m3 m4 : Value} {w : World} (h : o.op = .load 27 x) (hx : ρ x = .pointer (some ⟨bb, 0, none⟩)) (hb : w.heap[bb]? = some (.cells #[m1, m2, m3, m4] 27 (0, 0))) : (execOp ρ o).run Tryz.prog w = .ok (.value (.agg #[m1, m2, m3, m4])) w := by
  obtain ⟨hc, hf⟩ := row_cells hb
  simp [execOp, h, hx, hc, go_sem, Result.andThen]
theorem mvBad_time {p : Option Mv} {x : Mv} (h : mvBad p x = 0) : x.time ≤ 345686400000 := by
  unfold mvBad at h
  split at h
  · rename_i h1
    rw [inB_iff] at h1
    have := h1.2
    unfold maxMoment at this
    omega
  · cases h
theorem mfGo_time : ∀ (l : List Mv) (p : Option Mv), mfGo p l = 0 → ∀ x ∈ l, x.time ≤ 345686400000
  | [], _, _, x, hx => by cases hx
  | y :: l, p, h, x, hx => by
    unfold mfGo at h
    split at h
    · rename_i h0; exact absurd h h0
    · rename_i h0
      rcases List.mem_cons.1 hx with rfl | hx
      · exact mvBad_time (Decidable.not_not.1 h0)
      · exact mfGo_time l _ h x hx
theorem fault_mfault {b : Bd} {l : List Mv} (h : faultE b l = 0) : mfault l = 0 := by
  unfold faultE firstI at h
  split at h
  · rename_i h1
    exact absurd h h1
  · unfold firstI at h
    split at h
    · rename_i h1; exact absurd h h1
    · rename_i h1
      exact Decidable.not_not.1 h1
theorem refused_yes {b : Bd} {l : List Mv} (h : faultE b l = 0) : refusedB b l = refsO (office0 b) 0 l := by
  unfold refusedB
  rw [if_pos h]
  exact refs_same _ l 0 (sim0 b) (fault_right h) (mfGo_time l none (fault_mfault h))
theorem refused_no {b : Bd} {l : List Mv} (h : ¬ faultE b l = 0) : refusedB b l = [] := by
  unfold refusedB
  rw [if_neg h]
theorem merge_yes {a b : List Mv} (h : mergeE a b = 0) : mergeL a b = mergedL a b := by
  unfold mergeL
  rw [if_pos h]
theorem merge_no {a b : List Mv} (h : ¬ mergeE a b = 0) : mergeL a b = [] := by
  unfold mergeL
  rw [if_neg h]

theorem len_cons {α : Type} {n : Nat} {l : List α} (h : l.length = n + 1) : ∃ x t, l = x :: t ∧ t.length = n := by
  cases l with
  | nil => cases h
  | cons x t => exact ⟨x, t, rfl, by simpa using h⟩
/-- The law's data in the course of its walk: bounds in a box, moves, merged lists, refused moves. -/
structure MvAt (w0 : World) (bb : Nat) (b : Bd) (x y m n v u s t : Value) (lx ly lm ln : List Mv) (lr ls : List (Int × Int)) (W : World) : Prop where
  box : W.heap[bb]? = some (.cells #[.int .i64 b.most, .int .i64 b.hurt, .int .i64 b.adds, .int .i64 b.hold] 27 (0, 0))
  x : Sl 0 W x 4 lx.length (lx.flatMap Mv.c)
  y : Sl 0 W y 4 ly.length (ly.flatMap Mv.c)
  m : Sl 0 W m 4 lm.length (lm.flatMap Mv.c)
  n : Sl 0 W n 4 ln.length (ln.flatMap Mv.c)
  v : Sl 0 W v 1 lr.length ((lr.map (·.1)).map (.int .i64))
  u : Sl 0 W u 1 lr.length ((lr.map (·.2)).map (.int .i64))
  s : Sl 0 W s 1 ls.length ((ls.map (·.1)).map (.int .i64))
  t : Sl 0 W t 1 ls.length ((ls.map (·.2)).map (.int .i64))
  bel : Below w0.heap.size w0 W
section
variable {w0 W W' : World} {bb : Nat} {b : Bd} {x y m n v u s t : Value} {lx ly lm ln : List Mv} {lr ls : List (Int × Int)}
theorem MvAt.below (h : MvAt w0 bb b x y m n v u s t lx ly lm ln lr ls W) (hb : Below W.heap.size W W') : MvAt w0 bb b x y m n v u s t lx ly lm ln lr ls W' :=
  ⟨(hb.block _ (Array.getElem?_eq_some_iff.1 h.box).1).trans h.box, h.x.below hb, h.y.below hb, h.m.below hb, h.n.below hb, h.v.below hb, h.u.below hb, h.s.below hb, h.t.below hb, h.bel.trans (hb.mono h.bel.size)⟩
theorem MvAt.drew (h : MvAt w0 bb b x y m n v u s t lx ly lm ln lr ls W) (hd : Drew W W') : MvAt w0 bb b x y m n v u s t lx ly lm ln lr ls W' := by
  obtain ⟨q, rfl⟩ := hd
  exact h.below (below_drewN (Below.refl _ W) q)
theorem MvAt.setN (h : MvAt w0 bb b x y m (.slice none 0 0) v u s t lx ly lm [] lr ls W) (hn : Sl 0 W n 4 ln.length (ln.flatMap Mv.c)) : MvAt w0 bb b x y m n v u s t lx ly lm ln lr ls W :=
  ⟨h.box, h.x, h.y, h.m, hn, h.v, h.u, h.s, h.t, h.bel⟩
theorem MvAt.setST (h : MvAt w0 bb b x y m n v u (.slice none 0 0) (.slice none 0 0) lx ly lm ln lr [] W) (hs : Sl 0 W s 1 ls.length ((ls.map (·.1)).map (.int .i64))) (ht : Sl 0 W t 1 ls.length ((ls.map (·.2)).map (.int .i64))) : MvAt w0 bb b x y m n v u s t lx ly lm ln lr ls W :=
  ⟨h.box, h.x, h.y, h.m, h.n, h.v, h.u, hs, ht, h.bel⟩
theorem Drew.gb (hd : Drew W W') : GB W W' := by
  obtain ⟨q, rfl⟩ := hd
  exact .of_below (below_drewN (Below.refl _ W) q)
end
end Go.Proofs.YtfmffobdkfgekaaGreat
