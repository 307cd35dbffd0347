/- The office, when one of its maps turns. -/
import Derived.Test.YtfmffobdkfgekaaOffice3
import Derived.Maps.AppendAt
set_option linter.unusedVariables false
set_option linter.unusedSimpArgs false
namespace Go.Proofs.Ytfmffobdkfgekaa
open Go.RowKit Go.Maps

section
variable {P : Program} {o : Oper}
theorem ex_update {ρ : Operand → Value} {t : TypeId} {x y z : Operand} {u v r : Value} {w w' : World} (h : o.op = .mapUpdate t x y z) (hx : ρ x = u) (hy : ρ y = v) (hz : ρ z = r) (hr : (Instr.mapUpdate t u v r).run P w = .ok () w') : (execOp ρ o).run P w = .ok .skip w' := by simp [execOp, h, hx, hy, hz, hr, Result.andThen]
theorem ex_build02 {ρ : Operand → Value} {t : TypeId} {x y : Operand} {u v r : Value} {w : World} (h : o.op = .build t #[(0, x), (2, y)]) (hx : ρ x = u) (hy : ρ y = v) (hr : (Instr.build t #[(0, u), (2, v)]).run P w = .ok r w) : (execOp ρ o).run P w = .ok (.value r) w := by simp [execOp, h, hx, hy, hr, Result.andThen]
theorem ex_build1 {ρ : Operand → Value} {t : TypeId} {x : Operand} {u r : Value} {w : World} (h : o.op = .build t #[(2, x)]) (hx : ρ x = u) (hr : (Instr.build t #[(2, u)]).run P w = .ok r w) : (execOp ρ o).run P w = .ok (.value r) w := by simp [execOp, h, hx, hr, Result.andThen]
theorem ex_slice1 {ρ : Operand → Value} {t e : TypeId} {x : Operand} {u : Value} {w : World} (h : o.op = .buildSlice t 1 #[(0, x)]) (hx : ρ x = u) (hs : ∀ w, (Instr.buildSlice t 1 #[(0, u)]).run P w = .ok (.slice (some ⟨w.heap.size, 0, none⟩) 1 1) (w.alloc (.cells #[u] e))) : (execOp ρ o).run P w = .ok (.value (.slice (some ⟨w.heap.size, 0, none⟩) 1 1)) (w.alloc (.cells #[u] e)) := by
  simp [execOp, h, hx, hs]
theorem ex_append {ρ : Operand → Value} {t : TypeId} {x y : Operand} {u v r : Value} {w w' : World} (h : o.op = .call { callee := .builtin .append, args := #[x, y], argTypes := #[t, t] }) (hx : ρ x = u) (hy : ρ y = v) (hr : (Builtin.append_ #[t, t] o.type #[u, v]).run P w = .ok r w') : (execOp ρ o).run P w = .ok (.value r) w' := by
  simp [execOp, h, hx, hy, resolve, invoke, builtin, hr, Result.andThen]
theorem phase1 {n m w : Nat} (h : n + w ≤ m) (hw : Nat.blt 0 w = true) : m ≠ 0 := by have := Nat.le_of_ble_eq_true hw; omega
end
theorem ex_whr {o : Oper} {ρ : Operand → Value} {x : Operand} {bb : Nat} {m1 m2 m3 : Value} {w : World} (h : o.op = .load 86 x) (hx : ρ x = .pointer (some ⟨bb, 0, none⟩)) (hb : w.heap[bb]? = some (.cells #[m1, m2, m3] 86 (0, 0))) : (execOp ρ o).run Try.prog w = .ok (.value (.agg #[m1, m2, m3])) w := by
  obtain ⟨hc, hf⟩ := row_cells hb
  simp [execOp, h, hx, hc, go_sem, Result.andThen]

theorem own_turn {lo b n sz : Nat} {e : TypeId} {w w' : World} {v : Value} {xs : List Value} (h : w.ownsRow lo e sz v n xs) (hm : isMap w b) (ht : Turn b w w') : w'.ownsRow lo e sz v n xs := by
  obtain ⟨g1, g2⟩ := h
  refine ⟨g1, ?_⟩
  rcases g2 with g2 | ⟨g, cap, cur, e1, e2, e3, e4⟩
  · exact .inl g2
  · refine .inr ⟨g, cap, cur, e1, e2, (ht.block _ fun e => ?_).trans e3, e4⟩
    obtain ⟨es, cl, q⟩ := hm
    rw [← e, e3] at q; cases q
theorem own_gb {lo n sz : Nat} {e : TypeId} {w w' : World} {v : Value} {xs : List Value} (h : w.ownsRow lo e sz v n xs) (hb : GB w w') : w'.ownsRow lo e sz v n xs := by
  obtain ⟨g1, g2⟩ := h
  refine ⟨g1, ?_⟩
  rcases g2 with g2 | ⟨g, cap, cur, e1, e2, e3, e4⟩
  · exact .inl g2
  · exact .inr ⟨g, cap, cur, e1, e2, (hb.block _ (Array.getElem?_eq_some_iff.1 e3).1).trans e3, e4⟩
theorem rows_gb {lo : Nat} {w w' : World} {A : List (ByteArray × Value)} {f : ByteArray → List Int} (h : Rows lo w A f) (hb : GB w w') : Rows lo w' A f := ⟨fun t => own_gb (h.own t) hb, h.apart⟩
theorem rows_turn {lo b : Nat} {w w' : World} {A : List (ByteArray × Value)} {f : ByteArray → List Int} (h : Rows lo w A f) (hm : isMap w b) (ht : Turn b w w') : Rows lo w' A f := ⟨fun t => own_turn (h.own t) hm ht, h.apart⟩
/-- The row's own block, and what it is. -/
theorem own_block {lo n sz : Nat} {e : TypeId} {w : World} {v : Value} {xs : List Value} (h : w.ownsRow lo e sz v n xs) {g : Nat} (hg : v.ownBlock = some g) : ∃ cur, w.heap[g]? = some (.cells cur e (0, 0)) := by
  rcases h.2 with ⟨rfl, _⟩ | ⟨g', cap, cur, rfl, _, e3, _⟩
  · cases hg
  · have : g' = g := by simpa [Value.ownBlock] using hg
    subst this; exact ⟨cur, e3⟩

/-- The office in the course of a region. -/
structure OffAt (lo : Nat) (w0 : World) (ob bm ba : Nat) (O : Office) (xb : Nat) (xs : Array Value) (yb : Nat) (ys : Array Value) (w : World) : Prop where
  off : OfficeIn lo w ob bm ba O
  x : w.heap[xb]? = some (.cells xs 61 (0, 0))
  y : w.heap[yb]? = some (.cells ys 86 (0, 0))
  bel : Below lo w0 w
  low : lo ≤ w.heap.size
section
variable {lo : Nat} {w0 w w' : World} {ob bm ba : Nat} {O : Office} {xb yb : Nat} {xs ys : Array Value}
theorem OffAt.row (h : OffAt lo w0 ob bm ba O xb xs yb ys w) : w.heap[ob]? = some (.cells #[.int .i64 O.b.most, .int .i64 O.b.hurt, .int .i64 O.b.adds, .int .i64 O.b.hold, .map (some bm), .map (some ba)] 102 (0, 0)) := h.off.row
theorem OffAt.below (h : OffAt lo w0 ob bm ba O xb xs yb ys w) (hb : Below w.heap.size w w') : OffAt lo w0 ob bm ba O xb xs yb ys w' :=
  ⟨h.off.below hb, (hb.block _ (Array.getElem?_eq_some_iff.1 h.x).1).trans h.x, (hb.block _ (Array.getElem?_eq_some_iff.1 h.y).1).trans h.y, h.bel.trans (hb.mono h.low), Nat.le_trans h.low hb.size⟩
theorem OffAt.drewN (h : OffAt lo w0 ob bm ba O xb xs yb ys w) (q : Nat) : OffAt lo w0 ob bm ba O xb xs yb ys (w.drewN q) := h.below (below_drewN (Below.refl _ w) q)
theorem map_ne {b g : Nat} {cs : Array Value} {e : TypeId} {fz : Nat × Nat} (hm : isMap w b) (hg : w.heap[g]? = some (.cells cs e fz)) : g ≠ b := fun e => by
  obtain ⟨es, cl, q⟩ := hm
  rw [← e, hg] at q; cases q
/-- A player's place is laid. -/
theorem OffAt.put (h : OffAt lo w0 ob bm ba O xb xs yb ys w) {x : ByteArray} (hx : x.size ≤ 1000) (a : Whr) :
    ∃ w', (Instr.mapUpdate 99 (.map (some bm)) (.string x) a.v).run Try.prog w = .ok () w' ∧ OffAt lo w0 ob bm ba { O with pl := putM O.pl x a } xb xs yb ys w' ∧ Turn bm w w' ∧ isMap w bm := by
  obtain ⟨⟨h1, h2, h3, h4, A, a1, a2⟩, hxx, hyy, hbl, hlw⟩ := h
  obtain ⟨W, r, m, t⟩ := h4.update (t := 99) Try.underlying99 (strC_ok hx) a
  have hm := h4.isMap
  exact ⟨W, r, ⟨⟨h1, h2, (t.block _ (map_ne hm h3)).trans h3, m, A, a1.keep (t.block _ (fun e => h2 e.symm)), rows_turn a2 hm t⟩, (t.block _ (map_ne hm hxx)).trans hxx, (t.block _ (map_ne hm hyy)).trans hyy, turn_below hbl t h1.2.1, by rw [t.size]; exact hlw⟩, t, hm⟩
end
/-! ### the row of a team's adds grows -/
/-- A literal of one number, in a block apart from v0's. -/
def NewInt (t : Int) (v0 u : Value) (w : World) : Prop := ∃ g, u = .slice (some ⟨g, 0, none⟩) 1 1 ∧ w.heap[g]? = some (.cells #[.int .i64 t] 3 (0, 0)) ∧ v0.ownBlock ≠ some g
structure AddAt (lo : Nat) (w0 : World) (ob bm ba : Nat) (O : Office) (A : List (ByteArray × Value)) (xb : Nat) (xs : Array Value) (yb : Nat) (ys : Array Value) (w : World) : Prop where
  low : lo ≤ ob ∧ lo ≤ bm ∧ lo ≤ ba
  diff : bm ≠ ba
  row : w.heap[ob]? = some (.cells #[.int .i64 O.b.most, .int .i64 O.b.hurt, .int .i64 O.b.adds, .int .i64 O.b.hold, .map (some bm), .map (some ba)] 102 (0, 0))
  pl : MapS strC Whr.v w bm O.pl
  am : MapS strC id w ba A
  x : w.heap[xb]? = some (.cells xs 61 (0, 0))
  y : w.heap[yb]? = some (.cells ys 86 (0, 0))
  bel : Below lo w0 w
  lo2 : lo ≤ w.heap.size
  size : ∀ t g, ((getM A t).getD (.slice none 0 0)).ownBlock = some g → g < w.heap.size
/-- A team's row with one number more, apart from the other rows. -/
structure GrownRow (lo : Nat) (A : List (ByteArray × Value)) (O : Office) (a : ByteArray) (t : Int) (u : Value) (w : World) : Prop where
  own : w.ownsRow lo 3 1 u ((O.adds a).length + 1) ((O.adds a ++ [t]).map (.int .i64))
  rest : ∀ s, s ≠ a → w.ownsRow lo 3 1 ((getM A s).getD (.slice none 0 0)) (O.adds s).length ((O.adds s).map (.int .i64))
  apart : ∀ s r g, s ≠ a → r ≠ a → ((getM A s).getD (.slice none 0 0)).ownBlock = some g → ((getM A r).getD (.slice none 0 0)).ownBlock = some g → s = r
  new : ∀ s g, s ≠ a → ((getM A s).getD (.slice none 0 0)).ownBlock = some g → u.ownBlock ≠ some g
section
variable {lo : Nat} {w0 w w' : World} {ob bm ba : Nat} {O : Office} {A : List (ByteArray × Value)} {xb yb : Nat} {xs ys : Array Value} {a : ByteArray} {t : Int} {u : Value}
theorem AddAt.below (h : AddAt lo w0 ob bm ba O A xb xs yb ys w) (hb : Below w.heap.size w w') : AddAt lo w0 ob bm ba O A xb xs yb ys w' :=
  ⟨h.low, h.diff, (hb.block _ (Array.getElem?_eq_some_iff.1 h.row).1).trans h.row, h.pl.keep (hb.block _ h.pl.lt), h.am.keep (hb.block _ h.am.lt), (hb.block _ (Array.getElem?_eq_some_iff.1 h.x).1).trans h.x, (hb.block _ (Array.getElem?_eq_some_iff.1 h.y).1).trans h.y, h.bel.trans (hb.mono h.lo2), Nat.le_trans h.lo2 hb.size, fun s g hg => Nat.lt_of_lt_of_le (h.size s g hg) hb.size⟩
theorem GrownRow.gb (h : GrownRow lo A O a t u w) (hb : GB w w') : GrownRow lo A O a t u w' := ⟨own_gb h.own hb, fun s hs => own_gb (h.rest s hs) hb, h.apart, h.new⟩
theorem GrownRow.turn {b : Nat} (h : GrownRow lo A O a t u w) (hm : isMap w b) (ht : Turn b w w') : GrownRow lo A O a t u w' := ⟨own_turn h.own hm ht, fun s hs => own_turn (h.rest s hs) hm ht, h.apart, h.new⟩
theorem infoInt : (Try.prog.info? 3).map (fun i => (i.zero, i.size, i.bytes)) = some (some (.int .i64 0), 1, 8) := by kernel_rfl
theorem grow_row (h : AddAt lo w0 ob bm ba O A xb xs yb ys w) (hr : Rows lo w A O.adds) {v0 : Value} (hv : (getM A a).getD (.slice none 0 0) = v0) {g : Nat} (hg : w.heap[g]? = some (.cells #[.int .i64 t] 3 (0, 0))) (hn : (O.adds a).length ≤ 900) :
    ∃ v' w', (∀ ty, (Builtin.append_ #[22, 22] ty #[v0, .slice (some ⟨g, 0, none⟩) 1 1]).run Try.prog w = .ok v' w') ∧ GrownRow lo A O a t v' w' ∧ w.grownBy w' v0.ownBlock ∧ AddAt lo w0 ob bm ba O A xb xs yb ys w' := by
  obtain ⟨i0, hi, hz0, hz1, hz2⟩ := info_parts infoInt
  have hown := hr.own a
  rw [hv] at hown
  obtain ⟨v', W, hrun, q1, q2, _, q4⟩ := run_append_own_at w lo 22 0 3 i0 _ 1 8 Try.underlying22 hi hz0 hz1 hz2 rfl (by decide) v0 (O.adds a).length _ hown ⟨g, 0, none⟩ 1 1 [.int .i64 t] rfl
    (fun j y hy => by
      rw [add_off, (row_cells hg).1]
      cases j with
      | zero => exact hy
      | succ j => simp at hy) (fun y hy => by simp at hy; subst hy; rfl) (by unfold maxLen; omega) (by omega) h.lo2
  have hother : ∀ s k, s ≠ a → ((getM A s).getD (.slice none 0 0)).ownBlock = some k → v0.ownBlock ≠ some k := fun s k hs hk he => hs (hr.apart s a k hk (by rw [hv]; exact he))
  have hblk : ∀ (k : Nat) (o : Obj), w.heap[k]? = some o → (∀ cs, o ≠ .cells cs 3 (0, 0)) → W.heap[k]? = some o := fun k o hk ho => by
    refine (q2.block k (Array.getElem?_eq_some_iff.1 hk).1 fun e => ?_).trans hk
    obtain ⟨cur, hc⟩ := own_block hown e.symm
    rw [hk] at hc
    exact ho cur (Option.some.inj hc)
  refine ⟨v', W, fun ty => ?_, ⟨by simpa using q1, fun s hs => (hr.own s).kept q2 ?_, fun s r k _ _ => hr.apart s r k, fun s k hs hk he => ?_⟩, q2, ?_⟩
  · exact hrun
  · cases hk : ((getM A s).getD (.slice none 0 0)).ownBlock with
    | none => exact .inl rfl
    | some k => exact .inr fun e => hother s k hs hk e.symm
  · rcases q4 with q4 | q4
    · exact hother s k hs hk (q4.symm.trans he)
    · have := h.size s k hk
      rw [q4] at he
      simp at he; omega
  · have hpm := h.pl.isMap
    have ham := h.am.isMap
    obtain ⟨es1, c1, e1⟩ := hpm
    obtain ⟨es2, c2, e2⟩ := ham
    refine ⟨h.low, h.diff, hblk _ _ h.row (fun cs hc => by cases hc), h.pl.keep ((hblk _ _ e1 (fun cs hc => by cases hc)).trans e1.symm), h.am.keep ((hblk _ _ e2 (fun cs hc => by cases hc)).trans e2.symm), hblk _ _ h.x (fun cs hc => by cases hc), hblk _ _ h.y (fun cs hc => by cases hc), ?_, Nat.le_trans h.lo2 q2.size, fun s k hk => Nat.lt_of_lt_of_le (h.size s k hk) q2.size⟩
    exact h.bel.trans ⟨q2.os, q2.tape, q2.output, q2.size, fun k hk => q2.block k (Nat.lt_of_lt_of_le hk h.lo2) fun e => by have := (hown.lt k e.symm).1; omega⟩
theorem lay_row (h : AddAt lo w0 ob bm ba O A xb xs yb ys w) (hq : GrownRow lo A O a t u w) (ha : a.size ≤ 1000) :
    ∃ w', (Instr.mapUpdate 100 (.map (some ba)) (.string a) u).run Try.prog w = .ok () w' ∧ OffAt lo w0 ob bm ba { O with adds := upd O.adds a (O.adds a ++ [t]) } xb xs yb ys w' ∧ Turn ba w w' ∧ isMap w ba := by
  obtain ⟨W, r, m, tt⟩ := h.am.update (t := 100) Try.underlying100 (strC_ok ha) u
  have hm := h.am.isMap
  have hq' := hq.turn hm tt
  refine ⟨W, r, ⟨⟨h.low, h.diff, (tt.block _ (map_ne hm h.row)).trans h.row, h.pl.keep (tt.block _ h.diff), _, m, fun s => ?_, fun s q g hs hg => ?_⟩, (tt.block _ (map_ne hm h.x)).trans h.x, (tt.block _ (map_ne hm h.y)).trans h.y, turn_below h.bel tt h.low.2.2, by rw [tt.size]; exact h.lo2⟩, tt, hm⟩
  · rw [getM_put]
    show W.ownsRow lo 3 1 _ (upd O.adds a _ s).length ((upd O.adds a _ s).map _)
    rw [upd_at]
    by_cases hs : s = a
    · rw [if_pos hs, if_pos hs]
      rw [List.length_append]
      exact hq'.own
    · rw [if_neg hs, if_neg hs]
      exact hq'.rest s hs
  · rw [getM_put] at hs hg
    by_cases h1 : s = a
    · by_cases h2 : q = a
      · rw [h1, h2]
      · rw [if_pos h1] at hs
        rw [if_neg h2] at hg
        exact absurd hs (hq.new q g h2 hg)
    · by_cases h2 : q = a
      · rw [if_neg h1] at hs
        rw [if_pos h2] at hg
        exact absurd hg (hq.new s g h1 hs)
      · rw [if_neg h1] at hs
        rw [if_neg h2] at hg
        exact hq.apart s q g h1 h2 hs hg
end
end Go.Proofs.Ytfmffobdkfgekaa
