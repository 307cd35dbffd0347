/- The book, when an entry of one of its maps of lists is laid in two halves; operations on maps in a region that draws. -/
import Derived.Test.YtfmffobdkfgekaaTurn
import Derived.Test.YtfmffobdkfgekaaRegion
set_option linter.unusedVariables false
set_option linter.unusedSimpArgs false
namespace Go.Proofs.Ytfmffobdkfgekaa
open Go.RowKit Go.Maps

section
variable {P : Program} {o : Oper}
theorem ex_nil {ρ : Operand → Value} {x : Operand} {p : Addr} {w : World} (h : o.op = .nilCheck x) (hx : ρ x = .pointer (some p)) : (execOp ρ o).run P w = .ok (.value (.pointer (some p))) w := by simp [execOp, h, hx, go_sem]
theorem ex_extract {ρ : Operand → Value} {x : Operand} {k : Nat} {vs : Array Value} {v : Value} {w : World} (h : o.op = .extract x k) (hx : ρ x = .tuple vs) (hv : vs[k]? = some v) : (execOp ρ o).run P w = .ok (.value v) w := by simp [execOp, h, hx, Instr.extract, hv]
theorem ex_entry {ρ : Operand → Value} {t : TypeId} {x y : Operand} {u v r : Value} {w w' : World} (h : o.op = .mapEntry t x y) (hx : ρ x = u) (hy : ρ y = v) (hr : (Instr.mapEntry t u v).run P w = .ok r w') : (execOp ρ o).run P w = .ok (.value r) w' := by simp [execOp, h, hx, hy, hr, Result.andThen]
theorem ex_estore {ρ : Operand → Value} {t : TypeId} {x y z : Operand} {u v r : Value} {w w' : World} (h : o.op = .entryStore t x y z) (hx : ρ x = u) (hy : ρ y = v) (hz : ρ z = r) (hr : (Instr.entryStore t u v r).run P w = .ok () w') : (execOp ρ o).run P w = .ok .skip w' := by simp [execOp, h, hx, hy, hz, hr, Result.andThen]
theorem ex_build2 {ρ : Operand → Value} {t : TypeId} {x y : Operand} {u v r : Value} {w : World} (h : o.op = .build t #[(0, x), (1, y)]) (hx : ρ x = u) (hy : ρ y = v) (hr : (Instr.build t #[(0, u), (1, v)]).run P w = .ok r w) : (execOp ρ o).run P w = .ok (.value r) w := by simp [execOp, h, hx, hy, hr, Result.andThen]
theorem ex_lookup {ρ : Operand → Value} {t : TypeId} {x y : Operand} {c : Bool} {u v r : Value} {w w' : World} (h : o.op = .lookup t x y c) (hx : ρ x = u) (hy : ρ y = v) (hr : (Instr.lookup t u v c).run P w = .ok r w') : (execOp ρ o).run P w = .ok (.value r) w' := by simp [execOp, h, hx, hy, hr, Result.andThen]
theorem ex_bin {ρ : Operand → Value} {b : BinOp} {t t' : TypeId} {x y : Operand} {u v r : Value} {w : World} (h : o.op = .binOp b t x y t') (hx : ρ x = u) (hy : ρ y = v) (hg : (eqGuard b t x y u v).run P w = .ok () w) (hr : (binOp b t u v).run P w = .ok r w) : (execOp ρ o).run P w = .ok (.value r) w := by simp [execOp, h, hx, hy, hg, hr, Result.andThen]
end

def touch (l : List ByteArray) (x : ByteArray) : List ByteArray := if hasS l x then l else l ++ [x]
theorem touch_keys {α : Type} (M : List (ByteArray × α)) (x : ByteArray) (a : α) : (putM M x a).map Prod.fst = touch (M.map Prod.fst) x := by
  rw [put_keys]
  unfold touch
  by_cases h : x ∈ M.map Prod.fst
  · rw [if_pos (hasS_iff.2 h)]
    obtain ⟨p, hp, rfl⟩ := List.mem_map.1 h
    cases hg : getM M p.1 with
    | none => exact absurd rfl (getM_none.1 hg p hp)
    | some b => simp
  · rw [if_neg (fun c => h (hasS_iff.1 c))]
    have : getM M x = none := getM_none.2 fun p hp he => h (List.mem_map.2 ⟨p, hp, he⟩)
    rw [this]; simp
theorem touch_touch (l : List ByteArray) (x : ByteArray) : touch (touch l x) x = touch l x := by
  have : hasS (touch l x) x = true := by
    rw [hasS_iff]; unfold touch
    split
    · rename_i h; exact hasS_iff.1 h
    · simp
  rw [show touch (touch l x) x = if hasS (touch l x) x then touch l x else touch l x ++ [x] from rfl, if_pos this]
theorem upd_upd {α β : Type} [DecidableEq α] (f : α → β) (x : α) (a b : β) : upd (upd f x a) x b = upd f x b := by
  funext y; unfold upd; split <;> rfl
theorem upd_same {α β : Type} [DecidableEq α] (f : α → β) (x : α) : upd f x (f x) = f := by
  funext y; unfold upd; split
  · rename_i h; rw [h]
  · rfl

section
variable {lo : Nat} {w : World} {kb bp bh bo bd ba : Nat} {K : Book}
theorem entP (h : BookIn lo w kb bp bh bo bd ba K) {x : ByteArray} (hx : x.size ≤ 1000) :
    ∃ (s : Nat) (o : Value) (w' : World), (Instr.mapEntry 69 (.map (some bp)) (.string x)).run Try.prog w = .ok (.tuple #[o, .int .i64 s]) w' ∧ Stamp strC w' bp x s ∧ BookIn lo w' kb bp bh bo bd ba { K with teams := touch K.teams x } ∧ Turn bp w w' ∧ Kept1 w w' bp ∧ isMap w bp := by
  obtain ⟨P, p1, p2, p3⟩ := h.pl
  obtain ⟨s, W, r, m, e, t, k⟩ := p1.entry Try.underlying69 (a0 := (.slice none 0 0 : Value)) (zeroList w) (strC_ok hx)
  have hP := (p2.turn p1.isMap t).put (x := x) (l := K.players x) ((p2 x).turn p1.isMap t)
  rw [upd_same] at hP
  have B2 := h.turnP t m hP
  rw [touch_keys, p3] at B2
  exact ⟨s, _, W, r, e, B2, t, k, p1.isMap⟩
theorem stoP (h : BookIn lo w kb bp bh bo bd ba K) {x : ByteArray} (hx : x.size ≤ 1000) {s : Nat} (hs : Stamp strC w bp x s) {v : Value} {l : List ByteArray} (hv : Sl lo w v 1 l.length (l.map Value.string)) :
    ∃ (w' : World), (Instr.entryStore 69 (.map (some bp)) (.int .i64 s) v).run Try.prog w = .ok () w' ∧ BookIn lo w' kb bp bh bo bd ba { K with teams := touch K.teams x, players := upd K.players x l } ∧ Turn bp w w' ∧ Kept1 w w' bp ∧ isMap w bp := by
  obtain ⟨P, p1, p2, p3⟩ := h.pl
  obtain ⟨W, r, m, t, k⟩ := p1.stored (t := 69) (strC_ok hx) hs v
  have hP := (p2.turn p1.isMap t).put (x := x) (hv.turn p1.isMap t)
  have B2 := h.turnP t m hP
  rw [touch_keys, p3] at B2
  exact ⟨W, r, B2, t, k, p1.isMap⟩
theorem entH (h : BookIn lo w kb bp bh bo bd ba K) {x : ByteArray} (hx : x.size ≤ 1000) :
    ∃ (s : Nat) (o : Value) (w' : World), (Instr.mapEntry 69 (.map (some bh)) (.string x)).run Try.prog w = .ok (.tuple #[o, .int .i64 s]) w' ∧ Stamp strC w' bh x s ∧ BookIn lo w' kb bp bh bo bd ba K ∧ Turn bh w w' ∧ Kept1 w w' bh ∧ isMap w bh := by
  obtain ⟨P, p1, p2⟩ := h.hu
  obtain ⟨s, W, r, m, e, t, k⟩ := p1.entry Try.underlying69 (a0 := (.slice none 0 0 : Value)) (zeroList w) (strC_ok hx)
  have hP := (p2.turn p1.isMap t).put (x := x) (l := K.hurt x) ((p2 x).turn p1.isMap t)
  rw [upd_same] at hP
  exact ⟨s, _, W, r, e, h.turnH t m hP, t, k, p1.isMap⟩
theorem stoH (h : BookIn lo w kb bp bh bo bd ba K) {x : ByteArray} (hx : x.size ≤ 1000) {s : Nat} (hs : Stamp strC w bh x s) {v : Value} {l : List ByteArray} (hv : Sl lo w v 1 l.length (l.map Value.string)) :
    ∃ (w' : World), (Instr.entryStore 69 (.map (some bh)) (.int .i64 s) v).run Try.prog w = .ok () w' ∧ BookIn lo w' kb bp bh bo bd ba { K with hurt := upd K.hurt x l } ∧ Turn bh w w' ∧ Kept1 w w' bh ∧ isMap w bh := by
  obtain ⟨P, p1, p2⟩ := h.hu
  obtain ⟨W, r, m, t, k⟩ := p1.stored (t := 69) (strC_ok hx) hs v
  exact ⟨W, r, h.turnH t m ((p2.turn p1.isMap t).put (x := x) (hv.turn p1.isMap t)), t, k, p1.isMap⟩
theorem entA (h : BookIn lo w kb bp bh bo bd ba K) {x : ByteArray} {n : Int} (hx : x.size ≤ 1000) (h1 : -9223372036854775808 ≤ n) (h2 : n ≤ 9223372036854775807) :
    ∃ (s : Nat) (o : Value) (w' : World), (Instr.mapEntry 72 (.map (some ba)) (.agg #[.string x, .int .i64 n])).run Try.prog w = .ok (.tuple #[o, .int .i64 s]) w' ∧ Stamp weekC w' ba (x, n) s ∧ BookIn lo w' kb bp bh bo bd ba K ∧ Turn ba w w' ∧ Kept1 w w' ba ∧ isMap w ba := by
  obtain ⟨M, p1, p2⟩ := h.ad
  obtain ⟨s, W, r, m, e, t, k⟩ := p1.entry Try.underlying72 (a0 := 0) (zeroInt w) (weekC_ok hx h1 h2)
  have hf : ∀ y, (getM (putM M (x, n) ((getM M (x, n)).getD 0)) y).getD 0 = K.adds y := fun y => by
    rw [getM_put]
    split
    · rename_i hy; rw [hy, ← p2]; rfl
    · exact p2 y
  exact ⟨s, _, W, r, e, h.turnA t m hf, t, k, p1.isMap⟩
theorem stoA (h : BookIn lo w kb bp bh bo bd ba K) {x : ByteArray} {n : Int} (hx : x.size ≤ 1000) (h1 : -9223372036854775808 ≤ n) (h2 : n ≤ 9223372036854775807) {s : Nat} (hs : Stamp weekC w ba (x, n) s) (a : Int) :
    ∃ (w' : World), (Instr.entryStore 72 (.map (some ba)) (.int .i64 s) (.int .i64 a)).run Try.prog w = .ok () w' ∧ BookIn lo w' kb bp bh bo bd ba { K with adds := upd K.adds (x, n) a } ∧ Turn ba w w' ∧ Kept1 w w' ba ∧ isMap w ba := by
  obtain ⟨M, p1, p2⟩ := h.ad
  obtain ⟨W, r, m, t, k⟩ := p1.stored (t := 72) (weekC_ok hx h1 h2) hs a
  have hf : ∀ y, (getM (putM M (x, n) a) y).getD 0 = upd K.adds (x, n) a y := fun y => by
    rw [getM_put]
    unfold upd
    split
    · rfl
    · exact p2 y
  exact ⟨W, r, h.turnA t m hf, t, k, p1.isMap⟩
end
/-- One map alone turns, and no entry of it loses its key or its stamp. -/
structure G1 (ba : Nat) (w w' : World) : Prop where
  size : w.heap.size ≤ w'.heap.size
  block : ∀ i, i ≠ ba → i < w.heap.size → w'.heap[i]? = w.heap[i]?
  p : Kept1 w w' ba
theorem G1.refl (ba : Nat) (w w' : World) (h : w'.heap = w.heap) : G1 ba w w' := ⟨by rw [h]; exact Nat.le_refl _, fun i _ _ => by rw [h], .same (by rw [h])⟩
theorem G1.turn {ba : Nat} {w w' : World} (ht : Turn ba w w') (hk : Kept1 w w' ba) : G1 ba w w' := ⟨by rw [ht.size]; exact Nat.le_refl _, fun i h1 _ => ht.block i h1, hk⟩
/-- What a part of the region may do: the two maps alone turn, and no entry of theirs loses its key or its stamp. -/
structure G2 (bp bh : Nat) (w w' : World) : Prop where
  size : w.heap.size ≤ w'.heap.size
  block : ∀ i, i ≠ bp → i ≠ bh → i < w.heap.size → w'.heap[i]? = w.heap[i]?
  p : Kept1 w w' bp
  h : Kept1 w w' bh
theorem G2.refl (bp bh : Nat) (w w' : World) (h : w'.heap = w.heap) : G2 bp bh w w' := ⟨by rw [h]; exact Nat.le_refl _, fun i _ _ _ => by rw [h], .same (by rw [h]), .same (by rw [h])⟩
theorem G2.turnP {bp bh : Nat} {w w' : World} (ht : Turn bp w w') (hk : Kept1 w w' bp) (hne : bp ≠ bh) : G2 bp bh w w' := ⟨by rw [ht.size]; exact Nat.le_refl _, fun i h1 h2 _ => ht.block i h1, hk, .same (ht.block _ (fun e => hne e.symm))⟩
theorem G2.turnH {bp bh : Nat} {w w' : World} (ht : Turn bh w w') (hk : Kept1 w w' bh) (hne : bp ≠ bh) : G2 bp bh w w' := ⟨by rw [ht.size]; exact Nat.le_refl _, fun i h1 h2 _ => ht.block i h2, .same (ht.block _ hne), hk⟩
end Go.Proofs.Ytfmffobdkfgekaa
