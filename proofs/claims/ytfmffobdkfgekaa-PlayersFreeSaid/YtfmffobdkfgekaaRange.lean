/- A range over a map that nobody writes meanwhile: each entry comes once, in whatever order. -/
import Derived.Test.YtfmffobdkfgekaaMaps
import Derived.Maps.Range
set_option linter.unusedVariables false
set_option linter.unusedSimpArgs false
namespace Go.Proofs.Ytfmffobdkfgekaa
open Go.RowKit Go.Maps Go.MapKept Go.ChangeMaps Go.WideMaps

theorem filter_push {β : Type} (f : β → Nat) (seen : Array Nat) {z : β} : ∀ (Z : List β), (Z.map f).Nodup → z ∈ Z → seen.contains (f z) = false →
    (Z.filter fun x => !seen.contains (f x)).Perm (z :: Z.filter fun x => !(seen.push (f z)).contains (f x))
  | [], _, h, _ => by simp at h
  | y :: Z, hn, h, hs => by
    rw [List.map_cons, List.nodup_cons] at hn
    by_cases hy : f y = f z
    · have hyz : y = z := by
        rcases List.mem_cons.1 h with h | h
        · exact h.symm
        · exact absurd (List.mem_map.2 ⟨z, h, hy.symm⟩) hn.1
      subst hyz
      have e : Z.filter (fun x => !(seen.push (f y)).contains (f x)) = Z.filter (fun x => !seen.contains (f x)) := by
        refine List.filter_congr fun x hx => ?_
        rw [contains_push]
        have : (f x == f y) = false := by
          rw [beq_eq_false_iff_ne]
          exact fun e => hn.1 (by rw [← e]; exact List.mem_map.2 ⟨x, hx, rfl⟩)
        rw [this]; simp
      rw [List.filter_cons, List.filter_cons, if_pos (by rw [hs]; rfl), if_neg (by rw [contains_push]; simp), e]
    · have hz : z ∈ Z := by
        rcases List.mem_cons.1 h with h | h
        · exact absurd (congrArg f h.symm) hy
        · exact h
      have ih := filter_push f seen Z hn.2 hz hs
      have e : (seen.push (f z)).contains (f y) = seen.contains (f y) := by
        rw [contains_push]
        have : (f y == f z) = false := by rw [beq_eq_false_iff_ne]; exact hy
        rw [this]; simp
      rw [List.filter_cons, List.filter_cons, e]
      split
      · exact (ih.cons y).trans (List.Perm.swap _ _ _)
      · exact ih

variable {P : Program} {k t e : TypeId} {κ α : Type}
def leftM (es : Array MapEntry) (M : List (κ × α)) (seen : Array Nat) : List (κ × α) := ((es.toList.zip M).filter fun x => !seen.contains x.1.born).map (·.2)
/-- The iterator in block r over the map in block b, which holds M; 'left' is still to come. -/
def RangeS (C : Codec P k κ) (vv : α → Value) (w : World) (b r : Nat) (M left : List (κ × α)) : Prop :=
  ∃ es clock since seen c0, w.heap[b]? = some (.map es clock) ∧ es.toList.map (fun e => (e.key, e.val)) = M.map (fun p => (C.kv p.1, vv p.2)) ∧ (es.toList.map (·.born)).Nodup ∧ (∀ x ∈ es.toList, x.born < since) ∧ since ≤ c0 ∧ since ≤ clock ∧
    w.heap[r]? = some (.mapIter (some b) since seen c0) ∧ left.Perm (leftM es M seen)

theorem RangeS.keep {C : Codec P k κ} {vv : α → Value} {w w' : World} {b r : Nat} {M left : List (κ × α)} (h : RangeS C vv w b r M left) (hb : w'.heap[b]? = w.heap[b]?) (hr : w'.heap[r]? = w.heap[r]?) : RangeS C vv w' b r M left := by
  obtain ⟨es, cl, si, se, c0, h1, h2, h3, h4, h5, h6, h7, h8⟩ := h
  exact ⟨es, cl, si, se, c0, hb.trans h1, h2, h3, h4, h5, h6, hr.trans h7, h8⟩
theorem RangeS.lt {C : Codec P k κ} {vv : α → Value} {w : World} {b r : Nat} {M left : List (κ × α)} (h : RangeS C vv w b r M left) : b < w.heap.size ∧ r < w.heap.size ∧ b ≠ r := by
  obtain ⟨es, cl, si, se, c0, h1, _, _, _, _, _, h7, _⟩ := h
  refine ⟨(Array.getElem?_eq_some_iff.1 h1).1, (Array.getElem?_eq_some_iff.1 h7).1, fun e => ?_⟩
  subst e; rw [h1] at h7; cases h7
theorem zip_len {C : Codec P k κ} {vv : α → Value} {es : Array MapEntry} {M : List (κ × α)} (h2 : es.toList.map (fun e => (e.key, e.val)) = M.map (fun p => (C.kv p.1, vv p.2))) : es.toList.length = M.length := by
  have := congrArg List.length h2
  simpa using this
/-- 'range m'. -/
theorem MapS.range {C : Codec P k κ} {vv : α → Value} {w : World} {b : Nat} {M : List (κ × α)} (h : MapS C vv w b M) (ht : P.underlying t = some (.map k e)) :
    ∃ cl, (Instr.range t (.map (some b))).run P w = .ok (.pointer (some ⟨w.heap.size, 0, none⟩)) (w.alloc (.mapIter (some b) cl #[] cl)) ∧ RangeS C vv (w.alloc (.mapIter (some b) cl #[] cl)) b w.heap.size M M := by
  have hlt := h.lt
  obtain ⟨es, cl, h1, h2, h3, h4, h5, h6⟩ := h
  refine ⟨cl, run_range_map w t k e b es cl ht h1, es, cl, cl, #[], cl, (heap_alloc_old w _ hlt).trans h1, h2, h5, h6, Nat.le_refl _, Nat.le_refl _, heap_alloc_new _ _, ?_⟩
  unfold leftM
  rw [List.filter_eq_self.2 (by simp), List.map_snd_zip]
  have := zip_len h2
  omega
/-- The step: nothing is left, or some pair that is left comes. -/
theorem RangeS.next {C : Codec P k κ} {vv : α → Value} {w : World} {b r : Nat} {M left : List (κ × α)} (h : RangeS C vv w b r M left) :
    (left = [] ∧ ∀ ty, (Instr.next (.pointer (some ⟨r, 0, none⟩)) false ty).run P w = .ok (.tuple #[.bool false]) w) ∨
    ∃ p left' w', left.Perm (p :: left') ∧ p ∈ M ∧ (∀ ty, (Instr.next (.pointer (some ⟨r, 0, none⟩)) false ty).run P w = .ok (.tuple #[.bool true, C.kv p.1, vv p.2]) w') ∧ RangeS C vv w' b r M left' ∧
      w.grownBy w' (some r) ∧ w'.heap.size = w.heap.size ∧ (Instr.entry (.pointer (some ⟨r, 0, none⟩))).run P w' = .ok (.tuple #[C.kv p.1, vv p.2]) w' := by
  obtain ⟨hb, hr, hne⟩ := h.lt
  obtain ⟨es, cl, si, se, c0, h1, h2, h3, h4, h5, h6, h7, h8⟩ := h
  by_cases h0 : (leftOf es se).size = 0
  · refine .inl ⟨?_, fun ty => ?_⟩
    · have hall := all_seen es se h0
      have : leftM es M se = [] := by
        unfold leftM
        rw [List.filter_eq_nil_iff.2 (fun x hx => by
          have := hall x.1 (List.of_mem_zip hx).1
          rw [this]; simp)]
        rfl
      rw [this] at h8
      exact h8.eq_nil
    · rcases run_next_at (P := P) w ty r b si c0 se es cl h7 h1 h4 h5 with ⟨_, hrun⟩ | ⟨e, he, _⟩
      · exact hrun
      · have : leftOf es se = #[] := Array.eq_empty_of_size_eq_zero h0
        rw [this] at he; simp at he
  · rcases run_next_at (P := P) w 0 r b si c0 se es cl h7 h1 h4 h5 with ⟨hc, _⟩ | ⟨e, he, w1, hw1, hrun⟩
    · exact absurd hc h0
    · obtain ⟨hem, hes⟩ := mem_left he
      obtain ⟨j, hj⟩ := List.getElem?_of_mem hem
      obtain ⟨p, hp, e1, e2⟩ := (map_entry h2).1 hj
      have hz : (e, p) ∈ es.toList.zip M := by
        refine List.mem_of_getElem? (i := j) ?_
        rw [List.getElem?_zip_eq_some]
        exact ⟨hj, hp⟩
      have hn : ((es.toList.zip M).map fun x => x.1.born).Nodup := by
        have : (es.toList.zip M).map (fun x => x.1.born) = es.toList.map (·.born) := by
          rw [show (fun x : MapEntry × (κ × α) => x.1.born) = (fun e : MapEntry => e.born) ∘ Prod.fst from rfl, ← List.map_map, List.map_fst_zip (by have := zip_len h2; omega)]
        rw [this]; exact h3
      have hperm := (filter_push (fun x : MapEntry × (κ × α) => x.1.born) se (es.toList.zip M) hn hz hes).map (·.2)
      have hr1 : w1.heap[r]? = some (.mapIter (some b) si se c0) := by rcases hw1 with rfl | rfl <;> exact h7
      have hb1 : w1.heap[b]? = some (.map es cl) := by rcases hw1 with rfl | rfl <;> exact h1
      have hset := heap_set (o' := .mapIter (some b) si (se.push e.born) cl) hr1
      have hb' : (setBlock w1 r (.mapIter (some b) si (se.push e.born) cl)).heap[b]? = some (.map es cl) := (hset.2 b hne).trans hb1
      refine .inr ⟨p, leftM es M (se.push e.born), _, h8.trans hperm, List.mem_of_getElem? hp, ?_, ⟨es, cl, si, se.push e.born, cl, hb', h2, h3, h4, h6, h6, hset.1, List.Perm.refl _⟩, ?_, ?_, by rw [← e1, ← e2]; exact run_entry_at _ r b si se es cl e hset.1 hb' hem h3⟩
      · intro ty; rw [← e1, ← e2]; exact hrun
      · rcases hw1 with rfl | rfl <;> exact ⟨rfl, rfl, rfl, by simp [setBlock], fun i _ hi => hset.2 i (fun e1 => hi (by rw [e1]))⟩
      · rcases hw1 with rfl | rfl <;> simp [setBlock]
theorem RangeS.left_eq {C : Codec P k κ} {vv : α → Value} {w : World} {b r : Nat} {M left : List (κ × α)} (h : RangeS C vv w b r M left) : w.rangeLeft b r = left.length := by
  obtain ⟨es, cl, si, se, c0, h1, h2, h3, h4, h5, h6, h7, h8⟩ := h
  simp only [World.rangeLeft, h1, h7]
  rw [h8.length_eq]
  have e1 : (es.toList.zip M).map Prod.fst = es.toList := List.map_fst_zip (by have := zip_len h2; omega)
  have e2 : (leftOf es se).size = (es.toList.filter fun x => !se.contains x.born).length := by
    unfold leftOf
    rw [← Array.toList_filter, Array.length_toList]
  rw [e2]
  unfold leftM
  rw [List.length_map]
  conv => lhs; rw [← e1, List.filter_map, List.length_map]
  rfl
end Go.Proofs.Ytfmffobdkfgekaa
