/- Maps in memory, as lists of pairs in the order in which the keys came. -/
import Derived.Test.YtfmffobdkfgekaaBase
import Derived.Maps.Keyed
import Derived.ChangeMaps5
set_option linter.unusedVariables false
set_option linter.unusedSimpArgs false
namespace Go.Proofs.Ytfmffobdkfgekaa
open Go.RowKit

/-! ### lists of pairs -/
section
variable {κ α : Type} [DecidableEq κ]
def getM (M : List (κ × α)) (x : κ) : Option α := (M.find? fun p => decide (p.1 = x)).map (·.2)
def putM (M : List (κ × α)) (x : κ) (a : α) : List (κ × α) := if (getM M x).isSome then M.map (fun p => if p.1 = x then (x, a) else p) else M ++ [(x, a)]
def delM (M : List (κ × α)) (x : κ) : List (κ × α) := M.filter fun p => !decide (p.1 = x)
theorem getM_cons (p : κ × α) (M : List (κ × α)) (x : κ) : getM (p :: M) x = if p.1 = x then some p.2 else getM M x := by
  unfold getM
  rw [List.find?_cons]
  by_cases h : p.1 = x <;> simp [h]
theorem getM_none {M : List (κ × α)} {x : κ} : getM M x = none ↔ ∀ p ∈ M, p.1 ≠ x := by
  unfold getM
  simp
theorem getM_some {M : List (κ × α)} {x : κ} {a : α} (h : getM M x = some a) : (x, a) ∈ M := by
  unfold getM at h
  obtain ⟨p, hp, rfl⟩ := Option.map_eq_some_iff.1 h
  have h1 := List.mem_of_find?_eq_some hp
  have h2 := List.find?_some hp
  simp at h2
  subst h2
  exact h1
theorem getM_mem {M : List (κ × α)} (hn : (M.map Prod.fst).Nodup) {x : κ} {a : α} (h : (x, a) ∈ M) : getM M x = some a := by
  induction M with
  | nil => cases h
  | cons p M ih =>
    rw [List.map_cons, List.nodup_cons] at hn
    rw [getM_cons]
    rcases List.mem_cons.1 h with rfl | h
    · simp
    · rw [if_neg (fun e => hn.1 (by rw [e]; exact List.mem_map.2 ⟨_, h, rfl⟩))]
      exact ih hn.2 h
theorem getM_append (M N : List (κ × α)) (x : κ) : getM (M ++ N) x = (getM M x).or (getM N x) := by
  induction M with
  | nil => simp [getM]
  | cons p M ih =>
    rw [List.cons_append, getM_cons, getM_cons, ih]
    by_cases h : p.1 = x <;> simp [h]
theorem getM_map (M : List (κ × α)) (x y : κ) (a : α) : getM (M.map fun p => if p.1 = x then (x, a) else p) y = if y = x then (getM M y).map (fun _ => a) else getM M y := by
  induction M with
  | nil => by_cases h : y = x <;> simp [getM, h]
  | cons p M ih =>
    rw [List.map_cons, getM_cons, getM_cons, ih]
    by_cases h1 : p.1 = x
    · rw [if_pos h1]
      by_cases h2 : y = x
      · subst h2; simp [h1]
      · rw [if_neg h2, if_neg (show ¬ x = y from fun e => h2 e.symm), if_neg (show ¬ p.1 = y from fun e => h2 (e.symm.trans h1))]
        simp [h2]
    · rw [if_neg h1]
      by_cases h2 : y = x
      · subst h2; simp [h1]
      · simp [h2]
theorem getM_put (M : List (κ × α)) (x y : κ) (a : α) : getM (putM M x a) y = if y = x then some a else getM M y := by
  unfold putM
  split
  · rename_i h
    rw [getM_map]
    by_cases h2 : y = x
    · subst h2
      obtain ⟨b, hb⟩ := Option.isSome_iff_exists.1 h
      simp [hb]
    · simp [h2]
  · rename_i h
    have hn : getM M x = none := by simpa using h
    rw [getM_append, getM_cons]
    by_cases h2 : y = x
    · subst h2; simp [hn]
    · simp [h2, show ¬ x = y from fun e => h2 e.symm, getM]
theorem getM_del (M : List (κ × α)) (x y : κ) : getM (delM M x) y = if y = x then none else getM M y := by
  induction M with
  | nil => by_cases h : y = x <;> simp [getM, delM, h]
  | cons p M ih =>
    unfold delM at ih ⊢
    rw [List.filter_cons]
    by_cases h1 : p.1 = x
    · rw [if_neg (by simp [h1]), ih, getM_cons]
      by_cases h2 : y = x
      · simp [h2]
      · simp [h2, show ¬ p.1 = y from fun e => h2 (e.symm.trans h1)]
    · rw [if_pos (by simp [h1]), getM_cons, getM_cons, ih]
      by_cases h2 : y = x
      · subst h2; simp [h1]
      · simp [h2]
theorem put_keys (M : List (κ × α)) (x : κ) (a : α) : (putM M x a).map Prod.fst = if (getM M x).isSome then M.map Prod.fst else M.map Prod.fst ++ [x] := by
  unfold putM
  split
  · rw [List.map_map]
    refine List.map_congr_left fun p hp => ?_
    simp only [Function.comp]
    split
    · rename_i h; exact h.symm
    · rfl
  · simp
theorem put_nodup {M : List (κ × α)} (hn : (M.map Prod.fst).Nodup) (x : κ) (a : α) : ((putM M x a).map Prod.fst).Nodup := by
  rw [put_keys]
  split
  · exact hn
  · rename_i h
    have hnone : getM M x = none := by simpa using h
    refine List.nodup_append.2 ⟨hn, by simp, fun y hy z hz => ?_⟩
    simp at hz
    subst hz
    obtain ⟨p, hp, rfl⟩ := List.mem_map.1 hy
    exact getM_none.1 hnone p hp
theorem del_nodup {M : List (κ × α)} (hn : (M.map Prod.fst).Nodup) (x : κ) : ((delM M x).map Prod.fst).Nodup := List.Nodup.sublist ((List.filter_sublist (p := _)).map _) hn
theorem put_mem {M : List (κ × α)} {x : κ} {a : α} {p : κ × α} (h : p ∈ putM M x a) : p = (x, a) ∨ (p ∈ M ∧ p.1 ≠ x) := by
  unfold putM at h
  split at h
  · obtain ⟨q, hq, rfl⟩ := List.mem_map.1 h
    by_cases hx : q.1 = x
    · rw [if_pos hx]; exact .inl rfl
    · rw [if_neg hx]; exact .inr ⟨hq, hx⟩
  · rename_i hs
    rcases List.mem_append.1 h with h | h
    · exact .inr ⟨h, getM_none.1 (by simpa using hs) p h⟩
    · simp at h; exact .inl h
theorem put_put (M : List (κ × α)) (x : κ) (a b : α) : putM (putM M x a) x b = putM M x b := by
  have hs : (getM (putM M x a) x).isSome = true := by rw [getM_put, if_pos rfl]; rfl
  rw [show putM (putM M x a) x b = (putM M x a).map (fun p => if p.1 = x then (x, b) else p) from if_pos hs]
  unfold putM
  split
  · rw [List.map_map]
    refine List.map_congr_left fun p hp => ?_
    simp only [Function.comp]
    by_cases h : p.1 = x <;> simp [h]
  · rename_i h
    have hnone : getM M x = none := by simpa using h
    rw [List.map_append]
    have : M.map (fun p => if p.1 = x then (x, b) else p) = M := by
      conv => rhs; rw [← List.map_id M]
      refine List.map_congr_left fun p hp => ?_
      rw [if_neg (getM_none.1 hnone p hp)]; rfl
    rw [this]
    simp
end

/-! ### maps in memory -/
open Go.Maps Go.MapKept Go.ChangeMaps Go.WideMaps
/-- How keys lie in memory. -/
structure Codec (P : Program) (k : TypeId) (κ : Type) where
  kv : κ → Value
  law : Keyed P k
  inj : ∀ {a b : κ}, kv a = kv b → a = b
def Codec.ok {P : Program} {k : TypeId} {κ : Type} (C : Codec P k κ) (x : κ) : Prop := ∃ l, keyOf P k (C.kv x) = some l

variable {P : Program} {k t e : TypeId} {κ α : Type}
/-- Block b is a map that holds M. -/
def MapS (C : Codec P k κ) (vv : α → Value) (w : World) (b : Nat) (M : List (κ × α)) : Prop :=
  ∃ (es : Array MapEntry) (clock : Nat), w.heap[b]? = some (.map es clock) ∧ es.toList.map (fun e => (e.key, e.val)) = M.map (fun p => (C.kv p.1, vv p.2)) ∧ (∀ p ∈ M, C.ok p.1) ∧ (M.map Prod.fst).Nodup ∧ (es.toList.map (·.born)).Nodup ∧ ∀ e ∈ es.toList, e.born < clock

theorem MapS.nodup {C : Codec P k κ} {vv : α → Value} {w : World} {b : Nat} {M : List (κ × α)} (h : MapS C vv w b M) : (M.map Prod.fst).Nodup := by
  obtain ⟨_, _, _, _, _, h4, _⟩ := h; exact h4
theorem MapS.lt {C : Codec P k κ} {vv : α → Value} {w : World} {b : Nat} {M : List (κ × α)} (h : MapS C vv w b M) : b < w.heap.size := by
  obtain ⟨_, _, h1, _⟩ := h; exact (Array.getElem?_eq_some_iff.1 h1).1
theorem MapS.keep {C : Codec P k κ} {vv : α → Value} {w w' : World} {b : Nat} {M : List (κ × α)} (h : MapS C vv w b M) (hk : w'.heap[b]? = w.heap[b]?) : MapS C vv w' b M := by
  obtain ⟨es, cl, h1, h2⟩ := h
  exact ⟨es, cl, hk.trans h1, h2⟩
theorem MapS.made (C : Codec P k κ) (vv : α → Value) (w : World) : MapS C vv (w.alloc (.map #[] 0)) w.heap.size [] :=
  ⟨#[], 0, heap_alloc_new _ _, by simp, by simp, by simp, by simp, by simp⟩

theorem map_entry {C : Codec P k κ} {vv : α → Value} {es : List MapEntry} {M : List (κ × α)} (hm : es.map (fun e => (e.key, e.val)) = M.map (fun p => (C.kv p.1, vv p.2))) :
    (∀ {j : Nat} {e : MapEntry}, es[j]? = some e → ∃ p, M[j]? = some p ∧ e.key = C.kv p.1 ∧ e.val = vv p.2) ∧ (∀ {j : Nat} {p : κ × α}, M[j]? = some p → ∃ e, es[j]? = some e ∧ e.key = C.kv p.1 ∧ e.val = vv p.2) := by
  constructor
  · intro j e he
    have := congrArg (fun l => l[j]?) hm
    simp only [List.getElem?_map, he, Option.map_some] at this
    obtain ⟨p, hp, h2⟩ := Option.map_eq_some_iff.1 this.symm
    exact ⟨p, hp, (congrArg Prod.fst h2).symm, (congrArg Prod.snd h2).symm⟩
  · intro j p hp
    have := congrArg (fun l => l[j]?) hm
    simp only [List.getElem?_map, hp, Option.map_some] at this
    obtain ⟨e, he, h2⟩ := Option.map_eq_some_iff.1 this
    exact ⟨e, he, congrArg Prod.fst h2, congrArg Prod.snd h2⟩

variable [DecidableEq κ]
/-- What the search for a key finds. -/
theorem MapS.find {C : Codec P k κ} {vv : α → Value} {w : World} {b : Nat} {M : List (κ × α)} (h : MapS C vv w b M) {x : κ} (hx : C.ok x) :
    ∃ es clock, w.heap[b]? = some (.map es clock) ∧ es.toList.map (fun e => (e.key, e.val)) = M.map (fun p => (C.kv p.1, vv p.2)) ∧ (es.toList.map (·.born)).Nodup ∧ (∀ e ∈ es.toList, e.born < clock) ∧
      ((getM M x = none ∧ ∀ W : World, (Instr.findKey k (C.kv x) es.toList).run P W = .ok none W) ∨
        ∃ j a e, M[j]? = some (x, a) ∧ getM M x = some a ∧ es.toList[j]? = some e ∧ e.key = C.kv x ∧ e.val = vv a ∧ ∀ W : World, (Instr.findKey k (C.kv x) es.toList).run P W = .ok (some (j, vv a)) W) := by
  obtain ⟨es, cl, h1, h2, h3, h4, h5, h6⟩ := h
  obtain ⟨l, hl⟩ := hx
  have hks : ∀ e ∈ es.toList, ∃ l, keyOf P k e.key = some l := fun e he => by
    obtain ⟨j, hj⟩ := List.getElem?_of_mem he
    obtain ⟨p, hp, e1, _⟩ := (map_entry h2).1 hj
    rw [e1]
    exact h3 p (List.mem_of_getElem? hp)
  refine ⟨es, cl, h1, h2, h5, h6, ?_⟩
  cases hg : getM M x with
  | none =>
    refine .inl ⟨rfl, fun W => ?_⟩
    rcases C.law.find W hl es.toList hks with ⟨q, _⟩ | ⟨j, e, q, hj, he⟩
    · exact q
    · obtain ⟨p, hp, e1, _⟩ := (map_entry h2).1 hj
      exact absurd (C.inj (e1.symm.trans he)) (getM_none.1 hg p (List.mem_of_getElem? hp))
  | some a =>
    have hmem := getM_some hg
    obtain ⟨j, hj⟩ := List.getElem?_of_mem hmem
    obtain ⟨e, he, e1, e2⟩ := (map_entry h2).2 hj
    refine .inr ⟨j, a, e, hj, rfl, he, e1, e2, fun W => ?_⟩
    rcases C.law.find W hl es.toList hks with ⟨_, q⟩ | ⟨i, e', q, hi, he'⟩
    · exact absurd e1 (q e (List.mem_of_getElem? he))
    · obtain ⟨p, hp, f1, f2⟩ := (map_entry h2).1 hi
      have hpx : p.1 = x := C.inj (f1.symm.trans he')
      have hia : getM M x = some p.2 := getM_mem h4 (by rw [← hpx]; exact List.mem_of_getElem? hp)
      have hij : i = j := by
        have e3 : (M.map Prod.fst)[i]? = some x := by rw [List.getElem?_map, hp]; simp [hpx]
        have e4 : (M.map Prod.fst)[j]? = some x := by rw [List.getElem?_map, hj]; rfl
        exact (List.getElem?_inj (List.getElem?_eq_some_iff.1 e3).1 h4).1 (e3.trans e4.symm)
      subst hij
      rw [hg] at hia
      rw [q, f2, Option.some.inj hia]

/-- 'm[k]' and 'v, ok := m[k]'. -/
theorem MapS.lookup {C : Codec P k κ} {vv : α → Value} {w : World} {b : Nat} {M : List (κ × α)} (h : MapS C vv w b M) (ht : P.underlying t = some (.map k e)) {z : Value} (hz : (zeroValue e).run P w = .ok z w) {x : κ} (hx : C.ok x) (c : Bool) :
    (Instr.lookup t (.map (some b)) (C.kv x) c).run P w = .ok (if c then .tuple #[((getM M x).map vv).getD z, .bool (getM M x).isSome] else ((getM M x).map vv).getD z) w := by
  obtain ⟨es, cl, hb, _, _, _, hf⟩ := h.find hx
  obtain ⟨l, hl⟩ := hx
  rcases hf with ⟨hg, h1⟩ | ⟨j, a, e0, _, hg, _, _, _, h1⟩
  · simp [Instr.lookup, run_underlying ht, MapKept.run_getObj_map hb, C.law.check w _ hl, h1, hz, Result.andThen, hg]
  · simp [Instr.lookup, run_underlying ht, MapKept.run_getObj_map hb, C.law.check w _ hl, h1, Result.andThen, hg]

/-- Nothing but block b has turned, and no block is new. -/
structure Turn (b : Nat) (w w' : World) : Prop where
  os : w'.os = w.os
  tape : w'.tape = w.tape
  output : w'.output = w.output
  size : w'.heap.size = w.heap.size
  block : ∀ i, i ≠ b → w'.heap[i]? = w.heap[i]?
theorem turn_set (w : World) (b : Nat) (o : Obj) : Turn b w (setBlock w b o) := ⟨rfl, rfl, rfl, by simp [setBlock], fun i hi => by simp [setBlock, Array.getElem?_setIfInBounds, show ¬ b = i from fun e => hi e.symm]⟩
theorem set_at {w : World} {b : Nat} {o o' : Obj} (h : w.heap[b]? = some o) : (setBlock w b o').heap[b]? = some o' := by
  have := (Array.getElem?_eq_some_iff.1 h).1
  simp [setBlock, Array.getElem?_setIfInBounds, this]
theorem pairs_set {C : Codec P k κ} {vv : α → Value} {es : List MapEntry} {M : List (κ × α)} (hm : es.map (fun e => (e.key, e.val)) = M.map (fun p => (C.kv p.1, vv p.2))) (hn : (M.map Prod.fst).Nodup) {j : Nat} {x : κ} {a : α} {e0 : MapEntry}
    (hj : M[j]? = some (x, a)) (he : es[j]? = some e0) (a' : α) (e' : MapEntry) (h1 : e'.key = C.kv x) (h2 : e'.val = vv a') :
    (es.set j e').map (fun e => (e.key, e.val)) = (putM M x a').map (fun p => (C.kv p.1, vv p.2)) := by
  have hg : getM M x = some a := getM_mem hn (List.mem_of_getElem? hj)
  unfold putM
  rw [if_pos (by rw [hg]; rfl)]
  refine List.ext_getElem? fun i => ?_
  rw [List.getElem?_map, List.getElem?_map, List.getElem?_map, List.getElem?_set]
  have hjl : j < es.length := (List.getElem?_eq_some_iff.1 he).1
  by_cases hij : j = i
  · subst hij
    rw [if_pos rfl, if_pos hjl, hj]
    simp [h1, h2]
  · rw [if_neg hij]
    have hm' := congrArg (fun l => l[i]?) hm
    simp only [List.getElem?_map] at hm'
    rw [hm']
    cases hi : M[i]? with
    | none => rfl
    | some p =>
      have hpx : p.1 ≠ x := fun hpx => hij ((List.getElem?_inj (by simpa using (List.getElem?_eq_some_iff.1 hj).1) hn).1 (by rw [List.getElem?_map, List.getElem?_map, hj, hi]; simp [hpx]))
      simp [hpx]
theorem ok_put {C : Codec P k κ} {M : List (κ × α)} (h : ∀ p ∈ M, C.ok p.1) {x : κ} (hx : C.ok x) (a : α) : ∀ p ∈ putM M x a, C.ok p.1 := fun p hp => by
  rcases put_mem hp with rfl | ⟨hp, _⟩
  · exact hx
  · exact h p hp
theorem map_set_same {β γ : Type} (f : β → γ) : ∀ (l : List β) (j : Nat) (x y : β), l[j]? = some x → f y = f x → (l.set j y).map f = l.map f
  | [], j, x, y, h, _ => by simp at h
  | z :: l, 0, x, y, h, hf => by simp at h; subst h; simp [hf]
  | z :: l, j + 1, x, y, h, hf => by simp only [List.set_cons_succ, List.map_cons]; rw [map_set_same f l j x y (by simpa using h) hf]
theorem MapS.replaced {C : Codec P k κ} {vv : α → Value} {w : World} {b : Nat} {M : List (κ × α)} (h : MapS C vv w b M) {es : Array MapEntry} {cl : Nat} (hb : w.heap[b]? = some (.map es cl)) {x : κ} (hx : C.ok x) {j : Nat} {a : α} {e0 : MapEntry}
    (hj : M[j]? = some (x, a)) (he : es.toList[j]? = some e0) (a' : α) (f : MapEntry → MapEntry) (h1 : (f e0).key = C.kv x) (h2 : (f e0).val = vv a') (h3 : (f e0).born = e0.born) :
    MapS C vv (setBlock w b (.map (es.modify j f) cl)) b (putM M x a') := by
  obtain ⟨es', cl', g1, g2, g3, g4, g5, g6⟩ := h
  rw [hb] at g1; cases g1
  have hl : (es.modify j f).toList = es.toList.set j (f e0) := by rw [Array.toList_modify, modify_eq_set _ _ _ _ he]
  refine ⟨_, _, set_at hb, by rw [hl]; exact pairs_set g2 g4 hj he a' _ h1 h2, ok_put g3 hx a', put_nodup g4 x a', ?_, fun e he' => ?_⟩
  · rw [hl, map_set_same _ _ _ _ _ he h3]; exact g5
  · rw [hl] at he'
    rcases List.mem_or_eq_of_mem_set he' with he' | rfl
    · exact g6 e he'
    · rw [h3]; exact g6 e0 (List.mem_of_getElem? he)
theorem MapS.pushed {C : Codec P k κ} {vv : α → Value} {w : World} {b : Nat} {M : List (κ × α)} (h : MapS C vv w b M) {es : Array MapEntry} {cl : Nat} (hb : w.heap[b]? = some (.map es cl)) {x : κ} (hx : C.ok x) (hg : getM M x = none) (a' : α) :
    MapS C vv (setBlock w b (.map (es.push ⟨C.kv x, vv a', cl⟩) (cl + 1))) b (putM M x a') := by
  obtain ⟨es', cl', g1, g2, g3, g4, g5, g6⟩ := h
  rw [hb] at g1; cases g1
  have hp : putM M x a' = M ++ [(x, a')] := if_neg (by rw [hg]; simp)
  refine ⟨_, _, set_at hb, by rw [hp]; simp [g2], ok_put g3 hx a', put_nodup g4 x a', ?_, fun e he' => ?_⟩
  · rw [Array.toList_push, List.map_append]
    refine List.nodup_append.2 ⟨g5, by simp, fun y hy z hz => ?_⟩
    simp at hz; subst hz
    obtain ⟨e, he, rfl⟩ := List.mem_map.1 hy
    exact Nat.ne_of_lt (g6 e he)
  · rw [Array.toList_push] at he'
    rcases List.mem_append.1 he' with he' | he'
    · exact Nat.lt_succ_of_lt (g6 e he')
    · simp at he'; subst he'; exact Nat.lt_succ_self _

/-- 'm[k] = v'. -/
theorem MapS.update {C : Codec P k κ} {vv : α → Value} {w : World} {b : Nat} {M : List (κ × α)} (h : MapS C vv w b M) (ht : P.underlying t = some (.map k e)) {x : κ} (hx : C.ok x) (a : α) :
    ∃ w', (Instr.mapUpdate t (.map (some b)) (C.kv x) (vv a)).run P w = .ok () w' ∧ MapS C vv w' b (putM M x a) ∧ Turn b w w' := by
  obtain ⟨es, cl, hb, _, _, _, hf⟩ := h.find hx
  obtain ⟨l, hl⟩ := hx
  rcases hf with ⟨hg, h1⟩ | ⟨j, a0, e0, hj, hg, he, hk, hv, h1⟩
  · refine ⟨_, ?_, h.pushed hb ⟨l, hl⟩ hg a, turn_set _ _ _⟩
    simp [Instr.mapUpdate, run_underlying ht, MapKept.run_getObj_map hb, C.law.check w false hl, h1, MapKept.run_setObj_map _ hb, Result.andThen, setBlock]
  · refine ⟨_, ?_, h.replaced hb ⟨l, hl⟩ hj he a (fun e' => { e' with key := C.kv x, val := vv a }) rfl rfl rfl, turn_set _ _ _⟩
    have he' : es[j]? = some e0 := by simpa using he
    simp [Instr.mapUpdate, run_underlying ht, MapKept.run_getObj_map hb, C.law.check w false hl, h1, he', hk, C.law.stays w hl, MapKept.run_setObj_map _ hb, Result.andThen, setBlock]
theorem del_erase {x : κ} {a : α} : ∀ (M : List (κ × α)) (j : Nat), (M.map Prod.fst).Nodup → M[j]? = some (x, a) → delM M x = M.eraseIdx j
  | [], j, _, h => by simp at h
  | p :: M, 0, hn, h => by
    simp at h; subst h
    rw [List.map_cons, List.nodup_cons] at hn
    unfold delM
    rw [List.filter_cons, if_neg (by simp), List.eraseIdx_cons_zero]
    exact List.filter_eq_self.2 fun p hp => by
      simp only [Bool.not_eq_true', decide_eq_false_iff_not]
      exact fun e => hn.1 (by rw [← e]; exact List.mem_map.2 ⟨p, hp, rfl⟩)
  | p :: M, j + 1, hn, h => by
    rw [List.map_cons, List.nodup_cons] at hn
    have hm : M[j]? = some (x, a) := by simpa using h
    have hne : ¬ p.1 = x := fun e => hn.1 (by rw [e]; exact List.mem_map.2 ⟨_, List.mem_of_getElem? hm, rfl⟩)
    have ih := del_erase M j hn.2 hm
    unfold delM at ih ⊢
    rw [List.filter_cons, if_pos (by simp [hne]), ih, List.eraseIdx_cons_succ]
/-- 'delete(m, k)'. -/
theorem MapS.delete {C : Codec P k κ} {vv : α → Value} {w : World} {b : Nat} {M : List (κ × α)} (h : MapS C vv w b M) (ht : P.underlying t = some (.map k e)) {x : κ} (hx : C.ok x) :
    ∃ w', (∀ ty, (Builtin.delete_ #[t, k] ty #[.map (some b), C.kv x]).run P w = .ok (.tuple #[]) w') ∧ MapS C vv w' b (delM M x) ∧ Turn b w w' := by
  obtain ⟨es, cl, hb, g2, g5, g6, hf⟩ := h.find hx
  obtain ⟨es', cl', g1, g2', g3, g4, _, _⟩ := h
  rw [hb] at g1; cases g1
  obtain ⟨l, hl⟩ := hx
  rcases hf with ⟨hg, h1⟩ | ⟨j, a0, e0, hj, hg, he, hk, hv, h1⟩
  · have hd : delM M x = M := List.filter_eq_self.2 fun p hp => by simpa using getM_none.1 hg p hp
    refine ⟨_, ?_, (⟨es, cl, set_at (o' := .map es cl) hb, by rw [hd]; exact g2, by rw [hd]; exact g3, by rw [hd]; exact g4, g5, g6⟩ : MapS C vv (setBlock w b (.map es cl)) b (delM M x)), turn_set _ _ _⟩
    intro ty
    simp [Builtin.delete_, run_underlying ht, MapKept.run_getObj_map hb, C.law.check w _ hl, h1, MapKept.run_setObj_map _ hb, Result.andThen, setBlock]
  · have hjl : j < es.size := by simpa using (List.getElem?_eq_some_iff.1 he).1
    have hsub : (es.eraseIdxIfInBounds j).toList = es.toList.eraseIdx j := by
      unfold Array.eraseIdxIfInBounds
      rw [dif_pos hjl]
      simp
    have hd : delM M x = M.eraseIdx j := del_erase M j g4 hj
    refine ⟨_, ?_, (⟨es.eraseIdxIfInBounds j, cl, set_at hb, ?_, fun p hp => g3 p ((List.mem_filter.1 hp).1), del_nodup g4 x, ?_, fun e he' => g6 e ((List.eraseIdx_sublist _ _).subset (by rw [← hsub]; exact he'))⟩ : MapS C vv (setBlock w b (.map (es.eraseIdxIfInBounds j) cl)) b (delM M x)), turn_set _ _ _⟩
    · intro ty; simp [Builtin.delete_, run_underlying ht, MapKept.run_getObj_map hb, C.law.check w _ hl, h1, MapKept.run_setObj_map _ hb, Result.andThen, setBlock]
    · rw [hd, hsub, map_eraseIdx, map_eraseIdx, g2]
    · rw [hsub, map_eraseIdx]; exact List.Nodup.sublist (List.eraseIdx_sublist _ _) g5

/-- The entry of x in block b bears this stamp. -/
def Stamp (C : Codec P k κ) (w : World) (b : Nat) (x : κ) (s : Nat) : Prop := ∃ es cl, w.heap[b]? = some (.map es cl) ∧ ∃ e ∈ es.toList, e.key = C.kv x ∧ e.born = s
/-- Each entry of block b keeps its key and its stamp. -/
def Kept1 (w w' : World) (b : Nat) : Prop := ∀ es cl, w.heap[b]? = some (.map es cl) → ∃ es' cl', w'.heap[b]? = some (.map es' cl') ∧ ∀ e ∈ es.toList, ∃ e' ∈ es'.toList, e'.key = e.key ∧ e'.born = e.born
theorem Kept1.same {w w' : World} {b : Nat} (h : w'.heap[b]? = w.heap[b]?) : Kept1 w w' b := fun es cl hb => ⟨es, cl, h.trans hb, fun e he => ⟨e, he, rfl, rfl⟩⟩
omit [DecidableEq κ] in
theorem Stamp.kept {C : Codec P k κ} {w w' : World} {b : Nat} {x : κ} {s : Nat} (h : Stamp C w b x s) (hk : Kept1 w w' b) : Stamp C w' b x s := by
  obtain ⟨es, cl, hb, e, he, h1, h2⟩ := h
  obtain ⟨es', cl', hb', hall⟩ := hk es cl hb
  obtain ⟨e', he', f1, f2⟩ := hall e he
  exact ⟨es', cl', hb', e', he', f1.trans h1, f2.trans h2⟩
theorem kept_modify {w : World} {b : Nat} {es : Array MapEntry} {cl j : Nat} {e0 : MapEntry} (hb : w.heap[b]? = some (.map es cl)) (he : es.toList[j]? = some e0) (f : MapEntry → MapEntry) (h1 : (f e0).key = e0.key) (h2 : (f e0).born = e0.born) : Kept1 w (setBlock w b (.map (es.modify j f) cl)) b := by
  intro es1 cl1 hb1
  rw [hb] at hb1; cases hb1
  refine ⟨_, _, set_at hb, fun e hm => ?_⟩
  rw [Array.toList_modify, modify_eq_set _ _ _ _ he]
  obtain ⟨i, hi⟩ := List.getElem?_of_mem hm
  by_cases hij : i = j
  · subst hij
    rw [he] at hi; cases hi
    exact ⟨_, List.mem_of_getElem? (i := i) (by rw [List.getElem?_set, if_pos rfl, if_pos (List.getElem?_eq_some_iff.1 he).1]), h1, h2⟩
  · exact ⟨e, List.mem_of_getElem? (i := i) (by rw [List.getElem?_set, if_neg (fun c => hij c.symm)]; exact hi), rfl, rfl⟩
theorem kept_push {w : World} {b : Nat} {es : Array MapEntry} {cl cl' : Nat} (hb : w.heap[b]? = some (.map es cl)) (e0 : MapEntry) : Kept1 w (setBlock w b (.map (es.push e0) cl')) b := by
  intro es1 cl1 hb1
  rw [hb] at hb1; cases hb1
  exact ⟨_, _, set_at hb, fun e hm => ⟨e, by simp at hm ⊢; exact .inl hm, rfl, rfl⟩⟩
/-- 'm[k] op= v', the first half: the entry is there behind it. -/
theorem MapS.entry {C : Codec P k κ} {vv : α → Value} {w : World} {b : Nat} {M : List (κ × α)} (h : MapS C vv w b M) (ht : P.underlying t = some (.map k e)) {a0 : α} (hz : (zeroValue e).run P w = .ok (vv a0) w) {x : κ} (hx : C.ok x) :
    ∃ (s : Nat) (w' : World), (Instr.mapEntry t (.map (some b)) (C.kv x)).run P w = .ok (.tuple #[vv ((getM M x).getD a0), .int .i64 s]) w' ∧ MapS C vv w' b (putM M x ((getM M x).getD a0)) ∧ Stamp C w' b x s ∧ Turn b w w' ∧ Kept1 w w' b := by
  obtain ⟨es, cl, hb, _, _, _, hf⟩ := h.find hx
  obtain ⟨l, hl⟩ := hx
  rcases hf with ⟨hg, h1⟩ | ⟨j, a, e0, hj, hg, he, hk, hv, h1⟩
  · refine ⟨cl, _, ?_, by rw [hg]; exact h.pushed hb ⟨l, hl⟩ hg a0, ⟨_, _, set_at hb, ⟨C.kv x, vv a0, cl⟩, by simp, rfl, rfl⟩, turn_set _ _ _, kept_push hb _⟩
    simp [Instr.mapEntry, run_underlying ht, MapKept.run_getObj_map hb, C.law.check w false hl, h1, hz, MapKept.run_setObj_map _ hb, Result.andThen, setBlock, hg, goInt]
  · have he' : es[j]? = some e0 := by simpa using he
    refine ⟨e0.born, _, ?_, by rw [hg]; exact h.replaced hb ⟨l, hl⟩ hj he a (fun e' => { e' with key := C.kv x }) rfl hv rfl, ⟨_, _, set_at hb, { e0 with key := C.kv x }, ?_, rfl, rfl⟩, turn_set _ _ _, kept_modify hb he _ hk.symm rfl⟩
    · simp [Instr.mapEntry, run_underlying ht, MapKept.run_getObj_map hb, C.law.check w false hl, h1, he', hk, C.law.stays w hl, MapKept.run_setObj_map _ hb, Result.andThen, setBlock, hg, goInt]
    · rw [Array.toList_modify, modify_eq_set _ _ _ _ he]
      exact List.mem_of_getElem? (i := j) (by rw [List.getElem?_set, if_pos rfl, if_pos (List.getElem?_eq_some_iff.1 he).1])
/-- The second half: the value is laid. -/
theorem MapS.stored {C : Codec P k κ} {vv : α → Value} {w : World} {b : Nat} {M : List (κ × α)} (h : MapS C vv w b M) {x : κ} (hx : C.ok x) {s : Nat} (hs : Stamp C w b x s) (a : α) :
    ∃ w', (Instr.entryStore t (.map (some b)) (.int .i64 s) (vv a)).run P w = .ok () w' ∧ MapS C vv w' b (putM M x a) ∧ Turn b w w' ∧ Kept1 w w' b := by
  obtain ⟨es, cl, hb, e0, he0, hk0, hb0⟩ := hs
  obtain ⟨es', cl', g1, g2, g3, g4, g5, g6⟩ := id h
  rw [hb] at g1; cases g1
  cases hi : es.findIdx? (fun e => (e.born : Int) == (s : Int)) with
  | none =>
    rw [Array.findIdx?_eq_none_iff] at hi
    have := hi e0 (by simpa using he0)
    simp [hb0] at this
  | some j =>
    obtain ⟨hj, h1, _⟩ := Array.findIdx?_eq_some_iff_getElem.1 hi
    have hbj : (es[j]).born = s := by have := eq_of_beq h1; omega
    have hej : es.toList[j]? = some es[j] := by simp [hj]
    obtain ⟨i, hi0⟩ := List.getElem?_of_mem he0
    have hij : i = j := by
      have e3 : (es.toList.map (·.born))[i]? = some s := by rw [List.getElem?_map, hi0]; simp [hb0]
      have e4 : (es.toList.map (·.born))[j]? = some s := by rw [List.getElem?_map, hej]; simp [hbj]
      exact (List.getElem?_inj (List.getElem?_eq_some_iff.1 e3).1 g5).1 (e3.trans e4.symm)
    subst hij
    obtain ⟨p, hp, f1, f2⟩ := (map_entry g2).1 hi0
    have hpx : p.1 = x := C.inj (f1.symm.trans hk0)
    have hp' : M[i]? = some (x, p.2) := by rw [hp, ← hpx]
    refine ⟨_, ?_, h.replaced hb hx hp' hi0 a (fun e' => { e' with val := vv a }) hk0 rfl rfl, turn_set _ _ _, kept_modify hb hi0 _ rfl rfl⟩
    simp [Instr.entryStore, MapKept.run_getObj_map hb, asInt, asIntOf, hi, MapKept.run_setObj_map _ hb, Result.andThen, setBlock]
end Go.Proofs.Ytfmffobdkfgekaa
