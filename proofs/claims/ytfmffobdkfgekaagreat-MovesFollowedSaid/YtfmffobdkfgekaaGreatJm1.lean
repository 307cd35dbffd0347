import Derived.WalkKit
import Derived.WalkLawsBesides
import Derived.WalkSpells
import Derived.Lib.Hide
import Derived.Deep.QuietTactic
import Derived.BigQuiet
import Derived.Outline
import Derived.StillTailTactics
import Derived.OwnWalk
import Derived.Deep.LoopGhost
import Derived.Deep.DeepCutAuto
import Derived.Deep.CutBlock
import Derived.Maps.Keyed
import Derived.ChangeMaps5
import Derived.Test.YtfmffobdkfgekaaGreatProg
import Derived.DeepKeys4
import Derived.StringKeys
import Derived.Laws.IdiomCopy
import Derived.Test.YtfmffobdkfgekaaGreatShelfB
import Derived.Laws.AppendOwn
import Derived.Test.YtfmffobdkfgekaaGreatShelf
/- Words of this claim's own, of no program: orders on numbers and strings, lists in memory, how worlds grow. -/
set_option linter.unusedVariables false
set_option linter.unusedSimpArgs false
namespace Go.Proofs.YtfmffobdkfgekaaGreat
open Go.RowKit

/-! ### numbers -/
def inB (n low high : Int) : Bool := decide (low ≤ n) && decide (n ≤ high)
theorem inB_iff {n low high : Int} : inB n low high = true ↔ low ≤ n ∧ n ≤ high := by simp [inB]
def cmpI (x y : Int) : Int := if x < y then -1 else if y < x then 1 else 0

/-! ### how worlds grow -/
theorem bcell {W w1 : World} {B : Nat} (hb : Below B W w1) : (∀ b o, b < B → w1.cell? ⟨b, o, none⟩ = W.cell? ⟨b, o, none⟩) ∧ (∀ b o, b < B → w1.frozen? ⟨b, o, none⟩ = W.frozen? ⟨b, o, none⟩) :=
  ⟨fun b o h => hb.cell (p := ⟨b, o, none⟩) h, fun b o h => hb.frozen (p := ⟨b, o, none⟩) h⟩

/-- The worlds that are as W below block B. -/
structure Ext (B : Nat) (W : World) where
  v : World
  h : Below B W v
instance (B : Nat) (W : World) : Nonempty (Ext B W) := ⟨⟨W, Below.refl B W⟩⟩


/-! ### slices that are read -/
/-- v is a slice of n elements of sz cells each, which reads as the cells vs, in a block from lo on. -/
def Sl (lo : Nat) (w : World) (v : Value) (sz n : Nat) (vs : List Value) : Prop :=
  vs.length = n * sz ∧ n ≤ 1099511627776 ∧ ∃ A c, v = .slice A n c ∧ n ≤ c ∧ c ≤ 9223372036854775807 ∧ (0 < n → ∃ b o, A = some ⟨b, o, none⟩ ∧ lo ≤ b ∧ b < w.heap.size ∧ ∀ j u, vs[j]? = some u → w.cell? ⟨b, o + j, none⟩ = some u)

theorem Sl.keep {lo : Nat} {w w' : World} {v : Value} {sz n : Nat} {vs : List Value} (h : Sl lo w v sz n vs) (hs : w.heap.size ≤ w'.heap.size) (hk : ∀ i, lo ≤ i → i < w.heap.size → w'.heap[i]? = w.heap[i]?) : Sl lo w' v sz n vs := by
  obtain ⟨h1, h2, A, c, h3, h4, h4', h5⟩ := h
  refine ⟨h1, h2, A, c, h3, h4, h4', fun hn => ?_⟩
  obtain ⟨b, o, e1, e2, e3, e4⟩ := h5 hn
  exact ⟨b, o, e1, e2, by omega, fun j u hu => (World.cell?_of_block (w := w) (hk b e2 e3)).trans (e4 j u hu)⟩
theorem Sl.below {lo : Nat} {w w' : World} {v : Value} {sz n : Nat} {vs : List Value} (h : Sl lo w v sz n vs) (hb : Below w.heap.size w w') : Sl lo w' v sz n vs :=
  h.keep hb.size fun i _ hi => hb.block i hi
theorem Sl.mono {lo lo' : Nat} {w : World} {v : Value} {sz n : Nat} {vs : List Value} (h : Sl lo w v sz n vs) (hl : lo' ≤ lo) : Sl lo' w v sz n vs := by
  obtain ⟨h1, h2, A, c, h3, h4, h4', h5⟩ := h
  refine ⟨h1, h2, A, c, h3, h4, h4', fun hn => ?_⟩
  obtain ⟨b, o, e1, e2, e3⟩ := h5 hn
  exact ⟨b, o, e1, by omega, e3⟩
theorem Sl.cell {lo : Nat} {w : World} {A : Option Addr} {c sz n : Nat} {vs : List Value} (h : Sl lo w (.slice A n c) sz n vs) {j : Nat} {u : Value} (hu : vs[j]? = some u) :
    ∃ b o, A = some ⟨b, o, none⟩ ∧ lo ≤ b ∧ b < w.heap.size ∧ w.cell? ⟨b, o + j, none⟩ = some u := by
  obtain ⟨h1, h2, A', c', h3, h4, h4', h5⟩ := h
  cases h3
  have hj : j < vs.length := (List.getElem?_eq_some_iff.1 hu).1
  have hn : 0 < n := by
    rcases Nat.eq_zero_or_pos n with h0 | h0
    · rw [h1, h0] at hj; simp at hj
    · exact h0
  obtain ⟨b, o, e1, e2, e3, e4⟩ := h5 hn
  exact ⟨b, o, e1, e2, e3, e4 j u hu⟩
theorem flat_len {α β : Type} {f : α → List β} {sz : Nat} (hf : ∀ x, (f x).length = sz) (l : List α) : (l.flatMap f).length = l.length * sz := by
  induction l with
  | nil => simp
  | cons x l ih => simp only [List.flatMap_cons, List.length_append, List.length_cons, ih, hf, Nat.add_mul]; omega
theorem flat_at {α β : Type} {f : α → List β} {sz : Nat} (hf : ∀ x, (f x).length = sz) : ∀ (l : List α) (k : Nat) (x : α) (j : Nat), l[k]? = some x → j < sz → (l.flatMap f)[k * sz + j]? = (f x)[j]?
  | [], k, x, j, h, _ => by simp at h
  | y :: l, 0, x, j, h, hj => by
    simp at h; subst h
    rw [List.flatMap_cons, List.getElem?_append_left (by rw [hf]; omega)]; simp
  | y :: l, k + 1, x, j, h, hj => by
    rw [List.flatMap_cons, List.getElem?_append_right (by rw [hf, Nat.add_mul]; omega), hf, show (k + 1) * sz + j - sz = k * sz + j by rw [Nat.add_mul]; omega]
    exact flat_at hf l k x j (by simpa using h) hj
theorem Sl.recd {lo : Nat} {w : World} {A : Option Addr} {c sz n : Nat} {α : Type} {f : α → List Value} {l : List α} (hf : ∀ x, (f x).length = sz) (h : Sl lo w (.slice A n c) sz n (l.flatMap f)) {k : Nat} {x : α} (hx : l[k]? = some x) (hz : 0 < sz) :
    ∃ b o, A = some ⟨b, o, none⟩ ∧ lo ≤ b ∧ b < w.heap.size ∧ ∀ j u, (f x)[j]? = some u → w.cell? ⟨b, o + (k * sz + j), none⟩ = some u := by
  have h0 : (l.flatMap f)[k * sz + 0]? = (f x)[0]? := flat_at hf l k x 0 hx hz
  have hs : (f x)[0]? = some ((f x)[0]'(by rw [hf]; omega)) := List.getElem?_eq_getElem _
  obtain ⟨b, o, e1, e2, e3, e4⟩ := h.cell (h0.trans hs)
  subst e1
  refine ⟨b, o, rfl, e2, e3, fun j u hu => ?_⟩
  have hj : j < sz := by have := (List.getElem?_eq_some_iff.1 hu).1; rw [hf] at this; exact this
  obtain ⟨b', o', e1', _, _, e4'⟩ := h.cell ((flat_at hf l k x j hx hj).trans hu)
  cases e1'
  exact e4'
theorem Sl.of_own {w : World} {base : Nat} {e : TypeId} {sz n : Nat} {v : Value} {vs : List Value} (h : w.ownsRow base e sz v n vs) (hn : n ≤ 1099511627776) : Sl base w v sz n vs := by
  obtain ⟨h1, h2⟩ := h
  refine ⟨h1, hn, ?_⟩
  rcases h2 with ⟨rfl, rfl⟩ | ⟨g, cap, cur, rfl, hb, hg, hnc, hcm, hcs, ht⟩
  · exact ⟨none, 0, rfl, Nat.le_refl _, by omega, fun h => absurd h (by omega)⟩
  · refine ⟨_, _, rfl, hnc, by unfold maxLen at hcm; omega, fun _ => ⟨g, 0, rfl, hb, (Array.getElem?_eq_some_iff.1 hg).1, fun j u hu => ?_⟩⟩
    rw [cell_of_row w g (0 + j) cur e (0, 0) hg]
    rw [← ht, List.getElem?_take] at hu
    split at hu
    · simpa using hu
    · cases hu
theorem Sl.nil (lo : Nat) (w : World) (sz : Nat) : Sl lo w (.slice none 0 0) sz 0 [] := ⟨by simp, by omega, none, 0, rfl, Nat.le_refl _, by omega, fun h => absurd h (by omega)⟩
/-- A slice literal, in a block that has just been laid. -/
theorem Sl.made {w : World} {e : TypeId} {sz n : Nat} {vs : List Value} (hl : vs.length = n * sz) (hn : n ≤ 1099511627776) (b : Nat) (cs : Array Value) (hc : cs.toList = vs) (hb : w.heap[b]? = some (.cells cs e (0, 0))) : Sl b w (.slice (some ⟨b, 0, none⟩) n n) sz n vs := by
  refine ⟨hl, hn, _, _, rfl, Nat.le_refl _, by omega, fun _ => ⟨b, 0, rfl, Nat.le_refl _, (Array.getElem?_eq_some_iff.1 hb).1, fun j u hu => ?_⟩⟩
  rw [cell_of_row w b (0 + j) cs e (0, 0) hb]
  rw [← hc] at hu
  simpa using hu
theorem add_off (b o j : Nat) : (⟨b, o, none⟩ : Addr).add j = ⟨b, o + j, none⟩ := by unfold Addr.add; split <;> simp_all
theorem new_cells {w : World} {cs : Array Value} {e : TypeId} {vs : List Value} (h : cs.toList = vs) : ∀ j u, vs[j]? = some u → (w.alloc (.cells cs e)).cell? ((⟨w.heap.size, 0, none⟩ : Addr).add j) = some u := by
  intro j u hu
  rw [add_off, cell_of_row _ w.heap.size (0 + j) cs e (0, 0) (heap_alloc_new _ _)]
  rw [← h] at hu
  simpa using hu

theorem row_cells {w : World} {b : Nat} {cs : Array Value} {T : TypeId} (h : w.heap[b]? = some (.cells cs T (0, 0))) : (∀ o, w.cell? ⟨b, o, none⟩ = cs[o]?) ∧ (∀ o, w.frozen? ⟨b, o, none⟩ = false) :=
  ⟨fun o => by simp [World.cell?, h], fun o => by simp [World.frozen?, h]⟩

end Go.Proofs.YtfmffobdkfgekaaGreat
/- Maps in memory, as lists of pairs in the order in which the keys came. -/
set_option linter.unusedVariables false
set_option linter.unusedSimpArgs false
namespace Go.Proofs.YtfmffobdkfgekaaGreat
open Go.RowKit

/-! ### lists of pairs -/
section
variable {κ α : Type} [DecidableEq κ]
def getM (M : List (κ × α)) (x : κ) : Option α := (M.find? fun p => decide (p.1 = x)).map (·.2)
def putM (M : List (κ × α)) (x : κ) (a : α) : List (κ × α) := if (getM M x).isSome then M.map (fun p => if p.1 = x then (x, a) else p) else M ++ [(x, a)]
def delM (M : List (κ × α)) (x : κ) : List (κ × α) := M.filter fun p => !decide (p.1 = x)
theorem getM_cons (p : κ × α) (M : List (κ × α)) (x : κ) : getM (p :: M) x = if p.1 = x then some p.2 else getM M x := by
  unfold getM
  rw [List.find?_cons]
  by_cases h : p.1 = x <;> simp [h]
theorem getM_none {M : List (κ × α)} {x : κ} : getM M x = none ↔ ∀ p ∈ M, p.1 ≠ x := by
  unfold getM
  simp
theorem getM_some {M : List (κ × α)} {x : κ} {a : α} (h : getM M x = some a) : (x, a) ∈ M := by
  unfold getM at h
  obtain ⟨p, hp, rfl⟩ := Option.map_eq_some_iff.1 h
  have h1 := List.mem_of_find?_eq_some hp
  have h2 := List.find?_some hp
  simp at h2
  subst h2
  exact h1
theorem getM_mem {M : List (κ × α)} (hn : (M.map Prod.fst).Nodup) {x : κ} {a : α} (h : (x, a) ∈ M) : getM M x = some a := by
  induction M with
  | nil => cases h
  | cons p M ih =>
    rw [List.map_cons, List.nodup_cons] at hn
    rw [getM_cons]
    rcases List.mem_cons.1 h with rfl | h
    · simp
    · rw [if_neg (fun e => hn.1 (by rw [e]; exact List.mem_map.2 ⟨_, h, rfl⟩))]
      exact ih hn.2 h
theorem getM_append (M N : List (κ × α)) (x : κ) : getM (M ++ N) x = (getM M x).or (getM N x) := by
  induction M with
  | nil => simp [getM]
  | cons p M ih =>
    rw [List.cons_append, getM_cons, getM_cons, ih]
    by_cases h : p.1 = x <;> simp [h]
theorem getM_map (M : List (κ × α)) (x y : κ) (a : α) : getM (M.map fun p => if p.1 = x then (x, a) else p) y = if y = x then (getM M y).map (fun _ => a) else getM M y := by
  induction M with
  | nil => by_cases h : y = x <;> simp [getM, h]
  | cons p M ih =>
    rw [List.map_cons, getM_cons, getM_cons, ih]
    by_cases h1 : p.1 = x
    · rw [if_pos h1]
      by_cases h2 : y = x
      · subst h2; simp [h1]
      · rw [if_neg h2, if_neg (show ¬ x = y from fun e => h2 e.symm), if_neg (show ¬ p.1 = y from fun e => h2 (e.symm.trans h1))]
        simp [h2]
    · rw [if_neg h1]
      by_cases h2 : y = x
      · subst h2; simp [h1]
      · simp [h2]
theorem getM_put (M : List (κ × α)) (x y : κ) (a : α) : getM (putM M x a) y = if y = x then some a else getM M y := by
  unfold putM
  split
  · rename_i h
    rw [getM_map]
    by_cases h2 : y = x
    · subst h2
      obtain ⟨b, hb⟩ := Option.isSome_iff_exists.1 h
      simp [hb]
    · simp [h2]
  · rename_i h
    have hn : getM M x = none := by simpa using h
    rw [getM_append, getM_cons]
    by_cases h2 : y = x
    · subst h2; simp [hn]
    · simp [h2, show ¬ x = y from fun e => h2 e.symm, getM]
theorem getM_del (M : List (κ × α)) (x y : κ) : getM (delM M x) y = if y = x then none else getM M y := by
  induction M with
  | nil => by_cases h : y = x <;> simp [getM, delM, h]
  | cons p M ih =>
    unfold delM at ih ⊢
    rw [List.filter_cons]
    by_cases h1 : p.1 = x
    · rw [if_neg (by simp [h1]), ih, getM_cons]
      by_cases h2 : y = x
      · simp [h2]
      · simp [h2, show ¬ p.1 = y from fun e => h2 (e.symm.trans h1)]
    · rw [if_pos (by simp [h1]), getM_cons, getM_cons, ih]
      by_cases h2 : y = x
      · subst h2; simp [h1]
      · simp [h2]
theorem put_keys (M : List (κ × α)) (x : κ) (a : α) : (putM M x a).map Prod.fst = if (getM M x).isSome then M.map Prod.fst else M.map Prod.fst ++ [x] := by
  unfold putM
  split
  · rw [List.map_map]
    refine List.map_congr_left fun p hp => ?_
    simp only [Function.comp]
    split
    · rename_i h; exact h.symm
    · rfl
  · simp
theorem put_nodup {M : List (κ × α)} (hn : (M.map Prod.fst).Nodup) (x : κ) (a : α) : ((putM M x a).map Prod.fst).Nodup := by
  rw [put_keys]
  split
  · exact hn
  · rename_i h
    have hnone : getM M x = none := by simpa using h
    refine List.nodup_append.2 ⟨hn, by simp, fun y hy z hz => ?_⟩
    simp at hz
    subst hz
    obtain ⟨p, hp, rfl⟩ := List.mem_map.1 hy
    exact getM_none.1 hnone p hp
theorem del_nodup {M : List (κ × α)} (hn : (M.map Prod.fst).Nodup) (x : κ) : ((delM M x).map Prod.fst).Nodup := List.Nodup.sublist ((List.filter_sublist (p := _)).map _) hn
theorem put_mem {M : List (κ × α)} {x : κ} {a : α} {p : κ × α} (h : p ∈ putM M x a) : p = (x, a) ∨ (p ∈ M ∧ p.1 ≠ x) := by
  unfold putM at h
  split at h
  · obtain ⟨q, hq, rfl⟩ := List.mem_map.1 h
    by_cases hx : q.1 = x
    · rw [if_pos hx]; exact .inl rfl
    · rw [if_neg hx]; exact .inr ⟨hq, hx⟩
  · rename_i hs
    rcases List.mem_append.1 h with h | h
    · exact .inr ⟨h, getM_none.1 (by simpa using hs) p h⟩
    · simp at h; exact .inl h
theorem put_put (M : List (κ × α)) (x : κ) (a b : α) : putM (putM M x a) x b = putM M x b := by
  have hs : (getM (putM M x a) x).isSome = true := by rw [getM_put, if_pos rfl]; rfl
  rw [show putM (putM M x a) x b = (putM M x a).map (fun p => if p.1 = x then (x, b) else p) from if_pos hs]
  unfold putM
  split
  · rw [List.map_map]
    refine List.map_congr_left fun p hp => ?_
    simp only [Function.comp]
    by_cases h : p.1 = x <;> simp [h]
  · rename_i h
    have hnone : getM M x = none := by simpa using h
    rw [List.map_append]
    have : M.map (fun p => if p.1 = x then (x, b) else p) = M := by
      conv => rhs; rw [← List.map_id M]
      refine List.map_congr_left fun p hp => ?_
      rw [if_neg (getM_none.1 hnone p hp)]; rfl
    rw [this]
    simp
end

/-! ### maps in memory -/
open Go.Maps Go.MapKept Go.ChangeMaps Go.WideMaps
/-- How keys lie in memory. -/
structure Codec (P : Program) (k : TypeId) (κ : Type) where
  kv : κ → Value
  law : Keyed P k
  inj : ∀ {a b : κ}, kv a = kv b → a = b
def Codec.ok {P : Program} {k : TypeId} {κ : Type} (C : Codec P k κ) (x : κ) : Prop := ∃ l, keyOf P k (C.kv x) = some l

variable {P : Program} {k t e : TypeId} {κ α : Type}
/-- Block b is a map that holds M. -/
def MapS (C : Codec P k κ) (vv : α → Value) (w : World) (b : Nat) (M : List (κ × α)) : Prop :=
  ∃ (es : Array MapEntry) (clock : Nat), w.heap[b]? = some (.map es clock) ∧ es.toList.map (fun e => (e.key, e.val)) = M.map (fun p => (C.kv p.1, vv p.2)) ∧ (∀ p ∈ M, C.ok p.1) ∧ (M.map Prod.fst).Nodup ∧ (es.toList.map (·.born)).Nodup ∧ ∀ e ∈ es.toList, e.born < clock

theorem MapS.nodup {C : Codec P k κ} {vv : α → Value} {w : World} {b : Nat} {M : List (κ × α)} (h : MapS C vv w b M) : (M.map Prod.fst).Nodup := by
  obtain ⟨_, _, _, _, _, h4, _⟩ := h; exact h4
theorem MapS.lt {C : Codec P k κ} {vv : α → Value} {w : World} {b : Nat} {M : List (κ × α)} (h : MapS C vv w b M) : b < w.heap.size := by
  obtain ⟨_, _, h1, _⟩ := h; exact (Array.getElem?_eq_some_iff.1 h1).1
theorem MapS.keep {C : Codec P k κ} {vv : α → Value} {w w' : World} {b : Nat} {M : List (κ × α)} (h : MapS C vv w b M) (hk : w'.heap[b]? = w.heap[b]?) : MapS C vv w' b M := by
  obtain ⟨es, cl, h1, h2⟩ := h
  exact ⟨es, cl, hk.trans h1, h2⟩
theorem MapS.made (C : Codec P k κ) (vv : α → Value) (w : World) : MapS C vv (w.alloc (.map #[] 0)) w.heap.size [] :=
  ⟨#[], 0, heap_alloc_new _ _, by simp, by simp, by simp, by simp, by simp⟩

theorem map_entry {C : Codec P k κ} {vv : α → Value} {es : List MapEntry} {M : List (κ × α)} (hm : es.map (fun e => (e.key, e.val)) = M.map (fun p => (C.kv p.1, vv p.2))) :
    (∀ {j : Nat} {e : MapEntry}, es[j]? = some e → ∃ p, M[j]? = some p ∧ e.key = C.kv p.1 ∧ e.val = vv p.2) ∧ (∀ {j : Nat} {p : κ × α}, M[j]? = some p → ∃ e, es[j]? = some e ∧ e.key = C.kv p.1 ∧ e.val = vv p.2) := by
  constructor
  · intro j e he
    have := congrArg (fun l => l[j]?) hm
    simp only [List.getElem?_map, he, Option.map_some] at this
    obtain ⟨p, hp, h2⟩ := Option.map_eq_some_iff.1 this.symm
    exact ⟨p, hp, (congrArg Prod.fst h2).symm, (congrArg Prod.snd h2).symm⟩
  · intro j p hp
    have := congrArg (fun l => l[j]?) hm
    simp only [List.getElem?_map, hp, Option.map_some] at this
    obtain ⟨e, he, h2⟩ := Option.map_eq_some_iff.1 this
    exact ⟨e, he, congrArg Prod.fst h2, congrArg Prod.snd h2⟩

variable [DecidableEq κ]
/-- What the search for a key finds. -/
theorem MapS.find {C : Codec P k κ} {vv : α → Value} {w : World} {b : Nat} {M : List (κ × α)} (h : MapS C vv w b M) {x : κ} (hx : C.ok x) :
    ∃ es clock, w.heap[b]? = some (.map es clock) ∧ es.toList.map (fun e => (e.key, e.val)) = M.map (fun p => (C.kv p.1, vv p.2)) ∧ (es.toList.map (·.born)).Nodup ∧ (∀ e ∈ es.toList, e.born < clock) ∧
      ((getM M x = none ∧ ∀ W : World, (Instr.findKey k (C.kv x) es.toList).run P W = .ok none W) ∨
        ∃ j a e, M[j]? = some (x, a) ∧ getM M x = some a ∧ es.toList[j]? = some e ∧ e.key = C.kv x ∧ e.val = vv a ∧ ∀ W : World, (Instr.findKey k (C.kv x) es.toList).run P W = .ok (some (j, vv a)) W) := by
  obtain ⟨es, cl, h1, h2, h3, h4, h5, h6⟩ := h
  obtain ⟨l, hl⟩ := hx
  have hks : ∀ e ∈ es.toList, ∃ l, keyOf P k e.key = some l := fun e he => by
    obtain ⟨j, hj⟩ := List.getElem?_of_mem he
    obtain ⟨p, hp, e1, _⟩ := (map_entry h2).1 hj
    rw [e1]
    exact h3 p (List.mem_of_getElem? hp)
  refine ⟨es, cl, h1, h2, h5, h6, ?_⟩
  cases hg : getM M x with
  | none =>
    refine .inl ⟨rfl, fun W => ?_⟩
    rcases C.law.find W hl es.toList hks with ⟨q, _⟩ | ⟨j, e, q, hj, he⟩
    · exact q
    · obtain ⟨p, hp, e1, _⟩ := (map_entry h2).1 hj
      exact absurd (C.inj (e1.symm.trans he)) (getM_none.1 hg p (List.mem_of_getElem? hp))
  | some a =>
    have hmem := getM_some hg
    obtain ⟨j, hj⟩ := List.getElem?_of_mem hmem
    obtain ⟨e, he, e1, e2⟩ := (map_entry h2).2 hj
    refine .inr ⟨j, a, e, hj, rfl, he, e1, e2, fun W => ?_⟩
    rcases C.law.find W hl es.toList hks with ⟨_, q⟩ | ⟨i, e', q, hi, he'⟩
    · exact absurd e1 (q e (List.mem_of_getElem? he))
    · obtain ⟨p, hp, f1, f2⟩ := (map_entry h2).1 hi
      have hpx : p.1 = x := C.inj (f1.symm.trans he')
      have hia : getM M x = some p.2 := getM_mem h4 (by rw [← hpx]; exact List.mem_of_getElem? hp)
      have hij : i = j := by
        have e3 : (M.map Prod.fst)[i]? = some x := by rw [List.getElem?_map, hp]; simp [hpx]
        have e4 : (M.map Prod.fst)[j]? = some x := by rw [List.getElem?_map, hj]; rfl
        exact (List.getElem?_inj (List.getElem?_eq_some_iff.1 e3).1 h4).1 (e3.trans e4.symm)
      subst hij
      rw [hg] at hia
      rw [q, f2, Option.some.inj hia]

/-- 'm[k]' and 'v, ok := m[k]'. -/
theorem MapS.lookup {C : Codec P k κ} {vv : α → Value} {w : World} {b : Nat} {M : List (κ × α)} (h : MapS C vv w b M) (ht : P.underlying t = some (.map k e)) {z : Value} (hz : (zeroValue e).run P w = .ok z w) {x : κ} (hx : C.ok x) (c : Bool) :
    (Instr.lookup t (.map (some b)) (C.kv x) c).run P w = .ok (if c then .tuple #[((getM M x).map vv).getD z, .bool (getM M x).isSome] else ((getM M x).map vv).getD z) w := by
  obtain ⟨es, cl, hb, _, _, _, hf⟩ := h.find hx
  obtain ⟨l, hl⟩ := hx
  rcases hf with ⟨hg, h1⟩ | ⟨j, a, e0, _, hg, _, _, _, h1⟩
  · simp [Instr.lookup, run_underlying ht, MapKept.run_getObj_map hb, C.law.check w _ hl, h1, hz, Result.andThen, hg]
  · simp [Instr.lookup, run_underlying ht, MapKept.run_getObj_map hb, C.law.check w _ hl, h1, Result.andThen, hg]

/-- Nothing but block b has turned, and no block is new. -/
structure Turn (b : Nat) (w w' : World) : Prop where
  os : w'.os = w.os
  tape : w'.tape = w.tape
  output : w'.output = w.output
  size : w'.heap.size = w.heap.size
  block : ∀ i, i ≠ b → w'.heap[i]? = w.heap[i]?
theorem turn_set (w : World) (b : Nat) (o : Obj) : Turn b w (setBlock w b o) := ⟨rfl, rfl, rfl, by simp [setBlock], fun i hi => by simp [setBlock, Array.getElem?_setIfInBounds, show ¬ b = i from fun e => hi e.symm]⟩
theorem set_at {w : World} {b : Nat} {o o' : Obj} (h : w.heap[b]? = some o) : (setBlock w b o').heap[b]? = some o' := by
  have := (Array.getElem?_eq_some_iff.1 h).1
  simp [setBlock, Array.getElem?_setIfInBounds, this]
theorem pairs_set {C : Codec P k κ} {vv : α → Value} {es : List MapEntry} {M : List (κ × α)} (hm : es.map (fun e => (e.key, e.val)) = M.map (fun p => (C.kv p.1, vv p.2))) (hn : (M.map Prod.fst).Nodup) {j : Nat} {x : κ} {a : α} {e0 : MapEntry}
    (hj : M[j]? = some (x, a)) (he : es[j]? = some e0) (a' : α) (e' : MapEntry) (h1 : e'.key = C.kv x) (h2 : e'.val = vv a') :
    (es.set j e').map (fun e => (e.key, e.val)) = (putM M x a').map (fun p => (C.kv p.1, vv p.2)) := by
  have hg : getM M x = some a := getM_mem hn (List.mem_of_getElem? hj)
  unfold putM
  rw [if_pos (by rw [hg]; rfl)]
  refine List.ext_getElem? fun i => ?_
  rw [List.getElem?_map, List.getElem?_map, List.getElem?_map, List.getElem?_set]
  have hjl : j < es.length := (List.getElem?_eq_some_iff.1 he).1
  by_cases hij : j = i
  · subst hij
    rw [if_pos rfl, if_pos hjl, hj]
    simp [h1, h2]
  · rw [if_neg hij]
    have hm' := congrArg (fun l => l[i]?) hm
    simp only [List.getElem?_map] at hm'
    rw [hm']
    cases hi : M[i]? with
    | none => rfl
    | some p =>
      have hpx : p.1 ≠ x := fun hpx => hij ((List.getElem?_inj (by simpa using (List.getElem?_eq_some_iff.1 hj).1) hn).1 (by rw [List.getElem?_map, List.getElem?_map, hj, hi]; simp [hpx]))
      simp [hpx]
theorem ok_put {C : Codec P k κ} {M : List (κ × α)} (h : ∀ p ∈ M, C.ok p.1) {x : κ} (hx : C.ok x) (a : α) : ∀ p ∈ putM M x a, C.ok p.1 := fun p hp => by
  rcases put_mem hp with rfl | ⟨hp, _⟩
  · exact hx
  · exact h p hp
theorem map_set_same {β γ : Type} (f : β → γ) : ∀ (l : List β) (j : Nat) (x y : β), l[j]? = some x → f y = f x → (l.set j y).map f = l.map f
  | [], j, x, y, h, _ => by simp at h
  | z :: l, 0, x, y, h, hf => by simp at h; subst h; simp [hf]
  | z :: l, j + 1, x, y, h, hf => by simp only [List.set_cons_succ, List.map_cons]; rw [map_set_same f l j x y (by simpa using h) hf]
theorem MapS.replaced {C : Codec P k κ} {vv : α → Value} {w : World} {b : Nat} {M : List (κ × α)} (h : MapS C vv w b M) {es : Array MapEntry} {cl : Nat} (hb : w.heap[b]? = some (.map es cl)) {x : κ} (hx : C.ok x) {j : Nat} {a : α} {e0 : MapEntry}
    (hj : M[j]? = some (x, a)) (he : es.toList[j]? = some e0) (a' : α) (f : MapEntry → MapEntry) (h1 : (f e0).key = C.kv x) (h2 : (f e0).val = vv a') (h3 : (f e0).born = e0.born) :
    MapS C vv (setBlock w b (.map (es.modify j f) cl)) b (putM M x a') := by
  obtain ⟨es', cl', g1, g2, g3, g4, g5, g6⟩ := h
  rw [hb] at g1; cases g1
  have hl : (es.modify j f).toList = es.toList.set j (f e0) := by rw [Array.toList_modify, modify_eq_set _ _ _ _ he]
  refine ⟨_, _, set_at hb, by rw [hl]; exact pairs_set g2 g4 hj he a' _ h1 h2, ok_put g3 hx a', put_nodup g4 x a', ?_, fun e he' => ?_⟩
  · rw [hl, map_set_same _ _ _ _ _ he h3]; exact g5
  · rw [hl] at he'
    rcases List.mem_or_eq_of_mem_set he' with he' | rfl
    · exact g6 e he'
    · rw [h3]; exact g6 e0 (List.mem_of_getElem? he)
theorem MapS.pushed {C : Codec P k κ} {vv : α → Value} {w : World} {b : Nat} {M : List (κ × α)} (h : MapS C vv w b M) {es : Array MapEntry} {cl : Nat} (hb : w.heap[b]? = some (.map es cl)) {x : κ} (hx : C.ok x) (hg : getM M x = none) (a' : α) :
    MapS C vv (setBlock w b (.map (es.push ⟨C.kv x, vv a', cl⟩) (cl + 1))) b (putM M x a') := by
  obtain ⟨es', cl', g1, g2, g3, g4, g5, g6⟩ := h
  rw [hb] at g1; cases g1
  have hp : putM M x a' = M ++ [(x, a')] := if_neg (by rw [hg]; simp)
  refine ⟨_, _, set_at hb, by rw [hp]; simp [g2], ok_put g3 hx a', put_nodup g4 x a', ?_, fun e he' => ?_⟩
  · rw [Array.toList_push, List.map_append]
    refine List.nodup_append.2 ⟨g5, by simp, fun y hy z hz => ?_⟩
    simp at hz; subst hz
    obtain ⟨e, he, rfl⟩ := List.mem_map.1 hy
    exact Nat.ne_of_lt (g6 e he)
  · rw [Array.toList_push] at he'
    rcases List.mem_append.1 he' with he' | he'
    · exact Nat.lt_succ_of_lt (g6 e he')
    · simp at he'; subst he'; exact Nat.lt_succ_self _

/-- 'm[k] = v'. -/
theorem MapS.update {C : Codec P k κ} {vv : α → Value} {w : World} {b : Nat} {M : List (κ × α)} (h : MapS C vv w b M) (ht : P.underlying t = some (.map k e)) {x : κ} (hx : C.ok x) (a : α) :
    ∃ w', (Instr.mapUpdate t (.map (some b)) (C.kv x) (vv a)).run P w = .ok () w' ∧ MapS C vv w' b (putM M x a) ∧ Turn b w w' := by
  obtain ⟨es, cl, hb, _, _, _, hf⟩ := h.find hx
  obtain ⟨l, hl⟩ := hx
  rcases hf with ⟨hg, h1⟩ | ⟨j, a0, e0, hj, hg, he, hk, hv, h1⟩
  · refine ⟨_, ?_, h.pushed hb ⟨l, hl⟩ hg a, turn_set _ _ _⟩
    simp [Instr.mapUpdate, run_underlying ht, MapKept.run_getObj_map hb, C.law.check w false hl, h1, MapKept.run_setObj_map _ hb, Result.andThen, setBlock]
  · refine ⟨_, ?_, h.replaced hb ⟨l, hl⟩ hj he a (fun e' => { e' with key := C.kv x, val := vv a }) rfl rfl rfl, turn_set _ _ _⟩
    have he' : es[j]? = some e0 := by simpa using he
    simp [Instr.mapUpdate, run_underlying ht, MapKept.run_getObj_map hb, C.law.check w false hl, h1, he', hk, C.law.stays w hl, MapKept.run_setObj_map _ hb, Result.andThen, setBlock]
theorem del_erase {x : κ} {a : α} : ∀ (M : List (κ × α)) (j : Nat), (M.map Prod.fst).Nodup → M[j]? = some (x, a) → delM M x = M.eraseIdx j
  | [], j, _, h => by simp at h
  | p :: M, 0, hn, h => by
    simp at h; subst h
    rw [List.map_cons, List.nodup_cons] at hn
    unfold delM
    rw [List.filter_cons, if_neg (by simp), List.eraseIdx_cons_zero]
    exact List.filter_eq_self.2 fun p hp => by
      simp only [Bool.not_eq_true', decide_eq_false_iff_not]
      exact fun e => hn.1 (by rw [← e]; exact List.mem_map.2 ⟨p, hp, rfl⟩)
  | p :: M, j + 1, hn, h => by
    rw [List.map_cons, List.nodup_cons] at hn
    have hm : M[j]? = some (x, a) := by simpa using h
    have hne : ¬ p.1 = x := fun e => hn.1 (by rw [e]; exact List.mem_map.2 ⟨_, List.mem_of_getElem? hm, rfl⟩)
    have ih := del_erase M j hn.2 hm
    unfold delM at ih ⊢
    rw [List.filter_cons, if_pos (by simp [hne]), ih, List.eraseIdx_cons_succ]
/-- 'delete(m, k)'. -/
theorem MapS.delete {C : Codec P k κ} {vv : α → Value} {w : World} {b : Nat} {M : List (κ × α)} (h : MapS C vv w b M) (ht : P.underlying t = some (.map k e)) {x : κ} (hx : C.ok x) :
    ∃ w', (∀ ty, (Builtin.delete_ #[t, k] ty #[.map (some b), C.kv x]).run P w = .ok (.tuple #[]) w') ∧ MapS C vv w' b (delM M x) ∧ Turn b w w' := by
  obtain ⟨es, cl, hb, g2, g5, g6, hf⟩ := h.find hx
  obtain ⟨es', cl', g1, g2', g3, g4, _, _⟩ := h
  rw [hb] at g1; cases g1
  obtain ⟨l, hl⟩ := hx
  rcases hf with ⟨hg, h1⟩ | ⟨j, a0, e0, hj, hg, he, hk, hv, h1⟩
  · have hd : delM M x = M := List.filter_eq_self.2 fun p hp => by simpa using getM_none.1 hg p hp
    refine ⟨_, ?_, (⟨es, cl, set_at (o' := .map es cl) hb, by rw [hd]; exact g2, by rw [hd]; exact g3, by rw [hd]; exact g4, g5, g6⟩ : MapS C vv (setBlock w b (.map es cl)) b (delM M x)), turn_set _ _ _⟩
    intro ty
    simp [Builtin.delete_, run_underlying ht, MapKept.run_getObj_map hb, C.law.check w _ hl, h1, MapKept.run_setObj_map _ hb, Result.andThen, setBlock]
  · have hjl : j < es.size := by simpa using (List.getElem?_eq_some_iff.1 he).1
    have hsub : (es.eraseIdxIfInBounds j).toList = es.toList.eraseIdx j := by
      unfold Array.eraseIdxIfInBounds
      rw [dif_pos hjl]
      simp
    have hd : delM M x = M.eraseIdx j := del_erase M j g4 hj
    refine ⟨_, ?_, (⟨es.eraseIdxIfInBounds j, cl, set_at hb, ?_, fun p hp => g3 p ((List.mem_filter.1 hp).1), del_nodup g4 x, ?_, fun e he' => g6 e ((List.eraseIdx_sublist _ _).subset (by rw [← hsub]; exact he'))⟩ : MapS C vv (setBlock w b (.map (es.eraseIdxIfInBounds j) cl)) b (delM M x)), turn_set _ _ _⟩
    · intro ty; simp [Builtin.delete_, run_underlying ht, MapKept.run_getObj_map hb, C.law.check w _ hl, h1, MapKept.run_setObj_map _ hb, Result.andThen, setBlock]
    · rw [hd, hsub, map_eraseIdx, map_eraseIdx, g2]
    · rw [hsub, map_eraseIdx]; exact List.Nodup.sublist (List.eraseIdx_sublist _ _) g5

/-- The entry of x in block b bears this stamp. -/
def Stamp (C : Codec P k κ) (w : World) (b : Nat) (x : κ) (s : Nat) : Prop := ∃ es cl, w.heap[b]? = some (.map es cl) ∧ ∃ e ∈ es.toList, e.key = C.kv x ∧ e.born = s
/-- Each entry of block b keeps its key and its stamp. -/
def Kept1 (w w' : World) (b : Nat) : Prop := ∀ es cl, w.heap[b]? = some (.map es cl) → ∃ es' cl', w'.heap[b]? = some (.map es' cl') ∧ ∀ e ∈ es.toList, ∃ e' ∈ es'.toList, e'.key = e.key ∧ e'.born = e.born
theorem Kept1.same {w w' : World} {b : Nat} (h : w'.heap[b]? = w.heap[b]?) : Kept1 w w' b := fun es cl hb => ⟨es, cl, h.trans hb, fun e he => ⟨e, he, rfl, rfl⟩⟩
omit [DecidableEq κ] in
theorem Stamp.kept {C : Codec P k κ} {w w' : World} {b : Nat} {x : κ} {s : Nat} (h : Stamp C w b x s) (hk : Kept1 w w' b) : Stamp C w' b x s := by
  obtain ⟨es, cl, hb, e, he, h1, h2⟩ := h
  obtain ⟨es', cl', hb', hall⟩ := hk es cl hb
  obtain ⟨e', he', f1, f2⟩ := hall e he
  exact ⟨es', cl', hb', e', he', f1.trans h1, f2.trans h2⟩
theorem kept_modify {w : World} {b : Nat} {es : Array MapEntry} {cl j : Nat} {e0 : MapEntry} (hb : w.heap[b]? = some (.map es cl)) (he : es.toList[j]? = some e0) (f : MapEntry → MapEntry) (h1 : (f e0).key = e0.key) (h2 : (f e0).born = e0.born) : Kept1 w (setBlock w b (.map (es.modify j f) cl)) b := by
  intro es1 cl1 hb1
  rw [hb] at hb1; cases hb1
  refine ⟨_, _, set_at hb, fun e hm => ?_⟩
  rw [Array.toList_modify, modify_eq_set _ _ _ _ he]
  obtain ⟨i, hi⟩ := List.getElem?_of_mem hm
  by_cases hij : i = j
  · subst hij
    rw [he] at hi; cases hi
    exact ⟨_, List.mem_of_getElem? (i := i) (by rw [List.getElem?_set, if_pos rfl, if_pos (List.getElem?_eq_some_iff.1 he).1]), h1, h2⟩
  · exact ⟨e, List.mem_of_getElem? (i := i) (by rw [List.getElem?_set, if_neg (fun c => hij c.symm)]; exact hi), rfl, rfl⟩
theorem kept_push {w : World} {b : Nat} {es : Array MapEntry} {cl cl' : Nat} (hb : w.heap[b]? = some (.map es cl)) (e0 : MapEntry) : Kept1 w (setBlock w b (.map (es.push e0) cl')) b := by
  intro es1 cl1 hb1
  rw [hb] at hb1; cases hb1
  exact ⟨_, _, set_at hb, fun e hm => ⟨e, by simp at hm ⊢; exact .inl hm, rfl, rfl⟩⟩
/-- 'm[k] op= v', the first half: the entry is there behind it. -/
theorem MapS.entry {C : Codec P k κ} {vv : α → Value} {w : World} {b : Nat} {M : List (κ × α)} (h : MapS C vv w b M) (ht : P.underlying t = some (.map k e)) {a0 : α} (hz : (zeroValue e).run P w = .ok (vv a0) w) {x : κ} (hx : C.ok x) :
    ∃ (s : Nat) (w' : World), (Instr.mapEntry t (.map (some b)) (C.kv x)).run P w = .ok (.tuple #[vv ((getM M x).getD a0), .int .i64 s]) w' ∧ MapS C vv w' b (putM M x ((getM M x).getD a0)) ∧ Stamp C w' b x s ∧ Turn b w w' ∧ Kept1 w w' b := by
  obtain ⟨es, cl, hb, _, _, _, hf⟩ := h.find hx
  obtain ⟨l, hl⟩ := hx
  rcases hf with ⟨hg, h1⟩ | ⟨j, a, e0, hj, hg, he, hk, hv, h1⟩
  · refine ⟨cl, _, ?_, by rw [hg]; exact h.pushed hb ⟨l, hl⟩ hg a0, ⟨_, _, set_at hb, ⟨C.kv x, vv a0, cl⟩, by simp, rfl, rfl⟩, turn_set _ _ _, kept_push hb _⟩
    simp [Instr.mapEntry, run_underlying ht, MapKept.run_getObj_map hb, C.law.check w false hl, h1, hz, MapKept.run_setObj_map _ hb, Result.andThen, setBlock, hg, goInt]
  · have he' : es[j]? = some e0 := by simpa using he
    refine ⟨e0.born, _, ?_, by rw [hg]; exact h.replaced hb ⟨l, hl⟩ hj he a (fun e' => { e' with key := C.kv x }) rfl hv rfl, ⟨_, _, set_at hb, { e0 with key := C.kv x }, ?_, rfl, rfl⟩, turn_set _ _ _, kept_modify hb he _ hk.symm rfl⟩
    · simp [Instr.mapEntry, run_underlying ht, MapKept.run_getObj_map hb, C.law.check w false hl, h1, he', hk, C.law.stays w hl, MapKept.run_setObj_map _ hb, Result.andThen, setBlock, hg, goInt]
    · rw [Array.toList_modify, modify_eq_set _ _ _ _ he]
      exact List.mem_of_getElem? (i := j) (by rw [List.getElem?_set, if_pos rfl, if_pos (List.getElem?_eq_some_iff.1 he).1])
/-- The second half: the value is laid. -/
theorem MapS.stored {C : Codec P k κ} {vv : α → Value} {w : World} {b : Nat} {M : List (κ × α)} (h : MapS C vv w b M) {x : κ} (hx : C.ok x) {s : Nat} (hs : Stamp C w b x s) (a : α) :
    ∃ w', (Instr.entryStore t (.map (some b)) (.int .i64 s) (vv a)).run P w = .ok () w' ∧ MapS C vv w' b (putM M x a) ∧ Turn b w w' ∧ Kept1 w w' b := by
  obtain ⟨es, cl, hb, e0, he0, hk0, hb0⟩ := hs
  obtain ⟨es', cl', g1, g2, g3, g4, g5, g6⟩ := id h
  rw [hb] at g1; cases g1
  cases hi : es.findIdx? (fun e => (e.born : Int) == (s : Int)) with
  | none =>
    rw [Array.findIdx?_eq_none_iff] at hi
    have := hi e0 (by simpa using he0)
    simp [hb0] at this
  | some j =>
    obtain ⟨hj, h1, _⟩ := Array.findIdx?_eq_some_iff_getElem.1 hi
    have hbj : (es[j]).born = s := by have := eq_of_beq h1; omega
    have hej : es.toList[j]? = some es[j] := by simp [hj]
    obtain ⟨i, hi0⟩ := List.getElem?_of_mem he0
    have hij : i = j := by
      have e3 : (es.toList.map (·.born))[i]? = some s := by rw [List.getElem?_map, hi0]; simp [hb0]
      have e4 : (es.toList.map (·.born))[j]? = some s := by rw [List.getElem?_map, hej]; simp [hbj]
      exact (List.getElem?_inj (List.getElem?_eq_some_iff.1 e3).1 g5).1 (e3.trans e4.symm)
    subst hij
    obtain ⟨p, hp, f1, f2⟩ := (map_entry g2).1 hi0
    have hpx : p.1 = x := C.inj (f1.symm.trans hk0)
    have hp' : M[i]? = some (x, p.2) := by rw [hp, ← hpx]
    refine ⟨_, ?_, h.replaced hb hx hp' hi0 a (fun e' => { e' with val := vv a }) hk0 rfl rfl, turn_set _ _ _, kept_modify hb hi0 _ rfl rfl⟩
    simp [Instr.entryStore, MapKept.run_getObj_map hb, asInt, asIntOf, hi, MapKept.run_setObj_map _ hb, Result.andThen, setBlock]
end Go.Proofs.YtfmffobdkfgekaaGreat
/- Contracts of small functions: numbers in a range, orders of numbers and strings, keys. -/
set_option linter.unusedVariables false
set_option linter.unusedSimpArgs false
namespace Go.Proofs.YtfmffobdkfgekaaGreat
open Go.RowKit

theorem out_any (n lo hi : Int) (w : World) : Calls Tryz.prog 65 #[.int .i64 n, .int .i64 lo, .int .i64 hi] w fun e w' => e = .returned (.bool (!inB n lo hi)) ∧ w = w' := by
  go_enter Tryz.func65, Tryz.ntmps65
  go_wp2
  all_goals (go_ret; refine ⟨?_, rfl⟩; simp [inB, ← Int.not_le]; try omega)
theorem in_any (n lo hi : Int) (w : World) : Calls Tryz.prog 61 #[.int .i64 n, .int .i64 lo, .int .i64 hi] w fun e w' => e = .returned (.bool (inB n lo hi)) ∧ w = w' := by
  go_enter Tryz.func61, Tryz.ntmps61
  go_wp2
  all_goals (go_ret; refine ⟨?_, rfl⟩; simp [inB]; try omega)
def maxMoment : Int := 345686399999
theorem moment_any (n : Int) (w : World) : Calls Tryz.prog 66 #[.int .i64 n] w fun e w' => e = .returned (.bool (inB n 0 maxMoment)) ∧ w = w' := by
  go_enter Tryz.func66, Tryz.ntmps66
  go_wp2_with (go_at_call 65; refine (out_any _ _ _ _).mono ?_; rintro e w' ⟨rfl, rfl⟩)
  go_ret; exact ⟨by simp [maxMoment], rfl⟩
theorem qmoment_any (n : Int) (w : World) : Calls Tryz.prog 60 #[.int .i64 n] w fun e w' => e = .returned (.bool (inB n 0 maxMoment)) ∧ w = w' := by
  go_enter Tryz.func60, Tryz.ntmps60
  go_wp2_with (go_at_call 61; refine (in_any _ _ _ _).mono ?_; rintro e w' ⟨rfl, rfl⟩)
  go_ret; exact ⟨by simp [maxMoment], rfl⟩
theorem isNaNInt_any (n : Int) (w : World) : Calls Tryz.prog 133 #[.int .i64 n] w fun e w' => e = .returned (.bool false) ∧ w = w' := by
  go_enter Tryz.func133, Tryz.ntmps133
  go_wp2
  all_goals (go_ret; exact ⟨by simp, rfl⟩)
theorem compareInt_any (x y : Int) (w : World) : Calls Tryz.prog 98 #[.int .i64 x, .int .i64 y] w fun e w' => e = .returned (.int .i64 (cmpI x y)) ∧ w = w' := by
  go_enter Tryz.func98, Tryz.ntmps98
  go_wp2_with (go_at_call 133; refine (isNaNInt_any _ _).mono ?_; rintro e w' ⟨rfl, rfl⟩)
  all_goals (go_ret; refine ⟨?_, rfl⟩; unfold cmpI; simp; try omega)
def sgn (n : Int) : Int := if n < 0 then -1 else if 0 < n then 1 else 0
theorem sign_any (n : Int) (w : World) : Calls Tryz.prog 105 #[.int .i64 n] w fun e w' => e = .returned (.int .i64 (sgn n)) ∧ w = w' := by
  go_enter Tryz.func105, Tryz.ntmps105
  go_wp2
  all_goals (go_ret; refine ⟨?_, rfl⟩; unfold sgn; simp; try omega)

end Go.Proofs.YtfmffobdkfgekaaGreat
/- Keys of this program's maps: strings; a team in a week. -/
set_option linter.unusedVariables false
set_option linter.unusedSimpArgs false
namespace Go.Proofs.YtfmffobdkfgekaaGreat
open Go.RowKit Go.Maps

def strC : Codec Tryz.prog 9 ByteArray := ⟨Value.string, string_keyed Tryz.underlying9, fun h => by cases h; rfl⟩
theorem strC_ok {s : ByteArray} (h : s.size ≤ 1000) : strC.ok s := ⟨_, Go.WideMaps.keyOf_string_mk Tryz.underlying9 (by unfold maxLen; omega)⟩
theorem laidOut : laidOutB Tryz.prog = true := by kernel_rfl
def weekC : Codec Tryz.prog 192 (ByteArray × Int) := ⟨fun p => .agg #[.string p.1, .int .i64 p.2], Keyed.of_law (deep_law_laid laidOut (m := 2) (by omega) (Nat.le_of_ble_eq_true (by kernel_rfl)) (by kernel_rfl) (by kernel_rfl)), fun {a b} h => by
  obtain ⟨a1, a2⟩ := a; obtain ⟨b1, b2⟩ := b; simp at h; simp [h]⟩
theorem weekT : Tryz.prog.keyType 192 = true := by kernel_rfl
theorem weekCells : Tryz.prog.cellsOf 192 = 2 := by kernel_rfl
theorem strCells : Tryz.prog.cellsOf 9 = 1 := by kernel_rfl
theorem intCells : Tryz.prog.cellsOf 3 = 1 := by kernel_rfl
theorem someTypes : ∃ d, Tryz.prog.types.size + 1 = d + 2 := by
  have : 1 ≤ Tryz.prog.types.size := Nat.le_of_ble_eq_true (by kernel_rfl)
  exact ⟨Tryz.prog.types.size - 1, by omega⟩
theorem weekC_ok {s : ByteArray} {n : Int} (h : s.size ≤ 1000) (h1 : -9223372036854775808 ≤ n) (h2 : n ≤ 9223372036854775807) : weekC.ok (s, n) := by
  obtain ⟨d, hd⟩ := someTypes
  have hs : s.size ≤ maxLen := by unfold maxLen; omega
  have hw : (Lit.int IntKind.i64 n).wf = true := WalkArith.wf_i64 (by omega)
  have hl : Tryz.prog.keyLits (d + 2) 192 [.string s, .int .i64 n] = some [.string s.data.toList, .int .i64 n] := by
    unfold Program.keyLits
    simp [Tryz.underlying192, weekCells]
    unfold Program.keyLits
    simp [Tryz.underlying9, Tryz.underlying3, strCells, intCells, hs, hw]
  refine ⟨.string (keyBytes [.string s.data.toList, .int .i64 n]), ?_⟩
  show keyOf Tryz.prog 192 (.agg #[.string s, .int .i64 n]) = some _
  unfold keyOf
  rw [Tryz.underlying192, hd]
  simp [weekT, Value.formed, Tryz.underlying192, weekCells, Value.cells, hl]
end Go.Proofs.YtfmffobdkfgekaaGreat
/- Rows of records: one record is written. -/
set_option linter.unusedVariables false
set_option linter.unusedSimpArgs false
namespace Go.Proofs.YtfmffobdkfgekaaGreat
open Go.RowKit

def setL : List Value → Nat → List Value → List Value
  | L, _, [] => L
  | L, a, v :: vs => setL (L.set a v) (a + 1) vs
theorem setL_len (vs : List Value) : ∀ (L : List Value) (a : Nat), (setL L a vs).length = L.length := by
  induction vs with
  | nil => intro L a; rfl
  | cons v vs ih => intro L a; simp only [setL, ih, List.length_set]
theorem setL_get (vs : List Value) : ∀ (L : List Value) (a t : Nat), t < L.length → (setL L a vs)[t]? = if a ≤ t ∧ t < a + vs.length then vs[t - a]? else L[t]? := by
  induction vs with
  | nil => intro L a t _; rw [if_neg (by simp only [List.length_nil]; omega)]; rfl
  | cons v vs ih =>
    intro L a t ht
    simp only [setL]
    rw [ih _ _ _ (by simpa using ht)]
    by_cases h1 : a + 1 ≤ t ∧ t < a + 1 + vs.length
    · rw [if_pos h1, if_pos ⟨by omega, by simp; omega⟩, show t - a = (t - (a + 1)) + 1 by omega, List.getElem?_cons_succ]
    · rw [if_neg h1, List.getElem?_set]
      by_cases h2 : a = t
      · subst h2
        rw [if_pos rfl, if_pos ht, if_pos ⟨Nat.le_refl _, by simp only [List.length_cons]; omega⟩, Nat.sub_self]; rfl
      · rw [if_neg h2, if_neg (by simp; omega)]
theorem flat_set {α : Type} {f : α → List Value} {sz : Nat} (hf : ∀ x, (f x).length = sz) (hz : 0 < sz) (l : List α) (k : Nat) (x : α) : setL (l.flatMap f) (k * sz) (f x) = (l.set k x).flatMap f := by
  refine List.ext_getElem? fun t => ?_
  have hlen : (l.flatMap f).length = l.length * sz := flat_len hf l
  by_cases ht : t < l.length * sz
  · have hq : t / sz < l.length := (Nat.div_lt_iff_lt_mul hz).2 ht
    have hr := Nat.mod_lt t hz
    have hd := Nat.div_add_mod t sz
    rw [Nat.mul_comm] at hd
    rw [setL_get _ _ _ _ (by omega), hf]
    have hin : (k * sz ≤ t ∧ t < k * sz + sz) ↔ t / sz = k := by
      constructor
      · rintro ⟨h1, h2⟩
        have h3 : k ≤ t / sz := (Nat.le_div_iff_mul_le hz).2 h1
        have h4 : t / sz < k + 1 := (Nat.div_lt_iff_lt_mul hz).2 (by rw [Nat.add_mul]; omega)
        omega
      · rintro rfl; omega
    by_cases h : t / sz = k
    · rw [if_pos (hin.2 h)]
      have hx : (l.set k x)[t / sz]? = some x := by rw [← h]; simp [hq]
      have h5 := flat_at hf _ _ _ (t % sz) hx hr
      rw [hd] at h5
      rw [h5, show t - k * sz = t % sz by rw [← h]; omega]
    · rw [if_neg (fun c => h (hin.1 c))]
      obtain ⟨y, hy⟩ : ∃ y, l[t / sz]? = some y := ⟨_, List.getElem?_eq_getElem hq⟩
      have h5 := flat_at hf _ _ _ (t % sz) hy hr
      have hx : (l.set k x)[t / sz]? = some y := by rw [List.getElem?_set_ne (by omega)]; exact hy
      have h6 := flat_at hf _ _ _ (t % sz) hx hr
      rw [hd] at h5 h6
      rw [h5, h6]
  · rw [List.getElem?_eq_none (by rw [setL_len, hlen]; omega), List.getElem?_eq_none (by rw [flat_len hf]; simp; omega)]

theorem setCells_heap {g : Nat} {e : TypeId} (vs : List Value) : ∀ {w : World} {cur : Array Value} (a : Nat), w.heap[g]? = some (.cells cur e (0, 0)) →
    ∃ cur' : Array Value, (w.setCells g a vs).heap[g]? = some (.cells cur' e (0, 0)) ∧ cur'.toList = setL cur.toList a vs := by
  induction vs with
  | nil => intro w cur a h; exact ⟨cur, h, rfl⟩
  | cons v vs ih =>
    intro w cur a h
    have h1 : (w.setCell ⟨g, a, none⟩ v).heap[g]? = some (.cells (cur.setIfInBounds a v) e (0, 0)) := by simp [World.setCell, Array.getElem?_modify, h]
    obtain ⟨cur', h2, h3⟩ := ih (a + 1) h1
    exact ⟨cur', h2, by rw [h3]; simp [setL]⟩
theorem setCells_other {g : Nat} (vs : List Value) : ∀ {w : World} (a : Nat), (w.setCells g a vs).heap.size = w.heap.size ∧ (w.setCells g a vs).os = w.os ∧ (w.setCells g a vs).tape = w.tape ∧ (w.setCells g a vs).output = w.output ∧ ∀ i, i ≠ g → (w.setCells g a vs).heap[i]? = w.heap[i]? := by
  induction vs with
  | nil => intro w a; exact ⟨rfl, rfl, rfl, rfl, fun _ _ => rfl⟩
  | cons v vs ih =>
    intro w a
    obtain ⟨h1, h2, h3, h4, h5⟩ := ih (w := w.setCell ⟨g, a, none⟩ v) (a + 1)
    exact ⟨by rw [show w.setCells g a (v :: vs) = (w.setCell ⟨g, a, none⟩ v).setCells g (a + 1) vs from rfl, h1]; simp [World.setCell], h2, h3, h4, fun i hi => (h5 i hi).trans (Below.heap_setCell _ _ _ _ hi)⟩

/-- A record is written into a row of the call's own. -/
theorem own_setCells {w : World} {base g cap n : Nat} {e : TypeId} {α : Type} {f : α → List Value} {sz : Nat} (hf : ∀ x, (f x).length = sz) (hz : 0 < sz) {l : List α} (h : w.ownsRow base e sz (.slice (some ⟨g, 0, none⟩) n cap) n (l.flatMap f)) {k : Nat} (hk : k < n) (x : α) :
    (w.setCells g (k * sz) (f x)).ownsRow base e sz (.slice (some ⟨g, 0, none⟩) n cap) n ((l.set k x).flatMap f) := by
  obtain ⟨h1, h2⟩ := h
  rcases h2 with ⟨h2, _⟩ | ⟨g', cap', cur, h2, hb, hg, hnc, hcm, hcs, ht⟩
  · cases h2
  · cases h2
    obtain ⟨cur', h3, h4⟩ := setCells_heap (w := w) (f x) (k * sz) hg
    have hll : l.length * sz = n * sz := by rw [flat_len hf] at h1; exact h1
    have hcl : cur'.size = cur.size := by rw [← Array.length_toList, h4, setL_len, Array.length_toList]
    refine ⟨by rw [flat_len hf]; simpa using hll, .inr ⟨g, cap, cur', rfl, hb, h3, hnc, hcm, by rw [hcl]; exact hcs, ?_⟩⟩
    rw [← flat_set hf hz, ← ht, h4]
    refine List.ext_getElem? fun t => ?_
    rw [List.getElem?_take]
    have hcc : n * sz ≤ cur.toList.length := by rw [Array.length_toList, hcs]; exact Nat.mul_le_mul_right _ hnc
    by_cases h5 : t < n * sz
    · rw [if_pos h5, setL_get _ _ _ _ (by omega), setL_get _ _ _ _ (by rw [List.length_take]; omega)]
      by_cases h6 : k * sz ≤ t ∧ t < k * sz + (f x).length
      · rw [if_pos h6, if_pos h6]
      · rw [if_neg h6, if_neg h6, List.getElem?_take, if_pos h5]
    · rw [if_neg h5, List.getElem?_eq_none (by rw [setL_len, List.length_take]; omega)]
/-- Cells behind the first k elements are written: the first k are still owned. -/
theorem own_prefix {w : World} {base g cap n : Nat} {e : TypeId} {sz : Nat} {vs : List Value} (h : w.ownsRow base e sz (.slice (some ⟨g, 0, none⟩) n cap) n vs) {k : Nat} (hk : k ≤ n) (us : List Value) :
    (w.setCells g (k * sz) us).ownsRow base e sz (.slice (some ⟨g, 0, none⟩) k cap) k (vs.take (k * sz)) := by
  obtain ⟨h1, h2⟩ := h
  rcases h2 with ⟨h2, _⟩ | ⟨g', cap', cur, h2, hb, hg, hnc, hcm, hcs, ht⟩
  · cases h2
  · cases h2
    obtain ⟨cur', h3, h4⟩ := setCells_heap (w := w) us (k * sz) hg
    have hkn : k * sz ≤ n * sz := Nat.mul_le_mul_right _ hk
    have hcl : cur'.size = cur.size := by rw [← Array.length_toList, h4, setL_len, Array.length_toList]
    refine ⟨by rw [List.length_take, h1]; omega, .inr ⟨g, cap, cur', rfl, hb, h3, by omega, hcm, by rw [hcl]; exact hcs, ?_⟩⟩
    rw [← ht, h4, List.take_take, Nat.min_eq_left hkn]
    refine List.ext_getElem? fun t => ?_
    rw [List.getElem?_take, List.getElem?_take]
    have hcc : n * sz ≤ cur.toList.length := by rw [Array.length_toList, hcs]; exact Nat.mul_le_mul_right _ hnc
    by_cases h5 : t < k * sz
    · rw [if_pos h5, if_pos h5, setL_get _ _ _ _ (by omega), if_neg (by omega)]
    · rw [if_neg h5, if_neg h5]
theorem flat_take {α : Type} {f : α → List Value} {sz : Nat} (hf : ∀ x, (f x).length = sz) : ∀ (l : List α) (k : Nat), (l.flatMap f).take (k * sz) = (l.take k).flatMap f
  | [], k => by simp
  | x :: l, 0 => by simp
  | x :: l, k + 1 => by
    rw [List.flatMap_cons, List.take_succ_cons, List.flatMap_cons, ← flat_take hf l k, Nat.add_mul, Nat.one_mul, Nat.add_comm, ← hf x, List.take_length_add_append]
theorem gr_setCells {w : World} (g a : Nat) (vs : List Value) : w.grownBy (w.setCells g a vs) (some g) := by
  obtain ⟨h1, h2, h3, h4, h5⟩ := setCells_other (g := g) vs (w := w) a
  exact ⟨h2, h3, h4, by omega, fun i _ hne => h5 i (by simpa using hne)⟩
end Go.Proofs.YtfmffobdkfgekaaGreat
/- Contracts of the stream that hands out numbers: each hand-out is in its range, and turns the stream's own block alone. -/
set_option linter.unusedVariables false
set_option linter.unusedSimpArgs false
namespace Go.Proofs.YtfmffobdkfgekaaGreat
open Go.RowKit

/-- The stream in block b, good for n more numbers. -/
def SOk (w : World) (b n : Nat) : Prop := ∃ (k : Nat) (A : Option Addr) (len c : Nat), w.heap[b]? = some (.cells #[.slice A len c, .int .i64 k] 25 (0, 0)) ∧ k + n ≤ 1000000000000 ∧
  len ≤ 1000000000000000000 ∧ (∀ i, i < len → ∃ ab ao x, A = some ⟨ab, ao, none⟩ ∧ ab < b ∧ w.cell? ⟨ab, ao + i, none⟩ = some (.int .i64 x) ∧ -9223372036854775808 ≤ x ∧ x ≤ 9223372036854775807)
/-- Nothing but block b has turned. -/
def Gr (b : Nat) (w w' : World) : Prop := w.grownBy w' (some b)

theorem SOk.mono {w : World} {b n m : Nat} (h : SOk w b n) (hm : m ≤ n) : SOk w b m := by
  obtain ⟨k, A, len, c, h1, h2, h3⟩ := h
  exact ⟨k, A, len, c, h1, by omega, h3⟩
theorem SOk.lt {w : World} {b n : Nat} (h : SOk w b n) : b < w.heap.size := by
  obtain ⟨k, A, len, c, h1, _⟩ := h
  exact (Array.getElem?_eq_some_iff.1 h1).1
theorem SOk.keep {w w' : World} {b n : Nat} (h : SOk w b n) (hk : ∀ i, i ≤ b → w'.heap[i]? = w.heap[i]?) : SOk w' b n := by
  obtain ⟨k, A, len, c, h1, h2, h3, h4⟩ := h
  refine ⟨k, A, len, c, by rw [hk b (Nat.le_refl _)]; exact h1, h2, h3, fun i hi => ?_⟩
  obtain ⟨ab, ao, x, e1, e2, e3, e4⟩ := h4 i hi
  refine ⟨ab, ao, x, e1, e2, ?_, e4⟩
  rw [World.cell?_of_block (w := w) (hk ab (by omega))]; exact e3
theorem SOk.below {w w' : World} {b n B : Nat} (h : SOk w b n) (hb : Below B w w') (hB : b < B) : SOk w' b n := h.keep fun i hi => hb.block i (by omega)
theorem Gr.refl (b : Nat) (w : World) : Gr b w w := ⟨rfl, rfl, rfl, Nat.le_refl _, fun _ _ _ => rfl⟩
theorem Gr.trans {b : Nat} {w w1 w2 : World} (h : Gr b w w1) (k : Gr b w1 w2) : Gr b w w2 :=
  ⟨k.os.trans h.os, k.tape.trans h.tape, k.output.trans h.output, Nat.le_trans h.size k.size, fun i hi hne => (k.block i (by have := h.size; omega) hne).trans (h.block i hi hne)⟩
theorem Gr.of_below {b : Nat} {w w' : World} (h : Below w.heap.size w w') : Gr b w w' := ⟨h.os, h.tape, h.output, h.size, fun i hi _ => h.block i hi⟩
theorem Gr.below {b : Nat} {w w' : World} (h : Gr b w w') (hb : b ≤ w.heap.size) : Below b w w' := ⟨h.os, h.tape, h.output, h.size, fun i hi => h.block i (by omega) (by simp; omega)⟩

theorem below_ex (x n : Int) (w : World) (hx : -9223372036854775808 ≤ x) (hx2 : x ≤ 9223372036854775807) (hn2 : n ≤ 4611686018427387904) :
    Calls Tryz.prog 106 #[.int .i64 x, .int .i64 n] w fun e w' => (∃ m : Int, e = .returned (.int .i64 m) ∧ 0 ≤ m ∧ (m < n ∨ m = 0)) ∧ w = w' := by
  by_cases hn : n < 1
  · go_enter Tryz.func106, Tryz.ntmps106
    go_wp2
    go_ret
    exact ⟨⟨0, rfl, by omega, by omega⟩, rfl⟩
  have hb : x.tmod n < n := Int.tmod_lt_of_pos x (by omega)
  have hb2 : -n < x.tmod n := by have := Int.lt_tmod_of_pos x (show 0 < n by omega); omega
  go_enter Tryz.func106, Tryz.ntmps106
  go_wp2
  all_goals (go_ret; exact ⟨⟨_, rfl, by omega, by omega⟩, rfl⟩)

theorem w64_range (x : Int) : -9223372036854775808 ≤ wrap64 x ∧ wrap64 x ≤ 9223372036854775807 := by unfold wrap64; omega

theorem next_cells {w : World} {b : Nat} {k : Nat} {A : Option Addr} {len c : Nat} {T : TypeId} (h : w.heap[b]? = some (.cells #[.slice A len c, .int .i64 k] T (0, 0))) :
    w.cell? ⟨b, 0, none⟩ = some (.slice A len c) ∧ w.cell? ⟨b, 1, none⟩ = some (.int .i64 k) ∧ w.frozen? ⟨b, 1, none⟩ = false := by
  simp [World.cell?, World.frozen?, h]

theorem next_after {w : World} {b n : Nat} {q : Nat} {k : Nat} {A : Option Addr} {len c : Nat} (h1 : w.heap[b]? = some (.cells #[.slice A len c, .int .i64 k] 25 (0, 0))) (h2 : k + (n + 1) ≤ 1000000000000)
    (h3 : len ≤ 1000000000000000000) (h4 : ∀ i, i < len → ∃ ab ao x, A = some ⟨ab, ao, none⟩ ∧ ab < b ∧ w.cell? ⟨ab, ao + i, none⟩ = some (.int .i64 x) ∧ -9223372036854775808 ≤ x ∧ x ≤ 9223372036854775807) :
    SOk ((w.setCell ⟨b, 1, none⟩ (.int .i64 ((k : Int) + 1))).drewN q) b n ∧ Gr b w ((w.setCell ⟨b, 1, none⟩ (.int .i64 ((k : Int) + 1))).drewN q) := by
  refine ⟨⟨k + 1, A, len, c, ?_, by omega, h3, fun i hi => ?_⟩, ⟨rfl, rfl, rfl, by simp [World.setCell], fun i hi hne => ?_⟩⟩
  · show (w.setCell _ _).heap[b]? = _
    simp [World.setCell, Array.getElem?_modify, h1]
  · obtain ⟨ab, ao, x, e1, e2, e3, e4⟩ := h4 i hi
    refine ⟨ab, ao, x, e1, e2, ?_, e4⟩
    show (w.setCell _ _).cell? _ = _
    rw [World.cell?_of_block (w := w) (Below.heap_setCell _ _ _ _ (show ab ≠ b by omega))]; exact e3
  · exact Below.heap_setCell _ _ _ _ (by simpa using hne)

set_option maxHeartbeats 400000 in
theorem next_any (b n : Nat) (m : Int) (w : World) (hs : SOk w b (n + 1)) (hm : m ≤ 4611686018427387904) :
    Calls Tryz.prog 52 #[.pointer (some ⟨b, 0, none⟩), .int .i64 m] w fun e w' => (∃ r : Int, e = .returned (.int .i64 r) ∧ 0 ≤ r ∧ (r < m ∨ r = 0)) ∧ SOk w' b n ∧ Gr b w w' := by
  obtain ⟨k, A, len, c, h1, h2, h3, h4⟩ := hs
  obtain ⟨hc0, hc1, hf⟩ := next_cells h1
  have hk : k < 1000000000000 := by omega
  have hend := fun q => next_after (q := q) h1 h2 h3 h4
  have HE := Lib.hid hend
  have H1 := Lib.hid h1
  clear hend h1
  by_cases h0 : len = 0
  · subst h0
    clear h4
    go_enter Tryz.func52, Tryz.ntmps52
    go_wp2_with fail
    refine (below_ex _ _ _ (by omega) (by omega) hm).mono ?_
    rintro e w' ⟨⟨r, rfl, hr0, hr⟩, rfl⟩
    go_wp2
    go_ret
    exact ⟨⟨r, rfl, hr0, hr⟩, HE.out 0⟩
  · have e0 : ((len : Int) == 0) = false := by simpa using h0
    have hpos : 0 < len := by omega
    obtain ⟨ab, ao, x, rfl, e2, e3, e4, e5⟩ := h4 (k % len) (Nat.mod_lt _ hpos)
    clear h4
    have hix : 0 ≤ (k : Int) % (len : Int) ∧ (k : Int) % (len : Int) < (len : Int) := ⟨Int.emod_nonneg _ (by omega), Int.emod_lt_of_pos _ (by omega)⟩
    go_enter Tryz.func52, Tryz.ntmps52
    go_wp2
    go_quiet (fail)
    go_wp2
    go_quiet (fail)
    go_wp2_with fail
    refine (below_ex _ _ _ (by omega) (by omega) (by omega)).mono ?_
    rintro e w' ⟨⟨r1, rfl, hr1, hr2⟩, rfl⟩
    go_wp2_with fail
    refine (below_ex _ _ _ (w64_range _).1 (w64_range _).2 hm).mono ?_
    rintro e w' ⟨⟨r, rfl, hr0, hr⟩, rfl⟩
    go_wp2
    go_ret
    exact ⟨⟨r, rfl, hr0, hr⟩, HE.out _⟩

theorem Sl.gr {b lo : Nat} {w w' : World} {v : Value} {sz n : Nat} {vs : List Value} (h : Sl lo w v sz n vs) (hg : Gr b w w') (hl : b < lo) : Sl lo w' v sz n vs :=
  h.keep hg.size fun i hi hs => hg.block i hs (by simp; omega)

theorem range_any (b n : Nat) (lo hi : Int) (w : World) (hs : SOk w b (n + 1)) (h1 : -1152921504606846976 ≤ lo) (h2 : lo ≤ 1152921504606846976) (h3 : -1152921504606846976 ≤ hi) (h4 : hi ≤ 1152921504606846976) :
    Calls Tryz.prog 8 #[.pointer (some ⟨b, 0, none⟩), .int .i64 lo, .int .i64 hi] w fun e w' => (∃ r : Int, e = .returned (.int .i64 r) ∧ lo ≤ r ∧ (r ≤ hi ∨ r = lo)) ∧ SOk w' b n ∧ Gr b w w' := by
  by_cases h : hi < lo
  · go_enter Tryz.func8, Tryz.ntmps8
    go_wp2
    go_ret
    exact ⟨⟨_, rfl, by omega, by omega⟩, hs.mono (by omega), Gr.refl _ _⟩
  · go_enter Tryz.func8, Tryz.ntmps8
    go_wp2_with fail
    refine (next_any b n _ _ hs (by omega)).mono ?_
    rintro e w' ⟨⟨r, rfl, hr0, hr⟩, hs', hg⟩
    go_wp2
    go_ret
    exact ⟨⟨_, rfl, by omega, by omega⟩, hs', hg⟩
theorem flip_any (b n : Nat) (m : Int) (w : World) (hs : SOk w b (n + 1)) (hm : m ≤ 1152921504606846976) :
    Calls Tryz.prog 46 #[.pointer (some ⟨b, 0, none⟩), .int .i64 m] w fun e w' => (∃ r : Bool, e = .returned (.bool r)) ∧ SOk w' b n ∧ Gr b w w' := by
  go_enter Tryz.func46, Tryz.ntmps46
  go_wp2_with fail
  refine (next_any b n _ _ hs (by omega)).mono ?_
  rintro e w' ⟨⟨r, rfl, hr0, hr⟩, hs', hg⟩
  go_wp2
  go_ret
  exact ⟨⟨_, rfl⟩, hs', hg⟩
theorem pick_any (b n m : Nat) (v : Value) (xs : List Int) (w : World) (hs : SOk w b (n + 1)) (hx : Sl (b + 1) w v 1 m (xs.map (Value.int .i64))) (hm : 0 < m) :
    Calls Tryz.prog 48 #[.pointer (some ⟨b, 0, none⟩), v] w fun e w' => (∃ r : Int, e = .returned (.int .i64 r) ∧ r ∈ xs) ∧ SOk w' b n ∧ Gr b w w' := by
  obtain ⟨A, c, rfl⟩ : ∃ A c, v = .slice A m c := by obtain ⟨_, _, A, c, h, _⟩ := hx; exact ⟨A, c, h⟩
  have hm2 := hx.2.1
  have hlen := hx.1
  go_enter Tryz.func48, Tryz.ntmps48
  go_wp2_with fail
  refine (next_any b n _ _ hs (by omega)).mono ?_
  rintro e w' ⟨⟨r, rfl, hr0, hr⟩, hs', hg⟩
  have hx' := hx.gr hg (by omega)
  have hrl : r.toNat < xs.length := by simp at hlen; omega
  obtain ⟨bb, o, rfl, h1, h2, h3⟩ := hx'.cell (j := r.toNat) (u := .int .i64 xs[r.toNat]) (by simp [hrl])
  have hix : 0 ≤ r ∧ r < (m : Int) := ⟨hr0, by omega⟩
  obtain ⟨y, hy⟩ : ∃ y, y = xs[r.toNat] := ⟨_, rfl⟩
  rw [← hy] at h3
  have HY := Lib.hid hy
  clear hy
  go_wp2
  go_ret
  exact ⟨⟨_, rfl, by rw [HY.out]; exact List.getElem_mem _⟩, hs', hg⟩
theorem some_any (b n m : Nat) (v : Value) (xs : List ByteArray) (w : World) (hs : SOk w b (n + 1)) (hx : Sl (b + 1) w v 1 m (xs.map Value.string)) (hm : 0 < m) :
    Calls Tryz.prog 22 #[.pointer (some ⟨b, 0, none⟩), v] w fun e w' => (∃ r : ByteArray, e = .returned (.string r) ∧ r ∈ xs) ∧ SOk w' b n ∧ Gr b w w' := by
  obtain ⟨A, c, rfl⟩ : ∃ A c, v = .slice A m c := by obtain ⟨_, _, A, c, h, _⟩ := hx; exact ⟨A, c, h⟩
  have hm2 := hx.2.1
  have hlen := hx.1
  go_enter Tryz.func22, Tryz.ntmps22
  go_wp2_with fail
  refine (next_any b n _ _ hs (by omega)).mono ?_
  rintro e w' ⟨⟨r, rfl, hr0, hr⟩, hs', hg⟩
  have hx' := hx.gr hg (by omega)
  have hrl : r.toNat < xs.length := by simp at hlen; omega
  obtain ⟨bb, o, rfl, h1, h2, h3⟩ := hx'.cell (j := r.toNat) (u := .string xs[r.toNat]) (by simp [hrl])
  have hix : 0 ≤ r ∧ r < (m : Int) := ⟨hr0, by omega⟩
  obtain ⟨y, hy⟩ : ∃ y, y = xs[r.toNat] := ⟨_, rfl⟩
  rw [← hy] at h3
  have HY := Lib.hid hy
  clear hy
  go_wp2
  go_ret
  exact ⟨⟨_, rfl, by rw [HY.out]; exact List.getElem_mem _⟩, hs', hg⟩

theorem alloc_at {w : World} {m : Nat} (o : Obj) (hm : w.heap.size = m) : (w.alloc o).heap[m]? = some o := by subst hm; exact heap_alloc_new _ _
theorem alloc_size (w : World) (o : Obj) : (w.alloc o).heap.size = w.heap.size + 1 := by simp
theorem Sl.lit {w : World} {e : TypeId} {sz n m lo : Nat} {vs : List Value} {cs : Array Value} (hm : w.heap.size = m) (hlo : lo ≤ m) (hc : cs.toList = vs) (hl : vs.length = n * sz) (hn : n ≤ 1099511627776) :
    Sl lo (w.alloc (.cells cs e)) (.slice (some ⟨m, 0, none⟩) n n) sz n vs := (Sl.made hl hn m cs hc (alloc_at _ hm)).mono hlo

theorem own_gr {w w' : World} {base b : Nat} {e : TypeId} {sz n : Nat} {v : Value} {vs : List Value} (h : w.ownsRow base e sz v n vs) (hg : Gr b w w') (hb : b < base) : w'.ownsRow base e sz v n vs :=
  h.kept hg (by
    cases hv : v.ownBlock with
    | none => exact .inl rfl
    | some k => exact .inr (by have := (h.lt k hv).1; simp; omega))
/-! ### a walk of the stream: the world when it began, the world now -/
structure St (b n : Nat) (w0 w : World) : Prop where
  s : SOk w b n
  g : Gr b w0 w
theorem St.start {w : World} {b n : Nat} (h : SOk w b n) : St b n w w := ⟨h, Gr.refl _ _⟩
theorem St.mono {w0 w : World} {b n m : Nat} (h : St b n w0 w) (hm : m ≤ n) : St b m w0 w := ⟨h.s.mono hm, h.g⟩
theorem St.alloc {w0 w : World} {b n : Nat} (h : St b n w0 w) (o : Obj) : St b n w0 (w.alloc o) :=
  ⟨h.s.below ((Below.refl w.heap.size w).alloc (Nat.le_refl _) o) h.s.lt, h.g.trans (Gr.of_below ((Below.refl w.heap.size w).alloc (Nat.le_refl _) o))⟩
theorem St.setCell {w0 w : World} {b n : Nat} (h : St b n w0 w) {p : Addr} (hb : b < w0.heap.size) (hp : w0.heap.size ≤ p.block) (u : Value) : St b n w0 (w.setCell p u) :=
  ⟨h.s.keep fun i hi => Below.heap_setCell _ _ _ _ (by omega), ⟨h.g.os, h.g.tape, h.g.output, by simpa [World.setCell] using h.g.size, fun i hi hne => (Below.heap_setCell _ _ _ _ (by omega)).trans (h.g.block i hi hne)⟩⟩
theorem St.call {w0 w w' : World} {b n m : Nat} (h : St b n w0 w) (hs : SOk w' b m) (hg : Gr b w w') : St b m w0 w' := ⟨hs, h.g.trans hg⟩
theorem St.then {w0 w w' : World} {b n m : Nat} (h : St b n w0 w) (h' : St b m w w') : St b m w0 w' := ⟨h'.s, h.g.trans h'.g⟩
theorem St.below {w0 w w' : World} {b n : Nat} (h : St b n w0 w) (hb : Below w.heap.size w w') : St b n w0 w' := ⟨h.s.below hb h.s.lt, h.g.trans (Gr.of_below hb)⟩
theorem St.drewN {w0 w : World} {b n : Nat} (h : St b n w0 w) (q : Nat) : St b n w0 (w.drewN q) := ⟨h.s.keep fun _ _ => rfl, ⟨h.g.os, h.g.tape, h.g.output, h.g.size, h.g.block⟩⟩
theorem St.grown {w0 w w' : World} {b n : Nat} (h : St b n w0 w) {row : Option Nat} (hg : w.grownBy w' row) (hb : b < w0.heap.size) (hr : ∀ k, row = some k → w0.heap.size ≤ k) : St b n w0 w' :=
  ⟨h.s.keep fun i hi => hg.block i (by have := h.s.lt; omega) (fun e => by have := hr i e.symm; omega), ⟨hg.os.trans h.g.os, hg.tape.trans h.g.tape, hg.output.trans h.g.output, Nat.le_trans h.g.size hg.size, fun i hi hne => (hg.block i (by have := h.g.size; omega) (fun e => by have := hr i e.symm; omega)).trans (h.g.block i hi hne)⟩⟩
/-- A block beside the stream's stands. -/
theorem St.block {w0 w : World} {b n i : Nat} (h : St b n w0 w) {o : Obj} (hi : w0.heap[i]? = some o) (hne : i ≠ b) : w.heap[i]? = some o := by
  rw [h.g.block i (Array.getElem?_eq_some_iff.1 hi).1 (by simpa using hne)]; exact hi
theorem odd_any (b n : Nat) (lo hi : Int) (w : World) (hs : SOk w b (n + 2)) (h1 : -1099511627776 ≤ lo) (h2 : lo ≤ 1099511627776) (h3 : -1099511627776 ≤ hi) (h4 : hi ≤ 1099511627776) :
    Calls Tryz.prog 47 #[.pointer (some ⟨b, 0, none⟩), .int .i64 lo, .int .i64 hi] w fun e w' => (∃ r : Int, e = .returned (.int .i64 r) ∧ -1099511627777 ≤ r ∧ r ≤ 1099511627777) ∧ St b n w w' := by
  go_enter Tryz.func47, Tryz.ntmps47
  go_wp2_with fail
  refine (flip_any b (n + 1) _ _ hs (by omega)).mono ?_
  rintro e w1 ⟨⟨r, rfl⟩, hs1, hg1⟩
  have st1 := (St.start hs).call hs1 hg1
  cases r
  · go_wp2_with fail
    refine (range_any b n lo hi _ hs1 (by omega) (by omega) (by omega) (by omega)).mono ?_
    rintro e w2 ⟨⟨r, rfl, hr0, hr⟩, hs2, hg2⟩
    go_wp2
    go_ret
    exact ⟨⟨_, rfl, by omega, by omega⟩, st1.call hs2 hg2⟩
  · go_wp2_with fail
    have hlt := hs1.lt
    refine (pick_any b n 6 _ [lo - 1, hi + 1, lo, hi, -1099511627776, 1099511627776] _ (st1.alloc _).s (Sl.lit rfl (by have := st1.s.lt; omega) rfl (by simp) (by omega)) (by omega)).mono ?_
    rintro e w2 ⟨⟨r, rfl, hr⟩, hs2, hg2⟩
    go_wp2
    go_ret
    refine ⟨⟨_, rfl, ?_⟩, (st1.alloc _).call hs2 hg2⟩
    simp at hr
    omega

theorem moveTime_any (b n : Nat) (w : World) (hs : SOk w b (n + 1)) :
    Calls Tryz.prog 23 #[.pointer (some ⟨b, 0, none⟩)] w fun e w' => (∃ r : Int, e = .returned (.int .i64 r) ∧ -1 ≤ r ∧ r ≤ 604800050) ∧ St b n w w' := by
  have hlt := hs.lt
  go_enter Tryz.func23, Tryz.ntmps23
  go_wp2_with fail
  refine (pick_any b n 9 _ [0, 20, 50, 100, 300, 604799999, 604800000, 604800050, -1] _ ((St.start hs).alloc _).s (Sl.lit rfl (by omega) rfl (by simp) (by omega)) (by omega)).mono ?_
  rintro e w2 ⟨⟨r, rfl, hr⟩, hs2, hg2⟩
  go_wp2
  go_ret
  refine ⟨⟨_, rfl, ?_⟩, ((St.start hs).alloc _).call hs2 hg2⟩
  simp at hr
  omega
end Go.Proofs.YtfmffobdkfgekaaGreat
/- slices.Insert of one string into a row of the call's own. -/
set_option linter.unusedVariables false
set_option linter.unusedSimpArgs false
namespace Go.Proofs.YtfmffobdkfgekaaGreat
open Go.RowKit

theorem take_ins {L cs : List Value} {n i : Nat} {x : Value} (hL : L.take i = cs.take i) (hc : cs.length = n) (hi : i ≤ n) (hn : n + 1 ≤ L.length) (M : List Value) (hM : M.length = L.length)
    (hm : ∀ t, t < n + 1 → M[t]? = if t < i then L[t]? else if t = i then some x else cs[t - 1]?) : M.take (n + 1) = cs.take i ++ x :: cs.drop i := by
  refine List.ext_getElem? fun t => ?_
  rw [List.getElem?_take]
  by_cases ht : t < n + 1
  · rw [if_pos ht, hm t ht]
    by_cases h1 : t < i
    · rw [if_pos h1, List.getElem?_append_left (by rw [List.length_take]; omega), ← hL, List.getElem?_take, if_pos h1]
    · rw [if_neg h1, List.getElem?_append_right (by rw [List.length_take]; omega), List.length_take, Nat.min_eq_left (by omega)]
      by_cases h2 : t = i
      · rw [if_pos h2, h2, Nat.sub_self]; rfl
      · rw [if_neg h2, show t - i = (t - i - 1) + 1 by omega, List.getElem?_cons_succ, List.getElem?_drop]
        congr 1; omega
  · rw [if_neg ht, List.getElem?_eq_none (by simp only [List.length_append, List.length_take, List.length_cons, List.length_drop]; omega)]
theorem ins_shift {L cs : List Value} {n i : Nat} (x : Value) (hL : L.take n = cs) (hc : cs.length = n) (hi : i ≤ n) (hn : n + 1 ≤ L.length) : (setL (setL L (i + 1) (cs.drop i)) i [x]).take (n + 1) = cs.take i ++ x :: cs.drop i := by
  refine take_ins (L := L) (by rw [← hL, List.take_take, Nat.min_eq_left hi]) hc hi hn _ (by rw [setL_len, setL_len]) fun t ht => ?_
  rw [setL_get _ _ _ _ (by rw [setL_len]; omega), setL_get _ _ _ _ (by omega)]
  simp only [List.length_cons, List.length_nil, List.length_drop]
  by_cases h1 : t < i
  · rw [if_neg (by omega), if_neg (by omega), if_pos h1]
  · by_cases h2 : t = i
    · subst h2; rw [if_pos ⟨by omega, by omega⟩, if_neg h1, if_pos rfl, Nat.sub_self]; rfl
    · rw [if_neg (by omega), if_pos ⟨by omega, by omega⟩, if_neg h1, if_neg h2, List.getElem?_drop]; congr 1; omega
theorem ins_grow {L cs : List Value} {n i : Nat} (x : Value) (hL : L.take i = cs.take i) (hc : cs.length = n) (hi : i ≤ n) (hn : n + 1 ≤ L.length) : (setL (setL L i [x]) (i + 1) (cs.drop i)).take (n + 1) = cs.take i ++ x :: cs.drop i := by
  refine take_ins (L := L) hL hc hi hn _ (by rw [setL_len, setL_len]) fun t ht => ?_
  rw [setL_get _ _ _ _ (by rw [setL_len]; omega), setL_get _ _ _ _ (by omega)]
  simp only [List.length_cons, List.length_nil, List.length_drop]
  by_cases h1 : t < i
  · rw [if_neg (by omega), if_neg (by omega), if_pos h1]
  · by_cases h2 : t = i
    · subst h2; rw [if_neg (by omega), if_pos ⟨by omega, by omega⟩, if_neg h1, if_pos rfl, Nat.sub_self]; rfl
    · rw [if_pos ⟨by omega, by omega⟩, if_neg h1, if_neg h2, List.getElem?_drop]; congr 1; omega
theorem zero_size (n : Nat) : (Builtin.zeroCells (Value.string ⟨#[]⟩).cells n).size = n := by simp [Builtin.zeroCells, Value.cells]
theorem own_mk {w : World} {base g cap n : Nat} {e : TypeId} {cur : Array Value} {vs : List Value} (hb : base ≤ g) (hg : w.heap[g]? = some (.cells cur e (0, 0))) (hn : n ≤ cap) (hm : cap ≤ maxLen) (hs : cur.size = cap) (ht : cur.toList.take n = vs) (hl : vs.length = n) :
    w.ownsRow base e 1 (.slice (some ⟨g, 0, none⟩) n cap) n vs :=
  ⟨by omega, .inr ⟨g, cap, cur, rfl, hb, hg, hn, hm, by omega, by rw [Nat.mul_one]; exact ht⟩⟩
theorem str_one (l : List ByteArray) : ∀ v ∈ l.map Value.string, v.oneCell' = true := fun v hv => by
  obtain ⟨x, _, rfl⟩ := List.mem_map.1 hv; rfl

theorem below_setCells {B g : Nat} {a w : World} (h : Below B a w) (hB : B ≤ w.heap.size) (hg : B ≤ g) (o : Nat) (vs : List Value) : Below B a (w.setCells g o vs) :=
  h.grown (gr_setCells g o vs) hB fun k hk => by cases hk; exact hg
set_option maxHeartbeats 800000 in
theorem insert_any {w : World} {base vb n i : Nat} {v : Value} {l : List ByteArray} {s : ByteArray} (hown : w.ownsRow base 9 1 v n (l.map Value.string)) (hbase : base ≤ w.heap.size) (hl : l.length = n) (hn : n ≤ 1000) (hi : i ≤ n)
    (hvb : w.heap[vb]? = some (.cells #[.string s] 9 (0, 0))) (hne : v.ownBlock ≠ some vb) :
    Calls Tryz.prog 169 #[v, .int .i64 i, .slice (some ⟨vb, 0, none⟩) 1 1] w fun e w' => ∃ v', e = .returned v' ∧ w'.ownsRow base 9 1 v' (n + 1) ((l.take i ++ s :: l.drop i).map Value.string) ∧ Below base w w' := by
  have hcl : (l.map Value.string).length = n := by simp [hl]
  have hvs : ∀ (j : Nat) (u : Value), [Value.string s][j]? = some u → w.cell? ⟨vb, 0 + j, none⟩ = some u := fun j u hu => by rw [(row_cells hvb).1, Nat.zero_add, ← Array.getElem?_toList]; exact hu
  have h1v : ∀ u ∈ [Value.string s], u.oneCell' = true := fun u hu => by simp at hu; subst hu; rfl
  have hm : maxLen = 9223372036854775807 := rfl
  have hmap : (l.take i ++ s :: l.drop i).map Value.string = (l.map Value.string).take i ++ .string s :: (l.map Value.string).drop i := by simp [List.map_take, List.map_drop]
  have hlen : ((l.take i ++ s :: l.drop i).map Value.string).length = n + 1 := by simp; omega
  have hge := grownCap_ge w (n + 1)
  have hle := fun c => grownCap_le_maxLen w (n + 1) c 9 (by omega)
  rcases hown.2 with ⟨rfl, rfl⟩ | ⟨g, cap, cur, rfl, hb, hg, hnc, hcm, hcs, ht⟩
  · obtain rfl : i = 0 := by omega
    obtain rfl : l = [] := List.eq_nil_of_length_eq_zero hl
    refine (Any2.slices_Insert_string_end_grow Tryz.insStr none 0 0 vb 0 1 1 [] [.string s] w (by omega) (by omega) (by omega) (by omega) rfl rfl (fun _ => rfl) (fun a h => by cases h) hvs h1v).mono ?_
    rintro e w' ⟨rfl, rfl⟩
    refine ⟨_, rfl, own_mk hbase (heap_alloc_new _ _) (hge 0 9) (hle 0) ?_ ?_ rfl, ((Below.refl base w).drew).alloc hbase _⟩
    · have h := hge 0 9
      show ((([Value.string s]).toArray ++ Builtin.zeroCells (Value.string ⟨#[]⟩).cells (grownCap w (0 + 1) 0 9 - (0 + 1)))).size = grownCap w (0 + 1) 0 9
      rw [Array.size_append, zero_size]
      simp only [List.size_toArray, List.length_cons, List.length_nil]
      omega
    · show (([Value.string s]).toArray ++ Builtin.zeroCells (Value.string ⟨#[]⟩).cells (grownCap w 1 0 9 - 1)).toList.take 1 = _
      simp
  · have hlt : g < w.heap.size := (Array.getElem?_eq_some_iff.1 hg).1
    rw [Nat.mul_one] at hcs ht
    have hcc : cur.toList.length = cap := by rw [Array.length_toList, hcs]
    have hcs' : ∀ (j : Nat) (u : Value), (l.map Value.string)[j]? = some u → w.cell? ⟨g, 0 + j, none⟩ = some u := fun j u hu => by
      rw [← ht, List.getElem?_take] at hu
      rw [(row_cells hg).1, Nat.zero_add, ← Array.getElem?_toList]
      split at hu
      · exact hu
      · cases hu
    have hfz := (row_cells hg).2
    by_cases hroom : n + 1 ≤ cap
    · have hsp : ∀ j, j < n + 1 → (w.cell? ⟨g, 0 + j, none⟩).isSome = true := fun j hj => by
        rw [(row_cells hg).1, Array.getElem?_eq_getElem (by omega)]; rfl
      by_cases hin : i < n
      · refine (Any2.slices_Insert_string_shift Tryz.insStr g 0 n cap i vb 0 1 1 (l.map Value.string) [.string s] w hin (by omega) hroom (by omega) (fun h => hne (by rw [← h]; rfl)) hcl rfl hcs' hsp (fun j _ => hfz _) hvs (str_one l) h1v
          9 9 1 cap (by simp [World.shape?, hvb]) (by simp [World.shape?, hg, hcs]) (by omega) ((row_cells hvb).2 _) ((row_cells hvb).2 _)).mono ?_
        rintro e w' ⟨rfl, rfl⟩
        obtain ⟨c1, h1, e1⟩ := setCells_heap (w := w.drew) (e := 9) (cur := cur) ((l.map Value.string).drop i) (0 + (i + 1)) hg
        obtain ⟨c2, h2, e2⟩ := setCells_heap [.string s] (0 + i) h1
        have hk := ins_shift (L := cur.toList) (.string s) ht hcl hi (by omega)
        have e3 : c2.toList = setL (setL cur.toList (i + 1) ((l.map Value.string).drop i)) i [.string s] := by rw [e2, e1, Nat.zero_add, Nat.zero_add]
        refine ⟨_, rfl, own_mk hb h2 hroom hcm (by rw [← Array.length_toList, e3, setL_len, setL_len, hcc]) (by rw [e3, hk, hmap]) hlen, ?_⟩
        exact below_setCells (below_setCells (Below.refl base w).drew hbase hb _ _) (by rw [(setCells_other _ _).1]; exact hbase) hb _ _
      · obtain rfl : i = n := by omega
        refine (Any2.slices_Insert_string_end_room Tryz.insStr g 0 i cap vb 0 1 1 [.string s] w (by omega) hroom (by omega) rfl (fun j hj => by rw [show 0 + i + j = 0 + (i + j) by omega]; exact hsp _ (by omega)) (fun j _ => hfz _) hvs h1v).mono ?_
        rintro e w' ⟨rfl, rfl⟩
        obtain ⟨c1, h1, e1⟩ := setCells_heap (w := w) [.string s] (0 + i) hg
        have hk := ins_shift (L := cur.toList) (.string s) ht hcl hi (by omega)
        have hd : (l.map Value.string).drop i = [] := List.drop_eq_nil_of_le (by omega)
        rw [hd] at hk
        have e3 : c1.toList = setL (setL cur.toList (i + 1) []) i [.string s] := by rw [e1, Nat.zero_add]; rfl
        refine ⟨_, rfl, own_mk hb h1 hroom hcm (by rw [← Array.length_toList, e3, setL_len, setL_len, hcc]) (by rw [e3, hk, hmap, hd]) hlen, ?_⟩
        exact below_setCells (Below.refl base w) hbase hb _ _
    · by_cases hin : i < n
      · refine (Any2.slices_Insert_string_grow Tryz.insStr g 0 n cap i vb 0 1 1 (l.map Value.string) [.string s] w hin (by omega) hnc (by omega) (by omega) hcl rfl hcs' hvs (str_one l) h1v).mono ?_
        rintro e w' ⟨rfl, rfl⟩
        obtain ⟨A, hA⟩ : ∃ A, ((((l.map Value.string).take i).toArray ++ Builtin.zeroCells (Value.string ⟨#[]⟩).cells (n + 1 - i) ++ Builtin.zeroCells (Value.string ⟨#[]⟩).cells (grownCap w (n + 1) cap 9 - (n + 1)))) = A := ⟨_, rfl⟩
        have hgc := hge cap 9
        have hAl : A.size = grownCap w (n + 1) cap 9 := by
          rw [← hA, Array.size_append, Array.size_append, zero_size, zero_size]
          simp only [List.size_toArray, List.length_take, List.length_map]
          omega
        have hAt : A.toList.take i = (l.map Value.string).take i := by
          rw [← hA]
          simp only [Array.toList_append, List.append_assoc]
          rw [List.take_append_of_le_length (by simp; omega), List.take_take, Nat.min_self]
        obtain ⟨c1, h1, e1⟩ := setCells_heap (w := (w.alloc (.cells A 9)).drew) [.string s] i (heap_alloc_new _ _)
        obtain ⟨c2, h2, e2⟩ := setCells_heap (w := ((w.alloc (.cells A 9)).drew.setCells w.heap.size i [.string s]).drew) ((l.map Value.string).drop i) (i + 1) h1
        have hAl2 : A.toList.length = grownCap w (n + 1) cap 9 := by rw [Array.length_toList, hAl]
        have hk := ins_grow (L := A.toList) (.string s) hAt hcl hi (by omega)
        have e3 : c2.toList = setL (setL A.toList i [.string s]) (i + 1) ((l.map Value.string).drop i) := by rw [e2, e1]
        subst hA
        refine ⟨_, rfl, own_mk hbase h2 hgc (hle cap) (by rw [← Array.length_toList, e3, setL_len, setL_len, hAl2]; rfl) (by rw [e3, hk, hmap]) hlen, ?_⟩
        exact below_setCells (below_setCells ((Below.refl base w).alloc hbase _).drew (by show base ≤ (w.alloc _).heap.size; rw [alloc_size]; omega) hbase _ _).drew (by show base ≤ (World.setCells _ _ _ _).heap.size; rw [(setCells_other _ _).1]; show base ≤ (w.alloc _).heap.size; rw [alloc_size]; omega) hbase _ _
      · obtain rfl : i = n := by omega
        refine (Any2.slices_Insert_string_end_grow Tryz.insStr (some ⟨g, 0, none⟩) i cap vb 0 1 1 (l.map Value.string) [.string s] w (by omega) hnc (by omega) (by omega) hcl rfl (fun h => by cases h) (fun a ha j u hu => by cases ha; rw [add_off]; exact hcs' j u hu) hvs h1v).mono ?_
        rintro e w' ⟨rfl, rfl⟩
        have hgc := hge cap 9
        have hd : (l.map Value.string).drop i = [] := List.drop_eq_nil_of_le (by omega)
        have htk : (l.map Value.string).take i = l.map Value.string := List.take_of_length_le (by omega)
        refine ⟨_, rfl, own_mk hbase (heap_alloc_new _ _) hgc (hle cap) ?_ ?_ hlen, ((Below.refl base w).drew).alloc hbase _⟩
        · show ((l.map Value.string ++ [Value.string s]).toArray ++ Builtin.zeroCells (Value.string ⟨#[]⟩).cells (grownCap w (i + 1) cap 9 - (i + 1))).size = grownCap w (i + 1) cap 9
          rw [Array.size_append, zero_size]
          simp only [List.size_toArray, List.length_append, List.length_map, List.length_cons, List.length_nil]
          omega
        · rw [hmap, hd, htk]
          simp only [Array.toList_append]
          rw [List.take_append_of_le_length (by simp; omega), List.take_of_length_le (by simp; omega)]
end Go.Proofs.YtfmffobdkfgekaaGreat
/- Keys: both packages' tests of a string answer alike. -/
set_option linter.unusedVariables false
set_option linter.unusedSimpArgs false
namespace Go.Proofs.YtfmffobdkfgekaaGreat
open Go.RowKit

theorem loop_eq (s : ByteArray) : ∀ (n i : Nat) (r : List UInt8), s.size - i = n → i ≤ s.size → ByteArray.toList.loop s i r = r.reverse ++ s.data.toList.drop i
  | 0, i, r, h, hi => by
    unfold ByteArray.toList.loop
    have : s.data.toList.length = s.size := Array.length_toList
    rw [if_neg (by omega), List.drop_eq_nil_of_le (by omega), List.append_nil]
  | n + 1, i, r, h, hi => by
    have hl : s.data.toList.length = s.size := Array.length_toList
    unfold ByteArray.toList.loop
    rw [if_pos (by omega), loop_eq s n (i + 1) _ (by omega) (by omega), List.drop_eq_getElem_cons (i := i) (by omega)]
    have : s.get! i = s.data.toList[i]'(by omega) := by
      have hi2 : i < s.data.size := show i < s.size by omega
      show s.data[i]! = _
      rw [getElem!_pos s.data i hi2]; rfl
    simp [this]
theorem toList_data (s : ByteArray) : s.toList = s.data.toList := by
  have := loop_eq s s.size 0 [] rfl (Nat.zero_le _)
  simpa [ByteArray.toList] using this
theorem empty_iff (s : ByteArray) : s.toList.isEmpty = decide (s.size = 0) := by
  rw [toList_data]
  have : s.data.toList.length = s.size := Array.length_toList
  cases h : s.data.toList with
  | nil => rw [h] at this; simp at this; simp [← this]
  | cons a l => rw [h] at this; simp at this; simp [← this]

def okI (c : Int) : Bool := (decide (97 ≤ c) && decide (c ≤ 122)) || (decide (48 ≤ c) && decide (c ≤ 57)) || c == 45 || c == 95
/-- A string is a key. -/
def keyB (s : ByteArray) : Bool := decide (0 < s.size) && decide (s.size ≤ 40) && (decide (97 ≤ ((s.data.toList.getD 0 0).toNat : Int)) && decide (((s.data.toList.getD 0 0).toNat : Int) ≤ 122)) && s.data.toList.all fun c => okI c.toNat
theorem at_byte (s : ByteArray) (k : Nat) (h : k < s.size) : s.data.toList[k]? = some s[k] := by
  have hl : s.data.toList.length = s.size := Array.length_toList
  rw [List.getElem?_eq_getElem (by omega)]; rfl

theorem okI_cases (c : Int) : (okI c = true ∧ ((97 ≤ c ∧ c ≤ 122) ∨ (c < 97 ∧ 48 ≤ c ∧ c ≤ 57) ∨ c = 45 ∨ c = 95)) ∨ (okI c = false ∧ (122 < c ∨ (c < 97 ∧ 57 < c ∧ ¬ c = 95) ∨ (c < 48 ∧ ¬ c = 45))) := by
  have h : okI c = true ↔ ((97 ≤ c ∧ c ≤ 122) ∨ (48 ≤ c ∧ c ≤ 57)) ∨ c = 45 ∨ c = 95 := by simp [okI, or_assoc]
  cases hk : okI c with
  | true => rw [hk] at h; have := h.1 rfl; exact .inl ⟨rfl, by omega⟩
  | false => rw [hk] at h; have : ¬ _ := fun q => Bool.noConfusion (h.2 q); exact .inr ⟨rfl, by omega⟩
theorem keyB_no {s : ByteArray} (h : ¬ (0 < s.size ∧ s.size ≤ 40 ∧ 97 ≤ ((s.data.toList.getD 0 0).toNat : Int) ∧ ((s.data.toList.getD 0 0).toNat : Int) ≤ 122)) : keyB s = false := by
  cases hk : keyB s with
  | false => rfl
  | true => unfold keyB at hk; simp only [Bool.and_eq_true, decide_eq_true_eq] at hk; exact absurd ⟨hk.1.1.1, hk.1.1.2, hk.1.2.1, hk.1.2.2⟩ h
theorem byte0 (s : ByteArray) (h : 0 < s.size) : s.data.toList.getD 0 0 = s[0] := by
  rw [List.getD_eq_getElem?_getD, at_byte s 0 h]; rfl
set_option maxHeartbeats 800000 in
theorem key_any (s : ByteArray) (w : World) (hs : s.size ≤ 4611686018427387904) : Calls Tryz.prog 67 #[.string s] w fun e w' => e = .returned (.bool (keyB s)) ∧ w = w' := by
  have he := empty_iff s
  by_cases h0 : s.size = 0
  · obtain rfl : s = ⟨#[]⟩ := by
      obtain ⟨⟨l⟩⟩ := s
      have : l = [] := List.eq_nil_of_length_eq_zero h0
      subst this; rfl
    clear he
    go_enter Tryz.func67, Tryz.ntmps67
    go_wp2
    go_ret
    exact ⟨rfl, rfl⟩
  rw [decide_eq_false h0] at he
  have hb0 := byte0 s (by omega)
  by_cases h40 : 40 < s.size
  · rw [keyB_no (by omega)]
    go_enter Tryz.func67, Tryz.ntmps67
    go_wp2
    go_ret
    exact ⟨rfl, rfl⟩
  by_cases hc : 97 ≤ (s[0].toNat : Int) ∧ (s[0].toNat : Int) ≤ 122
  · obtain ⟨hc1, hc2⟩ := hc
    have HB := Lib.hid hb0
    clear hb0
    go_enter Tryz.func67, Tryz.ntmps67
    go_wp2
    go_loop [24] (fun i => ∃ k : Nat, k ≤ s.size ∧ i = .int .i64 k ∧ ∀ j c, j < k → s.data.toList[j]? = some c → okI c.toNat = true) (fun i => s.size - (intOf i).toNat)
    case atStart => exact ⟨0, by omega, rfl, fun j c h => absurd h (by omega)⟩
    case round =>
      obtain ⟨k, hk, rfl, hall⟩ := hrel
      by_cases hlt : k < s.size
      · have hbk := at_byte s k hlt
        have HK := Lib.hid hbk
        have HA := Lib.hid hall
        clear hbk hall
        generalize hx : s[k] = x at *
        have hcl : (okI x.toNat = true ∧ ((97 ≤ (x.toNat : Int) ∧ (x.toNat : Int) ≤ 122) ∨ ((x.toNat : Int) < 97 ∧ 48 ≤ (x.toNat : Int) ∧ (x.toNat : Int) ≤ 57) ∨ (x.toNat : Int) = 45 ∨ (x.toNat : Int) = 95)) ∨
            (okI x.toNat = false ∧ (122 < (x.toNat : Int) ∨ ((x.toNat : Int) < 97 ∧ 57 < (x.toNat : Int) ∧ ¬ (x.toNat : Int) = 95) ∨ ((x.toNat : Int) < 48 ∧ ¬ (x.toNat : Int) = 45))) := okI_cases _
        rcases hcl with ⟨hok, hcl⟩ | ⟨hok, hcl⟩
        · have HO := Lib.hid hok
          clear hok
          rcases hcl with ⟨h1, h2⟩ | ⟨h1, h2, h3⟩ | h1 | h1
          all_goals go_wp2
          all_goals go_round
          all_goals first | (case measure => simp [intOf]; omega) | skip
          all_goals (
            refine ⟨k + 1, by omega, by go_num, fun j c hj hc => ?_⟩
            rcases Nat.lt_succ_iff_lt_or_eq.1 hj with hj | rfl
            · exact HA.out j c hj hc
            · rw [HK.out] at hc; cases hc; exact HO.out)
        · have HO : keyB s = false := (by
            cases hkb : keyB s with
            | false => rfl
            | true =>
              exfalso
              unfold keyB at hkb
              simp only [Bool.and_eq_true] at hkb
              have := List.all_eq_true.1 hkb.2 x (List.mem_of_getElem? HK.out)
              rw [hok] at this; cases this)
          have HO2 := Lib.hid HO
          clear hok HO
          rcases hcl with h1 | ⟨h1, h2, h3⟩ | ⟨h1, h3⟩
          all_goals go_wp2
          all_goals first
            | (go_ret; exact ⟨congrArg (fun b => Ending.returned (.bool b)) HO2.out.symm, rfl⟩)
            | (exfalso; rename_i hz; simp only [Bool.not_eq_false', beq_iff_eq, decide_eq_true_eq] at hz; omega)
      · have hks : k = s.size := by omega
        subst hks
        have hkb : keyB s = true := by
          unfold keyB
          simp only [Bool.and_eq_true, decide_eq_true_eq, HB.out]
          refine ⟨⟨⟨by omega, by omega⟩, hc1, hc2⟩, List.all_eq_true.2 fun c hc => ?_⟩
          obtain ⟨j, hj⟩ := List.getElem?_of_mem hc
          have hl : s.data.toList.length = s.size := Array.length_toList
          exact hall j c (by have := (List.getElem?_eq_some_iff.1 hj).1; omega) hj
        have HO2 := Lib.hid hkb
        clear hkb hall hlt
        go_wp2
        go_ret
        exact ⟨congrArg (fun b => Ending.returned (.bool b)) HO2.out.symm, rfl⟩
  · have hkf : keyB s = false := keyB_no (by rw [hb0]; omega)
    clear hb0
    rw [hkf]
    clear hkf
    by_cases hc1 : 97 ≤ (s[0].toNat : Int)
    · have hc2 : ¬ (s[0].toNat : Int) ≤ 122 := fun h => hc ⟨hc1, h⟩
      go_enter Tryz.func67, Tryz.ntmps67
      go_wp2
      go_ret
      exact ⟨rfl, rfl⟩
    · go_enter Tryz.func67, Tryz.ntmps67
      go_wp2
      go_ret
      exact ⟨rfl, rfl⟩
end Go.Proofs.YtfmffobdkfgekaaGreat
