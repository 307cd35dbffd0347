/- Words of this claim's own, of no program: orders on numbers and strings, lists in memory, how worlds grow. -/
import Derived.WalkKit
import Derived.WalkLawsBesides
import Derived.WalkSpells
import Derived.Lib.Hide
import Derived.Deep.QuietTactic
import Derived.BigQuiet
import Derived.Outline
import Derived.StillTailTactics
import Derived.OwnWalk
import Derived.Deep.LoopGhost
import Derived.Deep.DeepCutAuto
import Derived.Deep.CutBlock
set_option linter.unusedVariables false
set_option linter.unusedSimpArgs false
namespace Go.Proofs.Ytfmffobdkfgekaa
open Go.RowKit

/-! ### numbers -/
def inB (n low high : Int) : Bool := decide (low ≤ n) && decide (n ≤ high)
theorem inB_iff {n low high : Int} : inB n low high = true ↔ low ≤ n ∧ n ≤ high := by simp [inB]
def cmpI (x y : Int) : Int := if x < y then -1 else if y < x then 1 else 0

/-! ### how worlds grow -/
theorem bcell {W w1 : World} {B : Nat} (hb : Below B W w1) : (∀ b o, b < B → w1.cell? ⟨b, o, none⟩ = W.cell? ⟨b, o, none⟩) ∧ (∀ b o, b < B → w1.frozen? ⟨b, o, none⟩ = W.frozen? ⟨b, o, none⟩) :=
  ⟨fun b o h => hb.cell (p := ⟨b, o, none⟩) h, fun b o h => hb.frozen (p := ⟨b, o, none⟩) h⟩

/-- The worlds that are as W below block B. -/
structure Ext (B : Nat) (W : World) where
  v : World
  h : Below B W v
instance (B : Nat) (W : World) : Nonempty (Ext B W) := ⟨⟨W, Below.refl B W⟩⟩


/-! ### slices that are read -/
/-- v is a slice of n elements of sz cells each, which reads as the cells vs, in a block from lo on. -/
def Sl (lo : Nat) (w : World) (v : Value) (sz n : Nat) (vs : List Value) : Prop :=
  vs.length = n * sz ∧ n ≤ 1099511627776 ∧ ∃ A c, v = .slice A n c ∧ n ≤ c ∧ c ≤ 9223372036854775807 ∧ (0 < n → ∃ b o, A = some ⟨b, o, none⟩ ∧ lo ≤ b ∧ b < w.heap.size ∧ ∀ j u, vs[j]? = some u → w.cell? ⟨b, o + j, none⟩ = some u)

theorem Sl.keep {lo : Nat} {w w' : World} {v : Value} {sz n : Nat} {vs : List Value} (h : Sl lo w v sz n vs) (hs : w.heap.size ≤ w'.heap.size) (hk : ∀ i, lo ≤ i → i < w.heap.size → w'.heap[i]? = w.heap[i]?) : Sl lo w' v sz n vs := by
  obtain ⟨h1, h2, A, c, h3, h4, h4', h5⟩ := h
  refine ⟨h1, h2, A, c, h3, h4, h4', fun hn => ?_⟩
  obtain ⟨b, o, e1, e2, e3, e4⟩ := h5 hn
  exact ⟨b, o, e1, e2, by omega, fun j u hu => (World.cell?_of_block (w := w) (hk b e2 e3)).trans (e4 j u hu)⟩
theorem Sl.below {lo : Nat} {w w' : World} {v : Value} {sz n : Nat} {vs : List Value} (h : Sl lo w v sz n vs) (hb : Below w.heap.size w w') : Sl lo w' v sz n vs :=
  h.keep hb.size fun i _ hi => hb.block i hi
theorem Sl.mono {lo lo' : Nat} {w : World} {v : Value} {sz n : Nat} {vs : List Value} (h : Sl lo w v sz n vs) (hl : lo' ≤ lo) : Sl lo' w v sz n vs := by
  obtain ⟨h1, h2, A, c, h3, h4, h4', h5⟩ := h
  refine ⟨h1, h2, A, c, h3, h4, h4', fun hn => ?_⟩
  obtain ⟨b, o, e1, e2, e3⟩ := h5 hn
  exact ⟨b, o, e1, by omega, e3⟩
theorem Sl.cell {lo : Nat} {w : World} {A : Option Addr} {c sz n : Nat} {vs : List Value} (h : Sl lo w (.slice A n c) sz n vs) {j : Nat} {u : Value} (hu : vs[j]? = some u) :
    ∃ b o, A = some ⟨b, o, none⟩ ∧ lo ≤ b ∧ b < w.heap.size ∧ w.cell? ⟨b, o + j, none⟩ = some u := by
  obtain ⟨h1, h2, A', c', h3, h4, h4', h5⟩ := h
  cases h3
  have hj : j < vs.length := (List.getElem?_eq_some_iff.1 hu).1
  have hn : 0 < n := by
    rcases Nat.eq_zero_or_pos n with h0 | h0
    · rw [h1, h0] at hj; simp at hj
    · exact h0
  obtain ⟨b, o, e1, e2, e3, e4⟩ := h5 hn
  exact ⟨b, o, e1, e2, e3, e4 j u hu⟩
theorem flat_len {α β : Type} {f : α → List β} {sz : Nat} (hf : ∀ x, (f x).length = sz) (l : List α) : (l.flatMap f).length = l.length * sz := by
  induction l with
  | nil => simp
  | cons x l ih => simp only [List.flatMap_cons, List.length_append, List.length_cons, ih, hf, Nat.add_mul]; omega
theorem flat_at {α β : Type} {f : α → List β} {sz : Nat} (hf : ∀ x, (f x).length = sz) : ∀ (l : List α) (k : Nat) (x : α) (j : Nat), l[k]? = some x → j < sz → (l.flatMap f)[k * sz + j]? = (f x)[j]?
  | [], k, x, j, h, _ => by simp at h
  | y :: l, 0, x, j, h, hj => by
    simp at h; subst h
    rw [List.flatMap_cons, List.getElem?_append_left (by rw [hf]; omega)]; simp
  | y :: l, k + 1, x, j, h, hj => by
    rw [List.flatMap_cons, List.getElem?_append_right (by rw [hf, Nat.add_mul]; omega), hf, show (k + 1) * sz + j - sz = k * sz + j by rw [Nat.add_mul]; omega]
    exact flat_at hf l k x j (by simpa using h) hj
theorem Sl.recd {lo : Nat} {w : World} {A : Option Addr} {c sz n : Nat} {α : Type} {f : α → List Value} {l : List α} (hf : ∀ x, (f x).length = sz) (h : Sl lo w (.slice A n c) sz n (l.flatMap f)) {k : Nat} {x : α} (hx : l[k]? = some x) (hz : 0 < sz) :
    ∃ b o, A = some ⟨b, o, none⟩ ∧ lo ≤ b ∧ b < w.heap.size ∧ ∀ j u, (f x)[j]? = some u → w.cell? ⟨b, o + (k * sz + j), none⟩ = some u := by
  have h0 : (l.flatMap f)[k * sz + 0]? = (f x)[0]? := flat_at hf l k x 0 hx hz
  have hs : (f x)[0]? = some ((f x)[0]'(by rw [hf]; omega)) := List.getElem?_eq_getElem _
  obtain ⟨b, o, e1, e2, e3, e4⟩ := h.cell (h0.trans hs)
  subst e1
  refine ⟨b, o, rfl, e2, e3, fun j u hu => ?_⟩
  have hj : j < sz := by have := (List.getElem?_eq_some_iff.1 hu).1; rw [hf] at this; exact this
  obtain ⟨b', o', e1', _, _, e4'⟩ := h.cell ((flat_at hf l k x j hx hj).trans hu)
  cases e1'
  exact e4'
theorem Sl.of_own {w : World} {base : Nat} {e : TypeId} {sz n : Nat} {v : Value} {vs : List Value} (h : w.ownsRow base e sz v n vs) (hn : n ≤ 1099511627776) : Sl base w v sz n vs := by
  obtain ⟨h1, h2⟩ := h
  refine ⟨h1, hn, ?_⟩
  rcases h2 with ⟨rfl, rfl⟩ | ⟨g, cap, cur, rfl, hb, hg, hnc, hcm, hcs, ht⟩
  · exact ⟨none, 0, rfl, Nat.le_refl _, by omega, fun h => absurd h (by omega)⟩
  · refine ⟨_, _, rfl, hnc, by unfold maxLen at hcm; omega, fun _ => ⟨g, 0, rfl, hb, (Array.getElem?_eq_some_iff.1 hg).1, fun j u hu => ?_⟩⟩
    rw [cell_of_row w g (0 + j) cur e (0, 0) hg]
    rw [← ht, List.getElem?_take] at hu
    split at hu
    · simpa using hu
    · cases hu
theorem Sl.nil (lo : Nat) (w : World) (sz : Nat) : Sl lo w (.slice none 0 0) sz 0 [] := ⟨by simp, by omega, none, 0, rfl, Nat.le_refl _, by omega, fun h => absurd h (by omega)⟩
/-- A slice literal, in a block that has just been laid. -/
theorem Sl.made {w : World} {e : TypeId} {sz n : Nat} {vs : List Value} (hl : vs.length = n * sz) (hn : n ≤ 1099511627776) (b : Nat) (cs : Array Value) (hc : cs.toList = vs) (hb : w.heap[b]? = some (.cells cs e (0, 0))) : Sl b w (.slice (some ⟨b, 0, none⟩) n n) sz n vs := by
  refine ⟨hl, hn, _, _, rfl, Nat.le_refl _, by omega, fun _ => ⟨b, 0, rfl, Nat.le_refl _, (Array.getElem?_eq_some_iff.1 hb).1, fun j u hu => ?_⟩⟩
  rw [cell_of_row w b (0 + j) cs e (0, 0) hb]
  rw [← hc] at hu
  simpa using hu
theorem add_off (b o j : Nat) : (⟨b, o, none⟩ : Addr).add j = ⟨b, o + j, none⟩ := by unfold Addr.add; split <;> simp_all
theorem new_cells {w : World} {cs : Array Value} {e : TypeId} {vs : List Value} (h : cs.toList = vs) : ∀ j u, vs[j]? = some u → (w.alloc (.cells cs e)).cell? ((⟨w.heap.size, 0, none⟩ : Addr).add j) = some u := by
  intro j u hu
  rw [add_off, cell_of_row _ w.heap.size (0 + j) cs e (0, 0) (heap_alloc_new _ _)]
  rw [← h] at hu
  simpa using hu

theorem row_cells {w : World} {b : Nat} {cs : Array Value} {T : TypeId} (h : w.heap[b]? = some (.cells cs T (0, 0))) : (∀ o, w.cell? ⟨b, o, none⟩ = cs[o]?) ∧ (∀ o, w.frozen? ⟨b, o, none⟩ = false) :=
  ⟨fun o => by simp [World.cell?, h], fun o => by simp [World.frozen?, h]⟩

end Go.Proofs.Ytfmffobdkfgekaa
