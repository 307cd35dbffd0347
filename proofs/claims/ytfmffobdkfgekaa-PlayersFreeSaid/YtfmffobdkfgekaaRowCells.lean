/- Rows of records: one record is written. -/
import Derived.Test.YtfmffobdkfgekaaBase
import Derived.Laws.IdiomCopy
set_option linter.unusedVariables false
set_option linter.unusedSimpArgs false
namespace Go.Proofs.Ytfmffobdkfgekaa
open Go.RowKit

def setL : List Value → Nat → List Value → List Value
  | L, _, [] => L
  | L, a, v :: vs => setL (L.set a v) (a + 1) vs
theorem setL_len (vs : List Value) : ∀ (L : List Value) (a : Nat), (setL L a vs).length = L.length := by
  induction vs with
  | nil => intro L a; rfl
  | cons v vs ih => intro L a; simp only [setL, ih, List.length_set]
theorem setL_get (vs : List Value) : ∀ (L : List Value) (a t : Nat), t < L.length → (setL L a vs)[t]? = if a ≤ t ∧ t < a + vs.length then vs[t - a]? else L[t]? := by
  induction vs with
  | nil => intro L a t _; rw [if_neg (by simp only [List.length_nil]; omega)]; rfl
  | cons v vs ih =>
    intro L a t ht
    simp only [setL]
    rw [ih _ _ _ (by simpa using ht)]
    by_cases h1 : a + 1 ≤ t ∧ t < a + 1 + vs.length
    · rw [if_pos h1, if_pos ⟨by omega, by simp; omega⟩, show t - a = (t - (a + 1)) + 1 by omega, List.getElem?_cons_succ]
    · rw [if_neg h1, List.getElem?_set]
      by_cases h2 : a = t
      · subst h2
        rw [if_pos rfl, if_pos ht, if_pos ⟨Nat.le_refl _, by simp only [List.length_cons]; omega⟩, Nat.sub_self]; rfl
      · rw [if_neg h2, if_neg (by simp; omega)]
theorem flat_set {α : Type} {f : α → List Value} {sz : Nat} (hf : ∀ x, (f x).length = sz) (hz : 0 < sz) (l : List α) (k : Nat) (x : α) : setL (l.flatMap f) (k * sz) (f x) = (l.set k x).flatMap f := by
  refine List.ext_getElem? fun t => ?_
  have hlen : (l.flatMap f).length = l.length * sz := flat_len hf l
  by_cases ht : t < l.length * sz
  · have hq : t / sz < l.length := (Nat.div_lt_iff_lt_mul hz).2 ht
    have hr := Nat.mod_lt t hz
    have hd := Nat.div_add_mod t sz
    rw [Nat.mul_comm] at hd
    rw [setL_get _ _ _ _ (by omega), hf]
    have hin : (k * sz ≤ t ∧ t < k * sz + sz) ↔ t / sz = k := by
      constructor
      · rintro ⟨h1, h2⟩
        have h3 : k ≤ t / sz := (Nat.le_div_iff_mul_le hz).2 h1
        have h4 : t / sz < k + 1 := (Nat.div_lt_iff_lt_mul hz).2 (by rw [Nat.add_mul]; omega)
        omega
      · rintro rfl; omega
    by_cases h : t / sz = k
    · rw [if_pos (hin.2 h)]
      have hx : (l.set k x)[t / sz]? = some x := by rw [← h]; simp [hq]
      have h5 := flat_at hf _ _ _ (t % sz) hx hr
      rw [hd] at h5
      rw [h5, show t - k * sz = t % sz by rw [← h]; omega]
    · rw [if_neg (fun c => h (hin.1 c))]
      obtain ⟨y, hy⟩ : ∃ y, l[t / sz]? = some y := ⟨_, List.getElem?_eq_getElem hq⟩
      have h5 := flat_at hf _ _ _ (t % sz) hy hr
      have hx : (l.set k x)[t / sz]? = some y := by rw [List.getElem?_set_ne (by omega)]; exact hy
      have h6 := flat_at hf _ _ _ (t % sz) hx hr
      rw [hd] at h5 h6
      rw [h5, h6]
  · rw [List.getElem?_eq_none (by rw [setL_len, hlen]; omega), List.getElem?_eq_none (by rw [flat_len hf]; simp; omega)]

theorem setCells_heap {g : Nat} {e : TypeId} (vs : List Value) : ∀ {w : World} {cur : Array Value} (a : Nat), w.heap[g]? = some (.cells cur e (0, 0)) →
    ∃ cur' : Array Value, (w.setCells g a vs).heap[g]? = some (.cells cur' e (0, 0)) ∧ cur'.toList = setL cur.toList a vs := by
  induction vs with
  | nil => intro w cur a h; exact ⟨cur, h, rfl⟩
  | cons v vs ih =>
    intro w cur a h
    have h1 : (w.setCell ⟨g, a, none⟩ v).heap[g]? = some (.cells (cur.setIfInBounds a v) e (0, 0)) := by simp [World.setCell, Array.getElem?_modify, h]
    obtain ⟨cur', h2, h3⟩ := ih (a + 1) h1
    exact ⟨cur', h2, by rw [h3]; simp [setL]⟩
theorem setCells_other {g : Nat} (vs : List Value) : ∀ {w : World} (a : Nat), (w.setCells g a vs).heap.size = w.heap.size ∧ (w.setCells g a vs).os = w.os ∧ (w.setCells g a vs).tape = w.tape ∧ (w.setCells g a vs).output = w.output ∧ ∀ i, i ≠ g → (w.setCells g a vs).heap[i]? = w.heap[i]? := by
  induction vs with
  | nil => intro w a; exact ⟨rfl, rfl, rfl, rfl, fun _ _ => rfl⟩
  | cons v vs ih =>
    intro w a
    obtain ⟨h1, h2, h3, h4, h5⟩ := ih (w := w.setCell ⟨g, a, none⟩ v) (a + 1)
    exact ⟨by rw [show w.setCells g a (v :: vs) = (w.setCell ⟨g, a, none⟩ v).setCells g (a + 1) vs from rfl, h1]; simp [World.setCell], h2, h3, h4, fun i hi => (h5 i hi).trans (Below.heap_setCell _ _ _ _ hi)⟩

/-- A record is written into a row of the call's own. -/
theorem own_setCells {w : World} {base g cap n : Nat} {e : TypeId} {α : Type} {f : α → List Value} {sz : Nat} (hf : ∀ x, (f x).length = sz) (hz : 0 < sz) {l : List α} (h : w.ownsRow base e sz (.slice (some ⟨g, 0, none⟩) n cap) n (l.flatMap f)) {k : Nat} (hk : k < n) (x : α) :
    (w.setCells g (k * sz) (f x)).ownsRow base e sz (.slice (some ⟨g, 0, none⟩) n cap) n ((l.set k x).flatMap f) := by
  obtain ⟨h1, h2⟩ := h
  rcases h2 with ⟨h2, _⟩ | ⟨g', cap', cur, h2, hb, hg, hnc, hcm, hcs, ht⟩
  · cases h2
  · cases h2
    obtain ⟨cur', h3, h4⟩ := setCells_heap (w := w) (f x) (k * sz) hg
    have hll : l.length * sz = n * sz := by rw [flat_len hf] at h1; exact h1
    have hcl : cur'.size = cur.size := by rw [← Array.length_toList, h4, setL_len, Array.length_toList]
    refine ⟨by rw [flat_len hf]; simpa using hll, .inr ⟨g, cap, cur', rfl, hb, h3, hnc, hcm, by rw [hcl]; exact hcs, ?_⟩⟩
    rw [← flat_set hf hz, ← ht, h4]
    refine List.ext_getElem? fun t => ?_
    rw [List.getElem?_take]
    have hcc : n * sz ≤ cur.toList.length := by rw [Array.length_toList, hcs]; exact Nat.mul_le_mul_right _ hnc
    by_cases h5 : t < n * sz
    · rw [if_pos h5, setL_get _ _ _ _ (by omega), setL_get _ _ _ _ (by rw [List.length_take]; omega)]
      by_cases h6 : k * sz ≤ t ∧ t < k * sz + (f x).length
      · rw [if_pos h6, if_pos h6]
      · rw [if_neg h6, if_neg h6, List.getElem?_take, if_pos h5]
    · rw [if_neg h5, List.getElem?_eq_none (by rw [setL_len, List.length_take]; omega)]
/-- Cells behind the first k elements are written: the first k are still owned. -/
theorem own_prefix {w : World} {base g cap n : Nat} {e : TypeId} {sz : Nat} {vs : List Value} (h : w.ownsRow base e sz (.slice (some ⟨g, 0, none⟩) n cap) n vs) {k : Nat} (hk : k ≤ n) (us : List Value) :
    (w.setCells g (k * sz) us).ownsRow base e sz (.slice (some ⟨g, 0, none⟩) k cap) k (vs.take (k * sz)) := by
  obtain ⟨h1, h2⟩ := h
  rcases h2 with ⟨h2, _⟩ | ⟨g', cap', cur, h2, hb, hg, hnc, hcm, hcs, ht⟩
  · cases h2
  · cases h2
    obtain ⟨cur', h3, h4⟩ := setCells_heap (w := w) us (k * sz) hg
    have hkn : k * sz ≤ n * sz := Nat.mul_le_mul_right _ hk
    have hcl : cur'.size = cur.size := by rw [← Array.length_toList, h4, setL_len, Array.length_toList]
    refine ⟨by rw [List.length_take, h1]; omega, .inr ⟨g, cap, cur', rfl, hb, h3, by omega, hcm, by rw [hcl]; exact hcs, ?_⟩⟩
    rw [← ht, h4, List.take_take, Nat.min_eq_left hkn]
    refine List.ext_getElem? fun t => ?_
    rw [List.getElem?_take, List.getElem?_take]
    have hcc : n * sz ≤ cur.toList.length := by rw [Array.length_toList, hcs]; exact Nat.mul_le_mul_right _ hnc
    by_cases h5 : t < k * sz
    · rw [if_pos h5, if_pos h5, setL_get _ _ _ _ (by omega), if_neg (by omega)]
    · rw [if_neg h5, if_neg h5]
theorem flat_take {α : Type} {f : α → List Value} {sz : Nat} (hf : ∀ x, (f x).length = sz) : ∀ (l : List α) (k : Nat), (l.flatMap f).take (k * sz) = (l.take k).flatMap f
  | [], k => by simp
  | x :: l, 0 => by simp
  | x :: l, k + 1 => by
    rw [List.flatMap_cons, List.take_succ_cons, List.flatMap_cons, ← flat_take hf l k, Nat.add_mul, Nat.one_mul, Nat.add_comm, ← hf x, List.take_length_add_append]
theorem gr_setCells {w : World} (g a : Nat) (vs : List Value) : w.grownBy (w.setCells g a vs) (some g) := by
  obtain ⟨h1, h2, h3, h4, h5⟩ := setCells_other (g := g) vs (w := w) a
  exact ⟨h2, h3, h4, by omega, fun i _ hne => h5 i (by simpa using hne)⟩
end Go.Proofs.Ytfmffobdkfgekaa
