/- What the laws' walks share: the numbers that come in, the stream over them; equal lists are equal. -/
import Derived.Test.YtfmffobdkfgekaaAnswers
import Derived.Test.YtfmffobdkfgekaaKept
import Derived.Test.YtfmffobdkfgekaaMoves
import Derived.Test.YtfmffobdkfgekaaFaults
set_option linter.unusedVariables false
set_option linter.unusedSimpArgs false
namespace Go.Proofs.Ytfmffobdkfgekaa
open Go.RowKit Go.Maps

/-- The numbers that came in. -/
def IntsIn (w : World) (A : Option Addr) (len : Nat) : Prop := len ≤ 1000000000000000000 ∧ ∀ i, i < len → ∃ ab ao x, A = some ⟨ab, ao, none⟩ ∧ ab < w.heap.size ∧ w.cell? ⟨ab, ao + i, none⟩ = some (.int .i64 x) ∧ -9223372036854775808 ≤ x ∧ x ≤ 9223372036854775807
theorem stream_new {w : World} {A : Option Addr} {len c : Nat} (h : IntsIn w A len) : SOk (w.alloc (.cells #[.slice A len c, .int .i64 0] 25)) w.heap.size 1000000000000 := by
  refine ⟨0, A, len, c, heap_alloc_new _ _, by omega, h.1, fun i hi => ?_⟩
  obtain ⟨ab, ao, x, e1, e2, e3, e4⟩ := h.2 i hi
  refine ⟨ab, ao, x, e1, e2, ?_, e4⟩
  rw [World.cell?_of_block (w := w) (Below.heap_alloc _ _ _ e2)]; exact e3
theorem St.bel {n : Nat} {w0 w : World} {o : Obj} (h : St w0.heap.size n (w0.alloc o) w) : Below w0.heap.size w0 w := by
  have h1 := (Below.refl w0.heap.size w0).alloc (Nat.le_refl _) o
  exact h1.trans (h.g.below (by simp))
theorem equal_same {lo1 lo2 : Nat} {w : World} {v1 v2 : Value} {l : List ByteArray} (h1 : Sl lo1 w v1 1 l.length (l.map Value.string)) (h2 : Sl lo2 w v2 1 l.length (l.map Value.string)) :
    Calls Try.prog 26 #[v1, v2] w fun e w' => e = .returned (.bool true) ∧ Drew w w' := by
  obtain ⟨A1, c1, rfl, hn1⟩ := h1.shape
  obtain ⟨A2, c2, rfl, hn2⟩ := h2.shape
  rcases Nat.eq_zero_or_pos l.length with h0 | h0
  · rw [h0]
    refine (Try.slices_Equal_string_empty A1 A2 c1 0 c2 w (by omega)).mono ?_
    rintro e w' ⟨rfl, rfl⟩
    exact ⟨by simp, Drew.refl _⟩
  · obtain ⟨x, hx⟩ : ∃ x, l[0]? = some x := ⟨_, List.getElem?_eq_getElem h0⟩
    obtain ⟨b1, o1, rfl, _, _, _⟩ := str_at h1 hx
    obtain ⟨b2, o2, rfl, _, _, _⟩ := str_at h2 hx
    have hc : ∀ {lo b o c : Nat}, Sl lo w (.slice (some ⟨b, o, none⟩) l.length c) 1 l.length (l.map Value.string) → ∀ j, j < l.length → w.cell? ⟨b, o + j, none⟩ = some (.string (l.getD j ByteArray.empty)) := fun {lo b o c} h j hj => by
      obtain ⟨y, hy⟩ : ∃ y, l[j]? = some y := ⟨_, List.getElem?_eq_getElem hj⟩
      obtain ⟨b', o', hbo, _, _, hc⟩ := str_at h hy
      cases hbo
      rw [List.getD_eq_getElem?_getD, hy]
      exact hc
    refine (Try.slices_Equal_string b1 o1 l.length c1 b2 o2 l.length c2 l l w (Nat.le_refl _) (Nat.le_refl _) (by omega) (by omega) (hc h1) (hc h2)).mono ?_
    rintro e w' ⟨rfl, q, rfl⟩
    exact ⟨by simp, q, rfl⟩
theorem sl_prefix {w : World} {b n c : Nat} {cs : Array Value} {e : TypeId} (h : w.heap[b]? = some (.cells cs e (0, 0))) (hn : n ≤ cs.size) (hc : n ≤ c) (hc2 : c ≤ 9223372036854775807) (hn2 : n ≤ 1099511627776) : Sl b w (.slice (some ⟨b, 0, none⟩) n c) 1 n (cs.toList.take n) := by
  refine ⟨by simp; omega, hn2, _, _, rfl, hc, hc2, fun _ => ⟨b, 0, rfl, Nat.le_refl _, (Array.getElem?_eq_some_iff.1 h).1, fun j u hu => ?_⟩⟩
  rw [cell_of_row w b (0 + j) cs e (0, 0) h]
  rw [List.getElem?_take] at hu
  split at hu
  · simpa using hu
  · cases hu
/-- A law's data in the course of its walk: bounds in a box, moves, players. -/
structure LawAt (w0 : World) (bb : Nat) (b : Bd) (mv : Value) (l : List Mv) (pv : Value) (ps : List ByteArray) (W : World) : Prop where
  box : W.heap[bb]? = some (.cells #[.int .i64 b.most, .int .i64 b.hurt, .int .i64 b.adds, .int .i64 b.hold] 27 (0, 0))
  mvs : Sl 0 W mv 4 l.length (l.flatMap Mv.c)
  pvs : Sl 0 W pv 1 ps.length (ps.map Value.string)
  bel : Below w0.heap.size w0 W
section
variable {w0 W W' : World} {bb : Nat} {b : Bd} {mv pv : Value} {l : List Mv} {ps : List ByteArray}
theorem LawAt.below (h : LawAt w0 bb b mv l pv ps W) (hb : Below W.heap.size W W') : LawAt w0 bb b mv l pv ps W' :=
  ⟨(hb.block _ (Array.getElem?_eq_some_iff.1 h.box).1).trans h.box, h.mvs.below hb, h.pvs.below hb, h.bel.trans (hb.mono h.bel.size)⟩
theorem LawAt.drew (h : LawAt w0 bb b mv l pv ps W) (hd : Drew W W') : LawAt w0 bb b mv l pv ps W' := by
  obtain ⟨q, rfl⟩ := hd
  exact h.below (below_drewN (Below.refl _ W) q)
theorem Drew.sl (hd : Drew W W') {lo sz n : Nat} {v : Value} {vs : List Value} (h : Sl lo W v sz n vs) : Sl lo W' v sz n vs := by
  obtain ⟨q, rfl⟩ := hd
  exact h.below (below_drewN (Below.refl _ W) q)
theorem LawAt.alloc (h : LawAt w0 bb b mv l pv ps W) (o : Obj) : LawAt w0 bb b mv l pv ps (W.alloc o) := h.below ((Below.refl _ _).alloc (Nat.le_refl _) o)
end
end Go.Proofs.Ytfmffobdkfgekaa
