/- A string is put into a rising list: roster.add. -/
import Derived.Test.YtfmffobdkfgekaaInsert
import Derived.Test.YtfmffobdkfgekaaContains
set_option linter.unusedVariables false
set_option linter.unusedSimpArgs false
namespace Go.Proofs.Ytfmffobdkfgekaa
open Go.RowKit

theorem bs_bound (less : Nat → Bool) : ∀ (f lo hi : Nat), lo ≤ hi → lo ≤ Lib.bsGo less f lo hi ∧ Lib.bsGo less f lo hi ≤ hi
  | 0, lo, hi, h => by unfold Lib.bsGo; omega
  | f + 1, lo, hi, h => by
    unfold Lib.bsGo
    split
    · split
      · have := bs_bound less f ((lo + hi) / 2 + 1) hi (by omega); omega
      · have := bs_bound less f lo ((lo + hi) / 2) (by omega); omega
    · omega
def posS (l : List ByteArray) (s : ByteArray) : Nat := Lib.bsGo (fun t => Op.bytesLess (l.getD t ⟨#[]⟩).toList s.toList) l.length 0 l.length
theorem posS_le (l : List ByteArray) (s : ByteArray) : posS l s ≤ l.length := (bs_bound _ _ 0 _ (Nat.zero_le _)).2
def addS (l : List ByteArray) (s : ByteArray) : List ByteArray := l.take (posS l s) ++ s :: l.drop (posS l s)
theorem addS_len (l : List ByteArray) (s : ByteArray) : (addS l s).length = l.length + 1 := by
  have := posS_le l s
  simp [addS]; omega
theorem addS_mem {l : List ByteArray} {s x : ByteArray} : x ∈ addS l s ↔ x = s ∨ x ∈ l := by
  have h : x ∈ l ↔ x ∈ l.take (posS l s) ∨ x ∈ l.drop (posS l s) := by rw [← List.mem_append, List.take_append_drop]
  simp only [addS, List.mem_append, List.mem_cons, h]
  constructor
  · rintro (h | h | h) <;> simp [h]
  · rintro (h | h | h) <;> simp [h]

theorem search_any {lo : Nat} {w : World} {v : Value} {l : List ByteArray} (s : ByteArray) (h : Sl lo w v 1 l.length (l.map Value.string)) (hn : l.length ≤ 1000) :
    Calls Try.prog 82 #[v, .string s] w fun e w' => (∃ b, e = .returned (.tuple #[.int .i64 (posS l s : Nat), .bool b])) ∧ Drew w w' := by
  obtain ⟨A, c, rfl, hn2⟩ := h.shape
  rcases Nat.eq_zero_or_pos l.length with h0 | h0
  · obtain rfl : l = [] := List.eq_nil_of_length_eq_zero h0
    refine (Any2.slices_BinarySearch_string_empty Try.bsStr A c s w).mono ?_
    rintro e w' ⟨rfl, rfl⟩
    exact ⟨⟨_, rfl⟩, Drew.refl _⟩
  · obtain ⟨x, hx⟩ : ∃ x, l[0]? = some x := ⟨_, List.getElem?_eq_getElem h0⟩
    obtain ⟨b, o, rfl, _, _, _⟩ := str_at h hx
    refine (Any2.slices_BinarySearch_string Try.bsStr b o l.length c (fun t => l.getD t ⟨#[]⟩) s w (by omega) fun j hj => ?_).mono ?_
    · obtain ⟨y, hy⟩ : ∃ y, l[j]? = some y := ⟨_, List.getElem?_eq_getElem hj⟩
      obtain ⟨b', o', hbo, _, _, hc⟩ := str_at h hy
      cases hbo
      rw [List.getD_eq_getElem?_getD, hy]
      exact hc
    · rintro e w' ⟨rfl, q, rfl⟩
      exact ⟨⟨_, rfl⟩, q, rfl⟩
theorem clone_any {lo : Nat} {w : World} {v : Value} {l : List ByteArray} (h : Sl lo w v 1 l.length (l.map Value.string)) (hn : l.length ≤ 1000) :
    Calls Try.prog 10 #[v] w fun e w' => ∃ v', e = .returned v' ∧ w'.ownsRow w.heap.size 9 1 v' l.length (l.map Value.string) ∧ Below w.heap.size w w' := by
  obtain ⟨A, c, rfl, hn2⟩ := h.shape
  rcases Nat.eq_zero_or_pos l.length with h0 | h0
  · obtain rfl : l = [] := List.eq_nil_of_length_eq_zero h0
    rcases A with _ | a
    · refine (Try.slices_Clone_string_nil 0 c w).mono ?_
      rintro e w' ⟨rfl, rfl⟩
      exact ⟨_, rfl, World.ownsRow_nil _ _ _ _, Below.refl _ _⟩
    · refine (Try.slices_Clone_string_zero a c w).mono ?_
      rintro e w' ⟨v', rfl, h1, _, h2⟩
      exact ⟨_, rfl, h1, h2⟩
  · obtain ⟨x, hx⟩ : ∃ x, l[0]? = some x := ⟨_, List.getElem?_eq_getElem h0⟩
    obtain ⟨b, o, rfl, _, _, _⟩ := str_at h hx
    refine (Try.slices_Clone_string b o l.length c l w (Nat.le_refl _) (by omega) fun j hj => ?_).mono ?_
    · obtain ⟨y, hy⟩ : ∃ y, l[j]? = some y := ⟨_, List.getElem?_eq_getElem hj⟩
      obtain ⟨b', o', hbo, _, _, hc⟩ := str_at h hy
      cases hbo
      rw [List.getD_eq_getElem?_getD, hy]
      exact hc
    · rintro e w' ⟨v', rfl, h1, _, h2⟩
      rw [List.take_length] at h1
      exact ⟨_, rfl, h1, h2⟩
set_option maxHeartbeats 400000 in
theorem add_any {lo : Nat} {w : World} {v : Value} {l : List ByteArray} (s : ByteArray) (h : Sl lo w v 1 l.length (l.map Value.string)) (hn : l.length ≤ 999) :
    Calls Try.prog 76 #[v, .string s] w fun e w' => ∃ v', e = .returned v' ∧ Sl w.heap.size w' v' 1 (addS l s).length ((addS l s).map Value.string) ∧ Below w.heap.size w w' := by
  have H := Lib.hid h
  clear h
  have HL := Lib.hid (addS_len l s)
  go_enter Try.func76, Try.ntmps76
  go_wp2_with fail
  refine (search_any s H.out (by omega)).mono ?_
  rintro e w1 ⟨⟨b, rfl⟩, q, rfl⟩
  go_wp2_with fail
  refine (clone_any (w := w.drewN q) (lo := lo) H.out (by omega)).mono ?_
  rintro e w2 ⟨v2, rfl, hown, hb⟩
  have hb : Below w.heap.size w w2 := (below_drewN (Below.refl w.heap.size w) q).trans hb
  have hown : w2.ownsRow w.heap.size 9 1 v2 l.length (l.map Value.string) := hown
  have HB := Lib.hid hb
  have HO := Lib.hid hown
  clear hb hown
  go_wp2_with fail
  have hne : v2.ownBlock ≠ some w2.heap.size := fun hh => by have := (HO.out.lt _ hh).2; omega
  refine (insert_any (base := w.heap.size) (vb := w2.heap.size) (s := s) (i := posS l s) (HO.out.alloc _) (by rw [alloc_size]; have := HB.out.size; omega) rfl (by omega) (posS_le l s) (heap_alloc_new _ _) hne).mono ?_
  rintro e w3 ⟨v3, rfl, hown3, hb3⟩
  go_wp2
  go_ret
  refine ⟨_, rfl, ?_, (HB.out.alloc HB.out.size _).trans hb3⟩
  rw [HL.out]
  exact Sl.of_own hown3 (by omega)
end Go.Proofs.Ytfmffobdkfgekaa
