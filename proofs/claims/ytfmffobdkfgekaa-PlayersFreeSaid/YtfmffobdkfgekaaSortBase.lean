/- Between the library's words for a sorted row of structs and this claim's. -/
import Derived.Test.YtfmffobdkfgekaaRegion
import Derived.Shelf.SlSortCmp.InsertionK
set_option linter.unusedVariables false
set_option linter.unusedSimpArgs false
namespace Go.Proofs.Ytfmffobdkfgekaa
open Go.RowKit Go.Sort Go.Proofs

theorem flatK_list {α : Type} [Inhabited α] {enc : α → List Value} {k : Nat} (hk : ∀ x, (enc x).length = k) (d : Array α) : (flatK enc k d).toList = d.toList.flatMap enc := by
  refine List.ext_getElem? fun t => ?_
  by_cases ht : t < d.size * k
  · have hk0 : 0 < k := by
      rcases Nat.eq_zero_or_pos k with h | h
      · rw [h] at ht; simp at ht
      · exact h
    have hq : t / k < d.size := (Nat.div_lt_iff_lt_mul hk0).2 ht
    have hx : d.toList[t / k]? = some d[t / k]! := by rw [getElem!_pos d _ hq]; simp [hq]
    have h1 := flat_at hk d.toList (t / k) _ (t % k) hx (Nat.mod_lt _ hk0)
    rw [Nat.mul_comm, Nat.div_add_mod] at h1
    rw [h1]
    have hm : t % k < (enc d[t / k]!).length := by rw [hk]; exact Nat.mod_lt _ hk0
    have hf : t < (flatK enc k d).size := by simpa using ht
    have := get_flatK enc k d t ht
    rw [getElem!_pos (flatK enc k d) t hf, getElem!_pos (enc d[t / k]!) (t % k) hm] at this
    rw [List.getElem?_eq_getElem hm, ← this, Array.getElem?_toList, Array.getElem?_eq_getElem hf]
  · rw [List.getElem?_eq_none (by simpa using ht), List.getElem?_eq_none (by rw [flat_len hk]; simpa using ht)]

theorem holdsK_of_own {α : Type} [Inhabited α] {enc : α → List Value} {k : Nat} (hk : ∀ x, (enc x).length = k) {w : World} {base : Nat} {e : TypeId} {g cap : Nat} {d : Array α}
    (h : w.ownsRow base e k (.slice (some ⟨g, 0, none⟩) d.size cap) d.size (d.toList.flatMap enc)) : HoldsK enc k w g 0 d ∧ g < w.heap.size := by
  have hlt := (h.lt g rfl).2
  refine ⟨fun j hj => ?_, hlt⟩
  obtain ⟨h1, h2⟩ := h
  rcases h2 with ⟨h2, _⟩ | ⟨g', cap', cur, h2, hb, hg, hnc, hcm, hcs, ht⟩
  · cases h2
  · cases h2
    obtain ⟨hc, hf⟩ := row_cells hg
    refine ⟨?_, hf _⟩
    rw [hc, Nat.zero_add, getElem!_pos _ j hj]
    have h3 : (flatK enc k d).toList[j]? = some (flatK enc k d)[j] := by rw [Array.getElem?_toList, Array.getElem?_eq_getElem hj]
    rw [flatK_list hk, ← ht, List.getElem?_take] at h3
    split at h3
    · simpa using h3
    · cases h3

theorem own_sortWorldK {α : Type} [Inhabited α] {enc : α → List Value} {k : Nat} (hk : ∀ x, (enc x).length = k) {w : World} {base : Nat} {e : TypeId} {g cap : Nat} {d dk : Array α} (hs : dk.size = d.size) (m : Nat) (os : Array Obj)
    (h : w.ownsRow base e k (.slice (some ⟨g, 0, none⟩) d.size cap) d.size (d.toList.flatMap enc)) :
    (sortWorldK enc k w g 0 m dk os).ownsRow base e k (.slice (some ⟨g, 0, none⟩) d.size cap) d.size (dk.toList.flatMap enc) ∧ w.grownBy (sortWorldK enc k w g 0 m dk os) (some g) := by
  obtain ⟨h1, h2⟩ := h
  rcases h2 with ⟨h2, _⟩ | ⟨g', cap', cur, h2, hb, hg, hnc, hcm, hcs, ht⟩
  · cases h2
  · cases h2
    have hlt : g < w.heap.size := (Array.getElem?_eq_some_iff.1 hg).1
    have hheap : ∀ i, i < w.heap.size → (sortWorldK enc k w g 0 m dk os).heap[i]? = (mapBlock w g (putCells id 0 (flatK enc k dk))).heap[i]? := fun i hi => by
      show (grow (putRow id (Sort.ahead w m) g 0 (flatK enc k dk)) os).heap[i]? = _
      unfold grow putRow mapBlock Sort.ahead
      dsimp only
      rw [Array.getElem?_append_left (by simpa using hi)]
    have hgk : (sortWorldK enc k w g 0 m dk os).heap[g]? = some (.cells (putCells id 0 (flatK enc k dk) cur) e (0, 0)) := by
      rw [hheap g hlt]
      simp [mapBlock, Array.getElem?_modify, hg, onCells]
    refine ⟨⟨by rw [flat_len hk]; simp [hs], .inr ⟨g, cap, _, rfl, hb, hgk, hnc, hcm, by simp [putCells, hcs], ?_⟩⟩, ⟨rfl, rfl, rfl, ?_, fun i hi hne => ?_⟩⟩
    · refine List.ext_getElem? fun t => ?_
      rw [List.getElem?_take]
      by_cases ht' : t < d.size * k
      · have hf : t < (flatK enc k dk).size := by simpa [hs] using ht'
        have hc : t < cur.size := by rw [hcs]; exact Nat.lt_of_lt_of_le ht' (Nat.mul_le_mul_right _ hnc)
        rw [if_pos ht', ← flatK_list hk]
        simp [putCells, hc, hf]
        rw [if_pos (by rw [hs]; exact ht'), getElem!_pos (flatK enc k dk) t hf, Array.getElem?_eq_getElem hf]
      · rw [if_neg ht', List.getElem?_eq_none (by rw [flat_len hk]; simpa [hs] using ht')]
    · show _ ≤ (grow (putRow id (Sort.ahead w m) g 0 (flatK enc k dk)) os).heap.size
      unfold grow putRow mapBlock Sort.ahead
      simp
    · rw [hheap i hi]
      simp only [mapBlock, Array.getElem?_modify]
      rw [if_neg (by simpa using fun e => hne (by rw [e]))]
theorem permIn_all {α : Type} [Inhabited α] {d d' : Array α} (h : PermIn 0 d.size d d') : d'.toList.Perm d.toList := by
  have h3 := h.2.2
  have e : List.take d.size d'.toList = d'.toList := List.take_of_length_le (by simp [h.1])
  simpa [e] using h3
end Go.Proofs.Ytfmffobdkfgekaa
