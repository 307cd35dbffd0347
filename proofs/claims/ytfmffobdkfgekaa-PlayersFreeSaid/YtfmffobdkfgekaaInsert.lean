/- slices.Insert of one string into a row of the call's own. -/
import Derived.Test.YtfmffobdkfgekaaShelfB
import Derived.Test.YtfmffobdkfgekaaRowCells
import Derived.Test.YtfmffobdkfgekaaStream
import Derived.Laws.AppendOwn
set_option linter.unusedVariables false
set_option linter.unusedSimpArgs false
namespace Go.Proofs.Ytfmffobdkfgekaa
open Go.RowKit

theorem take_ins {L cs : List Value} {n i : Nat} {x : Value} (hL : L.take i = cs.take i) (hc : cs.length = n) (hi : i ≤ n) (hn : n + 1 ≤ L.length) (M : List Value) (hM : M.length = L.length)
    (hm : ∀ t, t < n + 1 → M[t]? = if t < i then L[t]? else if t = i then some x else cs[t - 1]?) : M.take (n + 1) = cs.take i ++ x :: cs.drop i := by
  refine List.ext_getElem? fun t => ?_
  rw [List.getElem?_take]
  by_cases ht : t < n + 1
  · rw [if_pos ht, hm t ht]
    by_cases h1 : t < i
    · rw [if_pos h1, List.getElem?_append_left (by rw [List.length_take]; omega), ← hL, List.getElem?_take, if_pos h1]
    · rw [if_neg h1, List.getElem?_append_right (by rw [List.length_take]; omega), List.length_take, Nat.min_eq_left (by omega)]
      by_cases h2 : t = i
      · rw [if_pos h2, h2, Nat.sub_self]; rfl
      · rw [if_neg h2, show t - i = (t - i - 1) + 1 by omega, List.getElem?_cons_succ, List.getElem?_drop]
        congr 1; omega
  · rw [if_neg ht, List.getElem?_eq_none (by simp only [List.length_append, List.length_take, List.length_cons, List.length_drop]; omega)]
theorem ins_shift {L cs : List Value} {n i : Nat} (x : Value) (hL : L.take n = cs) (hc : cs.length = n) (hi : i ≤ n) (hn : n + 1 ≤ L.length) : (setL (setL L (i + 1) (cs.drop i)) i [x]).take (n + 1) = cs.take i ++ x :: cs.drop i := by
  refine take_ins (L := L) (by rw [← hL, List.take_take, Nat.min_eq_left hi]) hc hi hn _ (by rw [setL_len, setL_len]) fun t ht => ?_
  rw [setL_get _ _ _ _ (by rw [setL_len]; omega), setL_get _ _ _ _ (by omega)]
  simp only [List.length_cons, List.length_nil, List.length_drop]
  by_cases h1 : t < i
  · rw [if_neg (by omega), if_neg (by omega), if_pos h1]
  · by_cases h2 : t = i
    · subst h2; rw [if_pos ⟨by omega, by omega⟩, if_neg h1, if_pos rfl, Nat.sub_self]; rfl
    · rw [if_neg (by omega), if_pos ⟨by omega, by omega⟩, if_neg h1, if_neg h2, List.getElem?_drop]; congr 1; omega
theorem ins_grow {L cs : List Value} {n i : Nat} (x : Value) (hL : L.take i = cs.take i) (hc : cs.length = n) (hi : i ≤ n) (hn : n + 1 ≤ L.length) : (setL (setL L i [x]) (i + 1) (cs.drop i)).take (n + 1) = cs.take i ++ x :: cs.drop i := by
  refine take_ins (L := L) hL hc hi hn _ (by rw [setL_len, setL_len]) fun t ht => ?_
  rw [setL_get _ _ _ _ (by rw [setL_len]; omega), setL_get _ _ _ _ (by omega)]
  simp only [List.length_cons, List.length_nil, List.length_drop]
  by_cases h1 : t < i
  · rw [if_neg (by omega), if_neg (by omega), if_pos h1]
  · by_cases h2 : t = i
    · subst h2; rw [if_neg (by omega), if_pos ⟨by omega, by omega⟩, if_neg h1, if_pos rfl, Nat.sub_self]; rfl
    · rw [if_pos ⟨by omega, by omega⟩, if_neg h1, if_neg h2, List.getElem?_drop]; congr 1; omega
theorem zero_size (n : Nat) : (Builtin.zeroCells (Value.string ⟨#[]⟩).cells n).size = n := by simp [Builtin.zeroCells, Value.cells]
theorem own_mk {w : World} {base g cap n : Nat} {e : TypeId} {cur : Array Value} {vs : List Value} (hb : base ≤ g) (hg : w.heap[g]? = some (.cells cur e (0, 0))) (hn : n ≤ cap) (hm : cap ≤ maxLen) (hs : cur.size = cap) (ht : cur.toList.take n = vs) (hl : vs.length = n) :
    w.ownsRow base e 1 (.slice (some ⟨g, 0, none⟩) n cap) n vs :=
  ⟨by omega, .inr ⟨g, cap, cur, rfl, hb, hg, hn, hm, by omega, by rw [Nat.mul_one]; exact ht⟩⟩
theorem str_one (l : List ByteArray) : ∀ v ∈ l.map Value.string, v.oneCell' = true := fun v hv => by
  obtain ⟨x, _, rfl⟩ := List.mem_map.1 hv; rfl

theorem below_setCells {B g : Nat} {a w : World} (h : Below B a w) (hB : B ≤ w.heap.size) (hg : B ≤ g) (o : Nat) (vs : List Value) : Below B a (w.setCells g o vs) :=
  h.grown (gr_setCells g o vs) hB fun k hk => by cases hk; exact hg
set_option maxHeartbeats 800000 in
theorem insert_any {w : World} {base vb n i : Nat} {v : Value} {l : List ByteArray} {s : ByteArray} (hown : w.ownsRow base 9 1 v n (l.map Value.string)) (hbase : base ≤ w.heap.size) (hl : l.length = n) (hn : n ≤ 1000) (hi : i ≤ n)
    (hvb : w.heap[vb]? = some (.cells #[.string s] 9 (0, 0))) (hne : v.ownBlock ≠ some vb) :
    Calls Try.prog 83 #[v, .int .i64 i, .slice (some ⟨vb, 0, none⟩) 1 1] w fun e w' => ∃ v', e = .returned v' ∧ w'.ownsRow base 9 1 v' (n + 1) ((l.take i ++ s :: l.drop i).map Value.string) ∧ Below base w w' := by
  have hcl : (l.map Value.string).length = n := by simp [hl]
  have hvs : ∀ (j : Nat) (u : Value), [Value.string s][j]? = some u → w.cell? ⟨vb, 0 + j, none⟩ = some u := fun j u hu => by rw [(row_cells hvb).1, Nat.zero_add, ← Array.getElem?_toList]; exact hu
  have h1v : ∀ u ∈ [Value.string s], u.oneCell' = true := fun u hu => by simp at hu; subst hu; rfl
  have hm : maxLen = 9223372036854775807 := rfl
  have hmap : (l.take i ++ s :: l.drop i).map Value.string = (l.map Value.string).take i ++ .string s :: (l.map Value.string).drop i := by simp [List.map_take, List.map_drop]
  have hlen : ((l.take i ++ s :: l.drop i).map Value.string).length = n + 1 := by simp; omega
  have hge := grownCap_ge w (n + 1)
  have hle := fun c => grownCap_le_maxLen w (n + 1) c 9 (by omega)
  rcases hown.2 with ⟨rfl, rfl⟩ | ⟨g, cap, cur, rfl, hb, hg, hnc, hcm, hcs, ht⟩
  · obtain rfl : i = 0 := by omega
    obtain rfl : l = [] := List.eq_nil_of_length_eq_zero hl
    refine (Any2.slices_Insert_string_end_grow Try.insStr none 0 0 vb 0 1 1 [] [.string s] w (by omega) (by omega) (by omega) (by omega) rfl rfl (fun _ => rfl) (fun a h => by cases h) hvs h1v).mono ?_
    rintro e w' ⟨rfl, rfl⟩
    refine ⟨_, rfl, own_mk hbase (heap_alloc_new _ _) (hge 0 9) (hle 0) ?_ ?_ rfl, ((Below.refl base w).drew).alloc hbase _⟩
    · have h := hge 0 9
      show ((([Value.string s]).toArray ++ Builtin.zeroCells (Value.string ⟨#[]⟩).cells (grownCap w (0 + 1) 0 9 - (0 + 1)))).size = grownCap w (0 + 1) 0 9
      rw [Array.size_append, zero_size]
      simp only [List.size_toArray, List.length_cons, List.length_nil]
      omega
    · show (([Value.string s]).toArray ++ Builtin.zeroCells (Value.string ⟨#[]⟩).cells (grownCap w 1 0 9 - 1)).toList.take 1 = _
      simp
  · have hlt : g < w.heap.size := (Array.getElem?_eq_some_iff.1 hg).1
    rw [Nat.mul_one] at hcs ht
    have hcc : cur.toList.length = cap := by rw [Array.length_toList, hcs]
    have hcs' : ∀ (j : Nat) (u : Value), (l.map Value.string)[j]? = some u → w.cell? ⟨g, 0 + j, none⟩ = some u := fun j u hu => by
      rw [← ht, List.getElem?_take] at hu
      rw [(row_cells hg).1, Nat.zero_add, ← Array.getElem?_toList]
      split at hu
      · exact hu
      · cases hu
    have hfz := (row_cells hg).2
    by_cases hroom : n + 1 ≤ cap
    · have hsp : ∀ j, j < n + 1 → (w.cell? ⟨g, 0 + j, none⟩).isSome = true := fun j hj => by
        rw [(row_cells hg).1, Array.getElem?_eq_getElem (by omega)]; rfl
      by_cases hin : i < n
      · refine (Any2.slices_Insert_string_shift Try.insStr g 0 n cap i vb 0 1 1 (l.map Value.string) [.string s] w hin (by omega) hroom (by omega) (fun h => hne (by rw [← h]; rfl)) hcl rfl hcs' hsp (fun j _ => hfz _) hvs (str_one l) h1v
          9 9 1 cap (by simp [World.shape?, hvb]) (by simp [World.shape?, hg, hcs]) (by omega) ((row_cells hvb).2 _) ((row_cells hvb).2 _)).mono ?_
        rintro e w' ⟨rfl, rfl⟩
        obtain ⟨c1, h1, e1⟩ := setCells_heap (w := w.drew) (e := 9) (cur := cur) ((l.map Value.string).drop i) (0 + (i + 1)) hg
        obtain ⟨c2, h2, e2⟩ := setCells_heap [.string s] (0 + i) h1
        have hk := ins_shift (L := cur.toList) (.string s) ht hcl hi (by omega)
        have e3 : c2.toList = setL (setL cur.toList (i + 1) ((l.map Value.string).drop i)) i [.string s] := by rw [e2, e1, Nat.zero_add, Nat.zero_add]
        refine ⟨_, rfl, own_mk hb h2 hroom hcm (by rw [← Array.length_toList, e3, setL_len, setL_len, hcc]) (by rw [e3, hk, hmap]) hlen, ?_⟩
        exact below_setCells (below_setCells (Below.refl base w).drew hbase hb _ _) (by rw [(setCells_other _ _).1]; exact hbase) hb _ _
      · obtain rfl : i = n := by omega
        refine (Any2.slices_Insert_string_end_room Try.insStr g 0 i cap vb 0 1 1 [.string s] w (by omega) hroom (by omega) rfl (fun j hj => by rw [show 0 + i + j = 0 + (i + j) by omega]; exact hsp _ (by omega)) (fun j _ => hfz _) hvs h1v).mono ?_
        rintro e w' ⟨rfl, rfl⟩
        obtain ⟨c1, h1, e1⟩ := setCells_heap (w := w) [.string s] (0 + i) hg
        have hk := ins_shift (L := cur.toList) (.string s) ht hcl hi (by omega)
        have hd : (l.map Value.string).drop i = [] := List.drop_eq_nil_of_le (by omega)
        rw [hd] at hk
        have e3 : c1.toList = setL (setL cur.toList (i + 1) []) i [.string s] := by rw [e1, Nat.zero_add]; rfl
        refine ⟨_, rfl, own_mk hb h1 hroom hcm (by rw [← Array.length_toList, e3, setL_len, setL_len, hcc]) (by rw [e3, hk, hmap, hd]) hlen, ?_⟩
        exact below_setCells (Below.refl base w) hbase hb _ _
    · by_cases hin : i < n
      · refine (Any2.slices_Insert_string_grow Try.insStr g 0 n cap i vb 0 1 1 (l.map Value.string) [.string s] w hin (by omega) hnc (by omega) (by omega) hcl rfl hcs' hvs (str_one l) h1v).mono ?_
        rintro e w' ⟨rfl, rfl⟩
        obtain ⟨A, hA⟩ : ∃ A, ((((l.map Value.string).take i).toArray ++ Builtin.zeroCells (Value.string ⟨#[]⟩).cells (n + 1 - i) ++ Builtin.zeroCells (Value.string ⟨#[]⟩).cells (grownCap w (n + 1) cap 9 - (n + 1)))) = A := ⟨_, rfl⟩
        have hgc := hge cap 9
        have hAl : A.size = grownCap w (n + 1) cap 9 := by
          rw [← hA, Array.size_append, Array.size_append, zero_size, zero_size]
          simp only [List.size_toArray, List.length_take, List.length_map]
          omega
        have hAt : A.toList.take i = (l.map Value.string).take i := by
          rw [← hA]
          simp only [Array.toList_append, List.append_assoc]
          rw [List.take_append_of_le_length (by simp; omega), List.take_take, Nat.min_self]
        obtain ⟨c1, h1, e1⟩ := setCells_heap (w := (w.alloc (.cells A 9)).drew) [.string s] i (heap_alloc_new _ _)
        obtain ⟨c2, h2, e2⟩ := setCells_heap (w := ((w.alloc (.cells A 9)).drew.setCells w.heap.size i [.string s]).drew) ((l.map Value.string).drop i) (i + 1) h1
        have hAl2 : A.toList.length = grownCap w (n + 1) cap 9 := by rw [Array.length_toList, hAl]
        have hk := ins_grow (L := A.toList) (.string s) hAt hcl hi (by omega)
        have e3 : c2.toList = setL (setL A.toList i [.string s]) (i + 1) ((l.map Value.string).drop i) := by rw [e2, e1]
        subst hA
        refine ⟨_, rfl, own_mk hbase h2 hgc (hle cap) (by rw [← Array.length_toList, e3, setL_len, setL_len, hAl2]; rfl) (by rw [e3, hk, hmap]) hlen, ?_⟩
        exact below_setCells (below_setCells ((Below.refl base w).alloc hbase _).drew (by show base ≤ (w.alloc _).heap.size; rw [alloc_size]; omega) hbase _ _).drew (by show base ≤ (World.setCells _ _ _ _).heap.size; rw [(setCells_other _ _).1]; show base ≤ (w.alloc _).heap.size; rw [alloc_size]; omega) hbase _ _
      · obtain rfl : i = n := by omega
        refine (Any2.slices_Insert_string_end_grow Try.insStr (some ⟨g, 0, none⟩) i cap vb 0 1 1 (l.map Value.string) [.string s] w (by omega) hnc (by omega) (by omega) hcl rfl (fun h => by cases h) (fun a ha j u hu => by cases ha; rw [add_off]; exact hcs' j u hu) hvs h1v).mono ?_
        rintro e w' ⟨rfl, rfl⟩
        have hgc := hge cap 9
        have hd : (l.map Value.string).drop i = [] := List.drop_eq_nil_of_le (by omega)
        have htk : (l.map Value.string).take i = l.map Value.string := List.take_of_length_le (by omega)
        refine ⟨_, rfl, own_mk hbase (heap_alloc_new _ _) hgc (hle cap) ?_ ?_ hlen, ((Below.refl base w).drew).alloc hbase _⟩
        · show ((l.map Value.string ++ [Value.string s]).toArray ++ Builtin.zeroCells (Value.string ⟨#[]⟩).cells (grownCap w (i + 1) cap 9 - (i + 1))).size = grownCap w (i + 1) cap 9
          rw [Array.size_append, zero_size]
          simp only [List.size_toArray, List.length_append, List.length_map, List.length_cons, List.length_nil]
          omega
        · rw [hmap, hd, htk]
          simp only [Array.toList_append]
          rw [List.take_append_of_le_length (by simp; omega), List.take_of_length_le (by simp; omega)]
end Go.Proofs.Ytfmffobdkfgekaa
