/- The office's small methods: a new office; whether a player is held; how many adds there were in a week. -/
import Derived.Test.YtfmffobdkfgekaaOffice2
set_option linter.unusedVariables false
set_option linter.unusedSimpArgs false
namespace Go.Proofs.Ytfmffobdkfgekaa
open Go.RowKit Go.Maps

theorem office_made (w : World) (o : Obj) (b : Bd) : ∃ W, W = ((((w.alloc o).alloc (.map #[] 0)).alloc (.map #[] 0)).alloc (.cells #[.int .i64 b.most, .int .i64 b.hurt, .int .i64 b.adds, .int .i64 b.hold, .map (some (w.heap.size + 1)), .map (some (w.heap.size + 1 + 1))] 102)) ∧
    OfficeIn w.heap.size W (w.heap.size + 1 + 1 + 1) (w.heap.size + 1) (w.heap.size + 1 + 1) (office0 b) ∧ Below w.heap.size w W := by
  refine ⟨_, rfl, ?_, ?_⟩
  · have k1 : ∀ (w1 : World) (o2 : Obj) (i : Nat), i < w1.heap.size → (w1.alloc o2).heap[i]? = w1.heap[i]? := fun w1 o2 i hi => Below.heap_alloc _ _ _ hi
    have z1 := MapS.made (k := 9) (κ := ByteArray) strC Whr.v (w.alloc o)
    have z2 := MapS.made (k := 9) (κ := ByteArray) strC (id : Value → Value) ((w.alloc o).alloc (.map #[] 0))
    simp only [alloc_size] at z1 z2
    refine ⟨by omega, by omega, ?_, z1.keep ?_, [], z2.keep ?_, fun t => World.ownsRow_nil _ _ _ _, fun t u g hg => ?_⟩
    · have := heap_alloc_new (((w.alloc o).alloc (.map #[] 0)).alloc (.map #[] 0)) (.cells #[.int .i64 b.most, .int .i64 b.hurt, .int .i64 b.adds, .int .i64 b.hold, .map (some (w.heap.size + 1)), .map (some (w.heap.size + 1 + 1))] 102)
      simp only [alloc_size] at this
      exact this
    · rw [k1 _ _ _ (by simp only [alloc_size]; omega), k1 _ _ _ (by simp only [alloc_size]; omega)]
    · rw [k1 _ _ _ (by simp only [alloc_size]; omega)]
    · cases hg
  · exact ((((Below.refl w.heap.size w).alloc (Nat.le_refl _) _).alloc (by simp only [alloc_size]; omega) _).alloc (by simp only [alloc_size]; omega) _).alloc (by simp only [alloc_size]; omega) _
theorem newOffice_any (b : Bd) (w : World) : Calls Try.prog 62 #[b.v] w fun e w' => ∃ ob bm ba, e = .returned (.pointer (some ⟨ob, 0, none⟩)) ∧ OfficeIn w.heap.size w' ob bm ba (office0 b) ∧ Below w.heap.size w w' := by
  obtain ⟨m1, m2, m3, m4⟩ := b
  have hmm := @run_makeMap Try.prog
  dsimp only [Bd.v]
  go_enter Try.func62, Try.ntmps62
  go_wp2
  obtain ⟨W0, hW0, hB0, hL0⟩ := office_made w (.cells #[.int .i64 m1, .int .i64 m2, .int .i64 m3, .int .i64 m4] 27) ⟨m1, m2, m3, m4⟩
  have E := Lib.hid (And.intro hW0 (And.intro hB0 hL0))
  clear hW0 hB0 hL0 hmm
  go_ret
  have hw := E.out.1
  dsimp only at hw
  rw [← hw]
  exact ⟨_, _, _, rfl, E.out.2.1, E.out.2.2⟩
theorem fieldWhr (a : ByteArray) (b : Bool) (c : Int) (w : World) : (Instr.field 86 (.agg #[.string a, .bool b, .int .i64 c]) 0).run Try.prog w = .ok (.string a) w ∧ (Instr.field 86 (.agg #[.string a, .bool b, .int .i64 c]) 1).run Try.prog w = .ok (.bool b) w ∧ (Instr.field 86 (.agg #[.string a, .bool b, .int .i64 c]) 2).run Try.prog w = .ok (.int .i64 c) w :=
  ⟨by kernel_rfl, by kernel_rfl, by kernel_rfl⟩
set_option maxHeartbeats 400000 in
set_option maxRecDepth 20000 in
theorem heldO_any {lo : Nat} {w : World} {ob bm ba : Nat} {O : Office} (h : OfficeIn lo w ob bm ba O) (hok : O.b.ok) (x : ByteArray) (t : Int) (hx : x.size ≤ 1000) (ht : small t) (hd : small (ofO O x).dropped) :
    Calls Try.prog 48 #[.pointer (some ⟨ob, 0, none⟩), .string x, .int .i64 t] w fun e w' => e = .returned (.bool (heldO O x t)) ∧ Below w.heap.size w w' := by
  have HO := Lib.hid (of_any h x hx)
  have HIN := Lib.hid h
  have hho := hok.hold
  unfold heldO
  obtain ⟨d1, d2⟩ := hd
  obtain ⟨t1, t2⟩ := ht
  generalize hy : ofO O x = y at *
  obtain ⟨yt, yh, yd⟩ := y
  dsimp only [Whr.v] at *
  obtain ⟨H1, H2⟩ := hho
  have HHY := Lib.hid hy
  have hfd := (fieldWhr yt yh yd · |>.2.2)
  clear h hok hy
  go_enter Try.func48, Try.ntmps48
  go_wp2_with fail
  refine HO.out.mono ?_
  rintro e w1 ⟨rfl, hb1⟩
  have hin := HIN.out.below hb1
  obtain ⟨hc, hf⟩ := row_cells hin.row
  have HB := Lib.hid hb1
  clear hb1 hin hf
  by_cases h0 : 0 ≤ yd
  · go_wp2
    go_ret
    exact ⟨by simp [h0], HB.out⟩
  · have h0' : decide (0 ≤ yd) = false := by simpa using h0
    go_wp2
    go_ret
    exact ⟨by simp; omega, HB.out⟩
theorem zeroInts : ∀ w, (zeroValue 22).run Try.prog w = .ok (.slice none 0 0) w := Try.zeroValue22
theorem lookInts {w : World} {b : Nat} {M : List (ByteArray × Value)} (h : MapS strC id w b M) {x : ByteArray} (hx : x.size ≤ 1000) :
    (Instr.lookup 100 (.map (some b)) (.string x) false).run Try.prog w = .ok ((getM M x).getD (.slice none 0 0)) w := by
  have := h.lookup Try.underlying100 (zeroInts w) (strC_ok hx) false
  refine this.trans ?_
  cases getM M x <;> rfl
set_option maxHeartbeats 400000 in
set_option maxRecDepth 20000 in
theorem added_any {lo : Nat} {w : World} {ob bm ba : Nat} {O : Office} (h : OfficeIn lo w ob bm ba O) (t : ByteArray) (u : Int) (ht : t.size ≤ 1000) (hu : small u) (hn : (O.adds t).length ≤ 1000) (hs : ∀ x ∈ O.adds t, small x) :
    Calls Try.prog 49 #[.pointer (some ⟨ob, 0, none⟩), .string t, .int .i64 u] w fun e w' => e = .returned (.int .i64 (addedO O t u : Nat)) ∧ w = w' := by
  obtain ⟨hc, hf⟩ := row_cells h.row
  obtain ⟨A, a1, a2⟩ := h.ad
  have hl := lookInts (w := w) (x := t) a1 ht
  have hS := Sl.of_own (a2.own t) (by omega)
  obtain ⟨P, c, hP, hn2⟩ := hS.shape
  rw [hP] at hl hS
  have HS := Lib.hid hS
  unfold addedO
  have hle : ∀ k, ((O.adds t).take k).filter (inWeek u) = ((O.adds t).take k).filter (inWeek u) := fun _ => rfl
  clear h hf a1 a2 hP hS hle
  have wr : ∀ x : Int, small x → IntKind.i64.wrap (x.tdiv 604800000) = x.tdiv 604800000 := fun x hx => by have := weekOf_range hx; unfold weekOf at this; generalize x.tdiv 604800000 = d at this ⊢; rw [IntKind.wrap_i64]; omega
  have WR := Lib.hid wr
  have hwu := wr u hu
  have HSM := Lib.hid hs
  generalize hL : O.adds t = L at *
  generalize hN : L.length = N at *
  have HL := Lib.hid hN
  clear hs wr hL hN
  go_enter Try.func49, Try.ntmps49
  go_wp2
  go_loop [7, 17] (fun n i => ∃ k : Nat, k ≤ N ∧ i = .int .i64 k ∧ n = .int .i64 ((((L.take k).filter (inWeek u)).length : Nat) : Int)) (fun _ i => N - (intOf i).toNat)
  case atStart => exact ⟨0, by omega, rfl, rfl⟩
  case round =>
    obtain ⟨k, hk, rfl, rfl⟩ := hrel
    by_cases hlt : k < N
    · obtain ⟨x, hx⟩ : ∃ x, L[k]? = some x := ⟨_, List.getElem?_eq_getElem (by rw [HL.out]; exact hlt)⟩
      have hxs := HSM.out x (List.mem_of_getElem? hx)
      obtain ⟨b, o, rfl, _, _, hcx⟩ := int_at HS.out hx
      have hfi : (L.take (k + 1)).filter (inWeek u) = (L.take k).filter (inWeek u) ++ (if inWeek u x then [x] else []) := by
        rw [List.take_add_one, hx, Option.toList_some, List.filter_append, List.filter_cons, List.filter_nil]
      have HFI := Lib.hid hfi
      have hlen : ((L.take k).filter (inWeek u)).length ≤ k := Nat.le_trans (List.length_filter_le _ _) (by rw [List.length_take]; omega)
      have hwx := WR.out x hxs
      have hix : (0 : Int) ≤ (k : Int) ∧ (k : Int) < (N : Int) := ⟨by omega, by omega⟩
      clear hx hfi hxs
      cases e1 : inWeek u x with
      | true =>
        have b1 : (x.tdiv 604800000 == u.tdiv 604800000) = true := e1
        have hfc : (L.take (k + 1)).filter (inWeek u) = (L.take k).filter (inWeek u) ++ [x] := by rw [HFI.out, e1]; simp
        have HFC := Lib.hid hfc
        clear hfc
        go_wp2
        go_round
        case rel => exact ⟨k + 1, by omega, by go_num, by rw [HFC.out, List.length_append]; go_num⟩
        case measure => simp [intOf]; omega
      | false =>
        have b1 : (x.tdiv 604800000 == u.tdiv 604800000) = false := e1
        have hfc : (L.take (k + 1)).filter (inWeek u) = (L.take k).filter (inWeek u) := by rw [HFI.out, e1]; simp
        have HFC := Lib.hid hfc
        clear hfc
        go_wp2
        go_round
        case rel => exact ⟨k + 1, by omega, by go_num, by rw [HFC.out]⟩
        case measure => simp [intOf]; omega
    · have hkn : k = N := by omega
      subst hkn
      clear hlt
      go_wp2
      go_ret
      exact ⟨by rw [List.take_of_length_le (by rw [HL.out]; exact Nat.le_refl _)]; rfl, rfl⟩
end Go.Proofs.Ytfmffobdkfgekaa
