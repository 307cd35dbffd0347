/- A list without a string: roster.less. -/
import Derived.Test.YtfmffobdkfgekaaAdd
import Derived.Deep.Onto
set_option linter.unusedVariables false
set_option linter.unusedSimpArgs false
namespace Go.Proofs.Ytfmffobdkfgekaa
open Go.RowKit Go.Sort Go.Proofs

def lessS (l : List ByteArray) (s : ByteArray) : List ByteArray := l.filter fun x => !(x.toList == s.toList)
instance : Inhabited ByteArray := ⟨⟨#[]⟩⟩
theorem less1_gives (s x : ByteArray) (B : Nat) (W : World) (hc : W.cell? ⟨B, 0, none⟩ = some (.string s)) :
    FnGives Try.prog 85 #[.pointer (some ⟨B, 0, none⟩)] #[.string x] (.bool (x.toList == s.toList)) W := by
  show Calls Try.prog 85 #[.string x, .pointer (some ⟨B, 0, none⟩)] W _
  go_enter Try.func85, Try.ntmps85
  go_wp2
  all_goals (go_ret; exact ⟨rfl, 0, rfl⟩)
theorem less1_pred (s : ByteArray) (B : Nat) (w : World) (hB : B < w.heap.size) (hcell : w.cell? ⟨B, 0, none⟩ = some (.string s)) :
    PredAt Try.prog 85 #[.pointer (some ⟨B, 0, none⟩)] Value.string (fun x => x.toList == s.toList) w :=
  fun W x hb => less1_gives s x B W ((hb.cell (p := ⟨B, 0, none⟩) hB).trans hcell)
theorem less1_over (s : ByteArray) (B blk off size : Nat) (w : World) (hB : B < w.heap.size) (hne : B ≠ blk) (hcell : w.cell? ⟨B, 0, none⟩ = some (.string s)) :
    PredOver Try.prog 85 #[.pointer (some ⟨B, 0, none⟩)] Value.string (fun x => x.toList == s.toList) blk off size w :=
  fun n os dk x _ => less1_gives s x B _ (by
    unfold sortWorld
    rw [cell?_grow _ _ _ (by show B < (putRow _ _ _ _ _).heap.size; rw [size_putRow]; exact hB), cell?_putRow_other _ _ blk off _ _ (Or.inl hne)]
    exact hcell)
theorem holds_own {w : World} {base g cap : Nat} {e : TypeId} {l : List ByteArray} (h : w.ownsRow base e 1 (.slice (some ⟨g, 0, none⟩) l.length cap) l.length (l.map Value.string)) : Holds Value.string w g 0 l.toArray := by
  intro j hj
  have hj' : j < l.length := by simpa using hj
  have hc := h.cells (g := g) rfl j (.string l[j]) (by rw [List.getElem?_map, List.getElem?_eq_getElem hj']; rfl)
  rw [add_off] at hc
  refine ⟨by rw [hc, getElem!_pos l.toArray j hj]; rfl, ?_⟩
  obtain ⟨h1, h2⟩ := h
  rcases h2 with ⟨h2, _⟩ | ⟨g', cap', cur, h2, hb, hg, hnc, hcm, hcs, ht⟩
  · cases h2
  · cases h2; exact (row_cells hg).2 _
theorem below_putRow {B g : Nat} {w : World} (hg : B ≤ g) (q : Nat) (d : Array ByteArray) : Below B w (putRow Value.string (Sort.ahead w q) g 0 d) := by
  refine ⟨rfl, rfl, rfl, by rw [size_putRow]; exact Nat.le_refl _, fun i hi => ?_⟩
  unfold putRow mapBlock Sort.ahead
  simp only [Array.getElem?_modify]
  rw [if_neg (by omega)]
theorem enters_less1 : ∀ args w, (callFunc 85 args).run Try.prog w = .ok (.enter 85 args) w := enters_of Try.func85 (by kernel_rfl) rfl
theorem zeroStr : ∀ w, (zeroValue 9).run Try.prog w = .ok (.string ⟨#[]⟩) w := Try.zeroValue9

theorem deleteFunc_some {w : World} {base g cap B : Nat} {l : List ByteArray} {s : ByteArray} (hown : w.ownsRow base 9 1 (.slice (some ⟨g, 0, none⟩) l.length cap) l.length (l.map Value.string)) (hn : l.length ≤ 1000)
    (hB : B < w.heap.size) (hne : B ≠ g) (hcell : w.cell? ⟨B, 0, none⟩ = some (.string s)) :
    Calls Try.prog 84 #[.slice (some ⟨g, 0, none⟩) l.length cap, .func (.func 85) #[] #[.pointer (some ⟨B, 0, none⟩)]] w fun e w' =>
      ∃ v', e = .returned v' ∧ Sl base w' v' 1 (lessS l s).length ((lessS l s).map Value.string) ∧ Below base w w' := by
  have hH := holds_own hown
  have hbs := (hown.lt g rfl)
  have hcc : l.length ≤ cap ∧ cap ≤ 9223372036854775807 := by
    rcases hown.2 with ⟨h2, _⟩ | ⟨g', cap', cur, h2, hb, hg, hnc, hcm, hcs, ht⟩
    · cases h2
    · cases h2; exact ⟨hnc, hcm⟩
  have hcon := AnyE.slices_DeleteFunc Try.delF Value.string (fun _ => rfl) (fun x => x.toList == s.toList) 85 #[.pointer (some ⟨B, 0, none⟩)] enters_less1 (⟨#[]⟩ : ByteArray) zeroStr g 0 cap l.toArray w
    (less1_pred s B w hB hcell) (less1_over s B g 0 _ w hB hne hcell) hH (by simp; omega) (by simpa using hcc.1)
  simp only [List.size_toArray] at hcon
  refine Calls.mono hcon ?_
  rintro e w' ⟨rfl, q, rfl⟩
  have hle : (lessS l s).length ≤ l.length := List.length_filter_le _ _
  refine ⟨_, rfl, ?_, below_putRow hbs.1 q _⟩
  have hh := holds_putRow Value.string (Sort.ahead w q) g 0 l.toArray ((lessS l s) ++ List.replicate (l.length - (lessS l s).length) (⟨#[]⟩ : ByteArray)).toArray (holds_ahead _ w q g 0 _ hH) (by simp; omega)
  refine ⟨by simp, by omega, _, _, rfl, by show (lessS l s).length ≤ cap; omega, hcc.2, fun h0 => ⟨g, 0, rfl, hbs.1, by rw [size_putRow]; exact hbs.2, fun j u hu => ?_⟩⟩
  rw [List.getElem?_map] at hu
  obtain ⟨x, hx, rfl⟩ := Option.map_eq_some_iff.1 hu
  have hj : j < (lessS l s).length := (List.getElem?_eq_some_iff.1 hx).1
  have := (hh j (by simp; omega)).1
  refine this.trans ?_
  rw [getElem!_pos _ j (by simp; omega)]
  simp only [List.getElem_toArray]
  rw [List.getElem_append_left hj, (List.getElem?_eq_some_iff.1 hx).2]
theorem indexFunc_nil (f : Value) (w : World) : Calls Try.prog 44 #[.slice none 0 0, f] w fun e w' => e = .returned (.int .i64 (-1)) ∧ Drew w w' := by
  go_enter Try.func44, Try.ntmps44
  go_wp2
  go_loopw [8] (fun i wr => i = .int .i64 0 ∧ ∃ q, wr = w.drewN q) (fun i _ => 0)
  case atStart => exact ⟨rfl, 0, rfl⟩
  case round =>
    obtain ⟨rfl, q, rfl⟩ := hrel
    go_wp2
    go_ret
    exact ⟨rfl, _, rfl⟩
theorem deleteFunc_nil (f : Value) (w : World) : Calls Try.prog 84 #[.slice none 0 0, f] w fun e w' => e = .returned (.slice none 0 0) ∧ Drew w w' := by
  go_enter Try.func84, Try.ntmps84
  go_wp2_with fail
  refine (indexFunc_nil _ _).mono ?_
  rintro e w' ⟨rfl, q, rfl⟩
  go_wp2
  go_ret
  exact ⟨rfl, _, rfl⟩
set_option maxHeartbeats 400000 in
theorem less_any {lo : Nat} {w : World} {v : Value} {l : List ByteArray} (s : ByteArray) (h : Sl lo w v 1 l.length (l.map Value.string)) (hn : l.length ≤ 999) :
    Calls Try.prog 77 #[v, .string s] w fun e w' => ∃ v', e = .returned v' ∧ Sl w.heap.size w' v' 1 (lessS l s).length ((lessS l s).map Value.string) ∧ Below w.heap.size w w' := by
  have hcl := clone_any (w := w.alloc (.cells #[.string s] 9)) (h.below ((Below.refl w.heap.size w).alloc (Nat.le_refl _) _)) (by omega)
  have HC := Lib.hid hcl
  clear h hcl
  go_enter Try.func77, Try.ntmps77
  go_wp2_with fail
  refine HC.out.mono ?_
  rintro e w2 ⟨v2, rfl, hown, hb⟩
  have hcell : w2.cell? ⟨w.heap.size, 0, none⟩ = some (.string s) := by
    rw [hb.cell (p := ⟨w.heap.size, 0, none⟩) (by simp)]
    exact (row_cells (heap_alloc_new w _)).1 0
  have hsz : w.heap.size < w2.heap.size := by have := hb.size; rw [alloc_size] at this; omega
  have hbw : Below w.heap.size w w2 := ((Below.refl w.heap.size w).alloc (Nat.le_refl _) _).trans (hb.mono (by simp))
  have HB := Lib.hid hbw
  have hown : w2.ownsRow (w.heap.size + 1) 9 1 v2 l.length (l.map Value.string) := by rw [alloc_size] at hown; exact hown
  clear hb hbw
  rcases hown.2 with ⟨rfl, h0⟩ | ⟨g, cap, cur, rfl, hrest⟩
  · have HH := Lib.hid h0
    clear hown h0
    go_wp2_with fail
    refine (deleteFunc_nil _ _).mono ?_
    rintro e w3 ⟨rfl, q, rfl⟩
    go_wp2
    go_ret
    have hl0 : l = [] := List.eq_nil_of_length_eq_zero HH.out
    subst hl0
    exact ⟨_, rfl, Sl.nil _ _ _, below_drewN HB.out _⟩
  · have hgl := hown.lt g rfl
    have HO := Lib.hid hown
    clear hown hrest
    go_wp2_with fail
    refine (deleteFunc_some (base := w.heap.size) (B := w.heap.size) (s := s) (World.ownsRow.mono HO.out (by omega)) (by omega) hsz (by omega) hcell).mono ?_
    rintro e w3 ⟨v3, rfl, hs3, hb3⟩
    go_wp2
    go_ret
    exact ⟨_, rfl, hs3, HB.out.trans hb3⟩
end Go.Proofs.Ytfmffobdkfgekaa
