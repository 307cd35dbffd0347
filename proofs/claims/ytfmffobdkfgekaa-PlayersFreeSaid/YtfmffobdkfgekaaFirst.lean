/- The first number that is not 0: cmp.Or, base.First, the law's errs. -/
import Derived.Test.YtfmffobdkfgekaaQKey
import Derived.Test.YtfmffobdkfgekaaStream
set_option linter.unusedVariables false
set_option linter.unusedSimpArgs false
namespace Go.Proofs.Ytfmffobdkfgekaa
open Go.RowKit

def firstI : List Int → Int
  | [] => 0
  | x :: l => if x ≠ 0 then x else firstI l
theorem firstI_stop {l : List Int} {k : Nat} {x : Int} (hk : l[k]? = some x) (h : firstI (l.drop k) = firstI l) (hx : ¬ x = 0) : firstI l = x := by
  have hlt : k < l.length := (List.getElem?_eq_some_iff.1 hk).1
  rw [← h, List.drop_eq_getElem_cons hlt, (List.getElem?_eq_some_iff.1 hk).2]
  simp [firstI, hx]
theorem firstI_step {l : List Int} {k : Nat} (hk : l[k]? = some 0) (h : firstI (l.drop k) = firstI l) : firstI (l.drop (k + 1)) = firstI l := by
  have hlt : k < l.length := (List.getElem?_eq_some_iff.1 hk).1
  rw [← h, List.drop_eq_getElem_cons hlt, (List.getElem?_eq_some_iff.1 hk).2]
  simp [firstI]
theorem firstI_end {l : List Int} {k : Nat} (hk : ¬ k < l.length) (h : firstI (l.drop k) = firstI l) : firstI l = 0 := by
  rw [← h, List.drop_eq_nil_of_le (by omega)]; rfl
theorem int_at {lo : Nat} {w : World} {A : Option Addr} {c n : Nat} {l : List Int} (h : Sl lo w (.slice A n c) 1 n (l.map (.int .i64))) {k : Nat} {x : Int} (hk : l[k]? = some x) :
    ∃ b o, A = some ⟨b, o, none⟩ ∧ lo ≤ b ∧ b < w.heap.size ∧ w.cell? ⟨b, o + k, none⟩ = some (.int .i64 x) :=
  h.cell (j := k) (by rw [List.getElem?_map, hk]; rfl)
theorem Sl.shape {lo : Nat} {w : World} {v : Value} {sz n : Nat} {vs : List Value} (h : Sl lo w v sz n vs) : ∃ A c, v = .slice A n c ∧ n ≤ 1099511627776 := by
  obtain ⟨h1, h2, A, c, rfl, _⟩ := h
  exact ⟨A, c, rfl, h2⟩
set_option maxHeartbeats 400000 in
theorem first_any {lo : Nat} {w : World} {v : Value} {n : Nat} {l : List Int} (h : Sl lo w v 1 n (l.map (.int .i64))) (hn : l.length = n) :
    Calls Try.prog 55 #[v] w fun e w' => e = .returned (.int .i64 (firstI l)) ∧ Drew w w' := by
  obtain ⟨A, c, rfl, hn2⟩ := h.shape
  have H := Lib.hid h
  clear h
  go_enter Try.func55, Try.ntmps55
  go_wp2
  go_loopw [7] (fun i wr => ∃ k : Nat, k ≤ n ∧ i = .int .i64 k ∧ firstI (l.drop k) = firstI l ∧ ∃ q, wr = w.drewN q) (fun i _ => n - (intOf i).toNat)
  case atStart => exact ⟨0, by omega, rfl, rfl, 0, rfl⟩
  case round =>
    obtain ⟨k, hk, rfl, hf, q, rfl⟩ := hrel
    have HF := Lib.hid hf
    clear hf
    by_cases hlt : k < n
    · obtain ⟨x, hx⟩ : ∃ x, l[k]? = some x := ⟨_, List.getElem?_eq_getElem (by omega)⟩
      obtain ⟨b, o, rfl, _, _, hc⟩ := int_at H.out hx
      have HX := Lib.hid hx
      clear hx
      by_cases h0 : x = 0
      · subst h0
        go_wp2
        go_roundw
        case rel => exact ⟨k + 1, by omega, by go_num, firstI_step HX.out HF.out, _, rfl⟩
        case measure => simp [intOf]; omega
      · have HC := Lib.hid (firstI_stop HX.out HF.out h0)
        go_wp2
        go_ret
        exact ⟨congrArg (fun b => Ending.returned (.int .i64 b)) HC.out.symm, _, rfl⟩
    · have HC := Lib.hid (firstI_end (by rw [hn]; exact hlt) HF.out)
      go_wp2
      go_ret
      exact ⟨congrArg (fun b => Ending.returned (.int .i64 b)) HC.out.symm, _, rfl⟩
set_option maxHeartbeats 400000 in
theorem cmpOr_any {lo : Nat} {w : World} {v : Value} {n : Nat} {l : List Int} (h : Sl lo w v 1 n (l.map (.int .i64))) (hn : l.length = n) :
    Calls Try.prog 73 #[v] w fun e w' => e = .returned (.int .i64 (firstI l)) ∧ Drew w w' := by
  obtain ⟨A, c, rfl, hn2⟩ := h.shape
  have H := Lib.hid h
  clear h
  go_enter Try.func73, Try.ntmps73
  go_wp2
  go_loopw [8] (fun i wr => ∃ k : Nat, k ≤ n ∧ i = .int .i64 k ∧ firstI (l.drop k) = firstI l ∧ ∃ q, wr = w.drewN q) (fun i _ => n - (intOf i).toNat)
  case atStart => exact ⟨0, by omega, rfl, rfl, 0, rfl⟩
  case round =>
    obtain ⟨k, hk, rfl, hf, q, rfl⟩ := hrel
    have HF := Lib.hid hf
    clear hf
    by_cases hlt : k < n
    · obtain ⟨x, hx⟩ : ∃ x, l[k]? = some x := ⟨_, List.getElem?_eq_getElem (by omega)⟩
      obtain ⟨b, o, rfl, _, _, hc⟩ := int_at H.out hx
      have HX := Lib.hid hx
      clear hx
      by_cases h0 : x = 0
      · subst h0
        go_wp2
        go_roundw
        case rel => exact ⟨k + 1, by omega, by go_num, firstI_step HX.out HF.out, _, rfl⟩
        case measure => simp [intOf]; omega
      · have HC := Lib.hid (firstI_stop HX.out HF.out h0)
        go_wp2
        go_ret
        exact ⟨congrArg (fun b => Ending.returned (.int .i64 b)) HC.out.symm, _, rfl⟩
    · have HC := Lib.hid (firstI_end (by rw [hn]; exact hlt) HF.out)
      go_wp2
      go_ret
      exact ⟨congrArg (fun b => Ending.returned (.int .i64 b)) HC.out.symm, _, rfl⟩
set_option maxHeartbeats 400000 in
theorem errs_any {lo : Nat} {w : World} {v : Value} {n : Nat} {l : List Int} (h : Sl lo w v 1 n (l.map (.int .i64))) (hn : l.length = n) :
    Calls Try.prog 14 #[v] w fun e w' => e = .returned (.int .i64 (firstI l)) ∧ Drew w w' := by
  obtain ⟨A, c, rfl, hn2⟩ := h.shape
  have H := Lib.hid h
  clear h
  go_enter Try.func14, Try.ntmps14
  go_wp2
  go_loopw [7] (fun i wr => ∃ k : Nat, k ≤ n ∧ i = .int .i64 k ∧ firstI (l.drop k) = firstI l ∧ ∃ q, wr = w.drewN q) (fun i _ => n - (intOf i).toNat)
  case atStart => exact ⟨0, by omega, rfl, rfl, 0, rfl⟩
  case round =>
    obtain ⟨k, hk, rfl, hf, q, rfl⟩ := hrel
    have HF := Lib.hid hf
    clear hf
    by_cases hlt : k < n
    · obtain ⟨x, hx⟩ : ∃ x, l[k]? = some x := ⟨_, List.getElem?_eq_getElem (by omega)⟩
      obtain ⟨b, o, rfl, _, _, hc⟩ := int_at H.out hx
      have HX := Lib.hid hx
      clear hx
      by_cases h0 : x = 0
      · subst h0
        go_wp2
        go_roundw
        case rel => exact ⟨k + 1, by omega, by go_num, firstI_step HX.out HF.out, _, rfl⟩
        case measure => simp [intOf]; omega
      · have HC := Lib.hid (firstI_stop HX.out HF.out h0)
        go_wp2
        go_ret
        exact ⟨congrArg (fun b => Ending.returned (.int .i64 b)) HC.out.symm, _, rfl⟩
    · have HC := Lib.hid (firstI_end (by rw [hn]; exact hlt) HF.out)
      go_wp2
      go_ret
      exact ⟨congrArg (fun b => Ending.returned (.int .i64 b)) HC.out.symm, _, rfl⟩
end Go.Proofs.Ytfmffobdkfgekaa
