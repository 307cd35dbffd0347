/- Whether a list of strings has one that is no key. -/
import Derived.Test.YtfmffobdkfgekaaFaults
set_option linter.unusedVariables false
set_option linter.unusedSimpArgs false
namespace Go.Proofs.Ytfmffobdkfgekaa
open Go.RowKit

theorem str_at {lo : Nat} {w : World} {A : Option Addr} {c n : Nat} {l : List ByteArray} (h : Sl lo w (.slice A n c) 1 n (l.map Value.string)) {k : Nat} {x : ByteArray} (hk : l[k]? = some x) :
    ∃ b o, A = some ⟨b, o, none⟩ ∧ lo ≤ b ∧ b < w.heap.size ∧ w.cell? ⟨b, o + k, none⟩ = some (.string x) :=
  h.cell (j := k) (by rw [List.getElem?_map, hk]; rfl)
theorem any_stop {α : Type} {p : α → Bool} {l : List α} {k : Nat} {x : α} (hk : l[k]? = some x) (hx : p x = true) : l.any p = true := List.any_eq_true.2 ⟨x, List.mem_of_getElem? hk, hx⟩
theorem any_end {α : Type} {p : α → Bool} {l : List α} (h : ∀ (k : Nat) (x : α), l[k]? = some x → p x = false) : l.any p = false := by
  cases ha : l.any p with
  | false => rfl
  | true =>
    obtain ⟨x, hx, hp⟩ := List.any_eq_true.1 ha
    obtain ⟨k, hk⟩ := List.getElem?_of_mem hx
    rw [h k x hk] at hp; cases hp
set_option maxHeartbeats 400000 in
theorem indexFunc_RFree1 {lo : Nat} {w : World} {v : Value} {n : Nat} {l : List ByteArray} {p : ByteArray → Bool} (hp : Asks 36 p) (h : Sl lo w v 1 n (l.map Value.string)) (hl : l.length = n) (hok : ∀ x ∈ l, x.size ≤ 1000) :
    Calls Try.prog 44 #[v, .func (.func 36) #[] #[]] w fun e w' => (∃ r : Int, e = .returned (.int .i64 r) ∧ -1 ≤ r ∧ r ≤ n ∧ l.any p = decide (0 ≤ r)) ∧ Drew w w' := by
  obtain ⟨A, c, rfl, hn2⟩ := h.shape
  have H := Lib.hid h
  have HP := Lib.hid hp
  clear h hp
  go_enter Try.func44, Try.ntmps44
  go_wp2
  go_loopw [8] (fun i wr => ∃ k : Nat, k ≤ n ∧ i = .int .i64 k ∧ (∀ j x, j < k → l[j]? = some x → p x = false) ∧ ∃ q, wr = w.drewN q) (fun i _ => n - (intOf i).toNat)
  case atStart => exact ⟨0, by omega, rfl, fun j x hj => absurd hj (by omega), 0, rfl⟩
  case round =>
    obtain ⟨k, hk, rfl, hf, q, rfl⟩ := hrel
    have HF := Lib.hid hf
    clear hf
    by_cases hlt : k < n
    · obtain ⟨x, hx⟩ : ∃ x, l[k]? = some x := ⟨_, List.getElem?_eq_getElem (by omega)⟩
      obtain ⟨b, o, rfl, _, _, hc⟩ := str_at H.out hx
      have hxs := hok x (List.mem_of_getElem? hx)
      have HX := Lib.hid hx
      clear hx
      go_wp2_with fail
      refine (HP.out x _ hxs).mono ?_
      rintro e w' ⟨rfl, q2, rfl⟩
      cases hpx : p x
      · go_wp2
        go_roundw
        case rel =>
          refine ⟨k + 1, by omega, by go_num, fun j y hj hy => ?_, _, rfl⟩
          rcases Nat.lt_succ_iff_lt_or_eq.1 hj with hj | rfl
          · exact HF.out j y hj hy
          · rw [HX.out] at hy; cases hy; exact hpx
        case measure => simp [intOf]; omega
      · have HC := Lib.hid (any_stop HX.out hpx)
        go_wp2
        go_ret
        exact ⟨⟨k, rfl, by omega, by omega, by rw [HC.out, decide_eq_true (by omega)]⟩, _, rfl⟩
    · have HC := Lib.hid (any_end (p := p) (l := l) fun k2 x hx => HF.out k2 x (by have := (List.getElem?_eq_some_iff.1 hx).1; omega) hx)
      go_wp2
      go_ret
      exact ⟨⟨-1, rfl, by omega, by omega, by rw [HC.out]; rfl⟩, _, rfl⟩
theorem contains_RFree1 {lo : Nat} {w : World} {v : Value} {n : Nat} {l : List ByteArray} {p : ByteArray → Bool} (hp : Asks 36 p) (h : Sl lo w v 1 n (l.map Value.string)) (hl : l.length = n) (hok : ∀ x ∈ l, x.size ≤ 1000) :
    Calls Try.prog 18 #[v, .func (.func 36) #[] #[]] w fun e w' => e = .returned (.bool (l.any p)) ∧ Drew w w' := by
  have HC := Lib.hid (indexFunc_RFree1 hp h hl hok)
  clear h hp
  go_enter Try.func18, Try.ntmps18
  go_wp2_with fail
  refine HC.out.mono ?_
  rintro e w' ⟨⟨r, rfl, h1, h2, h3⟩, q, rfl⟩
  go_wp2
  go_ret
  exact ⟨by rw [h3]; rfl, q, rfl⟩
set_option maxHeartbeats 400000 in
theorem indexFunc_LFree1 {lo : Nat} {w : World} {v : Value} {n : Nat} {l : List ByteArray} {p : ByteArray → Bool} (hp : Asks 19 p) (h : Sl lo w v 1 n (l.map Value.string)) (hl : l.length = n) (hok : ∀ x ∈ l, x.size ≤ 1000) :
    Calls Try.prog 44 #[v, .func (.func 19) #[] #[]] w fun e w' => (∃ r : Int, e = .returned (.int .i64 r) ∧ -1 ≤ r ∧ r ≤ n ∧ l.any p = decide (0 ≤ r)) ∧ Drew w w' := by
  obtain ⟨A, c, rfl, hn2⟩ := h.shape
  have H := Lib.hid h
  have HP := Lib.hid hp
  clear h hp
  go_enter Try.func44, Try.ntmps44
  go_wp2
  go_loopw [8] (fun i wr => ∃ k : Nat, k ≤ n ∧ i = .int .i64 k ∧ (∀ j x, j < k → l[j]? = some x → p x = false) ∧ ∃ q, wr = w.drewN q) (fun i _ => n - (intOf i).toNat)
  case atStart => exact ⟨0, by omega, rfl, fun j x hj => absurd hj (by omega), 0, rfl⟩
  case round =>
    obtain ⟨k, hk, rfl, hf, q, rfl⟩ := hrel
    have HF := Lib.hid hf
    clear hf
    by_cases hlt : k < n
    · obtain ⟨x, hx⟩ : ∃ x, l[k]? = some x := ⟨_, List.getElem?_eq_getElem (by omega)⟩
      obtain ⟨b, o, rfl, _, _, hc⟩ := str_at H.out hx
      have hxs := hok x (List.mem_of_getElem? hx)
      have HX := Lib.hid hx
      clear hx
      go_wp2_with fail
      refine (HP.out x _ hxs).mono ?_
      rintro e w' ⟨rfl, q2, rfl⟩
      cases hpx : p x
      · go_wp2
        go_roundw
        case rel =>
          refine ⟨k + 1, by omega, by go_num, fun j y hj hy => ?_, _, rfl⟩
          rcases Nat.lt_succ_iff_lt_or_eq.1 hj with hj | rfl
          · exact HF.out j y hj hy
          · rw [HX.out] at hy; cases hy; exact hpx
        case measure => simp [intOf]; omega
      · have HC := Lib.hid (any_stop HX.out hpx)
        go_wp2
        go_ret
        exact ⟨⟨k, rfl, by omega, by omega, by rw [HC.out, decide_eq_true (by omega)]⟩, _, rfl⟩
    · have HC := Lib.hid (any_end (p := p) (l := l) fun k2 x hx => HF.out k2 x (by have := (List.getElem?_eq_some_iff.1 hx).1; omega) hx)
      go_wp2
      go_ret
      exact ⟨⟨-1, rfl, by omega, by omega, by rw [HC.out]; rfl⟩, _, rfl⟩
theorem contains_LFree1 {lo : Nat} {w : World} {v : Value} {n : Nat} {l : List ByteArray} {p : ByteArray → Bool} (hp : Asks 19 p) (h : Sl lo w v 1 n (l.map Value.string)) (hl : l.length = n) (hok : ∀ x ∈ l, x.size ≤ 1000) :
    Calls Try.prog 18 #[v, .func (.func 19) #[] #[]] w fun e w' => e = .returned (.bool (l.any p)) ∧ Drew w w' := by
  have HC := Lib.hid (indexFunc_LFree1 hp h hl hok)
  clear h hp
  go_enter Try.func18, Try.ntmps18
  go_wp2_with fail
  refine HC.out.mono ?_
  rintro e w' ⟨⟨r, rfl, h1, h2, h3⟩, q, rfl⟩
  go_wp2
  go_ret
  exact ⟨by rw [h3]; rfl, q, rfl⟩
end Go.Proofs.Ytfmffobdkfgekaa
