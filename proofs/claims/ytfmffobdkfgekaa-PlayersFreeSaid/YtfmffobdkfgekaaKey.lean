/- Keys: both packages' tests of a string answer alike. -/
import Derived.Test.YtfmffobdkfgekaaShelf
import Derived.Test.YtfmffobdkfgekaaLeaf
set_option linter.unusedVariables false
set_option linter.unusedSimpArgs false
namespace Go.Proofs.Ytfmffobdkfgekaa
open Go.RowKit

theorem loop_eq (s : ByteArray) : ∀ (n i : Nat) (r : List UInt8), s.size - i = n → i ≤ s.size → ByteArray.toList.loop s i r = r.reverse ++ s.data.toList.drop i
  | 0, i, r, h, hi => by
    unfold ByteArray.toList.loop
    have : s.data.toList.length = s.size := Array.length_toList
    rw [if_neg (by omega), List.drop_eq_nil_of_le (by omega), List.append_nil]
  | n + 1, i, r, h, hi => by
    have hl : s.data.toList.length = s.size := Array.length_toList
    unfold ByteArray.toList.loop
    rw [if_pos (by omega), loop_eq s n (i + 1) _ (by omega) (by omega), List.drop_eq_getElem_cons (i := i) (by omega)]
    have : s.get! i = s.data.toList[i]'(by omega) := by
      have hi2 : i < s.data.size := show i < s.size by omega
      show s.data[i]! = _
      rw [getElem!_pos s.data i hi2]; rfl
    simp [this]
theorem toList_data (s : ByteArray) : s.toList = s.data.toList := by
  have := loop_eq s s.size 0 [] rfl (Nat.zero_le _)
  simpa [ByteArray.toList] using this
theorem empty_iff (s : ByteArray) : s.toList.isEmpty = decide (s.size = 0) := by
  rw [toList_data]
  have : s.data.toList.length = s.size := Array.length_toList
  cases h : s.data.toList with
  | nil => rw [h] at this; simp at this; simp [← this]
  | cons a l => rw [h] at this; simp at this; simp [← this]

def okI (c : Int) : Bool := (decide (97 ≤ c) && decide (c ≤ 122)) || (decide (48 ≤ c) && decide (c ≤ 57)) || c == 45 || c == 95
/-- A string is a key. -/
def keyB (s : ByteArray) : Bool := decide (0 < s.size) && decide (s.size ≤ 40) && (decide (97 ≤ ((s.data.toList.getD 0 0).toNat : Int)) && decide (((s.data.toList.getD 0 0).toNat : Int) ≤ 122)) && s.data.toList.all fun c => okI c.toNat
theorem at_byte (s : ByteArray) (k : Nat) (h : k < s.size) : s.data.toList[k]? = some s[k] := by
  have hl : s.data.toList.length = s.size := Array.length_toList
  rw [List.getElem?_eq_getElem (by omega)]; rfl

theorem okI_cases (c : Int) : (okI c = true ∧ ((97 ≤ c ∧ c ≤ 122) ∨ (c < 97 ∧ 48 ≤ c ∧ c ≤ 57) ∨ c = 45 ∨ c = 95)) ∨ (okI c = false ∧ (122 < c ∨ (c < 97 ∧ 57 < c ∧ ¬ c = 95) ∨ (c < 48 ∧ ¬ c = 45))) := by
  have h : okI c = true ↔ ((97 ≤ c ∧ c ≤ 122) ∨ (48 ≤ c ∧ c ≤ 57)) ∨ c = 45 ∨ c = 95 := by simp [okI, or_assoc]
  cases hk : okI c with
  | true => rw [hk] at h; have := h.1 rfl; exact .inl ⟨rfl, by omega⟩
  | false => rw [hk] at h; have : ¬ _ := fun q => Bool.noConfusion (h.2 q); exact .inr ⟨rfl, by omega⟩
theorem keyB_no {s : ByteArray} (h : ¬ (0 < s.size ∧ s.size ≤ 40 ∧ 97 ≤ ((s.data.toList.getD 0 0).toNat : Int) ∧ ((s.data.toList.getD 0 0).toNat : Int) ≤ 122)) : keyB s = false := by
  cases hk : keyB s with
  | false => rfl
  | true => unfold keyB at hk; simp only [Bool.and_eq_true, decide_eq_true_eq] at hk; exact absurd ⟨hk.1.1.1, hk.1.1.2, hk.1.2.1, hk.1.2.2⟩ h
theorem byte0 (s : ByteArray) (h : 0 < s.size) : s.data.toList.getD 0 0 = s[0] := by
  rw [List.getD_eq_getElem?_getD, at_byte s 0 h]; rfl
set_option maxHeartbeats 800000 in
theorem key_any (s : ByteArray) (w : World) (hs : s.size ≤ 4611686018427387904) : Calls Try.prog 37 #[.string s] w fun e w' => e = .returned (.bool (keyB s)) ∧ w = w' := by
  have he := empty_iff s
  by_cases h0 : s.size = 0
  · obtain rfl : s = ⟨#[]⟩ := by
      obtain ⟨⟨l⟩⟩ := s
      have : l = [] := List.eq_nil_of_length_eq_zero h0
      subst this; rfl
    clear he
    go_enter Try.func37, Try.ntmps37
    go_wp2
    go_ret
    exact ⟨rfl, rfl⟩
  rw [decide_eq_false h0] at he
  have hb0 := byte0 s (by omega)
  by_cases h40 : 40 < s.size
  · rw [keyB_no (by omega)]
    go_enter Try.func37, Try.ntmps37
    go_wp2
    go_ret
    exact ⟨rfl, rfl⟩
  by_cases hc : 97 ≤ (s[0].toNat : Int) ∧ (s[0].toNat : Int) ≤ 122
  · obtain ⟨hc1, hc2⟩ := hc
    have HB := Lib.hid hb0
    clear hb0
    go_enter Try.func37, Try.ntmps37
    go_wp2
    go_loop [24] (fun i => ∃ k : Nat, k ≤ s.size ∧ i = .int .i64 k ∧ ∀ j c, j < k → s.data.toList[j]? = some c → okI c.toNat = true) (fun i => s.size - (intOf i).toNat)
    case atStart => exact ⟨0, by omega, rfl, fun j c h => absurd h (by omega)⟩
    case round =>
      obtain ⟨k, hk, rfl, hall⟩ := hrel
      by_cases hlt : k < s.size
      · have hbk := at_byte s k hlt
        have HK := Lib.hid hbk
        have HA := Lib.hid hall
        clear hbk hall
        generalize hx : s[k] = x at *
        have hcl : (okI x.toNat = true ∧ ((97 ≤ (x.toNat : Int) ∧ (x.toNat : Int) ≤ 122) ∨ ((x.toNat : Int) < 97 ∧ 48 ≤ (x.toNat : Int) ∧ (x.toNat : Int) ≤ 57) ∨ (x.toNat : Int) = 45 ∨ (x.toNat : Int) = 95)) ∨
            (okI x.toNat = false ∧ (122 < (x.toNat : Int) ∨ ((x.toNat : Int) < 97 ∧ 57 < (x.toNat : Int) ∧ ¬ (x.toNat : Int) = 95) ∨ ((x.toNat : Int) < 48 ∧ ¬ (x.toNat : Int) = 45))) := okI_cases _
        rcases hcl with ⟨hok, hcl⟩ | ⟨hok, hcl⟩
        · have HO := Lib.hid hok
          clear hok
          rcases hcl with ⟨h1, h2⟩ | ⟨h1, h2, h3⟩ | h1 | h1
          all_goals go_wp2
          all_goals go_round
          all_goals first | (case measure => simp [intOf]; omega) | skip
          all_goals (
            refine ⟨k + 1, by omega, by go_num, fun j c hj hc => ?_⟩
            rcases Nat.lt_succ_iff_lt_or_eq.1 hj with hj | rfl
            · exact HA.out j c hj hc
            · rw [HK.out] at hc; cases hc; exact HO.out)
        · have HO : keyB s = false := (by
            cases hkb : keyB s with
            | false => rfl
            | true =>
              exfalso
              unfold keyB at hkb
              simp only [Bool.and_eq_true] at hkb
              have := List.all_eq_true.1 hkb.2 x (List.mem_of_getElem? HK.out)
              rw [hok] at this; cases this)
          have HO2 := Lib.hid HO
          clear hok HO
          rcases hcl with h1 | ⟨h1, h2, h3⟩ | ⟨h1, h3⟩
          all_goals go_wp2
          all_goals first
            | (go_ret; exact ⟨congrArg (fun b => Ending.returned (.bool b)) HO2.out.symm, rfl⟩)
            | (exfalso; rename_i hz; simp only [Bool.not_eq_false', beq_iff_eq, decide_eq_true_eq] at hz; omega)
      · have hks : k = s.size := by omega
        subst hks
        have hkb : keyB s = true := by
          unfold keyB
          simp only [Bool.and_eq_true, decide_eq_true_eq, HB.out]
          refine ⟨⟨⟨by omega, by omega⟩, hc1, hc2⟩, List.all_eq_true.2 fun c hc => ?_⟩
          obtain ⟨j, hj⟩ := List.getElem?_of_mem hc
          have hl : s.data.toList.length = s.size := Array.length_toList
          exact hall j c (by have := (List.getElem?_eq_some_iff.1 hj).1; omega) hj
        have HO2 := Lib.hid hkb
        clear hkb hall hlt
        go_wp2
        go_ret
        exact ⟨congrArg (fun b => Ending.returned (.bool b)) HO2.out.symm, rfl⟩
  · have hkf : keyB s = false := keyB_no (by rw [hb0]; omega)
    clear hb0
    rw [hkf]
    clear hkf
    by_cases hc1 : 97 ≤ (s[0].toNat : Int)
    · have hc2 : ¬ (s[0].toNat : Int) ≤ 122 := fun h => hc ⟨hc1, h⟩
      go_enter Try.func37, Try.ntmps37
      go_wp2
      go_ret
      exact ⟨rfl, rfl⟩
    · go_enter Try.func37, Try.ntmps37
      go_wp2
      go_ret
      exact ⟨rfl, rfl⟩
end Go.Proofs.Ytfmffobdkfgekaa
