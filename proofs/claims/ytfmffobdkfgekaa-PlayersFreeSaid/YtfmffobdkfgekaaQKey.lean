/- Keys, the reference's test: a string is one just where it passes base.Key. -/
import Derived.Test.YtfmffobdkfgekaaKey
import Derived.Lib.IndexAny
set_option linter.unusedVariables false
set_option linter.unusedSimpArgs false
namespace Go.Proofs.Ytfmffobdkfgekaa
open Go.RowKit

def onlyB (s some : ByteArray) : Bool := s.data.toList.all fun c => some.data.toList.contains c
theorem onlyB_no {s some : ByteArray} {k : Nat} {x : UInt8} (hk : s.data.toList[k]? = .some x) (hx : some.data.toList.contains x = false) : onlyB s some = false := by
  cases h : onlyB s some with
  | false => rfl
  | true =>
    have := List.all_eq_true.1 h x (List.mem_of_getElem? hk)
    rw [hx] at this; cases this
/-- Only the tape has moved. -/
def Drew (w w' : World) : Prop := ∃ q, w' = w.drewN q
theorem Drew.refl (w : World) : Drew w w := ⟨0, rfl⟩
theorem Drew.trans {w w1 w2 : World} (h : Drew w w1) (k : Drew w1 w2) : Drew w w2 := by
  obtain ⟨q, rfl⟩ := h
  obtain ⟨r, rfl⟩ := k
  exact ⟨q + r, World.drewN_drewN _ _ _⟩
set_option maxHeartbeats 400000 in
theorem only_any (s some : ByteArray) (w : World) (hs : s.size ≤ 4611686018427387904) : Calls Try.prog 45 #[.string s, .string some] w fun e w' => e = .returned (.bool (onlyB s some)) ∧ Drew w w' := by
  go_enter Try.func45, Try.ntmps45
  go_wp2
  go_loopw [8] (fun i wr => ∃ k : Nat, k ≤ s.size ∧ i = .int .i64 k ∧ (∀ j c, j < k → s.data.toList[j]? = .some c → some.data.toList.contains c = true) ∧ ∃ q, wr = w.drewN q) (fun i _ => s.size - (intOf i).toNat)
  case atStart => exact ⟨0, by omega, rfl, fun j c h => absurd h (by omega), 0, rfl⟩
  case round =>
    obtain ⟨k, hk, rfl, hall, q, rfl⟩ := hrel
    by_cases hlt : k < s.size
    · have hbk := at_byte s k hlt
      have HK := Lib.hid hbk
      have HA := Lib.hid hall
      clear hbk hall
      generalize hx : s[k] = x at *
      have hcl := Lib.contains_iff_indexByte some.data.toList x
      by_cases hc : Lib.indexByte some.data.toList x < 0
      · have HC := Lib.hid (show onlyB s some = false from onlyB_no HK.out (by rw [hcl]; simp; omega))
        clear hcl
        go_wp2_with (go_at_call 61; refine (Try.strings_IndexByte _ _ _).mono ?_; rintro e w' ⟨rfl, rfl⟩)
        go_ret
        exact ⟨congrArg (fun b => Ending.returned (.bool b)) HC.out.symm, _, rfl⟩
      · have HC := Lib.hid hcl
        clear hcl
        go_wp2_with (go_at_call 61; refine (Try.strings_IndexByte _ _ _).mono ?_; rintro e w' ⟨rfl, rfl⟩)
        go_roundw
        case rel =>
          refine ⟨k + 1, by omega, by go_num, fun j c hj hc2 => ?_, _, rfl⟩
          rcases Nat.lt_succ_iff_lt_or_eq.1 hj with hj | rfl
          · exact HA.out j c hj hc2
          · rw [HK.out] at hc2; cases hc2; rw [HC.out]; simp; omega
        case measure => simp [intOf]; omega
    · have hks : k = s.size := by omega
      subst hks
      have HC := Lib.hid (show onlyB s some = true from List.all_eq_true.2 fun c hc => by
        obtain ⟨j, hj⟩ := List.getElem?_of_mem hc
        have hl : s.data.toList.length = s.size := Array.length_toList
        exact hall j c (by have := (List.getElem?_eq_some_iff.1 hj).1; omega) hj)
      clear hall hlt
      go_wp2
      go_ret
      exact ⟨congrArg (fun b => Ending.returned (.bool b)) HC.out.symm, _, rfl⟩

def smallsB : ByteArray := ⟨#[97, 98, 99, 100, 101, 102, 103, 104, 105, 106, 107, 108, 109, 110, 111, 112, 113, 114, 115, 116, 117, 118, 119, 120, 121, 122]⟩
def wordB : ByteArray := ⟨#[97, 98, 99, 100, 101, 102, 103, 104, 105, 106, 107, 108, 109, 110, 111, 112, 113, 114, 115, 116, 117, 118, 119, 120, 121, 122, 48, 49, 50, 51, 52, 53, 54, 55, 56, 57, 45, 95]⟩
set_option maxRecDepth 10000 in
theorem word_ok : ∀ n, n < 256 → wordB.data.toList.contains (UInt8.ofNat n) = okI n := by decide
set_option maxRecDepth 10000 in
theorem small_ok : ∀ n, n < 256 → smallsB.data.toList.contains (UInt8.ofNat n) = (decide (97 ≤ (n : Int)) && decide ((n : Int) ≤ 122)) := by decide
theorem word_okc (c : UInt8) : wordB.data.toList.contains c = okI c.toNat := by
  have := word_ok c.toNat c.toNat_lt
  rwa [UInt8.ofNat_toNat] at this
theorem small_okc (c : UInt8) : smallsB.data.toList.contains c = (decide (97 ≤ (c.toNat : Int)) && decide ((c.toNat : Int) ≤ 122)) := by
  have := small_ok c.toNat c.toNat_lt
  rwa [UInt8.ofNat_toNat] at this
theorem keyB_only (s : ByteArray) (h : inB s.size 1 40 = true) : keyB s = (onlyB (s.extract 0 1) smallsB && onlyB s wordB) := by
  obtain ⟨h1, h2⟩ := inB_iff.1 h
  have e1 : (s.extract 0 1).data.toList = [s.data.toList.getD 0 0] := by
    have hl : s.data.toList.length = s.size := Array.length_toList
    rw [byte0 s (by omega)]
    simp only [ByteArray.data_extract, Array.toList_extract]
    rw [List.extract_eq_take_drop, List.drop_zero]
    cases hd : s.data.toList with
    | nil => rw [hd] at hl; simp at hl; omega
    | cons a l =>
      have := at_byte s 0 (by omega)
      rw [hd] at this
      simp at this ⊢
      exact this
  unfold keyB onlyB
  rw [e1, decide_eq_true (by omega : 0 < s.size), decide_eq_true (by omega : s.size ≤ 40)]
  simp only [Bool.true_and, List.all_cons, List.all_nil, Bool.and_true, small_okc, word_okc]
theorem keyB_size (s : ByteArray) (h : inB s.size 1 40 = false) : keyB s = false := keyB_no fun ⟨h1, h2, _⟩ => by
  have := inB_iff.2 (⟨by omega, by omega⟩ : (1 : Int) ≤ s.size ∧ (s.size : Int) ≤ 40)
  rw [h] at this; cases this

set_option maxHeartbeats 400000 in
theorem qkey_any (s : ByteArray) (w : World) (hs : s.size ≤ 4611686018427387904) : Calls Try.prog 20 #[.string s] w fun e w' => e = .returned (.bool (keyB s)) ∧ Drew w w' := by
  cases hin : inB s.size 1 40 with
  | false =>
    have HC := Lib.hid (keyB_size s hin)
    go_enter Try.func20, Try.ntmps20
    go_wp2_with (go_at_call 42; refine (in_any _ _ _ _).mono ?_; rintro e w' ⟨rfl, rfl⟩)
    go_ret
    exact ⟨congrArg (fun b => Ending.returned (.bool b)) HC.out.symm, Drew.refl _⟩
  | true =>
    have HC := Lib.hid (keyB_only s hin)
    obtain ⟨h1, h2⟩ := inB_iff.1 hin
    have hsz : (s.extract 0 1).size ≤ 4611686018427387904 := by rw [ByteArray.size_extract]; omega
    have HS := Lib.hid hsz
    clear hsz
    go_enter Try.func20, Try.ntmps20
    go_wp2_with (go_at_call 42; refine (in_any _ _ _ _).mono ?_; rintro e w' ⟨rfl, rfl⟩)
    refine (only_any (s.extract 0 1) smallsB _ HS.out).mono ?_
    rintro e w' ⟨rfl, q, rfl⟩
    cases ho : onlyB (s.extract 0 1) smallsB
    · go_wp2
      go_ret
      exact ⟨congrArg (fun b => Ending.returned (.bool b)) (by rw [HC.out, ho]; rfl), _, rfl⟩
    · go_wp2_with fail
      refine (only_any s wordB _ hs).mono ?_
      rintro e w' ⟨rfl, q2, rfl⟩
      go_wp2
      go_ret
      exact ⟨congrArg (fun b => Ending.returned (.bool b)) (by rw [HC.out, ho]; rfl), q + q2, rfl⟩
end Go.Proofs.Ytfmffobdkfgekaa
