/- What is wrong with what is asked: fault, askedFault; whether a list has an element of a kind. -/
import Derived.Test.YtfmffobdkfgekaaMovesFault
set_option linter.unusedVariables false
set_option linter.unusedSimpArgs false
namespace Go.Proofs.Ytfmffobdkfgekaa
open Go.RowKit

def faultE (b : Bd) (l : List Mv) : Int := firstI [bfault b, mfault l]
set_option maxHeartbeats 400000 in
theorem fault_any {lo : Nat} {w : World} {v : Value} {n : Nat} {l : List Mv} (b : Bd) (h : Sl lo w v 4 n (l.flatMap Mv.c)) (hl : l.length = n) (hn : n ≤ 2000) (hok : ∀ x ∈ l, x.ok) :
    Calls Try.prog 35 #[b.v, v] w fun e w' => e = .returned (.int .i64 (faultE b l)) ∧ Below w.heap.size w w' := by
  obtain ⟨m1, m2, m3, m4⟩ := b
  have H := Lib.hid h
  clear h
  have hb1 : Below w.heap.size w (w.alloc (.cells #[.int .i64 m1, .int .i64 m2, .int .i64 m3, .int .i64 m4] 27)) := (Below.refl w.heap.size w).alloc (Nat.le_refl _) _
  have HB1 := Lib.hid hb1
  clear hb1
  dsimp only [Bd.v]
  go_enter Try.func35, Try.ntmps35
  go_wp2_with fail
  refine (checkBounds_any ⟨m1, m2, m3, m4⟩ _).mono ?_
  rintro e w1 ⟨rfl, hb⟩
  have HB2 := Lib.hid (HB1.out.trans (hb.mono HB1.out.size))
  clear hb
  go_wp2_with fail
  refine (checkMoves_any (H.out.below HB2.out) hl hn hok).mono ?_
  rintro e w2 ⟨rfl, hb⟩
  have HB3 := Lib.hid (HB2.out.trans (hb.mono HB2.out.size))
  clear hb
  go_wp2_with fail
  refine (first_any (lo := 0) (n := 2) (l := [bfault ⟨m1, m2, m3, m4⟩, mfault l]) (Sl.lit rfl (Nat.zero_le _) rfl (by simp) (by omega)) rfl).mono ?_
  rintro e w3 ⟨rfl, q, rfl⟩
  go_wp2
  go_ret
  exact ⟨rfl, below_drewN (HB3.out.alloc HB3.out.size _) _⟩

def askedE (b : Bd) (l : List Mv) (s : ByteArray) (t : Int) : Int := if faultE b l ≠ 0 then faultE b l else if keyB s then if inB t 0 maxMoment then 0 else 1 else 5
set_option maxHeartbeats 400000 in
theorem askedFault_any {lo : Nat} {w : World} {v : Value} {n : Nat} {l : List Mv} (b : Bd) (s : ByteArray) (t : Int) (h : Sl lo w v 4 n (l.flatMap Mv.c)) (hl : l.length = n) (hn : n ≤ 2000) (hok : ∀ x ∈ l, x.ok) (hs : s.size ≤ 1000) :
    Calls Try.prog 41 #[b.v, v, .string s, .int .i64 t] w fun e w' => e = .returned (.int .i64 (askedE b l s t)) ∧ Below w.heap.size w w' := by
  obtain ⟨m1, m2, m3, m4⟩ := b
  have H := Lib.hid h
  clear h
  have hb1 : Below w.heap.size w (w.alloc (.cells #[.int .i64 m1, .int .i64 m2, .int .i64 m3, .int .i64 m4] 27)) := (Below.refl w.heap.size w).alloc (Nat.le_refl _) _
  have HB1 := Lib.hid hb1
  clear hb1
  dsimp only [Bd.v]
  unfold askedE
  go_enter Try.func41, Try.ntmps41
  go_wp2_with fail
  refine (fault_any ⟨m1, m2, m3, m4⟩ (H.out.below HB1.out) hl hn hok).mono ?_
  rintro e w1 ⟨rfl, hb⟩
  have HB2 := Lib.hid (HB1.out.trans (hb.mono HB1.out.size))
  clear hb
  generalize hf : faultE ⟨m1, m2, m3, m4⟩ l = f
  have hs2 : s.size ≤ 4611686018427387904 := by omega
  by_cases h0 : f = 0
  · subst h0
    cases hk : keyB s
    · go_wp2_with (first | (go_at_call 37; refine (key_any _ _ (by omega)).mono ?_; rintro e w' ⟨rfl, rfl⟩) | (go_at_call 38; refine (moment_any _ _).mono ?_; rintro e w' ⟨rfl, rfl⟩))
      go_ret
      exact ⟨by simp [hf, hk], HB2.out⟩
    · cases ht : inB t 0 maxMoment
      all_goals
        go_wp2_with (first | (go_at_call 37; refine (key_any _ _ (by omega)).mono ?_; rintro e w' ⟨rfl, rfl⟩) | (go_at_call 38; refine (moment_any _ _).mono ?_; rintro e w' ⟨rfl, rfl⟩))
        go_ret
        exact ⟨by simp [hf, hk, ht], HB2.out⟩
  · go_wp2
    go_ret
    exact ⟨by simp [hf, h0], HB2.out⟩

/-- A named function that answers by p, and only draws. -/
def Asks (f : Nat) (p : ByteArray → Bool) : Prop := ∀ (s : ByteArray) (w : World), s.size ≤ 1000 → Calls Try.prog f #[.string s] w fun e w' => e = .returned (.bool (p s)) ∧ Drew w w'
theorem rfree1_any : Asks 36 fun s => !keyB s := by
  intro s w hs
  go_enter Try.func36, Try.ntmps36
  go_wp2_with fail
  refine (key_any s _ (by omega)).mono ?_
  rintro e w' ⟨rfl, rfl⟩
  go_wp2
  go_ret
  exact ⟨rfl, Drew.refl _⟩
theorem lfree1_any : Asks 19 fun s => !keyB s := by
  intro s w hs
  go_enter Try.func19, Try.ntmps19
  go_wp2_with fail
  refine (qkey_any s _ (by omega)).mono ?_
  rintro e w' ⟨rfl, q, rfl⟩
  go_wp2
  go_ret
  exact ⟨rfl, q, rfl⟩
end Go.Proofs.Ytfmffobdkfgekaa
