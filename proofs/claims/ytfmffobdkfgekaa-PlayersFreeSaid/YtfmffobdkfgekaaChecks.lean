/- What is wrong with bounds, moments, names: the program's tests and the reference's. -/
import Derived.Test.YtfmffobdkfgekaaOrder
set_option linter.unusedVariables false
set_option linter.unusedSimpArgs false
namespace Go.Proofs.Ytfmffobdkfgekaa
open Go.RowKit

def bfault (b : Bd) : Int := if inB b.most 1 20 then if inB b.hurt 0 20 then if inB b.adds 0 2000 then if inB b.hold 0 1209600000 then 0 else 1 else 1 else 1 else 1
set_option maxHeartbeats 400000 in
theorem checkBounds_any (b : Bd) (w : World) : Calls Try.prog 56 #[b.v] w fun e w' => e = .returned (.int .i64 (bfault b)) ∧ Below w.heap.size w w' := by
  obtain ⟨m1, m2, m3, m4⟩ := b
  unfold bfault
  dsimp only [Bd.v]
  cases h1 : inB m1 1 20 <;> (try cases h2 : inB m2 0 20) <;> (try cases h3 : inB m3 0 2000) <;> (try cases h4 : inB m4 0 1209600000)
  all_goals
    go_enter Try.func56, Try.ntmps56
    go_wp2_with (go_at_call 58; refine (out_any _ _ _ _).mono ?_; rintro e w' ⟨rfl, rfl⟩)
    go_ret
    exact ⟨rfl, (Below.refl w.heap.size w).alloc (Nat.le_refl _) _⟩
set_option maxHeartbeats 400000 in
theorem boundsFault_any (b : Bd) (w : World) : Calls Try.prog 15 #[b.v] w fun e w' => e = .returned (.int .i64 (bfault b)) ∧ Below w.heap.size w w' := by
  obtain ⟨m1, m2, m3, m4⟩ := b
  unfold bfault
  dsimp only [Bd.v]
  cases h1 : inB m1 1 20 <;> (try cases h2 : inB m2 0 20) <;> (try cases h3 : inB m3 0 2000) <;> (try cases h4 : inB m4 0 1209600000)
  all_goals
    go_enter Try.func15, Try.ntmps15
    go_wp2_with (go_at_call 42; refine (in_any _ _ _ _).mono ?_; rintro e w' ⟨rfl, rfl⟩)
    go_ret
    exact ⟨rfl, (Below.refl w.heap.size w).alloc (Nat.le_refl _) _⟩
def tfault (t : Int) : Int := if inB t 0 maxMoment then 0 else 1
theorem momentFault_any (t : Int) (w : World) : Calls Try.prog 21 #[.int .i64 t] w fun e w' => e = .returned (.int .i64 (tfault t)) ∧ w = w' := by
  unfold tfault
  cases h : inB t 0 maxMoment
  all_goals
    go_enter Try.func21, Try.ntmps21
    go_wp2_with (go_at_call 43; refine (qmoment_any _ _).mono ?_; rintro e w' ⟨rfl, rfl⟩)
    go_ret
    exact ⟨rfl, rfl⟩
def whenE (b : Bool) (e : Int) : Int := if b then e else 0
theorem when_any (b : Bool) (e : Int) (w : World) : Calls Try.prog 17 #[.bool b, .int .i64 e] w fun x w' => x = .returned (.int .i64 (whenE b e)) ∧ w = w' := by
  cases b
  all_goals
    go_enter Try.func17, Try.ntmps17
    go_wp2
    go_ret
    exact ⟨rfl, rfl⟩
def nfault (s : ByteArray) : Int := whenE (!keyB s) 5
theorem nameFault_any (s : ByteArray) (w : World) (hs : s.size ≤ 1000) : Calls Try.prog 22 #[.string s] w fun e w' => e = .returned (.int .i64 (nfault s)) ∧ Drew w w' := by
  go_enter Try.func22, Try.ntmps22
  go_wp2_with fail
  refine (qkey_any s _ (by omega)).mono ?_
  rintro e w' ⟨rfl, q, rfl⟩
  go_wp2_with fail
  refine (when_any _ _ _).mono ?_
  rintro e w' ⟨rfl, rfl⟩
  go_wp2
  go_ret
  exact ⟨rfl, _, rfl⟩
end Go.Proofs.Ytfmffobdkfgekaa
