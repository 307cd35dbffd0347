/- The law's kept(): package roster follows moves. -/
import Derived.Test.YtfmffobdkfgekaaROwner
set_option linter.unusedVariables false
set_option linter.unusedSimpArgs false
namespace Go.Proofs.Ytfmffobdkfgekaa
open Go.RowKit Go.Maps

def keptB : Bd := ⟨1, 0, 1, 0⟩
def keptMv : Mv := ⟨0, 1, ⟨#[116]⟩, ⟨#[112]⟩⟩
theorem kept_fault : askedE keptB [keptMv] ⟨#[112]⟩ 0 = 0 := by decide +kernel
theorem kept_owner : (bookAt keptB [keptMv] 0).owner ⟨#[112]⟩ = ⟨#[116]⟩ := by decide +kernel
set_option maxHeartbeats 400000 in
theorem kept_any (w : World) : Calls Try.prog 27 #[] w fun e w' => e = .returned (.bool true) ∧ Below w.heap.size w w' := by
  have HC := Lib.hid (owner_any (lo := w.heap.size) (w := w.alloc (.cells #[.int .i64 0, .int .i64 1, .string ⟨#[116]⟩, .string ⟨#[112]⟩] 61)) (v := .slice (some ⟨w.heap.size, 0, none⟩) 1 1) (n := 1) (l := [keptMv]) keptB ⟨#[112]⟩ 0
    (Sl.lit rfl (Nat.le_refl _) rfl (by simp [keptMv, Mv.c]) (by omega)) rfl (by omega) (by
      intro x hx
      simp at hx; subst hx
      exact ⟨⟨by decide, by decide⟩, ⟨by decide, by decide⟩, by decide, by decide⟩) ⟨⟨by decide, by decide⟩, ⟨by decide, by decide⟩, ⟨by decide, by decide⟩, ⟨by decide, by decide⟩⟩ (by decide))
  go_enter Try.func27, Try.ntmps27
  go_wp2_with fail
  refine HC.out.mono ?_
  rintro e w2 ⟨rfl, hb⟩
  rw [kept_fault, if_pos rfl, kept_owner]
  have HB := Lib.hid (((Below.refl w.heap.size w).alloc (Nat.le_refl _) _).trans (hb.mono (by simp)))
  clear hb
  go_wp2
  go_ret
  exact ⟨rfl, HB.out⟩
end Go.Proofs.Ytfmffobdkfgekaa
