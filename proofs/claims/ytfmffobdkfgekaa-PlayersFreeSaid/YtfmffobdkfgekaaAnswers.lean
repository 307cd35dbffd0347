/- What the book answers is what the office answers. -/
import Derived.Test.YtfmffobdkfgekaaQAdds
import Derived.Test.YtfmffobdkfgekaaRFreeFrom
set_option linter.unusedVariables false
set_option linter.unusedSimpArgs false
namespace Go.Proofs.Ytfmffobdkfgekaa
open Go.RowKit Go.Maps

theorem sim_of {b : Bd} {l : List Mv} (h : faultE b l = 0) (t : Int) : Sim (bookAt b l t) (officeL b l t) := sim_at b l t (fault_right h)
theorem one_eq (b : Bd) (l : List Mv) (ps : List ByteArray) (t : Int) : firstI [faultE b l, whenE (ps.any fun s => !keyB s) 5, tfault t] = freeE b l ps t := by
  unfold freeE tfault
  generalize faultE b l = f
  generalize (ps.any fun s => !keyB s) = a
  generalize inB t 0 maxMoment = i
  cases a <;> cases i <;> by_cases h : f = 0 <;> simp [firstI, whenE, h]
theorem asked_eq (b : Bd) (l : List Mv) (s : ByteArray) (t : Int) : firstI [faultE b l, nfault s, tfault t] = askedE b l s t := by
  unfold askedE tfault nfault
  generalize faultE b l = f
  generalize keyB s = a
  generalize inB t 0 maxMoment = i
  cases a <;> cases i <;> by_cases h : f = 0 <;> simp [firstI, whenE, h]
theorem free_fault {b : Bd} {l : List Mv} {ps : List ByteArray} {t : Int} (h : freeE b l ps t = 0) : faultE b l = 0 := by
  unfold freeE at h
  by_cases h0 : faultE b l = 0
  · exact h0
  · rw [if_pos h0] at h; exact h
theorem asked_fault {b : Bd} {l : List Mv} {s : ByteArray} {t : Int} (h : askedE b l s t = 0) : faultE b l = 0 := by
  unfold askedE at h
  by_cases h0 : faultE b l = 0
  · exact h0
  · rw [if_pos h0] at h; exact h
theorem freeL_eq {b : Bd} {l : List Mv} {ps : List ByteArray} {t : Int} (h : freeE b l ps t = 0) : freeL b l ps t = ps.filter (isFreeO (officeL b l t) t) := by
  have hs := sim_of (free_fault h) t
  unfold freeL
  rw [if_pos h]
  refine List.filter_congr fun s _ => ?_
  unfold isFree isFreeO
  rw [hs.ow, hs.held]
theorem freeL_no {b : Bd} {l : List Mv} {ps : List ByteArray} {t : Int} (h : ¬ freeE b l ps t = 0) : freeL b l ps t = [] := by
  unfold freeL
  rw [if_neg h]
theorem freeR_eq {b : Bd} {l : List Mv} {s : ByteArray} {t : Int} (h : askedE b l s t = 0) : freeR b (bookAt b l t) s t = freeS b (officeL b l t) s t := by
  have hs := sim_of (asked_fault h) t
  have hb : (bookAt b l t).b = b := by
    unfold bookAt
    have : ∀ (l : List Mv) (K : Book), K.b = b → (l.foldl (stepB t) K).b = b := fun l => by
      induction l with
      | nil => intro K h; exact h
      | cons x l ih =>
        intro K h
        refine ih _ ?_
        unfold stepB followB
        split
        · split
          · split
            · exact h
            · split
              · exact h
              · split
                · exact h
                · split <;> exact h
          · exact h
        · exact h
    exact this l _ rfl
  have hbo : (officeL b l t).b = b := hs.b.symm.trans hb
  unfold freeR freeS
  rw [hs.ow, hs.held, hs.dr]
  unfold heldO
  rw [hbo]
  by_cases h1 : eqS (ofO (officeL b l t) s).team noStr = true
  · rw [h1]
    by_cases h2 : 0 ≤ (ofO (officeL b l t) s).dropped
    · by_cases h3 : t - (ofO (officeL b l t) s).dropped < b.hold
      · simp only [h2, h3, decide_true, Bool.and_self, if_true, Bool.not_true, Bool.false_eq_true, if_false, Option.getD_some]
        rw [Int.max_eq_right (by omega)]
      · simp only [h2, h3, decide_true, decide_false, Bool.and_false, if_true, Bool.not_true, Bool.false_eq_true, if_false]
        rw [Int.max_eq_left (by omega)]
    · simp [h2]
  · have h1' : eqS (ofO (officeL b l t) s).team noStr = false := by simpa using h1
    rw [h1']
    simp
theorem adds_eq {b : Bd} {l : List Mv} {s : ByteArray} {t : Int} (h : askedE b l s t = 0) : (bookAt b l t).adds (s, weekOf t) = (addedO (officeL b l t) s t : Nat) := (sim_of (asked_fault h) t).ad s t
end Go.Proofs.Ytfmffobdkfgekaa
