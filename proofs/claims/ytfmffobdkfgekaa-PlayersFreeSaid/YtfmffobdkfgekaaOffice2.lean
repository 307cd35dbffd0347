/- The office's small methods: how many players a team has. -/
import Derived.Test.YtfmffobdkfgekaaSim
import Derived.Test.YtfmffobdkfgekaaRange
set_option linter.unusedVariables false
set_option linter.unusedSimpArgs false
namespace Go.Proofs.Ytfmffobdkfgekaa
open Go.RowKit Go.Maps

section
variable {lo : Nat} {w : World} {ob bm ba : Nat} {O : Office}
theorem OfficeIn.gb {w' : World} (h : OfficeIn lo w ob bm ba O) (hb : GB w w') : OfficeIn lo w' ob bm ba O := by
  obtain ⟨h1, h2, h3, h4, A, a1, a2⟩ := h
  refine ⟨h1, h2, (hb.block _ (Array.getElem?_eq_some_iff.1 h3).1).trans h3, h4.keep (hb.block _ h4.lt), A, a1.keep (hb.block _ a1.lt), fun t => ?_, a2.apart⟩
  have h5 := a2.own t
  obtain ⟨g1, g2⟩ := h5
  refine ⟨g1, ?_⟩
  rcases g2 with g2 | ⟨g, cap, cur, e1, e2, e3, e4⟩
  · exact .inl g2
  · exact .inr ⟨g, cap, cur, e1, e2, (hb.block _ (Array.getElem?_eq_some_iff.1 e3).1).trans e3, e4⟩
theorem OfficeIn.below {w' : World} (h : OfficeIn lo w ob bm ba O) (hb : Below w.heap.size w w') : OfficeIn lo w' ob bm ba O := h.gb (GB.of_below hb)
end
set_option maxHeartbeats 400000 in
set_option maxRecDepth 20000 in
theorem many_any {lo : Nat} {w : World} {ob bm ba : Nat} {O : Office} (h : OfficeIn lo w ob bm ba O) (t : ByteArray) (q : Bool) (hn : O.pl.length ≤ 1000) :
    Calls Try.prog 70 #[.pointer (some ⟨ob, 0, none⟩), .string t, .bool q] w fun e w' => e = .returned (.int .i64 (manyO O t q : Nat)) ∧ Below w.heap.size w w' := by
  obtain ⟨hc, hf⟩ := row_cells h.row
  obtain ⟨cl, hrun, hR⟩ := h.pl.range Try.underlying99
  have hle : manyO O t q ≤ 1000 := Nat.le_trans (List.length_filter_le _ _) hn
  have HR := Lib.hid hR
  have HM := Lib.hid (show (O.pl.filter (isAt t q)).length = manyO O t q from rfl)
  clear hR h hf
  go_enter Try.func70, Try.ntmps70
  go_wp2
  go_loopw [7] (fun n wr => ∃ (k : Nat) (left : List (ByteArray × Whr)), n = .int .i64 k ∧ RangeS strC Whr.v wr bm w.heap.size O.pl left ∧ k + (left.filter (isAt t q)).length = manyO O t q ∧ Below w.heap.size w wr) (fun _ wr => wr.rangeLeft bm w.heap.size)
  case atStart => exact ⟨0, O.pl, rfl, HR.out, by rw [HM.out]; omega, (Below.refl _ _).alloc (Nat.le_refl _) _⟩
  case round =>
    obtain ⟨k, left, rfl, hrg, hk, hbl⟩ := hrel
    have hkn : k ≤ 1000 := by omega
    have hme := hrg.left_eq
    have HK := Lib.hid hk
    have HBL := Lib.hid hbl
    have HME := Lib.hid hme
    have hnext := hrg.next (P := Try.prog)
    clear hk hbl hrg hme
    rcases hnext with ⟨hl0, hnx⟩ | ⟨p, left', w1, hperm, hpm, hnx, hrg1, hgr, hsz, hen⟩
    · have HL := Lib.hid hl0
      clear hl0
      go_wp2
      go_ret
      have hk := HK.out
      rw [HL.out] at hk
      exact ⟨by rw [← hk]; rfl, HBL.out⟩
    · obtain ⟨px, pt, ph, pd⟩ := p
      simp only [Whr.v, strC] at hnx hen
      have hB1 : Below w.heap.size w w1 := ⟨hgr.os.trans HBL.out.os, hgr.tape.trans HBL.out.tape, hgr.output.trans HBL.out.output, by rw [hsz]; exact HBL.out.size, fun i hi => (hgr.block i (by have := HBL.out.size; omega) (by simp; omega)).trans (HBL.out.block i hi)⟩
      have hB2 := hB1.alloc hB1.size (.cells #[.string pt, .bool ph, .int .i64 pd] 86)
      have hR2 : RangeS strC Whr.v (w1.alloc (.cells #[.string pt, .bool ph, .int .i64 pd] 86)) bm w.heap.size O.pl left' := hrg1.keep (Below.heap_alloc _ _ _ hrg1.lt.1) (Below.heap_alloc _ _ _ hrg1.lt.2.1)
      have hm : (w1.alloc (.cells #[.string pt, .bool ph, .int .i64 pd] 86)).rangeLeft bm w.heap.size < wr.rangeLeft bm w.heap.size := by
        rw [hR2.left_eq, HME.out, hperm.length_eq]; simp
      have hcount : (left.filter (isAt t q)).length = (if eqS pt t && (ph == q) then 1 else 0) + (left'.filter (isAt t q)).length := by
        rw [(hperm.filter _).length_eq, List.filter_cons]
        show (if (eqS pt t && (ph == q)) = true then _ else _ : List _).length = _
        split <;> simp <;> omega
      have HE := Lib.hid (And.intro hB2 (And.intro hR2 (And.intro hm hcount)))
      have et : eqS pt t = (pt.toList == t.toList) := rfl
      clear hrg1 hperm hgr hsz hpm hB1 hB2 hR2 hm hcount
      cases e1 : eqS pt t with
      | false =>
        have b1 := et.symm.trans e1
        have hcc : (left.filter (isAt t q)).length = (left'.filter (isAt t q)).length := by rw [HE.out.2.2.2, e1]; simp
        have HC := Lib.hid hcc
        clear et hcc
        go_wp2
        go_roundw
        case rel => exact ⟨k, left', rfl, HE.out.2.1, by rw [← HC.out]; exact HK.out, HE.out.1⟩
        case measure => exact HE.out.2.2.1
      | true =>
        have b1 := et.symm.trans e1
        cases e2 : ph == q with
        | false =>
          have hcc : (left.filter (isAt t q)).length = (left'.filter (isAt t q)).length := by rw [HE.out.2.2.2, e1, e2]; simp
          have HC := Lib.hid hcc
          clear et hcc
          go_wp2
          go_roundw
          case rel => exact ⟨k, left', rfl, HE.out.2.1, by rw [← HC.out]; exact HK.out, HE.out.1⟩
          case measure => exact HE.out.2.2.1
        | true =>
          have hcc : (left.filter (isAt t q)).length = 1 + (left'.filter (isAt t q)).length := by rw [HE.out.2.2.2, e1, e2]; simp
          have HC := Lib.hid hcc
          clear et hcc
          go_wp2
          go_roundw
          case rel => exact ⟨k + 1, left', by go_num, HE.out.2.1, by have h1 := HK.out; have h2 := HC.out; omega, HE.out.1⟩
          case measure => exact HE.out.2.2.1
end Go.Proofs.Ytfmffobdkfgekaa
