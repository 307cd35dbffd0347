/- roster.Owner. -/
import Derived.Test.YtfmffobdkfgekaaRFollow
set_option linter.unusedVariables false
set_option linter.unusedSimpArgs false
namespace Go.Proofs.Ytfmffobdkfgekaa
open Go.RowKit Go.Maps

set_option maxHeartbeats 400000 in
set_option maxRecDepth 20000 in
theorem owner_any {lo : Nat} {w : World} {v : Value} {n : Nat} {l : List Mv} (b : Bd) (s : ByteArray) (t : Int) (h : Sl lo w v 4 n (l.flatMap Mv.c)) (hl : l.length = n) (hn : n ≤ 800) (hok : ∀ x ∈ l, x.ok) (hb : b.ok) (hs : s.size ≤ 1000) :
    Calls Try.prog 50 #[b.v, v, .string s, .int .i64 t] w fun e w' => e = .returned (.tuple #[.string (if askedE b l s t = 0 then (bookAt b l t).owner s else noStr), .int .i64 (askedE b l s t)]) ∧ Below w.heap.size w w' := by
  have hA := (Below.refl w.heap.size w).alloc (Nat.le_refl _) (.cells #[.int .i64 b.most, .int .i64 b.hurt, .int .i64 b.adds, .int .i64 b.hold] 27)
  have hbox := heap_alloc_new w (.cells #[.int .i64 b.most, .int .i64 b.hurt, .int .i64 b.adds, .int .i64 b.hold] 27)
  have HC := Lib.hid (askedFault_any (w := w.alloc (.cells #[.int .i64 b.most, .int .i64 b.hurt, .int .i64 b.adds, .int .i64 b.hold] 27)) b s t (h.below hA) hl (by omega) hok hs)
  have HB := Lib.hid hbox
  have HA := Lib.hid hA
  have H := Lib.hid h
  have HOK := Lib.hid hb
  obtain ⟨m1, m2, m3, m4⟩ := b
  clear h hA hbox
  dsimp only [Bd.v] at *
  go_enter Try.func50, Try.ntmps50
  go_wp2_with fail
  refine HC.out.mono ?_
  rintro e w2 ⟨rfl, hb2⟩
  have H2 := Lib.hid (HA.out.trans (hb2.mono (by simp)))
  have hbx : w2.heap[w.heap.size]? = some (.cells #[.int .i64 m1, .int .i64 m2, .int .i64 m3, .int .i64 m4] 27 (0, 0)) := (hb2.block _ (by simp)).trans HB.out
  clear hb2
  obtain ⟨hcb, hfb⟩ := row_cells hbx
  generalize hf : askedE ⟨m1, m2, m3, m4⟩ l s t = f
  by_cases h0 : f = 0
  · subst h0
    go_wp2_with fail
    refine (rat_any ⟨m1, m2, m3, m4⟩ t (H.out.below H2.out) hl hn hok HOK.out).mono ?_
    rintro e W ⟨kb, bp, bh, bo, bd, ba, rfl, hbk, hinv, hbl⟩
    have H3 := Lib.hid (H2.out.trans (hbl.mono H2.out.size))
    obtain ⟨O, o1, o2⟩ := hbk.ow
    have l1 := lookStr (x := s) o1 hs
    rw [o2] at l1
    obtain ⟨hc, hf2⟩ := row_cells hbk.row
    clear hbk hinv hbl o1 o2 hf2
    go_wp2
    refine bodyPost_ret (v := .tuple #[.string ((bookAt ⟨m1, m2, m3, m4⟩ l t).owner s), .int .i64 0]) (by simp [results, Try.results50, go_sem]) rfl ⟨rfl, H3.out⟩
  · go_wp2
    refine bodyPost_ret (v := .tuple #[.string noStr, .int .i64 f]) (by simp [results, Try.results50, go_sem, noStr]) rfl ⟨rfl, H2.out⟩
end Go.Proofs.Ytfmffobdkfgekaa
