/- roster.FreeFrom. -/
import Derived.Test.YtfmffobdkfgekaaROwner
set_option linter.unusedVariables false
set_option linter.unusedSimpArgs false
namespace Go.Proofs.Ytfmffobdkfgekaa
open Go.RowKit Go.Maps

/-- From when on a player is free, and whether. -/
def freeR (b : Bd) (K : Book) (s : ByteArray) (t : Int) : Int × Bool :=
  if !eqS (K.owner s) noStr then (0, false) else if heldB K s t then ((K.dropped s).getD 0 + b.hold, true) else (t, true)
set_option maxHeartbeats 400000 in
set_option maxRecDepth 20000 in
theorem freeFrom_any {lo : Nat} {w : World} {v : Value} {n : Nat} {l : List Mv} (b : Bd) (s : ByteArray) (t : Int) (h : Sl lo w v 4 n (l.flatMap Mv.c)) (hl : l.length = n) (hn : n ≤ 800) (hok : ∀ x ∈ l, x.ok) (hb : b.ok) (hs : s.size ≤ 1000) (ht : small t) :
    Calls Try.prog 12 #[b.v, v, .string s, .int .i64 t] w fun e w' => e = .returned (.tuple #[.int .i64 (if askedE b l s t = 0 then (freeR b (bookAt b l t) s t).1 else 0), .bool (if askedE b l s t = 0 then (freeR b (bookAt b l t) s t).2 else false), .int .i64 (askedE b l s t)]) ∧ Below w.heap.size w w' := by
  have hA := (Below.refl w.heap.size w).alloc (Nat.le_refl _) (.cells #[.int .i64 b.most, .int .i64 b.hurt, .int .i64 b.adds, .int .i64 b.hold] 27)
  have hbox := heap_alloc_new w (.cells #[.int .i64 b.most, .int .i64 b.hurt, .int .i64 b.adds, .int .i64 b.hold] 27)
  have HC := Lib.hid (askedFault_any (w := w.alloc (.cells #[.int .i64 b.most, .int .i64 b.hurt, .int .i64 b.adds, .int .i64 b.hold] 27)) b s t (h.below hA) hl (by omega) hok hs)
  have HB := Lib.hid hbox
  have HA := Lib.hid hA
  have H := Lib.hid h
  have HOK := Lib.hid hb
  obtain ⟨m1, m2, m3, m4⟩ := b
  clear h hA hbox
  dsimp only [Bd.v] at *
  go_enter Try.func12, Try.ntmps12
  go_wp2_with fail
  refine HC.out.mono ?_
  rintro e w2 ⟨rfl, hb2⟩
  have H2 := Lib.hid (HA.out.trans (hb2.mono (by simp)))
  have hbx : w2.heap[w.heap.size]? = some (.cells #[.int .i64 m1, .int .i64 m2, .int .i64 m3, .int .i64 m4] 27 (0, 0)) := (hb2.block _ (by simp)).trans HB.out
  clear hb2
  obtain ⟨hcb, hfb⟩ := row_cells hbx
  generalize hf : askedE ⟨m1, m2, m3, m4⟩ l s t = f
  by_cases h0 : f = 0
  · subst h0
    go_wp2_with fail
    refine (rat_any ⟨m1, m2, m3, m4⟩ t (H.out.below H2.out) hl hn hok HOK.out).mono ?_
    rintro e W ⟨kb, bp, bh, bo, bd, ba, rfl, hbk, hinv, hbl⟩
    have H3 := Lib.hid (H2.out.trans (hbl.mono H2.out.size))
    obtain ⟨O, o1, o2⟩ := hbk.ow
    obtain ⟨D, d1, d2⟩ := hbk.dr
    have l1 := lookStr (x := s) o1 hs
    have l2 := fun q => lookInt (w := W.drewN q) (x := s) d1 hs
    rw [o2] at l1
    simp only [d2] at l2
    have HBK := Lib.hid hbk
    have HIN := Lib.hid hinv
    have hbx2 : W.heap[w.heap.size]? = some (.cells #[.int .i64 m1, .int .i64 m2, .int .i64 m3, .int .i64 m4] 27 (0, 0)) := (hbl.block _ (Array.getElem?_eq_some_iff.1 hbx).1).trans hbx
    obtain ⟨hcx, hfx⟩ := row_cells hbx2
    obtain ⟨hc, hf2⟩ := row_cells hbk.row
    clear hbk hinv hbl o1 o2 d1 d2 hf2 hfx hcb hfb hbx hbx2
    have ez : (eqS ((bookAt ⟨m1, m2, m3, m4⟩ l t).owner s) noStr) = ((bookAt ⟨m1, m2, m3, m4⟩ l t).owner s).toList.isEmpty := by unfold eqS noStr; rw [toList_data, toList_data]; cases ((bookAt ⟨m1, m2, m3, m4⟩ l t).owner s).data.toList <;> rfl
    have hkb : (bookAt ⟨m1, m2, m3, m4⟩ l t).b = ⟨m1, m2, m3, m4⟩ := HIN.out.b
    rw [hkb] at hc
    dsimp only at hc
    generalize hK : bookAt ⟨m1, m2, m3, m4⟩ l t = K at *
    cases e1 : eqS (K.owner s) noStr with
    | false =>
      have b1 := ez.symm.trans e1
      go_wp2
      refine bodyPost_ret (v := .tuple #[.int .i64 0, .bool false, .int .i64 0]) (by simp [results, Try.results12, go_sem]) rfl ⟨by simp [freeR, hK, e1], H3.out⟩
    | true =>
      have b1 := ez.symm.trans e1
      have hld := held_any HBK.out (by rw [hkb]; exact HOK.out) s t hs ht (HIN.out.dr s)
      have HLD := Lib.hid hld
      clear hld
      go_wp2_with fail
      refine HLD.out.mono ?_
      rintro e w4 ⟨rfl, rfl⟩
      cases e2 : heldB K s t with
      | false =>
        go_wp2
        refine bodyPost_ret (v := .tuple #[.int .i64 t, .bool true, .int .i64 0]) (by simp [results, Try.results12, go_sem]) rfl ⟨by simp [freeR, hK, e1, e2], H3.out⟩
      | true =>
        have hho := HOK.out.hold
        have hdd : small ((K.dropped s).getD 0) := by
          cases hd : K.dropped s with
          | none => exact ⟨by simp, by simp⟩
          | some m => exact HIN.out.dr s m hd
        obtain ⟨hh1, hh2⟩ := hho
        obtain ⟨hd1, hd2⟩ := hdd
        dsimp only at hh1 hh2
        generalize hde : (K.dropped s).getD 0 = dd at *
        have hwr : IntKind.i64.wrap (dd + m4) = dd + m4 := by rw [IntKind.wrap_i64]; omega
        go_wp2
        go_quiet (fail)
        go_wp2
        refine bodyPost_ret (v := .tuple #[.int .i64 (dd + m4), .bool true, .int .i64 0]) (by simp [results, Try.results12, go_sem]) rfl ⟨by simp [freeR, hK, e1, e2, hde], below_drewN H3.out _⟩
  · go_wp2
    refine bodyPost_ret (v := .tuple #[.int .i64 0, .bool false, .int .i64 f]) (by simp [results, Try.results12, go_sem]) rfl ⟨by simp [h0, hf], H2.out⟩
end Go.Proofs.Ytfmffobdkfgekaa
