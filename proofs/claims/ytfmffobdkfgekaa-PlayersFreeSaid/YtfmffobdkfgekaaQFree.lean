/- The reference's answers: FreeOf, FreeSince, AddsLeft. -/
import Derived.Test.YtfmffobdkfgekaaOfficeAt
import Derived.Test.YtfmffobdkfgekaaRFree
set_option linter.unusedVariables false
set_option linter.unusedSimpArgs false
namespace Go.Proofs.Ytfmffobdkfgekaa
open Go.RowKit Go.Maps

def isFreeO (O : Office) (t : Int) (s : ByteArray) : Bool := eqS (ofO O s).team noStr && !heldO O s t
set_option maxHeartbeats 800000 in
set_option maxRecDepth 20000 in
theorem freeOf_any {lo lo2 : Nat} {w : World} {v p : Value} {n np : Nat} {l : List Mv} {ps : List ByteArray} (b : Bd) (t : Int) (h : Sl lo w v 4 n (l.flatMap Mv.c)) (hl : l.length = n) (hn : n ≤ 800) (hok : ∀ x ∈ l, x.ok) (hb : b.ok)
    (hp : Sl lo2 w p 1 np (ps.map Value.string)) (hpl : ps.length = np) (hnp : np ≤ 500) (hps : ∀ s ∈ ps, s.size ≤ 1000) (ht : small t) :
    Calls Try.prog 23 #[b.v, v, p, .int .i64 t] w fun e w' => ∃ v', e = .returned v' ∧ Sl w.heap.size w' v' 1 (ps.filter (isFreeO (officeL b l t) t)).length ((ps.filter (isFreeO (officeL b l t) t)).map Value.string) ∧ Below w.heap.size w w' := by
  obtain ⟨i0, hi, hz0, hz1, hz2⟩ := info_parts infoStr
  have hA := (Below.refl w.heap.size w).alloc (Nat.le_refl _) (.cells #[.int .i64 b.most, .int .i64 b.hurt, .int .i64 b.adds, .int .i64 b.hold] 27)
  have HC := Lib.hid (officeAt_any (w := w.alloc (.cells #[.int .i64 b.most, .int .i64 b.hurt, .int .i64 b.adds, .int .i64 b.hold] 27)) b t (h.below hA) hl hn hok hb)
  have HA := Lib.hid hA
  have HP := Lib.hid hp
  have HOK := Lib.hid hb
  have HT := Lib.hid ht
  obtain ⟨A, c, rfl, hn2⟩ := hp.shape
  obtain ⟨m1, m2, m3, m4⟩ := b
  clear h hA hp hb
  dsimp only [Bd.v] at *
  go_enter Try.func23, Try.ntmps23
  go_wp2_with fail
  refine HC.out.mono ?_
  rintro e W ⟨ob, bm, ba, rfl, hof, hinv, hbw⟩
  generalize hOO : officeL ⟨m1, m2, m3, m4⟩ l t = O at *
  have HOF := Lib.hid (hof.lower (lo' := w.heap.size) (by simp))
  have HIN := Lib.hid hinv
  have H4 := Lib.hid (HA.out.trans (hbw.mono (by simp)))
  have HOO := Lib.hid hOO
  clear hof hinv hbw hOO
  go_wp2
  go_loopw [10, 19] (fun o i wr => ∃ k : Nat, k ≤ np ∧ i = .int .i64 k ∧ wr.ownsRow W.heap.size 9 1 o ((ps.take k).filter (isFreeO O t)).length (((ps.take k).filter (isFreeO O t)).map Value.string) ∧ Below W.heap.size W wr) (fun _ i _ => np - (intOf i).toNat)
  case atStart => exact ⟨0, by omega, rfl, World.ownsRow_nil _ _ _ _, Below.refl _ _⟩
  case round =>
    obtain ⟨k, hk, rfl, hown, hbl⟩ := hrel
    have HO := Lib.hid hown
    have HBL := Lib.hid hbl
    by_cases hlt : k < np
    · obtain ⟨x, hx⟩ : ∃ x, ps[k]? = some x := ⟨_, List.getElem?_eq_getElem (by omega)⟩
      have hxs := hps x (List.mem_of_getElem? hx)
      obtain ⟨pb, po, rfl, _, _, hcp⟩ := str_at (HP.out.below (H4.out.trans (HBL.out.mono H4.out.size))) hx
      have htk : (ps.take (k + 1)).filter (isFreeO O t) = (ps.take k).filter (isFreeO O t) ++ (if isFreeO O t x then [x] else []) := by
        rw [List.take_add_one, hx, Option.toList_some, List.filter_append, List.filter_cons, List.filter_nil]
      have HTK := Lib.hid htk
      have hlen : ((ps.take k).filter (isFreeO O t)).length ≤ k := Nat.le_trans (List.length_filter_le _ _) (by rw [List.length_take]; omega)
      have HOF2 := Lib.hid (HOF.out.below hbl)
      obtain ⟨yt, yh, yd, hyy⟩ : ∃ yt yh yd, ofO O x = ⟨yt, yh, yd⟩ := ⟨_, _, _, rfl⟩
      have HY := Lib.hid hyy
      have hfd := fieldWhr yt yh yd
      have hfd := fun W => (hfd W).1
      have ix : (0 : Int) ≤ (k : Int) ∧ (k : Int) < (np : Int) := ⟨by omega, by omega⟩
      have HXS := Lib.hid hxs
      clear hown hbl hx htk hyy hxs
      go_wp2_with fail
      refine (of_any HOF2.out x HXS.out).mono ?_
      rintro e w5 ⟨rfl, hb5⟩
      rw [HY.out]
      dsimp only [Whr.v]
      have HB5 := Lib.hid hb5
      clear hcp hb5
      have ez : (eqS yt noStr) = yt.toList.isEmpty := by unfold eqS noStr; rw [toList_data, toList_data]; cases yt.data.toList <;> rfl
      cases e1 : eqS yt noStr with
      | false =>
        have b1 := ez.symm.trans e1
        have hfi : (ps.take (k + 1)).filter (isFreeO O t) = (ps.take k).filter (isFreeO O t) := by rw [HTK.out, show isFreeO O t x = false by simp [isFreeO, HY.out, e1]]; simp
        have HFI := Lib.hid hfi
        clear hfi ez
        go_wp2
        go_roundw
        case rel => exact ⟨k + 1, by omega, by go_num, by rw [HFI.out]; exact own_gb HO.out (.of_below HB5.out), HBL.out.trans (HB5.out.mono HBL.out.size)⟩
        case measure => simp [intOf]; omega
      | true =>
        have b1 := ez.symm.trans e1
        have hob : O.b.ok := by rw [HIN.out.b]; exact HOK.out
        have HLD := Lib.hid (heldO_any (HOF2.out.below HB5.out) hob x t HXS.out HT.out (HIN.out.dr x))
        clear ez hob
        go_wp2_with fail
        refine HLD.out.mono ?_
        rintro e w6 ⟨rfl, hb6⟩
        have hz6 := HBL.out.trans ((HB5.out.trans (hb6.mono HB5.out.size)).mono HBL.out.size)
        have hown6 := own_gb (own_gb HO.out (.of_below HB5.out)) (.of_below hb6)
        have HZ6 := Lib.hid hz6
        have HO6 := Lib.hid hown6
        clear hb6 hz6 hown6
        cases e2 : heldO O x t with
        | true =>
          have hfi : (ps.take (k + 1)).filter (isFreeO O t) = (ps.take k).filter (isFreeO O t) := by rw [HTK.out, show isFreeO O t x = false by simp [isFreeO, HY.out, e1, e2]]; simp
          have HFI := Lib.hid hfi
          clear hfi
          go_wp2
          go_roundw
          case rel => exact ⟨k + 1, by omega, by go_num, by rw [HFI.out]; exact HO6.out, HZ6.out⟩
          case measure => simp [intOf]; omega
        | false =>
          have hfi : (ps.take (k + 1)).filter (isFreeO O t) = (ps.take k).filter (isFreeO O t) ++ [x] := by rw [HTK.out, show isFreeO O t x = true by simp [isFreeO, HY.out, e1, e2]]; simp
          have HFI := Lib.hid hfi
          clear hfi
          go_wp2_with (at_builtin; refine wpList_append_own _ rfl _ _ 34 rfl W.heap.size 9 i0 _ 1 16 Try.underlying34 hi hz0 hz1 hz2 rfl (by decide) _ _ _ rfl (HO6.out.alloc _) ⟨w6.heap.size, 0, none⟩ 1 1 [.string x] rfl rfl ?c1 ?c2 ?c3 ?c4 ?c5 ?_)
          case c1 => exact new_cells rfl
          case c2 => exact fun u hu => by simp at hu; subst hu; rfl
          case c3 => unfold maxLen; omega
          case c4 => omega
          case c5 => have := HZ6.out.size; simp; omega
          intro v' w' hown' hg' _
          have hb7 := (HZ6.out.alloc HZ6.out.size (.cells #[.string x] 9)).grown hg' (by have := HZ6.out.size; simp; omega) fun j hj => (HO6.out.lt j hj).1
          have E6 := Lib.hid (And.intro hown' hb7)
          clear hown' hg' hb7
          go_wp2
          go_roundw
          case rel => exact ⟨k + 1, by omega, by go_num, by rw [HFI.out, List.length_append, List.map_append]; exact E6.out.1, E6.out.2⟩
          case measure => simp [intOf]; omega
    · have hkn : k = np := by omega
      subst hkn
      rw [List.take_of_length_le (by omega)] at hown
      have hlen2 : (ps.filter (isFreeO O t)).length ≤ 1099511627776 := Nat.le_trans (List.length_filter_le _ _) (by omega)
      have HS := Lib.hid ((Sl.of_own hown hlen2).mono H4.out.size)
      clear hown hbl HO
      have HZ := Lib.hid (H4.out.trans (HBL.out.mono H4.out.size))
      go_wp2
      go_ret
      refine ⟨_, rfl, ?_, HZ.out⟩
      rw [HOO.out]
      exact HS.out

/-- From when on a player is free, and whether. -/
def freeS (b : Bd) (O : Office) (s : ByteArray) (t : Int) : Int × Bool :=
  if !eqS (ofO O s).team noStr then (0, false) else if 0 ≤ (ofO O s).dropped then (max t ((ofO O s).dropped + b.hold), true) else (t, true)
set_option maxHeartbeats 400000 in
set_option maxRecDepth 20000 in
theorem freeSince_any {lo : Nat} {w : World} {v : Value} {n : Nat} {l : List Mv} (b : Bd) (s : ByteArray) (t : Int) (h : Sl lo w v 4 n (l.flatMap Mv.c)) (hl : l.length = n) (hn : n ≤ 800) (hok : ∀ x ∈ l, x.ok) (hb : b.ok) (hs : s.size ≤ 1000) (ht : small t) :
    Calls Try.prog 24 #[b.v, v, .string s, .int .i64 t] w fun e w' => e = .returned (.tuple #[.int .i64 (freeS b (officeL b l t) s t).1, .bool (freeS b (officeL b l t) s t).2]) ∧ Below w.heap.size w w' := by
  have hA := (Below.refl w.heap.size w).alloc (Nat.le_refl _) (.cells #[.int .i64 b.most, .int .i64 b.hurt, .int .i64 b.adds, .int .i64 b.hold] 27)
  have hbox := heap_alloc_new w (.cells #[.int .i64 b.most, .int .i64 b.hurt, .int .i64 b.adds, .int .i64 b.hold] 27)
  have HC := Lib.hid (officeAt_any (w := w.alloc (.cells #[.int .i64 b.most, .int .i64 b.hurt, .int .i64 b.adds, .int .i64 b.hold] 27)) b t (h.below hA) hl hn hok hb)
  have HA := Lib.hid hA
  have HBX := Lib.hid hbox
  have hho := hb.hold
  have hts := ht
  obtain ⟨m1, m2, m3, m4⟩ := b
  clear h hA hb hbox ht
  dsimp only [Bd.v] at *
  go_enter Try.func24, Try.ntmps24
  go_wp2_with fail
  refine HC.out.mono ?_
  rintro e W ⟨ob, bm, ba, rfl, hof, hinv, hbw⟩
  generalize hOO : officeL ⟨m1, m2, m3, m4⟩ l t = O at *
  have hbx : W.heap[w.heap.size]? = some (.cells #[.int .i64 m1, .int .i64 m2, .int .i64 m3, .int .i64 m4] 27 (0, 0)) := (hbw.block _ (by simp)).trans HBX.out
  have HOF := Lib.hid hof
  have HIN := Lib.hid hinv
  have H4 := Lib.hid (HA.out.trans (hbw.mono (by simp)))
  have HOO := Lib.hid hOO
  obtain ⟨yt, yh, yd, hyy⟩ : ∃ yt yh yd, ofO O s = ⟨yt, yh, yd⟩ := ⟨_, _, _, rfl⟩
  have HY := Lib.hid hyy
  have hdd : small yd := by have := hinv.dr s; rw [hyy] at this; exact this
  clear hof hinv hbw hOO hyy
  go_wp2_with fail
  refine (of_any HOF.out s hs).mono ?_
  rintro e w5 ⟨rfl, hb5⟩
  rw [HY.out]
  dsimp only [Whr.v]
  have hbx5 := (hb5.block _ (Array.getElem?_eq_some_iff.1 hbx).1).trans hbx
  have hsz5 := (Array.getElem?_eq_some_iff.1 hbx5).1
  have hbx6 : (w5.alloc (.cells #[.string yt, .bool yh, .int .i64 yd] 86)).heap[w.heap.size]? = _ := (Below.heap_alloc _ _ _ hsz5).trans hbx5
  obtain ⟨hcb, hfb⟩ := row_cells hbx6
  have H5 := Lib.hid (H4.out.trans (hb5.mono H4.out.size) |>.alloc (by have := H4.out.size; have := hb5.size; omega) (.cells #[.string yt, .bool yh, .int .i64 yd] 86))
  have ez : (eqS yt noStr) = yt.toList.isEmpty := by unfold eqS noStr; rw [toList_data, toList_data]; cases yt.data.toList <;> rfl
  clear hbx hbx5 hb5 hbx6 hfb
  obtain ⟨t1, t2⟩ := hts
  obtain ⟨d1, d2⟩ := hdd
  obtain ⟨o1, o2⟩ := hho
  cases e1 : eqS yt noStr with
  | false =>
    have b1 := ez.symm.trans e1
    have HR := Lib.hid (show freeS ⟨m1, m2, m3, m4⟩ O s t = (0, false) by simp [freeS, HY.out, e1])
    clear ez
    go_wp2
    go_ret2
    exact ⟨by rw [HOO.out, HR.out]; rfl, H5.out⟩
  | true =>
    have b1 := ez.symm.trans e1
    clear ez
    by_cases h0 : 0 ≤ yd
    · have HR := Lib.hid (show freeS ⟨m1, m2, m3, m4⟩ O s t = (max t (yd + m4), true) by simp [freeS, HY.out, e1, h0])
      go_wp2
      go_ret2
      exact ⟨by rw [HOO.out, HR.out]; rfl, H5.out⟩
    · have HR := Lib.hid (show freeS ⟨m1, m2, m3, m4⟩ O s t = (t, true) by simp [freeS, HY.out, e1, h0])
      go_wp2
      go_ret2
      exact ⟨by rw [HOO.out, HR.out]; rfl, H5.out⟩
end Go.Proofs.Ytfmffobdkfgekaa
