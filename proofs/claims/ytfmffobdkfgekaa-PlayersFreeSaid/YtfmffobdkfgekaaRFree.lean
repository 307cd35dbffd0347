/- roster.Free. -/
import Derived.Test.YtfmffobdkfgekaaRAdds
import Derived.OwnWalk
set_option linter.unusedVariables false
set_option linter.unusedSimpArgs false
namespace Go.Proofs.Ytfmffobdkfgekaa
open Go.RowKit Go.Maps

def isFree (K : Book) (t : Int) (s : ByteArray) : Bool := eqS (K.owner s) noStr && !heldB K s t
def freeE (b : Bd) (l : List Mv) (ps : List ByteArray) (t : Int) : Int := if faultE b l ≠ 0 then faultE b l else if ps.any (fun s => !keyB s) then 5 else if inB t 0 maxMoment then 0 else 1
def freeL (b : Bd) (l : List Mv) (ps : List ByteArray) (t : Int) : List ByteArray := if freeE b l ps t = 0 then ps.filter (isFree (bookAt b l t) t) else []
theorem infoStr : (Try.prog.info? 9).map (fun i => (i.zero, i.size, i.bytes)) = some (some (.string ⟨#[]⟩), 1, 16) := by kernel_rfl
set_option maxHeartbeats 800000 in
set_option maxRecDepth 20000 in
theorem free_any {lo lo2 : Nat} {w : World} {v p : Value} {n np : Nat} {l : List Mv} {ps : List ByteArray} (b : Bd) (t : Int) (h : Sl lo w v 4 n (l.flatMap Mv.c)) (hl : l.length = n) (hn : n ≤ 800) (hok : ∀ x ∈ l, x.ok) (hb : b.ok)
    (hp : Sl lo2 w p 1 np (ps.map Value.string)) (hpl : ps.length = np) (hnp : np ≤ 500) (hps : ∀ s ∈ ps, s.size ≤ 1000) (ht : small t) :
    Calls Try.prog 11 #[b.v, v, p, .int .i64 t] w fun e w' => ∃ v', e = .returned (.tuple #[v', .int .i64 (freeE b l ps t)]) ∧ Sl w.heap.size w' v' 1 (freeL b l ps t).length ((freeL b l ps t).map Value.string) ∧ Below w.heap.size w w' := by
  obtain ⟨i0, hi, hz0, hz1, hz2⟩ := info_parts infoStr
  have hA := (Below.refl w.heap.size w).alloc (Nat.le_refl _) (.cells #[.int .i64 b.most, .int .i64 b.hurt, .int .i64 b.adds, .int .i64 b.hold] 27)
  have hbox := heap_alloc_new w (.cells #[.int .i64 b.most, .int .i64 b.hurt, .int .i64 b.adds, .int .i64 b.hold] 27)
  have HC := Lib.hid (fault_any (w := w.alloc (.cells #[.int .i64 b.most, .int .i64 b.hurt, .int .i64 b.adds, .int .i64 b.hold] 27)) b (h.below hA) hl (by omega) hok)
  have HB := Lib.hid hbox
  have HA := Lib.hid hA
  have H := Lib.hid h
  have HP := Lib.hid hp
  have HOK := Lib.hid hb
  obtain ⟨A, c, rfl, hn2⟩ := hp.shape
  obtain ⟨m1, m2, m3, m4⟩ := b
  clear h hA hbox hp
  dsimp only [Bd.v] at *
  go_enter Try.func11, Try.ntmps11
  go_wp2_with fail
  refine HC.out.mono ?_
  rintro e w2 ⟨rfl, hb2⟩
  have H2 := Lib.hid (HA.out.trans (hb2.mono (by simp)))
  have hbx : w2.heap[w.heap.size]? = some (.cells #[.int .i64 m1, .int .i64 m2, .int .i64 m3, .int .i64 m4] 27 (0, 0)) := (hb2.block _ (by simp)).trans HB.out
  clear hb2
  generalize hf : faultE ⟨m1, m2, m3, m4⟩ l = f
  by_cases h0 : f = 0
  · subst h0
    go_wp2_with fail
    refine (contains_RFree1 rfree1_any (HP.out.below H2.out) hpl hps).mono ?_
    rintro e w3 ⟨rfl, q, rfl⟩
    cases hany : ps.any (fun s => !keyB s) with
    | true =>
      have hfe : freeE ⟨m1, m2, m3, m4⟩ l ps t = 5 := by simp [freeE, hf, hany]
      have hfl : freeL ⟨m1, m2, m3, m4⟩ l ps t = [] := by unfold freeL; rw [hfe]; rfl
      have E := Lib.hid (And.intro hfe hfl)
      clear hfe hfl
      go_wp2
      refine bodyPost_ret (v := .tuple #[.slice none 0 0, .int .i64 5]) (by simp [results, Try.results11, go_sem]) rfl ⟨.slice none 0 0, by rw [E.out.1], by rw [E.out.2]; exact Sl.nil _ _ _, below_drewN H2.out _⟩
    | false =>
    cases hin : inB t 0 maxMoment with
    | false =>
      have hfe : freeE ⟨m1, m2, m3, m4⟩ l ps t = 1 := by simp [freeE, hf, hany, hin]
      have hfl : freeL ⟨m1, m2, m3, m4⟩ l ps t = [] := by unfold freeL; rw [hfe]; rfl
      have E := Lib.hid (And.intro hfe hfl)
      clear hfe hfl
      go_wp2_with (go_at_call 38; refine (moment_any _ _).mono ?_; rintro e w' ⟨rfl, rfl⟩)
      refine bodyPost_ret (v := .tuple #[.slice none 0 0, .int .i64 1]) (by simp [results, Try.results11, go_sem]) rfl ⟨.slice none 0 0, by rw [E.out.1], by rw [E.out.2]; exact Sl.nil _ _ _, below_drewN H2.out _⟩
    | true =>
      have hfe : freeE ⟨m1, m2, m3, m4⟩ l ps t = 0 := by simp [freeE, hf, hany, hin]
      have hfl : freeL ⟨m1, m2, m3, m4⟩ l ps t = ps.filter (isFree (bookAt ⟨m1, m2, m3, m4⟩ l t) t) := by unfold freeL; rw [hfe]; rfl
      have E := Lib.hid (And.intro hfe hfl)
      clear hfe hfl
      obtain ⟨hcb, hfb⟩ := row_cells hbx
      have hbl3 : Below w.heap.size w (w2.drewN q) := below_drewN H2.out _
      have H3 := Lib.hid hbl3
      clear hbl3
      go_wp2_with (go_at_call 38; refine (moment_any _ _).mono ?_; rintro e w' ⟨rfl, rfl⟩)
      refine (rat_any ⟨m1, m2, m3, m4⟩ t (H.out.below H3.out) hl hn hok HOK.out).mono ?_
      rintro e W ⟨kb, bp, bh, bo, bd, ba, rfl, hbk, hinv, hbl⟩
      have H4 := Lib.hid (H3.out.trans (hbl.mono H3.out.size))
      have HBK := Lib.hid hbk
      have HIN := Lib.hid hinv
      clear hcb hfb hbk hinv hbl hbx
      generalize hK : bookAt ⟨m1, m2, m3, m4⟩ l t = K at *
      go_wp2
      go_loopw [12, 38] (fun o i wr => ∃ k : Nat, k ≤ np ∧ i = .int .i64 k ∧ wr.ownsRow W.heap.size 9 1 o ((ps.take k).filter (isFree K t)).length (((ps.take k).filter (isFree K t)).map Value.string) ∧ Below W.heap.size W wr) (fun _ i _ => np - (intOf i).toNat)
      case atStart => exact ⟨0, by omega, rfl, World.ownsRow_nil _ _ _ _, Below.refl _ _⟩
      case round =>
        obtain ⟨k, hk, rfl, hown, hbl⟩ := hrel
        have hbk := HBK.out.below hbl
        have HO := Lib.hid hown
        have HBL := Lib.hid hbl
        by_cases hlt : k < np
        · obtain ⟨x, hx⟩ : ∃ x, ps[k]? = some x := ⟨_, List.getElem?_eq_getElem (by omega)⟩
          have hxs := hps x (List.mem_of_getElem? hx)
          obtain ⟨pb, po, rfl, _, _, hcp⟩ := str_at (HP.out.below (H4.out.trans (HBL.out.mono H4.out.size))) hx
          have htk : (ps.take (k + 1)).filter (isFree K t) = (ps.take k).filter (isFree K t) ++ (if isFree K t x then [x] else []) := by
            rw [List.take_add_one, hx, Option.toList_some, List.filter_append, List.filter_cons, List.filter_nil]
          have HTK := Lib.hid htk
          have hlen : ((ps.take k).filter (isFree K t)).length ≤ k := Nat.le_trans (List.length_filter_le _ _) (by rw [List.length_take]; omega)
          obtain ⟨O, o1, o2⟩ := hbk.ow
          have l1 := lookStr (x := x) o1 hxs
          rw [o2] at l1
          obtain ⟨hc, hf2⟩ := row_cells hbk.row
          have HBK2 := Lib.hid hbk
          clear hown hbl hx htk hbk o1 o2 hf2
          have ez : (eqS (K.owner x) noStr) = (K.owner x).toList.isEmpty := by unfold eqS noStr; rw [toList_data, toList_data]; cases (K.owner x).data.toList <;> rfl
          cases e1 : eqS (K.owner x) noStr with
          | false =>
            have b1 := ez.symm.trans e1
            have hno : isFree K t x = false := by simp [isFree, e1]
            have hfi : (ps.take (k + 1)).filter (isFree K t) = (ps.take k).filter (isFree K t) := by rw [HTK.out, hno]; simp
            have HFI := Lib.hid hfi
            clear hno hfi ez
            go_wp2
            go_roundw
            case rel => exact ⟨k + 1, by omega, by go_num, by rw [HFI.out]; exact HO.out, HBL.out⟩
            case measure => simp [intOf]; omega
          | true =>
            have b1 := ez.symm.trans e1
            have hkb : K.b = ⟨m1, m2, m3, m4⟩ := HIN.out.b
            have HLD := Lib.hid (held_any HBK2.out (by rw [hkb]; exact HOK.out) x t hxs ht (HIN.out.dr x))
            clear ez
            go_wp2_with fail
            refine HLD.out.mono ?_
            rintro e w5 ⟨rfl, rfl⟩
            cases e2 : heldB K x t with
            | true =>
              have hfi : (ps.take (k + 1)).filter (isFree K t) = (ps.take k).filter (isFree K t) := by rw [HTK.out, show isFree K t x = false by simp [isFree, e1, e2]]; simp
              have HFI := Lib.hid hfi
              clear hfi
              go_wp2
              go_roundw
              case rel => exact ⟨k + 1, by omega, by go_num, by rw [HFI.out]; exact HO.out, HBL.out⟩
              case measure => simp [intOf]; omega
            | false =>
              have hfi : (ps.take (k + 1)).filter (isFree K t) = (ps.take k).filter (isFree K t) ++ [x] := by rw [HTK.out, show isFree K t x = true by simp [isFree, e1, e2]]; simp
              have HFI := Lib.hid hfi
              clear hfi
              go_wp2_with (at_builtin; refine wpList_append_own _ rfl _ _ 34 rfl W.heap.size 9 i0 _ 1 16 Try.underlying34 hi hz0 hz1 hz2 rfl (by decide) _ _ _ rfl (HO.out.alloc _) ⟨wr.heap.size, 0, none⟩ 1 1 [.string x] rfl rfl ?c1 ?c2 ?c3 ?c4 ?c5 ?_)
              case c1 => exact new_cells rfl
              case c2 => exact fun u hu => by simp at hu; subst hu; rfl
              case c3 => unfold maxLen; omega
              case c4 => omega
              case c5 => have := HBL.out.size; simp; omega
              intro v' w' hown' hg' _
              have hb6 := (HBL.out.alloc HBL.out.size (.cells #[.string x] 9)).grown hg' (by have := HBL.out.size; simp; omega) fun j hj => (HO.out.lt j hj).1
              have E6 := Lib.hid (And.intro hown' hb6)
              clear hown' hg' hb6
              go_wp2
              go_roundw
              case rel => exact ⟨k + 1, by omega, by go_num, by rw [HFI.out, List.length_append, List.map_append]; exact E6.out.1, E6.out.2⟩
              case measure => simp [intOf]; omega
        · have hkn : k = np := by omega
          subst hkn
          rw [List.take_of_length_le (by omega)] at hown
          have hlen2 : (ps.filter (isFree K t)).length ≤ 1099511627776 := Nat.le_trans (List.length_filter_le _ _) (by omega)
          have HS := Lib.hid ((Sl.of_own hown hlen2).mono H4.out.size)
          clear hown hbl hbk HO
          have HZ := Lib.hid (H4.out.trans (HBL.out.mono H4.out.size))
          go_wp2
          refine bodyPost_ret (v := .tuple #[_, .int .i64 0]) (by simp [results, Try.results11, go_sem]; rfl) rfl ⟨_, by rw [E.out.1], by rw [E.out.2]; exact HS.out, HZ.out⟩
  · have hfe : freeE ⟨m1, m2, m3, m4⟩ l ps t = f := by simp [freeE, hf, h0]
    have hfl : freeL ⟨m1, m2, m3, m4⟩ l ps t = [] := by unfold freeL; rw [hfe, if_neg h0]
    have E := Lib.hid (And.intro hfe hfl)
    clear hfe hfl
    go_wp2
    refine bodyPost_ret (v := .tuple #[.slice none 0 0, .int .i64 f]) (by simp [results, Try.results11, go_sem]) rfl ⟨.slice none 0 0, by rw [E.out.1], by rw [E.out.2]; exact Sl.nil _ _ _, H2.out⟩
end Go.Proofs.Ytfmffobdkfgekaa
