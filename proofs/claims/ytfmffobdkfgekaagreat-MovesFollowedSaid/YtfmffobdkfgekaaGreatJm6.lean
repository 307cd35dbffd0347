import Derived.Test.YtfmffobdkfgekaaGreatJm5
import Derived.Test.YtfmffobdkfgekaaGreatJm4
import Derived.Test.YtfmffobdkfgekaaGreatJm1
import Derived.Laws.StructEq
import Derived.Test.YtfmffobdkfgekaaGreatJm2
import Derived.Lib.SliceRun
import Derived.OwnWalk
/- The reference follows a move: (*office).follow. -/
set_option linter.unusedVariables false
set_option linter.unusedSimpArgs false
namespace Go.Proofs.YtfmffobdkfgekaaGreat
open Go.RowKit Go.Maps

/-- What the office holds stays within bounds. -/
structure OInv (b : Bd) (n : Nat) (O : Office) : Prop where
  b : O.b = b
  len : O.pl.length ≤ n
  dr : ∀ x, small (ofO O x).dropped
  al : ∀ t, (O.adds t).length ≤ n
  am : ∀ t, ∀ x ∈ O.adds t, small x
theorem err_post {lo : Nat} {w0 w : World} {ob bm ba : Nat} {O : Office} {xb yb : Nat} {xs ys : Array Value} (h : OffAt lo w0 ob bm ba O xb xs yb ys w) {x : Mv} {n : Int} (he : n = errO O x) (hn : n ≠ 0) :
    Ending.returned (.int .i64 n) = .returned (.int .i64 (errO O x)) ∧ OfficeIn lo w ob bm ba (followO O x) ∧ Below lo w0 w ∧ FrO ba w0 w := by
  subst he
  refine ⟨rfl, ?_, h.bel, h.fr⟩
  unfold followO
  rw [if_neg hn]
  exact h.off
theorem ok_post {lo : Nat} {w0 w : World} {ob bm ba : Nat} {O O' : Office} {xb yb : Nat} {xs ys : Array Value} {x : Mv} (h : OffAt lo w0 ob bm ba O' xb xs yb ys w) (he : 0 = errO O x) (hf : followO O x = O') :
    Ending.returned (.int .i64 0) = .returned (.int .i64 (errO O x)) ∧ OfficeIn lo w ob bm ba (followO O x) ∧ Below lo w0 w ∧ FrO ba w0 w := by
  rw [← he, hf]
  exact ⟨rfl, h.off, h.bel, h.fr⟩
theorem addAt_of {lo : Nat} {w0 w : World} {ob bm ba : Nat} {O : Office} {xb yb : Nat} {xs ys : Array Value} (h : OffAt lo w0 ob bm ba O xb xs yb ys w) : ∃ A, AddAt lo w0 ob bm ba O A xb xs yb ys w ∧ Rows lo w A O.adds := by
  obtain ⟨⟨h1, h2, h3, h4, A, a1, a2⟩, hxx, hyy, hbl, hlw, hfr, hsz⟩ := h
  exact ⟨A, ⟨h1, h2, h3, h4, a1, hxx, hyy, hbl, hlw, hfr, hsz, fun t g hg => ((a2.own t).lt g hg).2⟩, a2⟩
theorem OffAt.hurt {lo : Nat} {w0 w : World} {ob bm ba : Nat} {O : Office} {xb yb : Nat} {xs : Array Value} {yt : ByteArray} {yh : Bool} {yd : Int} (h : OffAt lo w0 ob bm ba O xb xs yb #[.string yt, .bool yh, .int .i64 yd] w) (q : Bool) (hl : lo ≤ yb) (hl2 : w0.heap.size ≤ yb) :
    OffAt lo w0 ob bm ba O xb xs yb #[.string yt, .bool q, .int .i64 yd] (w.setCell ⟨yb, 1, none⟩ (.bool q)) := by
  have hy := h.y
  have hk : ∀ (i : Nat) (o : Obj), w.heap[i]? = some o → (∀ cs, o ≠ .cells cs 121 (0, 0)) → (w.setCell ⟨yb, 1, none⟩ (.bool q)).heap[i]? = some o := fun i o hi ho =>
    (Below.heap_setCell _ _ _ _ (fun e => by
      have e : i = yb := e
      subst e
      rw [hy] at hi
      exact ho _ (Option.some.inj hi).symm)).trans hi
  obtain ⟨⟨h1, h2, h3, h4, A, a1, a2⟩, hxx, hyy, hbl, hlw, hfr, hsz⟩ := h
  obtain ⟨es1, c1, e1⟩ := h4.isMap
  obtain ⟨es2, c2, e2⟩ := a1.isMap
  refine ⟨⟨h1, h2, hk _ _ h3 (fun cs hc => by cases hc), h4.keep ((hk _ _ e1 (fun cs hc => by cases hc)).trans e1.symm), A, a1.keep ((hk _ _ e2 (fun cs hc => by cases hc)).trans e2.symm), fun t => ?_, a2.apart⟩, hk _ _ hxx (fun cs hc => by cases hc), ?_, ?_, by simpa [World.setCell] using hlw, fun g cs T fz hg hnr => ?_, by simpa [World.setCell] using hsz⟩
  · obtain ⟨g1, g2⟩ := a2.own t
    refine ⟨g1, ?_⟩
    rcases g2 with g2 | ⟨g, cap, cur, f1, f2, f3, f4⟩
    · exact .inl g2
    · exact .inr ⟨g, cap, cur, f1, f2, hk _ _ f3 (fun cs hc => by cases hc), f4⟩
  · simp [World.setCell, Array.getElem?_modify, hyy]
  · exact hbl.setCell hl _
  · obtain ⟨k1, k2⟩ := hfr g cs T fz hg hnr
    have hgy : g ≠ yb := by have := (Array.getElem?_eq_some_iff.1 hg).1; omega
    refine ⟨(Below.heap_setCell _ _ _ _ hgy).trans k1, fun ⟨es, cl, r1, r2⟩ => k2 ⟨es, cl, ?_, r2⟩⟩
    rw [← r1, hk _ _ e2 (fun cs hc => by cases hc), e2]
set_option maxHeartbeats 2000000 in
set_option maxRecDepth 20000 in
theorem ofollow_any {lo : Nat} {w : World} {ob bm ba : Nat} {O : Office} {b : Bd} (h : OfficeIn lo w ob bm ba O) (hlo : lo ≤ w.heap.size) (hinv : OInv b 900 O) (hok : b.ok) (x : Mv) (hx : x.ok) :
    Calls Tryz.prog 64 #[.pointer (some ⟨ob, 0, none⟩), .agg x.c.toArray] w fun e w' => e = .returned (.int .i64 (errO O x)) ∧ OfficeIn lo w' ob bm ba (followO O x) ∧ Below lo w w' ∧ FrO ba w w' := by
  obtain ⟨xt, xk, xa, xp⟩ := x
  have hW := (Below.refl w.heap.size w).alloc (Nat.le_refl _) (.cells #[.int .i64 xt, .int .i64 xk, .string xa, .string xp] 45)
  have hxb := heap_alloc_new w (.cells #[.int .i64 xt, .int .i64 xk, .string xa, .string xp] 45)
  have HOF := Lib.hid (of_any (h.below hW) xp hx.player)
  obtain ⟨hcx, hfx⟩ := row_cells hxb
  have HIN := Lib.hid h
  have HX := Lib.hid hx
  have HV := Lib.hid hinv
  have hbo : O.b.ok := by rw [hinv.b]; exact hok
  have HOK := Lib.hid hbo
  have HXB := Lib.hid hxb
  have HWB := Lib.hid hW
  have hlen : O.pl.length ≤ 1000 := by have := hinv.len; omega
  have hey : ∃ yt yh yd, ofO O xp = ⟨yt, yh, yd⟩ := ⟨_, _, _, rfl⟩
  obtain ⟨yt, yh, yd, hyy⟩ := hey
  have HY := Lib.hid hyy
  clear h hx hinv hok hxb hW hfx hyy hbo
  dsimp only [Mv.c]
  go_enter Tryz.func64, Tryz.ntmps64
  go_wp2_with fail
  refine HOF.out.mono ?_
  rintro e W1 ⟨rfl, hb1⟩
  rw [HY.out]
  dsimp only [Whr.v]
  have hxb1 : W1.heap[w.heap.size]? = some (.cells #[.int .i64 xt, .int .i64 xk, .string xa, .string xp] 45 (0, 0)) := (hb1.block _ (by simp)).trans HXB.out
  have hsz1 : w.heap.size < W1.heap.size := (Array.getElem?_eq_some_iff.1 hxb1).1
  have hOA : OffAt lo w ob bm ba O w.heap.size #[.int .i64 xt, .int .i64 xk, .string xa, .string xp] W1.heap.size #[.string yt, .bool yh, .int .i64 yd] (W1.alloc (.cells #[.string yt, .bool yh, .int .i64 yd] 121)) := by
    have k1 := (HIN.out.below HWB.out).below hb1
    have k2 : Below W1.heap.size W1 (W1.alloc (.cells #[.string yt, .bool yh, .int .i64 yd] 121)) := (Below.refl _ _).alloc (Nat.le_refl _) _
    have k3 : Below lo w W1 := (HWB.out.mono hlo).trans (hb1.mono (by simp; omega))
    exact ⟨k1.below k2, (k2.block _ hsz1).trans hxb1, heap_alloc_new _ _, k3.trans (k2.mono k3.size |>.mono (by omega)), by have := k3.size; simp; omega, ((FrO.below HWB.out HIN.out.ba_lt).trans (.below hb1 (HIN.out.below HWB.out).ba_lt)).trans (.below k2 k1.ba_lt), by have := k3.size; simp; omega⟩
  clear hb1 hcx
  have HZ := Lib.hid hOA
  obtain ⟨hcx, hfx⟩ := row_cells hOA.x
  obtain ⟨hcy, hfy⟩ := row_cells hOA.y
  obtain ⟨hc, hf⟩ := row_cells hOA.off.row
  clear hOA hxb1 hf
  have et : (eqS yt xa) = (yt.toList == xa.toList) := rfl
  have ez : (eqS yt noStr) = yt.toList.isEmpty := by unfold eqS noStr; rw [toList_data, toList_data]; cases yt.data.toList <;> rfl
  by_cases k1 : xk = 1
  · subst k1
    cases a1 : eqS yt xa with
    | true =>
      have b1 := et.symm.trans a1
      have HE := Lib.hid (show (6 : Int) = errO O ⟨xt, 1, xa, xp⟩ by simp [errO, HY.out, a1])
      go_wp2
      go_ret
      exact err_post HZ.out HE.out (by decide)
    | false =>
    have b1 := et.symm.trans a1
    cases a2 : eqS yt noStr with
    | false =>
      have b2 := ez.symm.trans a2
      have HE := Lib.hid (show (13 : Int) = errO O ⟨xt, 1, xa, xp⟩ by simp [errO, HY.out, a1, a2])
      go_wp2
      go_ret
      exact err_post HZ.out HE.out (by decide)
    | true =>
    have b2 := ez.symm.trans a2
    go_wp2_with fail
    refine (heldO_any HZ.out.off HOK.out xp xt HX.out.player HX.out.time (HV.out.dr xp)).mono ?_
    rintro e V ⟨rfl, hbv⟩
    have hZ2 := HZ.out.below hbv
    clear hcx hfx hcy hfy hc hbv
    have HZ2 := Lib.hid hZ2
    obtain ⟨hcx, hfx⟩ := row_cells hZ2.x
    obtain ⟨hcy, hfy⟩ := row_cells hZ2.y
    obtain ⟨hc, hf⟩ := row_cells hZ2.off.row
    obtain ⟨ka, hka⟩ : ∃ ka, addedO O xa xt = ka := ⟨_, rfl⟩
    have HAD := Lib.hid (show ∀ q, Calls Tryz.prog 113 #[.pointer (some ⟨ob, 0, none⟩), .string xa, .int .i64 xt] (V.drewN q) fun e w' => e = .returned (.int .i64 (ka : Nat)) ∧ w' = V.drewN q from fun q => by
      rw [← hka]
      exact (added_any (hZ2.drewN q).off xa xt HX.out.team HX.out.time (by have := HV.out.al xa; omega) (HV.out.am xa)).mono fun _ _ ⟨h1, h2⟩ => ⟨h1, h2.symm⟩)
    have HKA := Lib.hid hka
    clear hZ2 hfx hf hfy
    cases a3 : heldO O xp xt with
    | true =>
      have HE := Lib.hid (show (11 : Int) = errO O ⟨xt, 1, xa, xp⟩ by simp [errO, HY.out, a1, a2, a3])
      clear hka
      go_wp2
      go_ret
      exact err_post HZ2.out HE.out (by decide)
    | false =>
    clear hka
    go_wp2
    go_quiet ((go_at_call 113; exact Calls.quiet_of_same (HAD.out _)))
    by_cases a4 : O.b.adds ≤ (ka : Int)
    · have HE := Lib.hid (show (16 : Int) = errO O ⟨xt, 1, xa, xp⟩ by simp [errO, HY.out, HKA.out, a1, a2, a3, a4])
      go_wp2
      go_ret
      exact err_post (HZ2.out.drewN _) HE.out (by decide)
    obtain ⟨V2, hV2⟩ : ∃ V2, V2 = V.drewN nq := ⟨_, rfl⟩
    rw [← hV2]
    have HZ3 := Lib.hid (show OffAt lo w ob bm ba O w.heap.size #[.int .i64 xt, .int .i64 1, .string xa, .string xp] W1.heap.size #[.string yt, .bool yh, .int .i64 yd] V2 by rw [hV2]; exact HZ2.out.drewN nq)
    clear hcx hcy hc hV2
    obtain ⟨mo, hmo⟩ : ∃ mo, manyO O xa false = mo := ⟨_, rfl⟩
    have HMO := Lib.hid hmo
    clear hmo
    go_wp2
    refine wp_region_rgs 0 (fun _ W => OffAt lo w ob bm ba O w.heap.size #[.int .i64 xt, .int .i64 1, .string xa, .string xp] W1.heap.size #[.string yt, .bool yh, .int .i64 yd] W) GB
      (fun i u W => match i with
          | 0 => u = .pointer (some ⟨ob, 0, none⟩)
          | 1 => u = .pointer (some ⟨w.heap.size, 2, none⟩)
          | 2 => u = .string xa
          | 3 => u = .int .i64 mo
          | 4 => u = .pointer (some ⟨ob, 0, none⟩)
          | 5 => u = .pointer (some ⟨ob, 0, none⟩)
          | 6 => u = .pointer (some ⟨ob, 0, none⟩)
          | 7 => u = .pointer (some ⟨ob, 0, none⟩)
          | 8 => u = .int .i64 O.b.most
          | 9 => u = .bool (decide (O.b.most ≤ (mo : Int)))
          | 10 => u = .bool (decide (O.b.most ≤ (mo : Int)))
          | _ => True)
      (fun _ => 0) (by kernel_rfl) (by kernel_rfl) (by kernel_rfl) ?start ?stable ?step ?fin
    case start => exact HZ3.out.drewN 1
    case stable =>
      intro i u W W' h hG
      match i with
      | 0 | 1 | 2 | 3 | 4 | 5 | 6 | 7 | 8 | 9 | 10 | _ + 11 => exact h
    case step =>
      refine ⟨?_, ?_, ?_, ?_, ?_, ?_, ?_, ?_, ?_, ?_, ?_, trivial⟩
      · exact step_run rfl rfl rfl fun a W m hp hI => ⟨_, _, ex_move rfl (show a.tmps.getD 0 undef = .pointer (some ⟨ob, 0, none⟩) from hp.old 0 (by kernel_rfl)), rfl, .refl _ _ rfl, hI⟩
      · exact step_run rfl rfl rfl fun a W m hp hI => ⟨_, _, ex_field (off := 2) rfl (show a.tmps.getD 3 undef = .pointer (some ⟨w.heap.size, 0, none⟩) from hp.old 3 (by kernel_rfl)) (fun w => by simp [Instr.fieldAt, go_sem]), congrArg (fun n => Value.pointer (some ⟨w.heap.size, n, none⟩)) (show 0 + 2 = 2 from rfl), .refl _ _ rfl, hI⟩
      · exact step_run rfl rfl rfl fun a W m hp hI => ⟨_, _, ex_load rfl (show a.tmps.getD 90 undef = .pointer (some ⟨w.heap.size, 2, none⟩) from hp.pre 1 (by decide) _ rfl) (fun w => by simp [isAgg, go_sem]) ((row_cells hI.x).1 2), rfl, .refl _ _ rfl, hI⟩
      · refine step_call (f := 114) (fun a => #[a.tmps.getD 89 undef, a.tmps.getD 91 undef, .bool false]) rfl rfl rfl (fun a w => by simp [go_sem]) fun a W m hp hI => ?_
        have h1 : a.tmps.getD 89 undef = .pointer (some ⟨ob, 0, none⟩) := hp.pre 0 (by decide) _ rfl
        have h2 : a.tmps.getD 91 undef = .string xa := hp.pre 2 (by decide) _ rfl
        rw [h1, h2]
        refine (many_any hI.off xa false hlen).mono ?_
        rintro e W' ⟨rfl, hb⟩
        exact ⟨_, rfl, congrArg (fun n : Nat => Value.int .i64 n) HMO.out, .of_below hb, hI.below hb⟩
      · exact step_run rfl rfl rfl fun a W m hp hI => ⟨_, _, ex_move rfl (show a.tmps.getD 0 undef = .pointer (some ⟨ob, 0, none⟩) from hp.old 0 (by kernel_rfl)), rfl, .refl _ _ rfl, hI⟩
      · exact step_run rfl rfl rfl fun a W m hp hI => ⟨_, _, ex_nil rfl (show a.tmps.getD 93 undef = .pointer (some ⟨ob, 0, none⟩) from hp.pre 4 (by decide) _ rfl), rfl, .refl _ _ rfl, hI⟩
      · exact step_run rfl rfl rfl fun a W m hp hI => ⟨_, _, ex_field (off := 0) rfl (show a.tmps.getD 94 undef = .pointer (some ⟨ob, 0, none⟩) from hp.pre 5 (by decide) _ rfl) (fun w => by simp [Instr.fieldAt, go_sem]), congrArg (fun n => Value.pointer (some ⟨ob, n, none⟩)) (show 0 + 0 = 0 from rfl), .refl _ _ rfl, hI⟩
      · exact step_run rfl rfl rfl fun a W m hp hI => ⟨_, _, ex_field (off := 0) rfl (show a.tmps.getD 95 undef = .pointer (some ⟨ob, 0, none⟩) from hp.pre 6 (by decide) _ rfl) (fun w => by simp [Instr.fieldAt, go_sem]), congrArg (fun n => Value.pointer (some ⟨ob, n, none⟩)) (show 0 + 0 = 0 from rfl), .refl _ _ rfl, hI⟩
      · exact step_run rfl rfl rfl fun a W m hp hI => ⟨_, _, ex_load rfl (show a.tmps.getD 96 undef = .pointer (some ⟨ob, 0, none⟩) from hp.pre 7 (by decide) _ rfl) (fun w => by simp [isAgg, go_sem]) ((row_cells hI.row).1 0), rfl, .refl _ _ rfl, hI⟩
      · refine step_run rfl rfl rfl fun a W m hp hI => ?_
        have h1 : a.tmps.getD 92 undef = .int .i64 (mo : Nat) := hp.pre 3 (by decide) _ rfl
        have h2 : a.tmps.getD 97 undef = .int .i64 O.b.most := hp.pre 8 (by decide) _ rfl
        exact ⟨_, _, ex_bin rfl h1 h2 (by simp [go_sem]) (by simp [go_sem]), rfl, .refl _ _ rfl, hI⟩
      · exact step_run rfl rfl rfl fun a W m hp hI => ⟨_, _, ex_assign rfl (show a.tmps.getD 98 undef = .bool (decide (O.b.most ≤ (mo : Int))) from hp.pre 9 (by decide) _ rfl), rfl, .refl _ _ rfl, hI⟩
    case fin =>
      intro vs W hl hI hall
      match vs, hl with
      | [v0, v1, v2, v3, v4, v5, v6, v7, v8, v9, v10], _ =>
        obtain ⟨_, _, _, _, _, _, _, _, _, _, q10, _⟩ := hall
        have q10 : v10 = .bool (decide (O.b.most ≤ (mo : Int))) := q10
        subst q10
        simp only [putAll, Act.put, List.setIfInBounds_toArray, List.set_cons_succ, List.set_cons_zero]
        have HI := Lib.hid hI
        clear hI
        by_cases a5 : O.b.most ≤ (mo : Int)
        · have HE := Lib.hid (show (12 : Int) = errO O ⟨xt, 1, xa, xp⟩ by simp [errO, HY.out, HKA.out, HMO.out, a1, a2, a3, a4, a5])
          go_wp2
          go_ret
          exact err_post HI.out HE.out (by decide)
        have HE := Lib.hid (show (0 : Int) = errO O ⟨xt, 1, xa, xp⟩ by simp [errO, HY.out, HKA.out, HMO.out, a1, a2, a3, a4, a5])
        go_wp2
        obtain ⟨A, hat, hrows⟩ := addAt_of HI.out
        obtain ⟨v0, hv0⟩ : ∃ v0, (getM A xa).getD (.slice none 0 0) = v0 := ⟨_, rfl⟩
        have HV0 := Lib.hid hv0
        have HAT := Lib.hid hat
        have HRW := Lib.hid hrows
        clear hat hrows hv0
        refine wp_region_rgi 0 (fun m W => (m = 0 → OffAt lo w ob bm ba { O with adds := upd O.adds xa (O.adds xa ++ [xt]) } w.heap.size #[.int .i64 xt, .int .i64 1, .string xa, .string xp] W1.heap.size #[.string yt, .bool yh, .int .i64 yd] W) ∧
            (m ≠ 0 → AddAt lo w ob bm ba O A w.heap.size #[.int .i64 xt, .int .i64 1, .string xa, .string xp] W1.heap.size #[.string yt, .bool yh, .int .i64 yd] W) ∧ (m = 2 → Rows lo W A O.adds))
          (fun i w w' => match i with | 16 => w.grownBy w' v0.ownBlock | 17 => Turn ba w w' ∧ isMap w ba | _ => GB w w')
          (fun i u W => match i with
              | 0 => u = .pointer (some ⟨ob, 0, none⟩)
              | 1 => u = .pointer (some ⟨ob, 0, none⟩)
              | 2 => u = .pointer (some ⟨ob, 5, none⟩)
              | 3 => u = .map (some ba)
              | 4 => u = .pointer (some ⟨w.heap.size, 2, none⟩)
              | 5 => u = .string xa
              | 6 => u = .pointer (some ⟨ob, 0, none⟩)
              | 7 => u = .pointer (some ⟨ob, 0, none⟩)
              | 8 => u = .pointer (some ⟨ob, 5, none⟩)
              | 9 => u = .map (some ba)
              | 10 => u = .pointer (some ⟨w.heap.size, 2, none⟩)
              | 11 => u = .string xa
              | 12 => u = v0
              | 13 => u = .pointer (some ⟨w.heap.size, 0, none⟩)
              | 14 => u = .int .i64 xt
              | 15 => NewInt xt v0 u W
              | 16 => GrownRow lo w.heap.size A O xa xt u W
              | 17 => True
              | _ => True)
          (fun i => match i with | 16 | 17 => 1 | _ => 0) (by kernel_rfl) (by kernel_rfl) (by kernel_rfl) ?start2 ?stable2 ?step2 ?fin2
        case start2 =>
          have hd := below_drewN (Below.refl W.heap.size W) 1
          exact ⟨fun h => absurd h (by decide), fun _ => HAT.out.below hd, fun _ => rows_gb HRW.out (.of_below hd)⟩
        case stable2 =>
          intro i k u W W' hne h hG
          match k with
          | 15 =>
            match i with
            | 16 => obtain ⟨g, h1, h2, h3⟩ := h; exact ⟨g, h1, (hG.block _ (Array.getElem?_eq_some_iff.1 h2).1 (fun e => h3 e.symm)).trans h2, h3⟩
            | 17 => obtain ⟨g, h1, h2, h3⟩ := h; exact ⟨g, h1, (hG.1.block _ (fun e => by obtain ⟨es, cl, q⟩ := hG.2; rw [← e, h2] at q; cases q)).trans h2, h3⟩
            | 0 | 1 | 2 | 3 | 4 | 5 | 6 | 7 | 8 | 9 | 10 | 11 | 12 | 13 | 14 | 15 | _ + 18 => obtain ⟨g, h1, h2, h3⟩ := h; exact ⟨g, h1, (hG.block _ (Array.getElem?_eq_some_iff.1 h2).1).trans h2, h3⟩
          | 16 =>
            match i with
            | 16 => exact absurd rfl hne
            | 17 => exact h.turn hG.2 hG.1
            | 0 | 1 | 2 | 3 | 4 | 5 | 6 | 7 | 8 | 9 | 10 | 11 | 12 | 13 | 14 | 15 | _ + 18 => exact h.gb hG
          | 0 | 1 | 2 | 3 | 4 | 5 | 6 | 7 | 8 | 9 | 10 | 11 | 12 | 13 | 14 | 17 | _ + 18 => exact h
        case step2 =>
          refine ⟨?_, ?_, ?_, ?_, ?_, ?_, ?_, ?_, ?_, ?_, ?_, ?_, ?_, ?_, ?_, ?_, ?_, ?_, trivial⟩
          · exact step_run rfl rfl rfl fun a W m hp hI => ⟨_, _, ex_move rfl (show a.tmps.getD 0 undef = .pointer (some ⟨ob, 0, none⟩) from hp.old 0 (by kernel_rfl)), rfl, GB.refl _ _ rfl, hI⟩
          · exact step_run rfl rfl rfl fun a W m hp hI => ⟨_, _, ex_nil rfl (show a.tmps.getD 99 undef = .pointer (some ⟨ob, 0, none⟩) from hp.pre 0 (by decide) _ rfl), rfl, GB.refl _ _ rfl, hI⟩
          · exact step_run rfl rfl rfl fun a W m hp hI => ⟨_, _, ex_field (off := 5) rfl (show a.tmps.getD 100 undef = .pointer (some ⟨ob, 0, none⟩) from hp.pre 1 (by decide) _ rfl) (fun w => by simp [Instr.fieldAt, go_sem]), congrArg (fun n => Value.pointer (some ⟨ob, n, none⟩)) (show 0 + 5 = 5 from rfl), GB.refl _ _ rfl, hI⟩
          · exact step_run rfl rfl rfl fun a W m hp hI => ⟨_, _, ex_load rfl (show a.tmps.getD 101 undef = .pointer (some ⟨ob, 5, none⟩) from hp.pre 2 (by decide) _ rfl) (fun w => by simp [isAgg, go_sem]) ((row_cells (hI.2.1 (phase1 hp.low (by kernel_rfl))).row).1 5), rfl, GB.refl _ _ rfl, hI⟩
          · exact step_run rfl rfl rfl fun a W m hp hI => ⟨_, _, ex_field (off := 2) rfl (show a.tmps.getD 3 undef = .pointer (some ⟨w.heap.size, 0, none⟩) from hp.old 3 (by kernel_rfl)) (fun w => by simp [Instr.fieldAt, go_sem]), congrArg (fun n => Value.pointer (some ⟨w.heap.size, n, none⟩)) (show 0 + 2 = 2 from rfl), GB.refl _ _ rfl, hI⟩
          · exact step_run rfl rfl rfl fun a W m hp hI => ⟨_, _, ex_load rfl (show a.tmps.getD 103 undef = .pointer (some ⟨w.heap.size, 2, none⟩) from hp.pre 4 (by decide) _ rfl) (fun w => by simp [isAgg, go_sem]) ((row_cells (hI.2.1 (phase1 hp.low (by kernel_rfl))).x).1 2), rfl, GB.refl _ _ rfl, hI⟩
          · exact step_run rfl rfl rfl fun a W m hp hI => ⟨_, _, ex_move rfl (show a.tmps.getD 0 undef = .pointer (some ⟨ob, 0, none⟩) from hp.old 0 (by kernel_rfl)), rfl, GB.refl _ _ rfl, hI⟩
          · exact step_run rfl rfl rfl fun a W m hp hI => ⟨_, _, ex_nil rfl (show a.tmps.getD 105 undef = .pointer (some ⟨ob, 0, none⟩) from hp.pre 6 (by decide) _ rfl), rfl, GB.refl _ _ rfl, hI⟩
          · exact step_run rfl rfl rfl fun a W m hp hI => ⟨_, _, ex_field (off := 5) rfl (show a.tmps.getD 106 undef = .pointer (some ⟨ob, 0, none⟩) from hp.pre 7 (by decide) _ rfl) (fun w => by simp [Instr.fieldAt, go_sem]), congrArg (fun n => Value.pointer (some ⟨ob, n, none⟩)) (show 0 + 5 = 5 from rfl), GB.refl _ _ rfl, hI⟩
          · exact step_run rfl rfl rfl fun a W m hp hI => ⟨_, _, ex_load rfl (show a.tmps.getD 107 undef = .pointer (some ⟨ob, 5, none⟩) from hp.pre 8 (by decide) _ rfl) (fun w => by simp [isAgg, go_sem]) ((row_cells (hI.2.1 (phase1 hp.low (by kernel_rfl))).row).1 5), rfl, GB.refl _ _ rfl, hI⟩
          · exact step_run rfl rfl rfl fun a W m hp hI => ⟨_, _, ex_field (off := 2) rfl (show a.tmps.getD 3 undef = .pointer (some ⟨w.heap.size, 0, none⟩) from hp.old 3 (by kernel_rfl)) (fun w => by simp [Instr.fieldAt, go_sem]), congrArg (fun n => Value.pointer (some ⟨w.heap.size, n, none⟩)) (show 0 + 2 = 2 from rfl), GB.refl _ _ rfl, hI⟩
          · exact step_run rfl rfl rfl fun a W m hp hI => ⟨_, _, ex_load rfl (show a.tmps.getD 109 undef = .pointer (some ⟨w.heap.size, 2, none⟩) from hp.pre 10 (by decide) _ rfl) (fun w => by simp [isAgg, go_sem]) ((row_cells (hI.2.1 (phase1 hp.low (by kernel_rfl))).x).1 2), rfl, GB.refl _ _ rfl, hI⟩
          · refine step_run rfl rfl rfl fun a W m hp hI => ?_
            have h1 : a.tmps.getD 108 undef = .map (some ba) := hp.pre 9 (by decide) _ rfl
            have h2 : a.tmps.getD 110 undef = .string xa := hp.pre 11 (by decide) _ rfl
            exact ⟨_, _, ex_lookup rfl h1 h2 ((lookInts (hI.2.1 (phase1 hp.low (by kernel_rfl))).am HX.out.team)), HV0.out, GB.refl _ _ rfl, hI⟩
          · exact step_run rfl rfl rfl fun a W m hp hI => ⟨_, _, ex_field (off := 0) rfl (show a.tmps.getD 3 undef = .pointer (some ⟨w.heap.size, 0, none⟩) from hp.old 3 (by kernel_rfl)) (fun w => by simp [Instr.fieldAt, go_sem]), congrArg (fun n => Value.pointer (some ⟨w.heap.size, n, none⟩)) (show 0 + 0 = 0 from rfl), GB.refl _ _ rfl, hI⟩
          · exact step_run rfl rfl rfl fun a W m hp hI => ⟨_, _, ex_load rfl (show a.tmps.getD 112 undef = .pointer (some ⟨w.heap.size, 0, none⟩) from hp.pre 13 (by decide) _ rfl) (fun w => by simp [isAgg, go_sem]) ((row_cells (hI.2.1 (phase1 hp.low (by kernel_rfl))).x).1 0), rfl, GB.refl _ _ rfl, hI⟩
          · refine step_run rfl rfl rfl fun a W m hp hI => ?_
            have h1 : a.tmps.getD 113 undef = .int .i64 xt := hp.pre 14 (by decide) _ rfl
            have hm := phase1 hp.low (by kernel_rfl)
            have hgb : GB W (W.alloc (.cells #[.int .i64 xt] 3)) := .of_below ((Below.refl _ _).alloc (Nat.le_refl _) _)
            exact ⟨_, _, ex_slice1 rfl h1 (fun w => by simp [go_sem]), ⟨W.heap.size, rfl, heap_alloc_new _ _, fun e => by have := (hI.2.1 hm).size xa _ (by rw [HV0.out]; exact e); omega⟩, hgb, fun h => absurd h hm, fun _ => (hI.2.1 hm).below ((Below.refl _ _).alloc (Nat.le_refl _) _), fun h => rows_gb (hI.2.2 h) hgb⟩
          · refine step_run rfl rfl rfl fun a W m hp hI => ?_
            have hm : m = 1 := phase (hp.low) (hp.high) (by kernel_rfl) (by kernel_rfl) rfl
            subst hm
            have h1 : a.tmps.getD 111 undef = v0 := hp.pre 12 (by decide) _ rfl
            obtain ⟨g, h2, h3, h4⟩ : NewInt xt v0 (a.tmps.getD 114 undef) W := hp.pre 15 (by decide) _ rfl
            have hAt := hI.2.1 (by decide)
            obtain ⟨v1, W', hrun, hq, hgr, hat⟩ := grow_row hAt (hI.2.2 rfl) HV0.out h3 (HV.out.al xa)
            exact ⟨_, _, ex_append rfl h1 h2 (hrun _), hq, hgr, fun h => absurd h (by decide), fun _ => hat, fun h => absurd h (by decide)⟩
          · refine step_skip rfl rfl rfl fun a W m hp hI => ?_
            have hm : m = 0 := phase (hp.low) (hp.high) (by kernel_rfl) (by kernel_rfl) rfl
            subst hm
            have h1 : a.tmps.getD 102 undef = .map (some ba) := hp.pre 3 (by decide) _ rfl
            have h2 : a.tmps.getD 104 undef = .string xa := hp.pre 5 (by decide) _ rfl
            have h3 : GrownRow lo w.heap.size A O xa xt (a.tmps.getD 115 undef) W := hp.pre 16 (by decide) _ rfl
            obtain ⟨W', hrun, hoff, ht, him⟩ := lay_row (hI.2.1 (by decide)) h3 HX.out.team
            exact ⟨W', ex_update rfl h1 h2 rfl hrun, trivial, ⟨ht, him⟩, fun _ => hoff, fun h => absurd rfl h, fun h => absurd h (by decide)⟩
        case fin2 =>
          intro vs W2 hl2 hI2 hall2
          match vs, hl2 with
          | [v0, v1, v2, v3, v4, v5, v6, v7, v8, v9, v10, v11, v12, v13, v14, v15, v16, v17], _ =>
            simp only [putAll, Act.put, List.setIfInBounds_toArray, List.set_cons_succ, List.set_cons_zero]
            have HI2 := Lib.hid (hI2.1 rfl)
            clear hI2 hall2
            go_wp2
            refine wp_region_rgi 0 (fun m W => (m ≠ 0 → OffAt lo w ob bm ba { O with adds := upd O.adds xa (O.adds xa ++ [xt]) } w.heap.size #[.int .i64 xt, .int .i64 1, .string xa, .string xp] W1.heap.size #[.string yt, .bool yh, .int .i64 yd] W) ∧ (m = 0 → OffAt lo w ob bm ba { O with adds := upd O.adds xa (O.adds xa ++ [xt]), pl := putM O.pl xp ⟨xa, false, yd⟩ } w.heap.size #[.int .i64 xt, .int .i64 1, .string xa, .string xp] W1.heap.size #[.string yt, .bool yh, .int .i64 yd] W)) (fun _ _ _ => True)
              (fun i u W => match i with
                  | 0 => u = .pointer (some ⟨ob, 0, none⟩)
                  | 1 => u = .pointer (some ⟨ob, 0, none⟩)
                  | 2 => u = .pointer (some ⟨ob, 4, none⟩)
                  | 3 => u = .map (some bm)
                  | 4 => u = .pointer (some ⟨w.heap.size, 3, none⟩)
                  | 5 => u = .string xp
                  | 6 => u = .pointer (some ⟨w.heap.size, 2, none⟩)
                  | 7 => u = .string xa
                  | 8 => u = .pointer (some ⟨W1.heap.size, 2, none⟩)
                  | 9 => u = .int .i64 yd
                  | 10 => u = Whr.v ⟨xa, false, yd⟩
                  | 11 => True
                  | _ => True)
              (fun i => match i with | 11 => 1 | _ => 0) (by kernel_rfl) (by kernel_rfl) (by kernel_rfl) ?start26 ?stable26 ?step26 ?fin26
            case start26 => exact ⟨fun _ => OffAt.drewN HI2.out 1, fun h => absurd h (by decide)⟩
            case stable26 =>
              intro i k u W W' hne h hG
              exact h
            case step26 =>
              refine ⟨?_, ?_, ?_, ?_, ?_, ?_, ?_, ?_, ?_, ?_, ?_, ?_, trivial⟩
              · exact step_run rfl rfl rfl fun a W m hp hI => ⟨_, _, ex_move rfl (show a.tmps.getD 0 undef = .pointer (some ⟨ob, 0, none⟩) from hp.old 0 (by kernel_rfl)), rfl, trivial, hI⟩
              · exact step_run rfl rfl rfl fun a W m hp hI => ⟨_, _, ex_nil rfl (show a.tmps.getD 116 undef = .pointer (some ⟨ob, 0, none⟩) from hp.pre 0 (by decide) _ rfl), rfl, trivial, hI⟩
              · exact step_run rfl rfl rfl fun a W m hp hI => ⟨_, _, ex_field (off := 4) rfl (show a.tmps.getD 117 undef = .pointer (some ⟨ob, 0, none⟩) from hp.pre 1 (by decide) _ rfl) (fun w => by simp [Instr.fieldAt, go_sem]), congrArg (fun n => Value.pointer (some ⟨ob, n, none⟩)) (show 0 + 4 = 4 from rfl), trivial, hI⟩
              · exact step_run rfl rfl rfl fun a W m hp hI => ⟨_, _, ex_load rfl (show a.tmps.getD 118 undef = .pointer (some ⟨ob, 4, none⟩) from hp.pre 2 (by decide) _ rfl) (fun w => by simp [isAgg, go_sem]) ((row_cells (hI.1 (phase1 hp.low (by kernel_rfl))).row).1 4), rfl, trivial, hI⟩
              · exact step_run rfl rfl rfl fun a W m hp hI => ⟨_, _, ex_field (off := 3) rfl (show a.tmps.getD 3 undef = .pointer (some ⟨w.heap.size, 0, none⟩) from hp.old 3 (by kernel_rfl)) (fun w => by simp [Instr.fieldAt, go_sem]), congrArg (fun n => Value.pointer (some ⟨w.heap.size, n, none⟩)) (show 0 + 3 = 3 from rfl), trivial, hI⟩
              · exact step_run rfl rfl rfl fun a W m hp hI => ⟨_, _, ex_load rfl (show a.tmps.getD 120 undef = .pointer (some ⟨w.heap.size, 3, none⟩) from hp.pre 4 (by decide) _ rfl) (fun w => by simp [isAgg, go_sem]) ((row_cells (hI.1 (phase1 hp.low (by kernel_rfl))).x).1 3), rfl, trivial, hI⟩
              · exact step_run rfl rfl rfl fun a W m hp hI => ⟨_, _, ex_field (off := 2) rfl (show a.tmps.getD 3 undef = .pointer (some ⟨w.heap.size, 0, none⟩) from hp.old 3 (by kernel_rfl)) (fun w => by simp [Instr.fieldAt, go_sem]), congrArg (fun n => Value.pointer (some ⟨w.heap.size, n, none⟩)) (show 0 + 2 = 2 from rfl), trivial, hI⟩
              · exact step_run rfl rfl rfl fun a W m hp hI => ⟨_, _, ex_load rfl (show a.tmps.getD 122 undef = .pointer (some ⟨w.heap.size, 2, none⟩) from hp.pre 6 (by decide) _ rfl) (fun w => by simp [isAgg, go_sem]) ((row_cells (hI.1 (phase1 hp.low (by kernel_rfl))).x).1 2), rfl, trivial, hI⟩
              · exact step_run rfl rfl rfl fun a W m hp hI => ⟨_, _, ex_field (off := 2) rfl (show a.tmps.getD 5 undef = .pointer (some ⟨W1.heap.size, 0, none⟩) from hp.old 5 (by kernel_rfl)) (fun w => by simp [Instr.fieldAt, go_sem]), congrArg (fun n => Value.pointer (some ⟨W1.heap.size, n, none⟩)) (show 0 + 2 = 2 from rfl), trivial, hI⟩
              · exact step_run rfl rfl rfl fun a W m hp hI => ⟨_, _, ex_load rfl (show a.tmps.getD 124 undef = .pointer (some ⟨W1.heap.size, 2, none⟩) from hp.pre 8 (by decide) _ rfl) (fun w => by simp [isAgg, go_sem]) ((row_cells (hI.1 (phase1 hp.low (by kernel_rfl))).y).1 2), rfl, trivial, hI⟩
              · refine step_run rfl rfl rfl fun a W m hp hI => ?_
                have h1 : a.tmps.getD 123 undef = .string xa := hp.pre 7 (by decide) _ rfl
                have h2 : a.tmps.getD 125 undef = .int .i64 yd := hp.pre 9 (by decide) _ rfl
                exact ⟨_, _, ex_build02 rfl h1 h2 (by simp [go_sem]; rfl), rfl, trivial, hI⟩
              · refine step_skip rfl rfl rfl fun a W m hp hI => ?_
                have hm : m = 0 := phase (hp.low) (hp.high) (by kernel_rfl) (by kernel_rfl) rfl
                subst hm
                have h1 : a.tmps.getD 119 undef = .map (some bm) := hp.pre 3 (by decide) _ rfl
                have h2 : a.tmps.getD 121 undef = .string xp := hp.pre 5 (by decide) _ rfl
                have h3 : a.tmps.getD 126 undef = Whr.v ⟨xa, false, yd⟩ := hp.pre 10 (by decide) _ rfl
                obtain ⟨W', hrun, hoff, ht, him⟩ := (hI.1 (by decide)).put HX.out.player ⟨xa, false, yd⟩
                exact ⟨W', ex_update rfl h1 h2 h3 hrun, trivial, trivial, fun h => absurd rfl h, fun _ => hoff⟩
            case fin26 =>
              intro vs W hl hI hall
              match vs, hl with
              | [v0, v1, v2, v3, v4, v5, v6, v7, v8, v9, v10, v11], _ =>
                simp only [putAll, Act.put, List.setIfInBounds_toArray, List.set_cons_succ, List.set_cons_zero]
                have HI := Lib.hid (hI.2 rfl)
                clear hI hall
                go_wp2
                go_ret
                exact ok_post HI.out HE.out (by unfold followO; rw [if_pos HE.out.symm, if_pos rfl]; dsimp only; rw [HY.out])
  by_cases k2 : xk = 2
  · subst k2
    cases a1 : eqS yt xa with
    | false =>
      have b1 := et.symm.trans a1
      have HE := Lib.hid (show (8 : Int) = errO O ⟨xt, 2, xa, xp⟩ by simp [errO, HY.out, a1])
      go_wp2
      go_ret
      exact err_post HZ.out HE.out (by decide)
    | true =>
      have b1 := et.symm.trans a1
      have HE := Lib.hid (show (0 : Int) = errO O ⟨xt, 2, xa, xp⟩ by simp [errO, HY.out, a1])
      go_wp2
      refine wp_region_rgi 0 (fun m W => (m ≠ 0 → OffAt lo w ob bm ba O w.heap.size #[.int .i64 xt, .int .i64 2, .string xa, .string xp] W1.heap.size #[.string yt, .bool yh, .int .i64 yd] W) ∧ (m = 0 → OffAt lo w ob bm ba { O with pl := putM O.pl xp ⟨noStr, false, xt⟩ } w.heap.size #[.int .i64 xt, .int .i64 2, .string xa, .string xp] W1.heap.size #[.string yt, .bool yh, .int .i64 yd] W)) (fun _ _ _ => True)
        (fun i u W => match i with
            | 0 => u = .pointer (some ⟨ob, 0, none⟩)
            | 1 => u = .pointer (some ⟨ob, 0, none⟩)
            | 2 => u = .pointer (some ⟨ob, 4, none⟩)
            | 3 => u = .map (some bm)
            | 4 => u = .pointer (some ⟨w.heap.size, 3, none⟩)
            | 5 => u = .string xp
            | 6 => u = .pointer (some ⟨w.heap.size, 0, none⟩)
            | 7 => u = .int .i64 xt
            | 8 => u = Whr.v ⟨noStr, false, xt⟩
            | 9 => True
            | _ => True)
        (fun i => match i with | 9 => 1 | _ => 0) (by kernel_rfl) (by kernel_rfl) (by kernel_rfl) ?start30 ?stable30 ?step30 ?fin30
      case start30 => exact ⟨fun _ => OffAt.drewN HZ.out 1, fun h => absurd h (by decide)⟩
      case stable30 =>
        intro i k u W W' hne h hG
        exact h
      case step30 =>
        refine ⟨?_, ?_, ?_, ?_, ?_, ?_, ?_, ?_, ?_, ?_, trivial⟩
        · exact step_run rfl rfl rfl fun a W m hp hI => ⟨_, _, ex_move rfl (show a.tmps.getD 0 undef = .pointer (some ⟨ob, 0, none⟩) from hp.old 0 (by kernel_rfl)), rfl, trivial, hI⟩
        · exact step_run rfl rfl rfl fun a W m hp hI => ⟨_, _, ex_nil rfl (show a.tmps.getD 131 undef = .pointer (some ⟨ob, 0, none⟩) from hp.pre 0 (by decide) _ rfl), rfl, trivial, hI⟩
        · exact step_run rfl rfl rfl fun a W m hp hI => ⟨_, _, ex_field (off := 4) rfl (show a.tmps.getD 132 undef = .pointer (some ⟨ob, 0, none⟩) from hp.pre 1 (by decide) _ rfl) (fun w => by simp [Instr.fieldAt, go_sem]), congrArg (fun n => Value.pointer (some ⟨ob, n, none⟩)) (show 0 + 4 = 4 from rfl), trivial, hI⟩
        · exact step_run rfl rfl rfl fun a W m hp hI => ⟨_, _, ex_load rfl (show a.tmps.getD 133 undef = .pointer (some ⟨ob, 4, none⟩) from hp.pre 2 (by decide) _ rfl) (fun w => by simp [isAgg, go_sem]) ((row_cells (hI.1 (phase1 hp.low (by kernel_rfl))).row).1 4), rfl, trivial, hI⟩
        · exact step_run rfl rfl rfl fun a W m hp hI => ⟨_, _, ex_field (off := 3) rfl (show a.tmps.getD 3 undef = .pointer (some ⟨w.heap.size, 0, none⟩) from hp.old 3 (by kernel_rfl)) (fun w => by simp [Instr.fieldAt, go_sem]), congrArg (fun n => Value.pointer (some ⟨w.heap.size, n, none⟩)) (show 0 + 3 = 3 from rfl), trivial, hI⟩
        · exact step_run rfl rfl rfl fun a W m hp hI => ⟨_, _, ex_load rfl (show a.tmps.getD 135 undef = .pointer (some ⟨w.heap.size, 3, none⟩) from hp.pre 4 (by decide) _ rfl) (fun w => by simp [isAgg, go_sem]) ((row_cells (hI.1 (phase1 hp.low (by kernel_rfl))).x).1 3), rfl, trivial, hI⟩
        · exact step_run rfl rfl rfl fun a W m hp hI => ⟨_, _, ex_field (off := 0) rfl (show a.tmps.getD 3 undef = .pointer (some ⟨w.heap.size, 0, none⟩) from hp.old 3 (by kernel_rfl)) (fun w => by simp [Instr.fieldAt, go_sem]), congrArg (fun n => Value.pointer (some ⟨w.heap.size, n, none⟩)) (show 0 + 0 = 0 from rfl), trivial, hI⟩
        · exact step_run rfl rfl rfl fun a W m hp hI => ⟨_, _, ex_load rfl (show a.tmps.getD 137 undef = .pointer (some ⟨w.heap.size, 0, none⟩) from hp.pre 6 (by decide) _ rfl) (fun w => by simp [isAgg, go_sem]) ((row_cells (hI.1 (phase1 hp.low (by kernel_rfl))).x).1 0), rfl, trivial, hI⟩
        · refine step_run rfl rfl rfl fun a W m hp hI => ?_
          have h1 : a.tmps.getD 138 undef = .int .i64 xt := hp.pre 7 (by decide) _ rfl
          exact ⟨_, _, ex_build1 rfl h1 (by simp [go_sem]; rfl), rfl, trivial, hI⟩
        · refine step_skip rfl rfl rfl fun a W m hp hI => ?_
          have hm : m = 0 := phase (hp.low) (hp.high) (by kernel_rfl) (by kernel_rfl) rfl
          subst hm
          have h1 : a.tmps.getD 134 undef = .map (some bm) := hp.pre 3 (by decide) _ rfl
          have h2 : a.tmps.getD 136 undef = .string xp := hp.pre 5 (by decide) _ rfl
          have h3 : a.tmps.getD 139 undef = Whr.v ⟨noStr, false, xt⟩ := hp.pre 8 (by decide) _ rfl
          obtain ⟨W', hrun, hoff, ht, him⟩ := (hI.1 (by decide)).put HX.out.player ⟨noStr, false, xt⟩
          exact ⟨W', ex_update rfl h1 h2 h3 hrun, trivial, trivial, fun h => absurd rfl h, fun _ => hoff⟩
      case fin30 =>
        intro vs W hl hI hall
        match vs, hl with
        | [v0, v1, v2, v3, v4, v5, v6, v7, v8, v9], _ =>
          simp only [putAll, Act.put, List.setIfInBounds_toArray, List.set_cons_succ, List.set_cons_zero]
          have HI := Lib.hid (hI.2 rfl)
          clear hI hall
          go_wp2
          go_ret
          exact ok_post HI.out HE.out (by unfold followO; rw [if_pos HE.out.symm, if_neg (show ¬ (2 : Int) = 1 by decide), if_pos rfl])
  by_cases k3 : xk = 3
  · subst k3
    clear k1 k2
    cases a1 : eqS yt xa with
    | false =>
      have b1 := et.symm.trans a1
      have HE := Lib.hid (show (8 : Int) = errO O ⟨xt, 3, xa, xp⟩ by simp [errO, HY.out, a1])
      go_wp2
      go_ret
      exact err_post HZ.out HE.out (by decide)
    | true =>
    have b1 := et.symm.trans a1
    cases yh with
    | true =>
      have HE := Lib.hid (show (8 : Int) = errO O ⟨xt, 3, xa, xp⟩ by simp [errO, HY.out, a1])
      go_wp2
      go_ret
      exact err_post HZ.out HE.out (by decide)
    | false =>
    obtain ⟨mo, hmo⟩ : ∃ mo, manyO O xa true = mo := ⟨_, rfl⟩
    have HMO := Lib.hid hmo
    clear hmo
    go_wp2_with fail
    refine (many_any HZ.out.off xa true hlen).mono ?_
    rintro e V ⟨rfl, hbv⟩
    rw [HMO.out]
    have hZ2 := HZ.out.below hbv
    clear hcx hfx hcy hfy hc hbv
    have HZ2 := Lib.hid hZ2
    obtain ⟨hcx, hfx⟩ := row_cells hZ2.x
    obtain ⟨hcy, hfy⟩ := row_cells hZ2.y
    obtain ⟨hc, hf⟩ := row_cells hZ2.off.row
    clear hZ2 hf hfx
    by_cases a5 : O.b.hurt ≤ (mo : Int)
    · have HE := Lib.hid (show (12 : Int) = errO O ⟨xt, 3, xa, xp⟩ by simp [errO, HY.out, HMO.out, a1, a5])
      go_wp2
      go_ret
      exact err_post HZ2.out HE.out (by decide)
    have HE := Lib.hid (show (0 : Int) = errO O ⟨xt, 3, xa, xp⟩ by simp [errO, HY.out, HMO.out, a1, a5])
    have HZ4 := Lib.hid (HZ2.out.hurt true (by omega) (by omega))
    go_wp2
    refine wp_region_rgi 0 (fun m W => (m ≠ 0 → OffAt lo w ob bm ba O w.heap.size #[.int .i64 xt, .int .i64 3, .string xa, .string xp] W1.heap.size #[.string yt, .bool true, .int .i64 yd] W) ∧ (m = 0 → OffAt lo w ob bm ba { O with pl := putM O.pl xp ⟨yt, true, yd⟩ } w.heap.size #[.int .i64 xt, .int .i64 3, .string xa, .string xp] W1.heap.size #[.string yt, .bool true, .int .i64 yd] W)) (fun _ _ _ => True)
      (fun i u W => match i with
          | 0 => u = .pointer (some ⟨ob, 0, none⟩)
          | 1 => u = .pointer (some ⟨ob, 0, none⟩)
          | 2 => u = .pointer (some ⟨ob, 4, none⟩)
          | 3 => u = .map (some bm)
          | 4 => u = .pointer (some ⟨w.heap.size, 3, none⟩)
          | 5 => u = .string xp
          | 6 => u = Whr.v ⟨yt, true, yd⟩
          | 7 => True
          | _ => True)
      (fun i => match i with | 7 => 1 | _ => 0) (by kernel_rfl) (by kernel_rfl) (by kernel_rfl) ?start13true ?stable13true ?step13true ?fin13true
    case start13true => exact ⟨fun _ => OffAt.drewN HZ4.out 1, fun h => absurd h (by decide)⟩
    case stable13true =>
      intro i k u W W' hne h hG
      exact h
    case step13true =>
      refine ⟨?_, ?_, ?_, ?_, ?_, ?_, ?_, ?_, trivial⟩
      · exact step_run rfl rfl rfl fun a W m hp hI => ⟨_, _, ex_move rfl (show a.tmps.getD 0 undef = .pointer (some ⟨ob, 0, none⟩) from hp.old 0 (by kernel_rfl)), rfl, trivial, hI⟩
      · exact step_run rfl rfl rfl fun a W m hp hI => ⟨_, _, ex_nil rfl (show a.tmps.getD 53 undef = .pointer (some ⟨ob, 0, none⟩) from hp.pre 0 (by decide) _ rfl), rfl, trivial, hI⟩
      · exact step_run rfl rfl rfl fun a W m hp hI => ⟨_, _, ex_field (off := 4) rfl (show a.tmps.getD 54 undef = .pointer (some ⟨ob, 0, none⟩) from hp.pre 1 (by decide) _ rfl) (fun w => by simp [Instr.fieldAt, go_sem]), congrArg (fun n => Value.pointer (some ⟨ob, n, none⟩)) (show 0 + 4 = 4 from rfl), trivial, hI⟩
      · exact step_run rfl rfl rfl fun a W m hp hI => ⟨_, _, ex_load rfl (show a.tmps.getD 55 undef = .pointer (some ⟨ob, 4, none⟩) from hp.pre 2 (by decide) _ rfl) (fun w => by simp [isAgg, go_sem]) ((row_cells (hI.1 (phase1 hp.low (by kernel_rfl))).row).1 4), rfl, trivial, hI⟩
      · exact step_run rfl rfl rfl fun a W m hp hI => ⟨_, _, ex_field (off := 3) rfl (show a.tmps.getD 3 undef = .pointer (some ⟨w.heap.size, 0, none⟩) from hp.old 3 (by kernel_rfl)) (fun w => by simp [Instr.fieldAt, go_sem]), congrArg (fun n => Value.pointer (some ⟨w.heap.size, n, none⟩)) (show 0 + 3 = 3 from rfl), trivial, hI⟩
      · exact step_run rfl rfl rfl fun a W m hp hI => ⟨_, _, ex_load rfl (show a.tmps.getD 57 undef = .pointer (some ⟨w.heap.size, 3, none⟩) from hp.pre 4 (by decide) _ rfl) (fun w => by simp [isAgg, go_sem]) ((row_cells (hI.1 (phase1 hp.low (by kernel_rfl))).x).1 3), rfl, trivial, hI⟩
      · refine step_run rfl rfl rfl fun a W m hp hI => ?_
        have h1 : a.tmps.getD 5 undef = .pointer (some ⟨W1.heap.size, 0, none⟩) := hp.old 5 (by kernel_rfl)
        exact ⟨_, _, ex_whr rfl h1 (hI.1 (phase1 hp.low (by kernel_rfl))).y, rfl, trivial, hI⟩
      · refine step_skip rfl rfl rfl fun a W m hp hI => ?_
        have hm : m = 0 := phase (hp.low) (hp.high) (by kernel_rfl) (by kernel_rfl) rfl
        subst hm
        have h1 : a.tmps.getD 56 undef = .map (some bm) := hp.pre 3 (by decide) _ rfl
        have h2 : a.tmps.getD 58 undef = .string xp := hp.pre 5 (by decide) _ rfl
        have h3 : a.tmps.getD 59 undef = Whr.v ⟨yt, true, yd⟩ := hp.pre 6 (by decide) _ rfl
        obtain ⟨W', hrun, hoff, ht, him⟩ := (hI.1 (by decide)).put HX.out.player ⟨yt, true, yd⟩
        exact ⟨W', ex_update rfl h1 h2 h3 hrun, trivial, trivial, fun h => absurd rfl h, fun _ => hoff⟩
    case fin13true =>
      intro vs W hl hI hall
      match vs, hl with
      | [v0, v1, v2, v3, v4, v5, v6, v7], _ =>
        simp only [putAll, Act.put, List.setIfInBounds_toArray, List.set_cons_succ, List.set_cons_zero]
        have HI := Lib.hid (hI.2 rfl)
        clear hI hall
        go_wp2
        go_ret
        exact ok_post HI.out HE.out (by unfold followO; rw [if_pos HE.out.symm, if_neg (show ¬ (3 : Int) = 1 by decide), if_neg (show ¬ (3 : Int) = 2 by decide)]; dsimp only; rw [HY.out]; rfl)
  · have K3 := Lib.hid (show (xk == 3) = false by simpa using k3)
    cases a1 : eqS yt xa with
    | false =>
      have b1 := et.symm.trans a1
      have HE := Lib.hid (show (8 : Int) = errO O ⟨xt, xk, xa, xp⟩ by simp [errO, HY.out, a1, k1, k2, K3.out])
      go_wp2
      go_ret
      exact err_post HZ.out HE.out (by decide)
    | true =>
    have b1 := et.symm.trans a1
    cases yh with
    | false =>
      have HE := Lib.hid (show (8 : Int) = errO O ⟨xt, xk, xa, xp⟩ by simp [errO, HY.out, a1, k1, k2, K3.out])
      go_wp2
      go_ret
      exact err_post HZ.out HE.out (by decide)
    | true =>
    obtain ⟨mo, hmo⟩ : ∃ mo, manyO O xa false = mo := ⟨_, rfl⟩
    have HMO := Lib.hid hmo
    clear hmo
    go_wp2_with fail
    refine (many_any HZ.out.off xa false hlen).mono ?_
    rintro e V ⟨rfl, hbv⟩
    rw [HMO.out]
    have hZ2 := HZ.out.below hbv
    clear hcx hfx hcy hfy hc hbv
    have HZ2 := Lib.hid hZ2
    obtain ⟨hcx, hfx⟩ := row_cells hZ2.x
    obtain ⟨hcy, hfy⟩ := row_cells hZ2.y
    obtain ⟨hc, hf⟩ := row_cells hZ2.off.row
    clear hZ2 hf hfx
    by_cases a5 : O.b.most ≤ (mo : Int)
    · have HE := Lib.hid (show (12 : Int) = errO O ⟨xt, xk, xa, xp⟩ by simp [errO, HY.out, HMO.out, a1, a5, k1, k2, K3.out])
      go_wp2
      go_ret
      exact err_post HZ2.out HE.out (by decide)
    have HE := Lib.hid (show (0 : Int) = errO O ⟨xt, xk, xa, xp⟩ by simp [errO, HY.out, HMO.out, a1, a5, k1, k2, K3.out])
    have HZ4 := Lib.hid (HZ2.out.hurt false (by omega) (by omega))
    go_wp2
    refine wp_region_rgi 0 (fun m W => (m ≠ 0 → OffAt lo w ob bm ba O w.heap.size #[.int .i64 xt, .int .i64 xk, .string xa, .string xp] W1.heap.size #[.string yt, .bool false, .int .i64 yd] W) ∧ (m = 0 → OffAt lo w ob bm ba { O with pl := putM O.pl xp ⟨yt, false, yd⟩ } w.heap.size #[.int .i64 xt, .int .i64 xk, .string xa, .string xp] W1.heap.size #[.string yt, .bool false, .int .i64 yd] W)) (fun _ _ _ => True)
      (fun i u W => match i with
          | 0 => u = .pointer (some ⟨ob, 0, none⟩)
          | 1 => u = .pointer (some ⟨ob, 0, none⟩)
          | 2 => u = .pointer (some ⟨ob, 4, none⟩)
          | 3 => u = .map (some bm)
          | 4 => u = .pointer (some ⟨w.heap.size, 3, none⟩)
          | 5 => u = .string xp
          | 6 => u = Whr.v ⟨yt, false, yd⟩
          | 7 => True
          | _ => True)
      (fun i => match i with | 7 => 1 | _ => 0) (by kernel_rfl) (by kernel_rfl) (by kernel_rfl) ?start13false ?stable13false ?step13false ?fin13false
    case start13false => exact ⟨fun _ => OffAt.drewN HZ4.out 1, fun h => absurd h (by decide)⟩
    case stable13false =>
      intro i k u W W' hne h hG
      exact h
    case step13false =>
      refine ⟨?_, ?_, ?_, ?_, ?_, ?_, ?_, ?_, trivial⟩
      · exact step_run rfl rfl rfl fun a W m hp hI => ⟨_, _, ex_move rfl (show a.tmps.getD 0 undef = .pointer (some ⟨ob, 0, none⟩) from hp.old 0 (by kernel_rfl)), rfl, trivial, hI⟩
      · exact step_run rfl rfl rfl fun a W m hp hI => ⟨_, _, ex_nil rfl (show a.tmps.getD 53 undef = .pointer (some ⟨ob, 0, none⟩) from hp.pre 0 (by decide) _ rfl), rfl, trivial, hI⟩
      · exact step_run rfl rfl rfl fun a W m hp hI => ⟨_, _, ex_field (off := 4) rfl (show a.tmps.getD 54 undef = .pointer (some ⟨ob, 0, none⟩) from hp.pre 1 (by decide) _ rfl) (fun w => by simp [Instr.fieldAt, go_sem]), congrArg (fun n => Value.pointer (some ⟨ob, n, none⟩)) (show 0 + 4 = 4 from rfl), trivial, hI⟩
      · exact step_run rfl rfl rfl fun a W m hp hI => ⟨_, _, ex_load rfl (show a.tmps.getD 55 undef = .pointer (some ⟨ob, 4, none⟩) from hp.pre 2 (by decide) _ rfl) (fun w => by simp [isAgg, go_sem]) ((row_cells (hI.1 (phase1 hp.low (by kernel_rfl))).row).1 4), rfl, trivial, hI⟩
      · exact step_run rfl rfl rfl fun a W m hp hI => ⟨_, _, ex_field (off := 3) rfl (show a.tmps.getD 3 undef = .pointer (some ⟨w.heap.size, 0, none⟩) from hp.old 3 (by kernel_rfl)) (fun w => by simp [Instr.fieldAt, go_sem]), congrArg (fun n => Value.pointer (some ⟨w.heap.size, n, none⟩)) (show 0 + 3 = 3 from rfl), trivial, hI⟩
      · exact step_run rfl rfl rfl fun a W m hp hI => ⟨_, _, ex_load rfl (show a.tmps.getD 57 undef = .pointer (some ⟨w.heap.size, 3, none⟩) from hp.pre 4 (by decide) _ rfl) (fun w => by simp [isAgg, go_sem]) ((row_cells (hI.1 (phase1 hp.low (by kernel_rfl))).x).1 3), rfl, trivial, hI⟩
      · refine step_run rfl rfl rfl fun a W m hp hI => ?_
        have h1 : a.tmps.getD 5 undef = .pointer (some ⟨W1.heap.size, 0, none⟩) := hp.old 5 (by kernel_rfl)
        exact ⟨_, _, ex_whr rfl h1 (hI.1 (phase1 hp.low (by kernel_rfl))).y, rfl, trivial, hI⟩
      · refine step_skip rfl rfl rfl fun a W m hp hI => ?_
        have hm : m = 0 := phase (hp.low) (hp.high) (by kernel_rfl) (by kernel_rfl) rfl
        subst hm
        have h1 : a.tmps.getD 56 undef = .map (some bm) := hp.pre 3 (by decide) _ rfl
        have h2 : a.tmps.getD 58 undef = .string xp := hp.pre 5 (by decide) _ rfl
        have h3 : a.tmps.getD 59 undef = Whr.v ⟨yt, false, yd⟩ := hp.pre 6 (by decide) _ rfl
        obtain ⟨W', hrun, hoff, ht, him⟩ := (hI.1 (by decide)).put HX.out.player ⟨yt, false, yd⟩
        exact ⟨W', ex_update rfl h1 h2 h3 hrun, trivial, trivial, fun h => absurd rfl h, fun _ => hoff⟩
    case fin13false =>
      intro vs W hl hI hall
      match vs, hl with
      | [v0, v1, v2, v3, v4, v5, v6, v7], _ =>
        simp only [putAll, Act.put, List.setIfInBounds_toArray, List.set_cons_succ, List.set_cons_zero]
        have HI := Lib.hid (hI.2 rfl)
        clear hI hall
        go_wp2
        go_ret
        exact ok_post HI.out HE.out (by unfold followO; rw [if_pos HE.out.symm, if_neg k1, if_neg k2]; dsimp only; rw [HY.out]; simp [K3.out])
end Go.Proofs.YtfmffobdkfgekaaGreat
/- The reference follows moves up to a moment: officeAt; what it says of players and teams then. -/
set_option linter.unusedVariables false
set_option linter.unusedSimpArgs false
namespace Go.Proofs.YtfmffobdkfgekaaGreat
open Go.RowKit Go.Maps

theorem put_len {κ α : Type} [DecidableEq κ] (M : List (κ × α)) (x : κ) (a : α) : (putM M x a).length ≤ M.length + 1 := by
  unfold putM
  split <;> simp
theorem OInv.mono {b : Bd} {n m : Nat} {O : Office} (h : OInv b n O) (hm : n ≤ m) : OInv b m O := ⟨h.b, Nat.le_trans h.len hm, h.dr, fun t => Nat.le_trans (h.al t) hm, h.am⟩
theorem oinv0 (b : Bd) : OInv b 0 (office0 b) := ⟨rfl, Nat.le_refl _, fun x => by
  show small (-1)
  exact ⟨by decide, by decide⟩, fun t => Nat.le_refl _, fun t x hx => by cases hx⟩
theorem oinv_step {b : Bd} {n : Nat} {O : Office} (h : OInv b n O) (x : Mv) (hx : x.ok) : OInv b (n + 1) (followO O x) := by
  have hlen : ∀ a, (putM O.pl x.player a).length ≤ n + 1 := fun a => Nat.le_trans (put_len _ _ _) (Nat.succ_le_succ h.len)
  have hdr : ∀ (f : ByteArray → List Int) (a : Whr), small a.dropped → ∀ y, small (ofO { O with adds := f, pl := putM O.pl x.player a } y).dropped := fun f a ha y => by
    rw [ofO_put]
    split
    · exact ha
    · exact h.dr y
  have hal : ∀ t, (O.adds t).length ≤ n + 1 := fun t => Nat.le_trans (h.al t) (Nat.le_succ n)
  unfold followO
  split
  · split
    · refine ⟨h.b, hlen _, hdr _ _ (h.dr _), fun t => ?_, fun t y hy => ?_⟩
      · show (upd O.adds x.team _ t).length ≤ _
        rw [upd_at]
        split
        · rw [List.length_append]
          exact Nat.succ_le_succ (h.al _)
        · exact hal t
      · have hy : y ∈ upd O.adds x.team (O.adds x.team ++ [x.time]) t := hy
        rw [upd_at] at hy
        split at hy
        · rcases List.mem_append.1 hy with hy | hy
          · exact h.am _ y hy
          · simp at hy; subst hy; exact hx.time
        · exact h.am t y hy
    · split
      · exact ⟨h.b, hlen _, hdr O.adds _ hx.time, hal, h.am⟩
      · exact ⟨h.b, hlen _, hdr O.adds _ (h.dr _), hal, h.am⟩
  · exact h.mono (Nat.le_succ n)
theorem OfficeIn.lower {lo lo' : Nat} {w : World} {ob bm ba : Nat} {O : Office} (h : OfficeIn lo w ob bm ba O) (hl : lo' ≤ lo) : OfficeIn lo' w ob bm ba O := by
  obtain ⟨h1, h2, h3, h4, A, a1, a2⟩ := h
  exact ⟨by omega, h2, h3, h4, A, a1, fun t => World.ownsRow.mono (a2.own t) hl, a2.apart⟩
set_option maxHeartbeats 800000 in
set_option maxRecDepth 20000 in
theorem officeAt_any {lo : Nat} {w : World} {v : Value} {n : Nat} {l : List Mv} (b : Bd) (u : Int) (h : Sl lo w v 4 n (l.flatMap Mv.c)) (hl : l.length = n) (hn : n ≤ 800) (hok : ∀ x ∈ l, x.ok) (hb : b.ok) :
    Calls Tryz.prog 74 #[b.v, v, .int .i64 u] w fun e w' => ∃ ob bm ba, e = .returned (.pointer (some ⟨ob, 0, none⟩)) ∧ OfficeIn w.heap.size w' ob bm ba (officeL b l u) ∧ OInv b n (officeL b l u) ∧ Below w.heap.size w w' := by
  obtain ⟨A, c, rfl, hn2⟩ := h.shape
  have hA := (Below.refl w.heap.size w).alloc (Nat.le_refl _) (.cells #[.int .i64 b.most, .int .i64 b.hurt, .int .i64 b.adds, .int .i64 b.hold] 27)
  have HN := Lib.hid (newOffice_any b (w.alloc (.cells #[.int .i64 b.most, .int .i64 b.hurt, .int .i64 b.adds, .int .i64 b.hold] 27)))
  have H := Lib.hid h
  have HA := Lib.hid hA
  obtain ⟨m1, m2, m3, m4⟩ := b
  clear h hA
  dsimp only [Bd.v] at *
  go_enter Tryz.func74, Tryz.ntmps74
  go_wp2_with fail
  refine HN.out.mono ?_
  rintro e W ⟨ob, bm, ba, rfl, hof, hbw⟩
  have hB0 := hof.lower (lo' := w.heap.size) (by simp)
  have hL0 := HA.out.trans (hbw.mono (by simp))
  clear hof hbw
  have E := Lib.hid (And.intro hB0 hL0)
  clear hB0 hL0
  go_wp2
  go_loopw [14] (fun i wr => ∃ k : Nat, k ≤ n ∧ i = .int .i64 k ∧ OfficeIn w.heap.size wr ob bm ba ((l.take k).foldl (stepO u) (office0 ⟨m1, m2, m3, m4⟩)) ∧ OInv ⟨m1, m2, m3, m4⟩ k ((l.take k).foldl (stepO u) (office0 ⟨m1, m2, m3, m4⟩)) ∧ Below w.heap.size w wr) (fun i _ => n - (intOf i).toNat)
  case atStart => exact ⟨0, by omega, rfl, E.out.1, oinv0 _, E.out.2⟩
  case round =>
    obtain ⟨k, hk, rfl, hbk, hinv, hbl⟩ := hrel
    by_cases hlt : k < n
    · obtain ⟨x, hx⟩ : ∃ x, l[k]? = some x := ⟨_, List.getElem?_eq_getElem (by omega)⟩
      have hxo := hok x (List.mem_of_getElem? hx)
      obtain ⟨bb, o, rfl, _, hbl2, h1, h2, h3, h4⟩ := mv_cells (H.out.below hbl) hx
      have htk : l.take (k + 1) = l.take k ++ [x] := by rw [List.take_add_one, hx]; rfl
      have hfo : (l.take (k + 1)).foldl (stepO u) (office0 ⟨m1, m2, m3, m4⟩) = stepO u ((l.take k).foldl (stepO u) (office0 ⟨m1, m2, m3, m4⟩)) x := by rw [htk, List.foldl_append]; rfl
      have HFO := Lib.hid hfo
      generalize (l.take k).foldl (stepO u) (office0 ⟨m1, m2, m3, m4⟩) = O at hbk hinv HFO
      have HBK := Lib.hid hbk
      have HINV := Lib.hid hinv
      have HBL := Lib.hid hbl
      clear hbk hinv hbl hfo htk hx
      obtain ⟨xt, xk, xa, xp⟩ := x
      dsimp only at h1 h2 h3 h4
      have ix : (0 : Int) ≤ (k : Int) ∧ (k : Int) < (n : Int) := ⟨by omega, by omega⟩
      by_cases hu : xt ≤ u
      · go_wp2_with fail
        have hkb := HBK.out.below (w' := wr.alloc (.cells #[.int .i64 xt, .int .i64 xk, .string xa, .string xp] 45)) ((Below.refl _ wr).alloc (Nat.le_refl _) _)
        refine (ofollow_any hkb (by rw [alloc_size]; have := HBL.out.size; omega) (HINV.out.mono (by omega)) hb ⟨xt, xk, xa, xp⟩ hxo).mono ?_
        rintro e w2 ⟨rfl, hb2, hl2, _⟩
        have E := Lib.hid (And.intro hb2 ((HBL.out.alloc HBL.out.size _).trans hl2))
        clear hkb hb2 hl2
        go_wp2
        go_roundw
        case rel => exact ⟨k + 1, by omega, by go_num, by
          rw [HFO.out]; unfold stepO; rw [if_pos hu]; exact E.out.1, by
          rw [HFO.out]; unfold stepO; rw [if_pos hu]; exact oinv_step HINV.out _ hxo, E.out.2⟩
        case measure => simp [intOf]; omega
      · go_wp2
        go_roundw
        case rel => exact ⟨k + 1, by omega, by go_num, by
          rw [HFO.out]; unfold stepO; rw [if_neg hu]; exact HBK.out.below ((Below.refl _ wr).alloc (Nat.le_refl _) _), by
          rw [HFO.out]; unfold stepO; rw [if_neg hu]; exact HINV.out.mono (Nat.le_succ k), HBL.out.alloc HBL.out.size _⟩
        case measure => simp [intOf]; omega
    · have hkn : k = n := by omega
      subst hkn
      rw [List.take_of_length_le (by omega)] at hbk hinv
      have HBK := Lib.hid hbk
      have HINV := Lib.hid hinv
      have HBL := Lib.hid hbl
      clear hbk hinv hbl hlt
      go_wp2
      go_ret
      exact ⟨_, _, _, rfl, HBK.out, HINV.out, HBL.out⟩
end Go.Proofs.YtfmffobdkfgekaaGreat
/- roster.Owner. -/
set_option linter.unusedVariables false
set_option linter.unusedSimpArgs false
namespace Go.Proofs.YtfmffobdkfgekaaGreat
open Go.RowKit Go.Maps

set_option maxHeartbeats 400000 in
set_option maxRecDepth 20000 in
theorem owner_any {lo : Nat} {w : World} {v : Value} {n : Nat} {l : List Mv} (b : Bd) (s : ByteArray) (t : Int) (h : Sl lo w v 4 n (l.flatMap Mv.c)) (hl : l.length = n) (hn : n ≤ 800) (hok : ∀ x ∈ l, x.ok) (hb : b.ok) (hs : s.size ≤ 1000) :
    Calls Tryz.prog 26 #[b.v, v, .string s, .int .i64 t] w fun e w' => e = .returned (.tuple #[.string (if askedE b l s t = 0 then (bookAt b l t).owner s else noStr), .int .i64 (askedE b l s t)]) ∧ Below w.heap.size w w' := by
  have hA := (Below.refl w.heap.size w).alloc (Nat.le_refl _) (.cells #[.int .i64 b.most, .int .i64 b.hurt, .int .i64 b.adds, .int .i64 b.hold] 27)
  have hbox := heap_alloc_new w (.cells #[.int .i64 b.most, .int .i64 b.hurt, .int .i64 b.adds, .int .i64 b.hold] 27)
  have HC := Lib.hid (askedFault_any (w := w.alloc (.cells #[.int .i64 b.most, .int .i64 b.hurt, .int .i64 b.adds, .int .i64 b.hold] 27)) b s t (h.below hA) hl (by omega) hok hs)
  have HB := Lib.hid hbox
  have HA := Lib.hid hA
  have H := Lib.hid h
  have HOK := Lib.hid hb
  obtain ⟨m1, m2, m3, m4⟩ := b
  clear h hA hbox
  dsimp only [Bd.v] at *
  go_enter Tryz.func26, Tryz.ntmps26
  go_wp2_with fail
  refine HC.out.mono ?_
  rintro e w2 ⟨rfl, hb2⟩
  have H2 := Lib.hid (HA.out.trans (hb2.mono (by simp)))
  have hbx : w2.heap[w.heap.size]? = some (.cells #[.int .i64 m1, .int .i64 m2, .int .i64 m3, .int .i64 m4] 27 (0, 0)) := (hb2.block _ (by simp)).trans HB.out
  clear hb2
  obtain ⟨hcb, hfb⟩ := row_cells hbx
  generalize hf : askedE ⟨m1, m2, m3, m4⟩ l s t = f
  by_cases h0 : f = 0
  · subst h0
    go_wp2_with fail
    refine (rat_any ⟨m1, m2, m3, m4⟩ t (H.out.below H2.out) hl hn hok HOK.out).mono ?_
    rintro e W ⟨kb, bp, bh, bo, bd, ba, rfl, hbk, hinv, hbl⟩
    have H3 := Lib.hid (H2.out.trans (hbl.mono H2.out.size))
    obtain ⟨O, o1, o2⟩ := hbk.ow
    have l1 := lookStr (x := s) o1 hs
    rw [o2] at l1
    obtain ⟨hc, hf2⟩ := row_cells hbk.row
    clear hbk hinv hbl o1 o2 hf2
    go_wp2
    refine bodyPost_ret (v := .tuple #[.string ((bookAt ⟨m1, m2, m3, m4⟩ l t).owner s), .int .i64 0]) (by simp [results, Tryz.results26, go_sem]) rfl ⟨rfl, H3.out⟩
  · go_wp2
    refine bodyPost_ret (v := .tuple #[.string noStr, .int .i64 f]) (by simp [results, Tryz.results26, go_sem, noStr]) rfl ⟨rfl, H2.out⟩
end Go.Proofs.YtfmffobdkfgekaaGreat
/- The law's kept(): package roster follows moves. -/
set_option linter.unusedVariables false
set_option linter.unusedSimpArgs false
namespace Go.Proofs.YtfmffobdkfgekaaGreat
open Go.RowKit Go.Maps

def keptB : Bd := ⟨1, 0, 1, 0⟩
def keptMv : Mv := ⟨0, 1, ⟨#[116]⟩, ⟨#[112]⟩⟩
theorem kept_fault : askedE keptB [keptMv] ⟨#[112]⟩ 0 = 0 := by decide +kernel
theorem kept_owner : (bookAt keptB [keptMv] 0).owner ⟨#[112]⟩ = ⟨#[116]⟩ := by decide +kernel
set_option maxHeartbeats 400000 in
theorem kept_any (w : World) : Calls Tryz.prog 21 #[] w fun e w' => e = .returned (.bool true) ∧ Below w.heap.size w w' := by
  have HC := Lib.hid (owner_any (lo := w.heap.size) (w := w.alloc (.cells #[.int .i64 0, .int .i64 1, .string ⟨#[116]⟩, .string ⟨#[112]⟩] 45)) (v := .slice (some ⟨w.heap.size, 0, none⟩) 1 1) (n := 1) (l := [keptMv]) keptB ⟨#[112]⟩ 0
    (Sl.lit rfl (Nat.le_refl _) rfl (by simp [keptMv, Mv.c]) (by omega)) rfl (by omega) (by
      intro x hx
      simp at hx; subst hx
      exact ⟨⟨by decide, by decide⟩, ⟨by decide, by decide⟩, by decide, by decide⟩) ⟨⟨by decide, by decide⟩, ⟨by decide, by decide⟩, ⟨by decide, by decide⟩, ⟨by decide, by decide⟩⟩ (by decide))
  go_enter Tryz.func21, Tryz.ntmps21
  go_wp2_with fail
  refine HC.out.mono ?_
  rintro e w2 ⟨rfl, hb⟩
  rw [kept_fault, if_pos rfl, kept_owner]
  have HB := Lib.hid (((Below.refl w.heap.size w).alloc (Nat.le_refl _) _).trans (hb.mono (by simp)))
  clear hb
  go_wp2
  go_ret
  exact ⟨rfl, HB.out⟩
end Go.Proofs.YtfmffobdkfgekaaGreat
/- '==' of structs, field by field. -/
set_option linter.unusedVariables false
set_option linter.unusedSimpArgs false
namespace Go.Proofs.YtfmffobdkfgekaaGreat
open Go.RowKit
section
variable {P : Program} {d : Nat} {xs ys : Array Value} {f : Field} {fs : List Field} {a b : Value} {r s : Bool} {w : World}
theorem eqf_last (hn : (f.name == "_") = false) (ha : (part f.type xs f.offset).run P w = .ok a w) (hb : (part f.type ys f.offset).run P w = .ok b w) (he : (Op.equalIn d f.type a b).run P w = .ok r w) : (Op.eqFields d xs ys [f]).run P w = .ok r w := by
  have hn' : f.name ≠ "_" := by simpa using hn
  simp only [Op.eqFields, if_pos hn', Sem.run_bind, ha, hb, he, Result.andThen_ok]
  cases r <;> simp
theorem eqf_cons (hn : (f.name == "_") = false) (ha : (part f.type xs f.offset).run P w = .ok a w) (hb : (part f.type ys f.offset).run P w = .ok b w) (he : (Op.equalIn d f.type a b).run P w = .ok r w) (hr : (Op.eqFields d xs ys fs).run P w = .ok s w) : (Op.eqFields d xs ys (f :: fs)).run P w = .ok (r && s) w := by
  have hn' : f.name ≠ "_" := by simpa using hn
  rw [Op.eqFields]
  simp only [if_pos hn', Sem.run_bind, ha, hb, he, Result.andThen_ok]
  cases r
  · simp
  · simpa using hr
theorem eqs_of {t : TypeId} {fs : Array Field} (hu : P.underlying t = some (.struct fs)) (hp : P.stoodInHeld t = false) (h : (Op.eqFields d xs ys fs.toList).run P w = .ok r w) : (Op.equalIn (d + 1) t (.agg xs) (.agg ys)).run P w = .ok r w := by
  have hf : P.fieldsOf t = fs := by simp [Program.fieldsOf, hu]
  rw [run_equalIn_struct (P := P) w d t xs ys (by rw [hf]; exact hu) hp, hf]
  exact h
end
end Go.Proofs.YtfmffobdkfgekaaGreat
/- slices.Compact of moves: of runs of equal ones the first one stays. -/
set_option linter.unusedVariables false
set_option linter.unusedSimpArgs false
namespace Go.Proofs.YtfmffobdkfgekaaGreat
open Go.RowKit

theorem mv_at {w : World} {base g cap n : Nat} {l : List Mv} (h : w.ownsRow base 45 4 (.slice (some ⟨g, 0, none⟩) n cap) n (l.flatMap Mv.c)) {k : Nat} {x : Mv} (hx : l[k]? = some x) :
    w.cell? ⟨g, k * 4, none⟩ = some (.int .i64 x.time) ∧ w.cell? ⟨g, k * 4 + 1, none⟩ = some (.int .i64 x.kind) ∧ w.cell? ⟨g, k * 4 + 2, none⟩ = some (.string x.team) ∧ w.cell? ⟨g, k * 4 + 3, none⟩ = some (.string x.player) := by
  have key : ∀ j u, x.c[j]? = some u → w.cell? ⟨g, k * 4 + j, none⟩ = some u := fun j u hu => by
    have hj : j < 4 := by have := (List.getElem?_eq_some_iff.1 hu).1; simpa [Mv.c] using this
    have := h.cells (g := g) rfl (k * 4 + j) u ((flat_at Mv.c_len l k x j hx hj).trans hu)
    rw [add_off] at this
    simpa using this
  exact ⟨key 0 _ rfl, key 1 _ rfl, key 2 _ rfl, key 3 _ rfl⟩

/-- Equality of moves, as Go's. -/
def mvEq (x y : Mv) : Bool := x.time == y.time && (x.kind == y.kind && (x.team.toList == y.team.toList && x.player.toList == y.player.toList))
theorem eqMv_in (d : Nat) (w : World) (x y : Mv) : (Op.equalIn (d + 2) 45 (.agg #[.int .i64 x.time, .int .i64 x.kind, .string x.team, .string x.player]) (.agg #[.int .i64 y.time, .int .i64 y.kind, .string y.team, .string y.player])).run Tryz.prog w = .ok (mvEq x y) w := by
  refine eqs_of Tryz.underlying45 (by kernel_rfl) ?_
  refine eqf_cons (by rfl) (by go_simp; rfl) (by go_simp; rfl) (by go_simp) ?_
  refine eqf_cons (by rfl) (by go_simp; rfl) (by go_simp; rfl) (by go_simp) ?_
  refine eqf_cons (by rfl) (by go_simp; rfl) (by go_simp; rfl) (by go_simp) ?_
  exact eqf_last (by rfl) (by go_simp; rfl) (by go_simp; rfl) (by go_simp)
theorem eqMv (w : World) (x y : Mv) : (binOp .eql 45 (.agg #[.int .i64 x.time, .int .i64 x.kind, .string x.team, .string x.player]) (.agg #[.int .i64 y.time, .int .i64 y.kind, .string y.team, .string y.player])).run Tryz.prog w = .ok (.bool (mvEq x y)) w := by
  simp only [binOp]
  simp [Op.equal, Op.maxDepth, eqMv_in 9998]
theorem neMv (w : World) (x y : Mv) : (binOp .neq 45 (.agg #[.int .i64 x.time, .int .i64 x.kind, .string x.team, .string x.player]) (.agg #[.int .i64 y.time, .int .i64 y.kind, .string y.team, .string y.player])).run Tryz.prog w = .ok (.bool (!mvEq x y)) w := by
  simp only [binOp]
  simp [Op.equal, Op.maxDepth, eqMv_in 9998]

theorem infoMove : (Tryz.prog.info? 45).map (fun i => (i.zero, i.size, i.bytes)) = some (some (.agg #[.int .i64 0, .int .i64 0, .string ⟨#[]⟩, .string ⟨#[]⟩]), 4, 48) := by kernel_rfl
def zcs (n : Nat) : List Value := (Builtin.zeroCells #[.int .i64 0, .int .i64 0, .string ⟨#[]⟩, .string ⟨#[]⟩] n).toList
theorem zcs_len (n : Nat) : (zcs n).length = n * 4 := by simp [zcs, Builtin.zeroCells]
theorem zcs_one (n : Nat) : ∀ v ∈ zcs n, v.oneCell' = true := by
  intro v hv
  simp [zcs, Builtin.zeroCells] at hv
  obtain ⟨i, hi, rfl⟩ := hv
  have := Nat.mod_lt i (show 0 < 4 by omega)
  generalize i % 4 = j at *
  match j, this with
  | 0, _ => rfl
  | 1, _ => rfl
  | 2, _ => rfl
  | 3, _ => rfl
theorem zeroMv (w : World) : (zeroValue 45).run Tryz.prog w = .ok (.agg #[.int .i64 0, .int .i64 0, .string ⟨#[]⟩, .string ⟨#[]⟩]) w := by
  obtain ⟨i, hi, hz, _, _⟩ := info_parts infoMove
  simp [zeroValue, typeInfo, hi, hz]
theorem clear_mv (w : World) (ty : TypeId) (b o n c : Nat) (hn : 0 < n) (hc : ∀ j, j < n * 4 → (w.cell? ⟨b, o + j, none⟩).isSome = true) (hf : ∀ j, j < n * 4 → w.frozen? ⟨b, o + j, none⟩ = false) :
    (Builtin.clear_ #[29] ty #[.slice (some ⟨b, o, none⟩) n c]).run Tryz.prog w = .ok (.tuple #[]) (w.setCells b o (zcs n)) := by
  have hst := run_storeCells_cells (P := Tryz.prog) b o (zcs n) 0 w (by rw [zcs_len]; simpa using hc) (by rw [zcs_len]; simpa using hf) (zcs_one n)
  simp only [Nat.add_zero] at hst
  obtain ⟨m, rfl⟩ : ∃ m, n = m + 1 := ⟨n - 1, by omega⟩
  have hz : (Value.agg #[.int .i64 0, .int .i64 0, .string ⟨#[]⟩, .string ⟨#[]⟩]).cells = #[.int .i64 0, .int .i64 0, .string ⟨#[]⟩, .string ⟨#[]⟩] := by rfl
  simp [Builtin.clear_, run_underlying Tryz.underlying29, zeroMv, hz, zcs] at hst ⊢
  simp [hst]

theorem mv_frozen {w : World} {base g cap n : Nat} {vs : List Value} (h : w.ownsRow base 45 4 (.slice (some ⟨g, 0, none⟩) n cap) n vs) : ∀ o, w.frozen? ⟨g, o, none⟩ = false := by
  obtain ⟨h1, h2⟩ := h
  rcases h2 with ⟨h2, _⟩ | ⟨g', cap', cur, h2, hb, hg, hnc, hcm, hcs, ht⟩
  · cases h2
  · cases h2; exact (row_cells hg).2
theorem mv_cap {w : World} {base g cap n : Nat} {vs : List Value} (h : w.ownsRow base 45 4 (.slice (some ⟨g, 0, none⟩) n cap) n vs) : n ≤ cap ∧ cap ≤ 9223372036854775807 := by
  obtain ⟨h1, h2⟩ := h
  rcases h2 with ⟨h2, _⟩ | ⟨g', cap', cur, h2, hb, hg, hnc, hcm, hcs, ht⟩
  · cases h2
  · cases h2; unfold maxLen at hcm; omega
theorem set_ok {l : List Mv} (h : ∀ x ∈ l, x.ok) {y : Mv} (hy : y.ok) (k : Nat) : ∀ x ∈ l.set k y, x.ok := by
  intro x hx
  rcases List.mem_or_eq_of_mem_set hx with hx | rfl
  · exact h x hx
  · exact hy

/-- Of the first k moves those that differ from the one before. -/
def compUp (l : List Mv) : Nat → List Mv
  | 0 => []
  | k + 1 => compUp l k ++ (match l[k]? with
    | none => []
    | some x => match k with
      | 0 => [x]
      | j + 1 => match l[j]? with
        | none => [x]
        | some y => if mvEq x y then [] else [x])
def compM (l : List Mv) : List Mv := compUp l l.length
theorem compUp_len (l : List Mv) : ∀ k, (compUp l k).length ≤ k
  | 0 => Nat.le_refl _
  | k + 1 => by
    have := compUp_len l k
    have h1 : ∀ m : List Mv, m.length ≤ 1 → (compUp l k ++ m).length ≤ k + 1 := fun m hm => by rw [List.length_append]; omega
    unfold compUp
    refine h1 _ ?_
    cases l[k]? with
    | none => simp
    | some x =>
      cases k with
      | zero => simp
      | succ j =>
        cases hj : l[j]? with
        | none => simp [hj]
        | some y => simp only [hj]; split <;> simp
theorem compUp_step {l : List Mv} {j : Nat} {x y : Mv} (hx : l[j + 1]? = some x) (hy : l[j]? = some y) : compUp l (j + 1 + 1) = compUp l (j + 1) ++ (if mvEq x y then [] else [x]) := by
  rw [show compUp l (j + 1 + 1) = compUp l (j + 1) ++ (match l[j + 1]? with
    | none => []
    | some x => match l[j]? with
        | none => [x]
        | some y => if mvEq x y then [] else [x]) from rfl, hx]
  dsimp only
  rw [hy]
theorem compUp_one {l : List Mv} {x : Mv} (hx : l[0]? = some x) : compUp l 1 = [x] := by
  rw [show compUp l 1 = [] ++ (match l[0]? with
    | none => []
    | some x => [x]) from rfl, hx]
  rfl
theorem take_set {l : List Mv} {k : Nat} (hk : k < l.length) (x : Mv) : (l.set k x).take (k + 1) = l.take k ++ [x] := by
  rw [List.take_add_one]
  simp [hk, List.take_set_of_le]
theorem gr_drewN (g : Nat) (w : World) (q : Nat) : Gr g w (w.drewN q) := ⟨rfl, rfl, rfl, Nat.le_refl _, fun _ _ _ => rfl⟩
set_option maxHeartbeats 800000 in
theorem compact_some {w : World} {base g cap n : Nat} {l : List Mv} (h : w.ownsRow base 45 4 (.slice (some ⟨g, 0, none⟩) n cap) n (l.flatMap Mv.c)) (hn : n ≤ 1000) (hl : l.length = n) (hok : ∀ x ∈ l, x.ok) :
    Calls Tryz.prog 51 #[.slice (some ⟨g, 0, none⟩) n cap] w fun e w' =>
      ∃ (v' : Value) (l' : List Mv), e = .returned v' ∧ l'.length ≤ n ∧ (∀ x ∈ l', x.ok) ∧ w'.ownsRow base 45 4 v' l'.length (l'.flatMap Mv.c) ∧ Gr g w w' ∧ l' = compM l := by
  obtain ⟨hcap1, hcap2⟩ := mv_cap h
  have HLL := Lib.hid hl
  have H := Lib.hid h
  go_enter Tryz.func51, Tryz.ntmps51
  by_cases h2 : n < 2
  · go_wp2
    go_ret
    refine ⟨_, l, rfl, by omega, hok, by rw [hl]; exact H.out, Gr.of_below (Below.refl _ _), ?_⟩
    match l, hl with
    | [], _ => rfl
    | [x], _ => rfl
    | x :: y :: l, hl => simp at hl; omega
  go_wp2
  go_loopw [3] (fun i wr => ∃ k : Nat, 1 ≤ k ∧ k ≤ n ∧ i = .int .i64 k ∧ compUp l k = l.take k ∧ ∃ q, wr = w.drewN q) (fun i _ => n - (intOf i).toNat)
  case atStart =>
    obtain ⟨x, hx⟩ : ∃ x, l[0]? = some x := ⟨_, List.getElem?_eq_getElem (by omega)⟩
    exact ⟨1, by omega, by omega, rfl, by rw [compUp_one hx, List.take_add_one, hx]; rfl, 0, rfl⟩
  case round =>
    obtain ⟨k, hk1, hk, rfl, hcu, q, rfl⟩ := hrel
    have HCU := Lib.hid hcu
    clear hcu
    by_cases hlt : k < n
    · obtain ⟨x, hx⟩ : ∃ x, l[k]? = some x := ⟨_, List.getElem?_eq_getElem (by omega)⟩
      obtain ⟨j, rfl⟩ : ∃ j, k = j + 1 := ⟨k - 1, by omega⟩
      obtain ⟨y, hy⟩ : ∃ y, l[j]? = some y := ⟨_, List.getElem?_eq_getElem (by omega)⟩
      obtain ⟨a1, a2, a3, a4⟩ := mv_at h hx
      obtain ⟨b1, b2, b3, b4⟩ := mv_at h hy
      have ix : (0 : Int) ≤ (j : Int) + 1 ∧ (j : Int) + 1 < (n : Int) := ⟨by omega, by omega⟩
      have iy : (0 : Int) ≤ (j : Int) ∧ (j : Int) < (n : Int) := ⟨by omega, by omega⟩
      have ez : ((j : Int) + 1).toNat = j + 1 := by omega
      have ew : IntKind.i64.wrap (j : Int) = (j : Int) := by rw [IntKind.wrap_i64]; omega
      have hcj : ¬ cap = j + 1 := by omega
      have heq := fun w => eqMv w x y
      have hst := compUp_step hx hy
      have htk : l.take (j + 1 + 1) = l.take (j + 1) ++ [x] := by rw [List.take_add_one, hx]; rfl
      generalize mvEq x y = r at heq hst
      have HST := Lib.hid (And.intro hst htk)
      clear h hst htk
      go_wp2
      go_quiet (fail)
      clear a1 a2 a3 a4 b1 b2 b3 b4 ix iy ew heq
      cases r
      · go_wp2
        go_roundw
        case rel => exact ⟨j + 2, by omega, by omega, by go_num, by rw [HST.out.1, HST.out.2, HCU.out]; rfl, _, rfl⟩
        case measure => simp [intOf]; omega
      · go_wp2
        go_loopw [3, 5] (fun i i2 wr => ∃ (k k2 : Nat) (m : List Mv), i = .int .i64 k ∧ i2 = .int .i64 k2 ∧ j + 1 ≤ k ∧ k + 1 ≤ j + 1 + k2 ∧ j + 1 + k2 ≤ n ∧ m.length = n ∧ (∀ y ∈ m, y.ok) ∧ wr.ownsRow base 45 4 (.slice (some ⟨g, 0, none⟩) n cap) n (m.flatMap Mv.c) ∧ Gr g w wr ∧ m.take k = compUp l (j + 1 + k2) ∧ 1 ≤ k2 ∧ ∀ t, j + k2 ≤ t → m[t]? = l[t]?) (fun _ i _ => n - (j + 1) - (intOf i).toNat)
        case atStart => exact ⟨j + 1, 1, l, rfl, rfl, by omega, by omega, by omega, hl, hok, H.out, ⟨rfl, rfl, rfl, Nat.le_refl _, fun _ _ _ => rfl⟩, by rw [HST.out.1, HCU.out]; simp, Nat.le_refl _, fun _ _ => rfl⟩
        case round =>
          clear hx hy ez hcj
          obtain ⟨k, k2, m, rfl, rfl, hk1, hk2, hk3, hm, hmok, hown, hgr, htake, hk21, hsame⟩ := hrel
          have HTA := Lib.hid (And.intro htake hsame)
          clear htake hsame
          by_cases hlt2 : j + 1 + k2 < n
          · obtain ⟨i, rfl⟩ : ∃ i, k2 = i + 1 := ⟨k2 - 1, by omega⟩
            obtain ⟨x, hx⟩ : ∃ x, m[j + 1 + (i + 1)]? = some x := ⟨_, List.getElem?_eq_getElem (by omega)⟩
            obtain ⟨y, hy⟩ : ∃ y, m[j + 1 + i]? = some y := ⟨_, List.getElem?_eq_getElem (by omega)⟩
            obtain ⟨z, hz⟩ : ∃ z, m[k]? = some z := ⟨_, List.getElem?_eq_getElem (by omega)⟩
            obtain ⟨a1, a2, a3, a4⟩ := mv_at hown hx
            obtain ⟨b1, b2, b3, b4⟩ := mv_at hown hy
            obtain ⟨c1, c2, c3, c4⟩ := mv_at hown hz
            have hfr := mv_frozen hown
            have ea : (j + 1 + (i + 1)) * 4 = (j + 1) * 4 + (i + 1) * 4 := by omega
            have eb : (j + 1 + i) * 4 = (j + 1) * 4 + i * 4 := by omega
            rw [ea] at a1 a2 a3 a4
            rw [eb] at b1 b2 b3 b4
            have ix : (0 : Int) ≤ (i : Int) + 1 ∧ (i : Int) + 1 < ((n - (j + 1) : Nat) : Int) := ⟨by omega, by omega⟩
            have iy : (0 : Int) ≤ (i : Int) ∧ (i : Int) < ((n - (j + 1) : Nat) : Int) := ⟨by omega, by omega⟩
            have iz : (0 : Int) ≤ (k : Int) ∧ (k : Int) < (n : Int) := ⟨by omega, by omega⟩
            have ez : ((i : Int) + 1).toNat = i + 1 := by omega
            have ew : IntKind.i64.wrap (i : Int) = (i : Int) := by rw [IntKind.wrap_i64]; omega
            have heq := fun w => neMv w x y
            have hst2 : compUp l (j + 1 + (i + 1) + 1) = compUp l (j + 1 + (i + 1)) ++ (if mvEq x y then [] else [x]) :=
              compUp_step (j := j + 1 + i) (by rw [← HTA.out.2 _ (by omega)]; exact hx) (by rw [← HTA.out.2 _ (by omega)]; exact hy)
            generalize hr : mvEq x y = r at heq hst2
            have HST2 := Lib.hid hst2
            clear hst2
            have OWN := Lib.hid hown
            clear hown ea eb
            go_wp2
            go_quiet (fail)
            clear b1 b2 b3 b4 ix iy ew heq
            cases r
            · go_wp2
              go_roundw
              case rel => exact ⟨k + 1, i + 2, m.set k x, by go_num, by go_num, by omega, by omega, by omega, by simpa using hm, set_ok hmok (hmok x (List.mem_of_getElem? hx)) k, own_setCells (w := wr.drewN nq) Mv.c_len (by decide) OWN.out (by omega) x, hgr.trans (Gr.trans (gr_drewN _ _ _) (gr_setCells (w := wr.drewN nq) g (k * 4) x.c)), by
                rw [take_set (by omega), show j + 1 + (i + 2) = j + 1 + (i + 1) + 1 by omega, HST2.out, HTA.out.1]; rfl, by omega, fun t ht => by
                rw [List.getElem?_set_ne (by omega)]; exact HTA.out.2 t (by omega)⟩
              case measure => simp [intOf]; omega
            · go_wp2
              go_roundw
              case rel => exact ⟨k, i + 2, m, rfl, by go_num, by omega, by omega, by omega, hm, hmok, OWN.out, hgr.trans (gr_drewN _ _ _), by
                rw [show j + 1 + (i + 2) = j + 1 + (i + 1) + 1 by omega, HST2.out, HTA.out.1]; simp, by omega, fun t ht => HTA.out.2 t (by omega)⟩
              case measure => simp [intOf]; omega
          · have hkn : j + 1 + k2 = n := by omega
            have hck : ¬ cap = k := by omega
            have ik : (0 : Int) ≤ (k : Int) ∧ (k : Int) ≤ (n : Int) := ⟨by omega, by omega⟩
            have ha := hown.cells (g := g) rfl
            have hfr := mv_frozen hown
            have hcl : ∀ ty, (Builtin.clear_ #[29] ty #[.slice (some ⟨g, k * 4, none⟩) (n - k) (cap - k)]).run Tryz.prog wr = .ok (.tuple #[]) (wr.setCells g (k * 4) (zcs (n - k))) := fun ty =>
              clear_mv wr ty g (k * 4) (n - k) (cap - k) (by omega) (fun t ht => by
                have hlt : k * 4 + t < (m.flatMap Mv.c).length := by rw [flat_len Mv.c_len, hm]; omega
                have := ha (k * 4 + t) _ (List.getElem?_eq_getElem hlt)
                rw [add_off, Nat.zero_add] at this
                rw [this]; rfl) (fun t _ => hfr _)
            have OWN := Lib.hid hown
            clear hown ha hfr
            go_wp2
            go_ret
            have hlk : (m.take k).length = k := by rw [List.length_take, hm]; omega
            refine ⟨_, m.take k, rfl, by omega, fun x hx => hmok x (List.mem_of_mem_take hx), ?_, hgr.trans (gr_setCells _ _ _), by rw [HTA.out.1, hkn]; unfold compM; rw [HLL.out]⟩
            rw [hlk, ← flat_take Mv.c_len]
            exact own_prefix OWN.out (by omega) _
    · have hkn : k = n := by omega
      subst hkn
      clear h
      go_wp2
      go_ret
      exact ⟨_, l, rfl, by omega, hok, by rw [hl]; exact H.out, ⟨rfl, rfl, rfl, Nat.le_refl _, fun _ _ _ => rfl⟩, by unfold compM; rw [HLL.out, HCU.out, List.take_of_length_le (by omega)]⟩
theorem compact_none (w : World) : Calls Tryz.prog 51 #[.slice none 0 0] w fun e w' => e = .returned (.slice none 0 0) ∧ w' = w := by
  go_enter Tryz.func51, Tryz.ntmps51
  go_wp2
  go_ret
  exact ⟨rfl, rfl⟩

/-- What Compact leaves of moves: those that differ from the one before, in the same block. -/
theorem compactMv_eq {w : World} {base : Nat} {v : Value} {l : List Mv} (h : w.ownsRow base 45 4 v l.length (l.flatMap Mv.c)) (hn : l.length ≤ 1000) (hok : ∀ x ∈ l, x.ok) :
    Calls Tryz.prog 51 #[v] w fun e w' =>
      ∃ (v' : Value), e = .returned v' ∧ (compM l).length ≤ l.length ∧ (∀ x ∈ compM l, x.ok) ∧ w'.ownsRow base 45 4 v' (compM l).length ((compM l).flatMap Mv.c) ∧ w.grownBy w' v.ownBlock := by
  rcases h.2 with ⟨rfl, h0⟩ | ⟨g, cap, cur, rfl, _⟩
  · have hl : l = [] := List.eq_nil_of_length_eq_zero h0
    subst hl
    refine (compact_none w).mono ?_
    rintro e w' ⟨rfl, rfl⟩
    exact ⟨_, rfl, Nat.le_refl _, by simp [compM, compUp], World.ownsRow_nil _ _ _ _, ⟨rfl, rfl, rfl, Nat.le_refl _, fun _ _ _ => rfl⟩⟩
  · refine (compact_some h hn rfl hok).mono ?_
    rintro e w' ⟨v', l', he, h1, h2, h3, h4, rfl⟩
    exact ⟨v', he, h1, h2, h3, h4⟩
theorem compactMv_any {w : World} {base : Nat} {v : Value} {l : List Mv} (h : w.ownsRow base 45 4 v l.length (l.flatMap Mv.c)) (hn : l.length ≤ 1000) (hok : ∀ x ∈ l, x.ok) :
    Calls Tryz.prog 51 #[v] w fun e w' =>
      ∃ (v' : Value) (l' : List Mv), e = .returned v' ∧ l'.length ≤ l.length ∧ (∀ x ∈ l', x.ok) ∧ w'.ownsRow base 45 4 v' l'.length (l'.flatMap Mv.c) ∧ w.grownBy w' v.ownBlock := by
  refine (compactMv_eq h hn hok).mono ?_
  rintro e w' ⟨v', h1, h2, h3, h4, h5⟩
  exact ⟨v', _, h1, h2, h3, h4, h5⟩
end Go.Proofs.YtfmffobdkfgekaaGreat
