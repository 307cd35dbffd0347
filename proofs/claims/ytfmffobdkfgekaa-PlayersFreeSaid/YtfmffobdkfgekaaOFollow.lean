/- The reference follows a move: (*office).follow. -/
import Derived.Test.YtfmffobdkfgekaaOffice4
set_option linter.unusedVariables false
set_option linter.unusedSimpArgs false
namespace Go.Proofs.Ytfmffobdkfgekaa
open Go.RowKit Go.Maps

/-- What the office holds stays within bounds. -/
structure OInv (b : Bd) (n : Nat) (O : Office) : Prop where
  b : O.b = b
  len : O.pl.length ≤ n
  dr : ∀ x, small (ofO O x).dropped
  al : ∀ t, (O.adds t).length ≤ n
  am : ∀ t, ∀ x ∈ O.adds t, small x
theorem err_post {lo : Nat} {w0 w : World} {ob bm ba : Nat} {O : Office} {xb yb : Nat} {xs ys : Array Value} (h : OffAt lo w0 ob bm ba O xb xs yb ys w) {x : Mv} {n : Int} (he : n = errO O x) (hn : n ≠ 0) :
    Ending.returned (.int .i64 n) = .returned (.int .i64 (errO O x)) ∧ OfficeIn lo w ob bm ba (followO O x) ∧ Below lo w0 w := by
  subst he
  refine ⟨rfl, ?_, h.bel⟩
  unfold followO
  rw [if_neg hn]
  exact h.off
theorem ok_post {lo : Nat} {w0 w : World} {ob bm ba : Nat} {O O' : Office} {xb yb : Nat} {xs ys : Array Value} {x : Mv} (h : OffAt lo w0 ob bm ba O' xb xs yb ys w) (he : 0 = errO O x) (hf : followO O x = O') :
    Ending.returned (.int .i64 0) = .returned (.int .i64 (errO O x)) ∧ OfficeIn lo w ob bm ba (followO O x) ∧ Below lo w0 w := by
  rw [← he, hf]
  exact ⟨rfl, h.off, h.bel⟩
theorem addAt_of {lo : Nat} {w0 w : World} {ob bm ba : Nat} {O : Office} {xb yb : Nat} {xs ys : Array Value} (h : OffAt lo w0 ob bm ba O xb xs yb ys w) : ∃ A, AddAt lo w0 ob bm ba O A xb xs yb ys w ∧ Rows lo w A O.adds := by
  obtain ⟨⟨h1, h2, h3, h4, A, a1, a2⟩, hxx, hyy, hbl, hlw⟩ := h
  exact ⟨A, ⟨h1, h2, h3, h4, a1, hxx, hyy, hbl, hlw, fun t g hg => ((a2.own t).lt g hg).2⟩, a2⟩
theorem OffAt.hurt {lo : Nat} {w0 w : World} {ob bm ba : Nat} {O : Office} {xb yb : Nat} {xs : Array Value} {yt : ByteArray} {yh : Bool} {yd : Int} (h : OffAt lo w0 ob bm ba O xb xs yb #[.string yt, .bool yh, .int .i64 yd] w) (q : Bool) (hl : lo ≤ yb := by omega) :
    OffAt lo w0 ob bm ba O xb xs yb #[.string yt, .bool q, .int .i64 yd] (w.setCell ⟨yb, 1, none⟩ (.bool q)) := by
  have hy := h.y
  have hk : ∀ (i : Nat) (o : Obj), w.heap[i]? = some o → (∀ cs, o ≠ .cells cs 86 (0, 0)) → (w.setCell ⟨yb, 1, none⟩ (.bool q)).heap[i]? = some o := fun i o hi ho =>
    (Below.heap_setCell _ _ _ _ (fun e => by
      have e : i = yb := e
      subst e
      rw [hy] at hi
      exact ho _ (Option.some.inj hi).symm)).trans hi
  obtain ⟨⟨h1, h2, h3, h4, A, a1, a2⟩, hxx, hyy, hbl, hlw⟩ := h
  obtain ⟨es1, c1, e1⟩ := h4.isMap
  obtain ⟨es2, c2, e2⟩ := a1.isMap
  refine ⟨⟨h1, h2, hk _ _ h3 (fun cs hc => by cases hc), h4.keep ((hk _ _ e1 (fun cs hc => by cases hc)).trans e1.symm), A, a1.keep ((hk _ _ e2 (fun cs hc => by cases hc)).trans e2.symm), fun t => ?_, a2.apart⟩, hk _ _ hxx (fun cs hc => by cases hc), ?_, ?_, by simpa [World.setCell] using hlw⟩
  · obtain ⟨g1, g2⟩ := a2.own t
    refine ⟨g1, ?_⟩
    rcases g2 with g2 | ⟨g, cap, cur, f1, f2, f3, f4⟩
    · exact .inl g2
    · exact .inr ⟨g, cap, cur, f1, f2, hk _ _ f3 (fun cs hc => by cases hc), f4⟩
  · simp [World.setCell, Array.getElem?_modify, hyy]
  · exact hbl.setCell hl _
set_option maxHeartbeats 2000000 in
set_option maxRecDepth 20000 in
theorem ofollow_any {lo : Nat} {w : World} {ob bm ba : Nat} {O : Office} {b : Bd} (h : OfficeIn lo w ob bm ba O) (hlo : lo ≤ w.heap.size) (hinv : OInv b 900 O) (hok : b.ok) (x : Mv) (hx : x.ok) :
    Calls Try.prog 63 #[.pointer (some ⟨ob, 0, none⟩), .agg x.c.toArray] w fun e w' => e = .returned (.int .i64 (errO O x)) ∧ OfficeIn lo w' ob bm ba (followO O x) ∧ Below lo w w' := by
  obtain ⟨xt, xk, xa, xp⟩ := x
  have hW := (Below.refl w.heap.size w).alloc (Nat.le_refl _) (.cells #[.int .i64 xt, .int .i64 xk, .string xa, .string xp] 61)
  have hxb := heap_alloc_new w (.cells #[.int .i64 xt, .int .i64 xk, .string xa, .string xp] 61)
  have HOF := Lib.hid (of_any (h.below hW) xp hx.player)
  obtain ⟨hcx, hfx⟩ := row_cells hxb
  have HIN := Lib.hid h
  have HX := Lib.hid hx
  have HV := Lib.hid hinv
  have hbo : O.b.ok := by rw [hinv.b]; exact hok
  have HOK := Lib.hid hbo
  have HXB := Lib.hid hxb
  have HWB := Lib.hid hW
  have hlen : O.pl.length ≤ 1000 := by have := hinv.len; omega
  have hey : ∃ yt yh yd, ofO O xp = ⟨yt, yh, yd⟩ := ⟨_, _, _, rfl⟩
  obtain ⟨yt, yh, yd, hyy⟩ := hey
  have HY := Lib.hid hyy
  clear h hx hinv hok hxb hW hfx hyy hbo
  dsimp only [Mv.c]
  go_enter Try.func63, Try.ntmps63
  go_wp2_with fail
  refine HOF.out.mono ?_
  rintro e W1 ⟨rfl, hb1⟩
  rw [HY.out]
  dsimp only [Whr.v]
  have hxb1 : W1.heap[w.heap.size]? = some (.cells #[.int .i64 xt, .int .i64 xk, .string xa, .string xp] 61 (0, 0)) := (hb1.block _ (by simp)).trans HXB.out
  have hsz1 : w.heap.size < W1.heap.size := (Array.getElem?_eq_some_iff.1 hxb1).1
  have hOA : OffAt lo w ob bm ba O w.heap.size #[.int .i64 xt, .int .i64 xk, .string xa, .string xp] W1.heap.size #[.string yt, .bool yh, .int .i64 yd] (W1.alloc (.cells #[.string yt, .bool yh, .int .i64 yd] 86)) := by
    have k1 := (HIN.out.below HWB.out).below hb1
    have k2 : Below W1.heap.size W1 (W1.alloc (.cells #[.string yt, .bool yh, .int .i64 yd] 86)) := (Below.refl _ _).alloc (Nat.le_refl _) _
    have k3 : Below lo w W1 := (HWB.out.mono hlo).trans (hb1.mono (by simp; omega))
    exact ⟨k1.below k2, (k2.block _ hsz1).trans hxb1, heap_alloc_new _ _, k3.trans (k2.mono k3.size |>.mono (by omega)), by have := k3.size; simp; omega⟩
  clear hb1 hcx
  have HZ := Lib.hid hOA
  obtain ⟨hcx, hfx⟩ := row_cells hOA.x
  obtain ⟨hcy, hfy⟩ := row_cells hOA.y
  obtain ⟨hc, hf⟩ := row_cells hOA.off.row
  clear hOA hxb1 hf
  have et : (eqS yt xa) = (yt.toList == xa.toList) := rfl
  have ez : (eqS yt noStr) = yt.toList.isEmpty := by unfold eqS noStr; rw [toList_data, toList_data]; cases yt.data.toList <;> rfl
  by_cases k1 : xk = 1
  · subst k1
    cases a1 : eqS yt xa with
    | true =>
      have b1 := et.symm.trans a1
      have HE := Lib.hid (show (6 : Int) = errO O ⟨xt, 1, xa, xp⟩ by simp [errO, HY.out, a1])
      go_wp2
      go_ret
      exact err_post HZ.out HE.out (by decide)
    | false =>
    have b1 := et.symm.trans a1
    cases a2 : eqS yt noStr with
    | false =>
      have b2 := ez.symm.trans a2
      have HE := Lib.hid (show (13 : Int) = errO O ⟨xt, 1, xa, xp⟩ by simp [errO, HY.out, a1, a2])
      go_wp2
      go_ret
      exact err_post HZ.out HE.out (by decide)
    | true =>
    have b2 := ez.symm.trans a2
    go_wp2_with fail
    refine (heldO_any HZ.out.off HOK.out xp xt HX.out.player HX.out.time (HV.out.dr xp)).mono ?_
    rintro e V ⟨rfl, hbv⟩
    have hZ2 := HZ.out.below hbv
    clear hcx hfx hcy hfy hc hbv
    have HZ2 := Lib.hid hZ2
    obtain ⟨hcx, hfx⟩ := row_cells hZ2.x
    obtain ⟨hcy, hfy⟩ := row_cells hZ2.y
    obtain ⟨hc, hf⟩ := row_cells hZ2.off.row
    obtain ⟨ka, hka⟩ : ∃ ka, addedO O xa xt = ka := ⟨_, rfl⟩
    have HAD := Lib.hid (show ∀ q, Calls Try.prog 49 #[.pointer (some ⟨ob, 0, none⟩), .string xa, .int .i64 xt] (V.drewN q) fun e w' => e = .returned (.int .i64 (ka : Nat)) ∧ w' = V.drewN q from fun q => by
      rw [← hka]
      exact (added_any (hZ2.drewN q).off xa xt HX.out.team HX.out.time (by have := HV.out.al xa; omega) (HV.out.am xa)).mono fun _ _ ⟨h1, h2⟩ => ⟨h1, h2.symm⟩)
    have HKA := Lib.hid hka
    clear hZ2 hfx hf hfy
    cases a3 : heldO O xp xt with
    | true =>
      have HE := Lib.hid (show (11 : Int) = errO O ⟨xt, 1, xa, xp⟩ by simp [errO, HY.out, a1, a2, a3])
      clear hka
      go_wp2
      go_ret
      exact err_post HZ2.out HE.out (by decide)
    | false =>
    clear hka
    go_wp2
    go_quiet ((go_at_call 49; exact Calls.quiet_of_same (HAD.out _)))
    by_cases a4 : O.b.adds ≤ (ka : Int)
    · have HE := Lib.hid (show (16 : Int) = errO O ⟨xt, 1, xa, xp⟩ by simp [errO, HY.out, HKA.out, a1, a2, a3, a4])
      go_wp2
      go_ret
      exact err_post (HZ2.out.drewN _) HE.out (by decide)
    obtain ⟨V2, hV2⟩ : ∃ V2, V2 = V.drewN nq := ⟨_, rfl⟩
    rw [← hV2]
    have HZ3 := Lib.hid (show OffAt lo w ob bm ba O w.heap.size #[.int .i64 xt, .int .i64 1, .string xa, .string xp] W1.heap.size #[.string yt, .bool yh, .int .i64 yd] V2 by rw [hV2]; exact HZ2.out.drewN nq)
    clear hcx hcy hc hV2
    obtain ⟨mo, hmo⟩ : ∃ mo, manyO O xa false = mo := ⟨_, rfl⟩
    have HMO := Lib.hid hmo
    clear hmo
    go_wp2
    refine wp_region_rgs 0 (fun _ W => OffAt lo w ob bm ba O w.heap.size #[.int .i64 xt, .int .i64 1, .string xa, .string xp] W1.heap.size #[.string yt, .bool yh, .int .i64 yd] W) GB
      (fun i u W => match i with
          | 0 => u = .pointer (some ⟨ob, 0, none⟩)
          | 1 => u = .pointer (some ⟨w.heap.size, 2, none⟩)
          | 2 => u = .string xa
          | 3 => u = .int .i64 mo
          | 4 => u = .pointer (some ⟨ob, 0, none⟩)
          | 5 => u = .pointer (some ⟨ob, 0, none⟩)
          | 6 => u = .pointer (some ⟨ob, 0, none⟩)
          | 7 => u = .pointer (some ⟨ob, 0, none⟩)
          | 8 => u = .int .i64 O.b.most
          | 9 => u = .bool (decide (O.b.most ≤ (mo : Int)))
          | 10 => u = .bool (decide (O.b.most ≤ (mo : Int)))
          | _ => True)
      (fun _ => 0) (by kernel_rfl) (by kernel_rfl) (by kernel_rfl) ?start ?stable ?step ?fin
    case start => exact HZ3.out.drewN 1
    case stable =>
      intro i u W W' h hG
      match i with
      | 0 | 1 | 2 | 3 | 4 | 5 | 6 | 7 | 8 | 9 | 10 | _ + 11 => exact h
    case step =>
      refine ⟨?_, ?_, ?_, ?_, ?_, ?_, ?_, ?_, ?_, ?_, ?_, trivial⟩
      · exact step_run rfl rfl rfl fun a W m hp hI => ⟨_, _, ex_move rfl (show a.tmps.getD 0 undef = .pointer (some ⟨ob, 0, none⟩) from hp.old 0 (by kernel_rfl)), rfl, .refl _ _ rfl, hI⟩
      · exact step_run rfl rfl rfl fun a W m hp hI => ⟨_, _, ex_field (off := 2) rfl (show a.tmps.getD 3 undef = .pointer (some ⟨w.heap.size, 0, none⟩) from hp.old 3 (by kernel_rfl)) (fun w => by simp [Instr.fieldAt, go_sem]), congrArg (fun n => Value.pointer (some ⟨w.heap.size, n, none⟩)) (show 0 + 2 = 2 from rfl), .refl _ _ rfl, hI⟩
      · exact step_run rfl rfl rfl fun a W m hp hI => ⟨_, _, ex_load rfl (show a.tmps.getD 90 undef = .pointer (some ⟨w.heap.size, 2, none⟩) from hp.pre 1 (by decide) _ rfl) (fun w => by simp [isAgg, go_sem]) ((row_cells hI.x).1 2), rfl, .refl _ _ rfl, hI⟩
      · refine step_call (f := 70) (fun a => #[a.tmps.getD 89 undef, a.tmps.getD 91 undef, .bool false]) rfl rfl rfl (fun a w => by simp [go_sem]) fun a W m hp hI => ?_
        have h1 : a.tmps.getD 89 undef = .pointer (some ⟨ob, 0, none⟩) := hp.pre 0 (by decide) _ rfl
        have h2 : a.tmps.getD 91 undef = .string xa := hp.pre 2 (by decide) _ rfl
        rw [h1, h2]
        refine (many_any hI.off xa false hlen).mono ?_
        rintro e W' ⟨rfl, hb⟩
        exact ⟨_, rfl, congrArg (fun n : Nat => Value.int .i64 n) HMO.out, .of_below hb, hI.below hb⟩
      · exact step_run rfl rfl rfl fun a W m hp hI => ⟨_, _, ex_move rfl (show a.tmps.getD 0 undef = .pointer (some ⟨ob, 0, none⟩) from hp.old 0 (by kernel_rfl)), rfl, .refl _ _ rfl, hI⟩
      · exact step_run rfl rfl rfl fun a W m hp hI => ⟨_, _, ex_nil rfl (show a.tmps.getD 93 undef = .pointer (some ⟨ob, 0, none⟩) from hp.pre 4 (by decide) _ rfl), rfl, .refl _ _ rfl, hI⟩
      · exact step_run rfl rfl rfl fun a W m hp hI => ⟨_, _, ex_field (off := 0) rfl (show a.tmps.getD 94 undef = .pointer (some ⟨ob, 0, none⟩) from hp.pre 5 (by decide) _ rfl) (fun w => by simp [Instr.fieldAt, go_sem]), congrArg (fun n => Value.pointer (some ⟨ob, n, none⟩)) (show 0 + 0 = 0 from rfl), .refl _ _ rfl, hI⟩
      · exact step_run rfl rfl rfl fun a W m hp hI => ⟨_, _, ex_field (off := 0) rfl (show a.tmps.getD 95 undef = .pointer (some ⟨ob, 0, none⟩) from hp.pre 6 (by decide) _ rfl) (fun w => by simp [Instr.fieldAt, go_sem]), congrArg (fun n => Value.pointer (some ⟨ob, n, none⟩)) (show 0 + 0 = 0 from rfl), .refl _ _ rfl, hI⟩
      · exact step_run rfl rfl rfl fun a W m hp hI => ⟨_, _, ex_load rfl (show a.tmps.getD 96 undef = .pointer (some ⟨ob, 0, none⟩) from hp.pre 7 (by decide) _ rfl) (fun w => by simp [isAgg, go_sem]) ((row_cells hI.row).1 0), rfl, .refl _ _ rfl, hI⟩
      · refine step_run rfl rfl rfl fun a W m hp hI => ?_
        have h1 : a.tmps.getD 92 undef = .int .i64 (mo : Nat) := hp.pre 3 (by decide) _ rfl
        have h2 : a.tmps.getD 97 undef = .int .i64 O.b.most := hp.pre 8 (by decide) _ rfl
        exact ⟨_, _, ex_bin rfl h1 h2 (by simp [go_sem]) (by simp [go_sem]), rfl, .refl _ _ rfl, hI⟩
      · exact step_run rfl rfl rfl fun a W m hp hI => ⟨_, _, ex_assign rfl (show a.tmps.getD 98 undef = .bool (decide (O.b.most ≤ (mo : Int))) from hp.pre 9 (by decide) _ rfl), rfl, .refl _ _ rfl, hI⟩
    case fin =>
      intro vs W hl hI hall
      match vs, hl with
      | [v0, v1, v2, v3, v4, v5, v6, v7, v8, v9, v10], _ =>
        obtain ⟨_, _, _, _, _, _, _, _, _, _, q10, _⟩ := hall
        have q10 : v10 = .bool (decide (O.b.most ≤ (mo : Int))) := q10
        subst q10
        simp only [putAll, Act.put, List.setIfInBounds_toArray, List.set_cons_succ, List.set_cons_zero]
        have HI := Lib.hid hI
        clear hI
        by_cases a5 : O.b.most ≤ (mo : Int)
        · have HE := Lib.hid (show (12 : Int) = errO O ⟨xt, 1, xa, xp⟩ by simp [errO, HY.out, HKA.out, HMO.out, a1, a2, a3, a4, a5])
          go_wp2
          go_ret
          exact err_post HI.out HE.out (by decide)
        have HE := Lib.hid (show (0 : Int) = errO O ⟨xt, 1, xa, xp⟩ by simp [errO, HY.out, HKA.out, HMO.out, a1, a2, a3, a4, a5])
        go_wp2
        obtain ⟨A, hat, hrows⟩ := addAt_of HI.out
        obtain ⟨v0, hv0⟩ : ∃ v0, (getM A xa).getD (.slice none 0 0) = v0 := ⟨_, rfl⟩
        have HV0 := Lib.hid hv0
        have HAT := Lib.hid hat
        have HRW := Lib.hid hrows
        clear hat hrows hv0
        refine wp_region_rgi 0 (fun m W => (m = 0 → OffAt lo w ob bm ba { O with adds := upd O.adds xa (O.adds xa ++ [xt]) } w.heap.size #[.int .i64 xt, .int .i64 1, .string xa, .string xp] W1.heap.size #[.string yt, .bool yh, .int .i64 yd] W) ∧
            (m ≠ 0 → AddAt lo w ob bm ba O A w.heap.size #[.int .i64 xt, .int .i64 1, .string xa, .string xp] W1.heap.size #[.string yt, .bool yh, .int .i64 yd] W) ∧ (m = 2 → Rows lo W A O.adds))
          (fun i w w' => match i with | 16 => w.grownBy w' v0.ownBlock | 17 => Turn ba w w' ∧ isMap w ba | _ => GB w w')
          (fun i u W => match i with
              | 0 => u = .pointer (some ⟨ob, 0, none⟩)
              | 1 => u = .pointer (some ⟨ob, 0, none⟩)
              | 2 => u = .pointer (some ⟨ob, 5, none⟩)
              | 3 => u = .map (some ba)
              | 4 => u = .pointer (some ⟨w.heap.size, 2, none⟩)
              | 5 => u = .string xa
              | 6 => u = .pointer (some ⟨ob, 0, none⟩)
              | 7 => u = .pointer (some ⟨ob, 0, none⟩)
              | 8 => u = .pointer (some ⟨ob, 5, none⟩)
              | 9 => u = .map (some ba)
              | 10 => u = .pointer (some ⟨w.heap.size, 2, none⟩)
              | 11 => u = .string xa
              | 12 => u = v0
              | 13 => u = .pointer (some ⟨w.heap.size, 0, none⟩)
              | 14 => u = .int .i64 xt
              | 15 => NewInt xt v0 u W
              | 16 => GrownRow lo A O xa xt u W
              | 17 => True
              | _ => True)
          (fun i => match i with | 16 | 17 => 1 | _ => 0) (by kernel_rfl) (by kernel_rfl) (by kernel_rfl) ?start2 ?stable2 ?step2 ?fin2
        case start2 =>
          have hd := below_drewN (Below.refl W.heap.size W) 1
          exact ⟨fun h => absurd h (by decide), fun _ => HAT.out.below hd, fun _ => rows_gb HRW.out (.of_below hd)⟩
        case stable2 =>
          intro i k u W W' hne h hG
          match k with
          | 15 =>
            match i with
            | 16 => obtain ⟨g, h1, h2, h3⟩ := h; exact ⟨g, h1, (hG.block _ (Array.getElem?_eq_some_iff.1 h2).1 (fun e => h3 e.symm)).trans h2, h3⟩
            | 17 => obtain ⟨g, h1, h2, h3⟩ := h; exact ⟨g, h1, (hG.1.block _ (fun e => by obtain ⟨es, cl, q⟩ := hG.2; rw [← e, h2] at q; cases q)).trans h2, h3⟩
            | 0 | 1 | 2 | 3 | 4 | 5 | 6 | 7 | 8 | 9 | 10 | 11 | 12 | 13 | 14 | 15 | _ + 18 => obtain ⟨g, h1, h2, h3⟩ := h; exact ⟨g, h1, (hG.block _ (Array.getElem?_eq_some_iff.1 h2).1).trans h2, h3⟩
          | 16 =>
            match i with
            | 16 => exact absurd rfl hne
            | 17 => exact h.turn hG.2 hG.1
            | 0 | 1 | 2 | 3 | 4 | 5 | 6 | 7 | 8 | 9 | 10 | 11 | 12 | 13 | 14 | 15 | _ + 18 => exact h.gb hG
          | 0 | 1 | 2 | 3 | 4 | 5 | 6 | 7 | 8 | 9 | 10 | 11 | 12 | 13 | 14 | 17 | _ + 18 => exact h
        case step2 =>
          refine ⟨?_, ?_, ?_, ?_, ?_, ?_, ?_, ?_, ?_, ?_, ?_, ?_, ?_, ?_, ?_, ?_, ?_, ?_, trivial⟩
          · exact step_run rfl rfl rfl fun a W m hp hI => ⟨_, _, ex_move rfl (show a.tmps.getD 0 undef = .pointer (some ⟨ob, 0, none⟩) from hp.old 0 (by kernel_rfl)), rfl, GB.refl _ _ rfl, hI⟩
          · exact step_run rfl rfl rfl fun a W m hp hI => ⟨_, _, ex_nil rfl (show a.tmps.getD 99 undef = .pointer (some ⟨ob, 0, none⟩) from hp.pre 0 (by decide) _ rfl), rfl, GB.refl _ _ rfl, hI⟩
          · exact step_run rfl rfl rfl fun a W m hp hI => ⟨_, _, ex_field (off := 5) rfl (show a.tmps.getD 100 undef = .pointer (some ⟨ob, 0, none⟩) from hp.pre 1 (by decide) _ rfl) (fun w => by simp [Instr.fieldAt, go_sem]), congrArg (fun n => Value.pointer (some ⟨ob, n, none⟩)) (show 0 + 5 = 5 from rfl), GB.refl _ _ rfl, hI⟩
          · exact step_run rfl rfl rfl fun a W m hp hI => ⟨_, _, ex_load rfl (show a.tmps.getD 101 undef = .pointer (some ⟨ob, 5, none⟩) from hp.pre 2 (by decide) _ rfl) (fun w => by simp [isAgg, go_sem]) ((row_cells (hI.2.1 (phase1 hp.low (by kernel_rfl))).row).1 5), rfl, GB.refl _ _ rfl, hI⟩
          · exact step_run rfl rfl rfl fun a W m hp hI => ⟨_, _, ex_field (off := 2) rfl (show a.tmps.getD 3 undef = .pointer (some ⟨w.heap.size, 0, none⟩) from hp.old 3 (by kernel_rfl)) (fun w => by simp [Instr.fieldAt, go_sem]), congrArg (fun n => Value.pointer (some ⟨w.heap.size, n, none⟩)) (show 0 + 2 = 2 from rfl), GB.refl _ _ rfl, hI⟩
          · exact step_run rfl rfl rfl fun a W m hp hI => ⟨_, _, ex_load rfl (show a.tmps.getD 103 undef = .pointer (some ⟨w.heap.size, 2, none⟩) from hp.pre 4 (by decide) _ rfl) (fun w => by simp [isAgg, go_sem]) ((row_cells (hI.2.1 (phase1 hp.low (by kernel_rfl))).x).1 2), rfl, GB.refl _ _ rfl, hI⟩
          · exact step_run rfl rfl rfl fun a W m hp hI => ⟨_, _, ex_move rfl (show a.tmps.getD 0 undef = .pointer (some ⟨ob, 0, none⟩) from hp.old 0 (by kernel_rfl)), rfl, GB.refl _ _ rfl, hI⟩
          · exact step_run rfl rfl rfl fun a W m hp hI => ⟨_, _, ex_nil rfl (show a.tmps.getD 105 undef = .pointer (some ⟨ob, 0, none⟩) from hp.pre 6 (by decide) _ rfl), rfl, GB.refl _ _ rfl, hI⟩
          · exact step_run rfl rfl rfl fun a W m hp hI => ⟨_, _, ex_field (off := 5) rfl (show a.tmps.getD 106 undef = .pointer (some ⟨ob, 0, none⟩) from hp.pre 7 (by decide) _ rfl) (fun w => by simp [Instr.fieldAt, go_sem]), congrArg (fun n => Value.pointer (some ⟨ob, n, none⟩)) (show 0 + 5 = 5 from rfl), GB.refl _ _ rfl, hI⟩
          · exact step_run rfl rfl rfl fun a W m hp hI => ⟨_, _, ex_load rfl (show a.tmps.getD 107 undef = .pointer (some ⟨ob, 5, none⟩) from hp.pre 8 (by decide) _ rfl) (fun w => by simp [isAgg, go_sem]) ((row_cells (hI.2.1 (phase1 hp.low (by kernel_rfl))).row).1 5), rfl, GB.refl _ _ rfl, hI⟩
          · exact step_run rfl rfl rfl fun a W m hp hI => ⟨_, _, ex_field (off := 2) rfl (show a.tmps.getD 3 undef = .pointer (some ⟨w.heap.size, 0, none⟩) from hp.old 3 (by kernel_rfl)) (fun w => by simp [Instr.fieldAt, go_sem]), congrArg (fun n => Value.pointer (some ⟨w.heap.size, n, none⟩)) (show 0 + 2 = 2 from rfl), GB.refl _ _ rfl, hI⟩
          · exact step_run rfl rfl rfl fun a W m hp hI => ⟨_, _, ex_load rfl (show a.tmps.getD 109 undef = .pointer (some ⟨w.heap.size, 2, none⟩) from hp.pre 10 (by decide) _ rfl) (fun w => by simp [isAgg, go_sem]) ((row_cells (hI.2.1 (phase1 hp.low (by kernel_rfl))).x).1 2), rfl, GB.refl _ _ rfl, hI⟩
          · refine step_run rfl rfl rfl fun a W m hp hI => ?_
            have h1 : a.tmps.getD 108 undef = .map (some ba) := hp.pre 9 (by decide) _ rfl
            have h2 : a.tmps.getD 110 undef = .string xa := hp.pre 11 (by decide) _ rfl
            exact ⟨_, _, ex_lookup rfl h1 h2 ((lookInts (hI.2.1 (phase1 hp.low (by kernel_rfl))).am HX.out.team)), HV0.out, GB.refl _ _ rfl, hI⟩
          · exact step_run rfl rfl rfl fun a W m hp hI => ⟨_, _, ex_field (off := 0) rfl (show a.tmps.getD 3 undef = .pointer (some ⟨w.heap.size, 0, none⟩) from hp.old 3 (by kernel_rfl)) (fun w => by simp [Instr.fieldAt, go_sem]), congrArg (fun n => Value.pointer (some ⟨w.heap.size, n, none⟩)) (show 0 + 0 = 0 from rfl), GB.refl _ _ rfl, hI⟩
          · exact step_run rfl rfl rfl fun a W m hp hI => ⟨_, _, ex_load rfl (show a.tmps.getD 112 undef = .pointer (some ⟨w.heap.size, 0, none⟩) from hp.pre 13 (by decide) _ rfl) (fun w => by simp [isAgg, go_sem]) ((row_cells (hI.2.1 (phase1 hp.low (by kernel_rfl))).x).1 0), rfl, GB.refl _ _ rfl, hI⟩
          · refine step_run rfl rfl rfl fun a W m hp hI => ?_
            have h1 : a.tmps.getD 113 undef = .int .i64 xt := hp.pre 14 (by decide) _ rfl
            have hm := phase1 hp.low (by kernel_rfl)
            have hgb : GB W (W.alloc (.cells #[.int .i64 xt] 3)) := .of_below ((Below.refl _ _).alloc (Nat.le_refl _) _)
            exact ⟨_, _, ex_slice1 rfl h1 (fun w => by simp [go_sem]), ⟨W.heap.size, rfl, heap_alloc_new _ _, fun e => by have := (hI.2.1 hm).size xa _ (by rw [HV0.out]; exact e); omega⟩, hgb, fun h => absurd h hm, fun _ => (hI.2.1 hm).below ((Below.refl _ _).alloc (Nat.le_refl _) _), fun h => rows_gb (hI.2.2 h) hgb⟩
          · refine step_run rfl rfl rfl fun a W m hp hI => ?_
            have hm : m = 1 := phase (hp.low) (hp.high) (by kernel_rfl) (by kernel_rfl) rfl
            subst hm
            have h1 : a.tmps.getD 111 undef = v0 := hp.pre 12 (by decide) _ rfl
            obtain ⟨g, h2, h3, h4⟩ : NewInt xt v0 (a.tmps.getD 114 undef) W := hp.pre 15 (by decide) _ rfl
            have hAt := hI.2.1 (by decide)
            obtain ⟨v1, W', hrun, hq, hgr, hat⟩ := grow_row hAt (hI.2.2 rfl) HV0.out h3 (HV.out.al xa)
            exact ⟨_, _, ex_append rfl h1 h2 (hrun _), hq, hgr, fun h => absurd h (by decide), fun _ => hat, fun h => absurd h (by decide)⟩
          · refine step_skip rfl rfl rfl fun a W m hp hI => ?_
            have hm : m = 0 := phase (hp.low) (hp.high) (by kernel_rfl) (by kernel_rfl) rfl
            subst hm
            have h1 : a.tmps.getD 102 undef = .map (some ba) := hp.pre 3 (by decide) _ rfl
            have h2 : a.tmps.getD 104 undef = .string xa := hp.pre 5 (by decide) _ rfl
            have h3 : GrownRow lo A O xa xt (a.tmps.getD 115 undef) W := hp.pre 16 (by decide) _ rfl
            obtain ⟨W', hrun, hoff, ht, him⟩ := lay_row (hI.2.1 (by decide)) h3 HX.out.team
            exact ⟨W', ex_update rfl h1 h2 rfl hrun, trivial, ⟨ht, him⟩, fun _ => hoff, fun h => absurd rfl h, fun h => absurd h (by decide)⟩
        case fin2 =>
          intro vs W2 hl2 hI2 hall2
          match vs, hl2 with
          | [v0, v1, v2, v3, v4, v5, v6, v7, v8, v9, v10, v11, v12, v13, v14, v15, v16, v17], _ =>
            simp only [putAll, Act.put, List.setIfInBounds_toArray, List.set_cons_succ, List.set_cons_zero]
            have HI2 := Lib.hid (hI2.1 rfl)
            clear hI2 hall2
            go_wp2
            refine wp_region_rgi 0 (fun m W => (m ≠ 0 → OffAt lo w ob bm ba { O with adds := upd O.adds xa (O.adds xa ++ [xt]) } w.heap.size #[.int .i64 xt, .int .i64 1, .string xa, .string xp] W1.heap.size #[.string yt, .bool yh, .int .i64 yd] W) ∧ (m = 0 → OffAt lo w ob bm ba { O with adds := upd O.adds xa (O.adds xa ++ [xt]), pl := putM O.pl xp ⟨xa, false, yd⟩ } w.heap.size #[.int .i64 xt, .int .i64 1, .string xa, .string xp] W1.heap.size #[.string yt, .bool yh, .int .i64 yd] W)) (fun _ _ _ => True)
              (fun i u W => match i with
                  | 0 => u = .pointer (some ⟨ob, 0, none⟩)
                  | 1 => u = .pointer (some ⟨ob, 0, none⟩)
                  | 2 => u = .pointer (some ⟨ob, 4, none⟩)
                  | 3 => u = .map (some bm)
                  | 4 => u = .pointer (some ⟨w.heap.size, 3, none⟩)
                  | 5 => u = .string xp
                  | 6 => u = .pointer (some ⟨w.heap.size, 2, none⟩)
                  | 7 => u = .string xa
                  | 8 => u = .pointer (some ⟨W1.heap.size, 2, none⟩)
                  | 9 => u = .int .i64 yd
                  | 10 => u = Whr.v ⟨xa, false, yd⟩
                  | 11 => True
                  | _ => True)
              (fun i => match i with | 11 => 1 | _ => 0) (by kernel_rfl) (by kernel_rfl) (by kernel_rfl) ?start26 ?stable26 ?step26 ?fin26
            case start26 => exact ⟨fun _ => OffAt.drewN HI2.out 1, fun h => absurd h (by decide)⟩
            case stable26 =>
              intro i k u W W' hne h hG
              exact h
            case step26 =>
              refine ⟨?_, ?_, ?_, ?_, ?_, ?_, ?_, ?_, ?_, ?_, ?_, ?_, trivial⟩
              · exact step_run rfl rfl rfl fun a W m hp hI => ⟨_, _, ex_move rfl (show a.tmps.getD 0 undef = .pointer (some ⟨ob, 0, none⟩) from hp.old 0 (by kernel_rfl)), rfl, trivial, hI⟩
              · exact step_run rfl rfl rfl fun a W m hp hI => ⟨_, _, ex_nil rfl (show a.tmps.getD 116 undef = .pointer (some ⟨ob, 0, none⟩) from hp.pre 0 (by decide) _ rfl), rfl, trivial, hI⟩
              · exact step_run rfl rfl rfl fun a W m hp hI => ⟨_, _, ex_field (off := 4) rfl (show a.tmps.getD 117 undef = .pointer (some ⟨ob, 0, none⟩) from hp.pre 1 (by decide) _ rfl) (fun w => by simp [Instr.fieldAt, go_sem]), congrArg (fun n => Value.pointer (some ⟨ob, n, none⟩)) (show 0 + 4 = 4 from rfl), trivial, hI⟩
              · exact step_run rfl rfl rfl fun a W m hp hI => ⟨_, _, ex_load rfl (show a.tmps.getD 118 undef = .pointer (some ⟨ob, 4, none⟩) from hp.pre 2 (by decide) _ rfl) (fun w => by simp [isAgg, go_sem]) ((row_cells (hI.1 (phase1 hp.low (by kernel_rfl))).row).1 4), rfl, trivial, hI⟩
              · exact step_run rfl rfl rfl fun a W m hp hI => ⟨_, _, ex_field (off := 3) rfl (show a.tmps.getD 3 undef = .pointer (some ⟨w.heap.size, 0, none⟩) from hp.old 3 (by kernel_rfl)) (fun w => by simp [Instr.fieldAt, go_sem]), congrArg (fun n => Value.pointer (some ⟨w.heap.size, n, none⟩)) (show 0 + 3 = 3 from rfl), trivial, hI⟩
              · exact step_run rfl rfl rfl fun a W m hp hI => ⟨_, _, ex_load rfl (show a.tmps.getD 120 undef = .pointer (some ⟨w.heap.size, 3, none⟩) from hp.pre 4 (by decide) _ rfl) (fun w => by simp [isAgg, go_sem]) ((row_cells (hI.1 (phase1 hp.low (by kernel_rfl))).x).1 3), rfl, trivial, hI⟩
              · exact step_run rfl rfl rfl fun a W m hp hI => ⟨_, _, ex_field (off := 2) rfl (show a.tmps.getD 3 undef = .pointer (some ⟨w.heap.size, 0, none⟩) from hp.old 3 (by kernel_rfl)) (fun w => by simp [Instr.fieldAt, go_sem]), congrArg (fun n => Value.pointer (some ⟨w.heap.size, n, none⟩)) (show 0 + 2 = 2 from rfl), trivial, hI⟩
              · exact step_run rfl rfl rfl fun a W m hp hI => ⟨_, _, ex_load rfl (show a.tmps.getD 122 undef = .pointer (some ⟨w.heap.size, 2, none⟩) from hp.pre 6 (by decide) _ rfl) (fun w => by simp [isAgg, go_sem]) ((row_cells (hI.1 (phase1 hp.low (by kernel_rfl))).x).1 2), rfl, trivial, hI⟩
              · exact step_run rfl rfl rfl fun a W m hp hI => ⟨_, _, ex_field (off := 2) rfl (show a.tmps.getD 5 undef = .pointer (some ⟨W1.heap.size, 0, none⟩) from hp.old 5 (by kernel_rfl)) (fun w => by simp [Instr.fieldAt, go_sem]), congrArg (fun n => Value.pointer (some ⟨W1.heap.size, n, none⟩)) (show 0 + 2 = 2 from rfl), trivial, hI⟩
              · exact step_run rfl rfl rfl fun a W m hp hI => ⟨_, _, ex_load rfl (show a.tmps.getD 124 undef = .pointer (some ⟨W1.heap.size, 2, none⟩) from hp.pre 8 (by decide) _ rfl) (fun w => by simp [isAgg, go_sem]) ((row_cells (hI.1 (phase1 hp.low (by kernel_rfl))).y).1 2), rfl, trivial, hI⟩
              · refine step_run rfl rfl rfl fun a W m hp hI => ?_
                have h1 : a.tmps.getD 123 undef = .string xa := hp.pre 7 (by decide) _ rfl
                have h2 : a.tmps.getD 125 undef = .int .i64 yd := hp.pre 9 (by decide) _ rfl
                exact ⟨_, _, ex_build02 rfl h1 h2 (by simp [go_sem]; rfl), rfl, trivial, hI⟩
              · refine step_skip rfl rfl rfl fun a W m hp hI => ?_
                have hm : m = 0 := phase (hp.low) (hp.high) (by kernel_rfl) (by kernel_rfl) rfl
                subst hm
                have h1 : a.tmps.getD 119 undef = .map (some bm) := hp.pre 3 (by decide) _ rfl
                have h2 : a.tmps.getD 121 undef = .string xp := hp.pre 5 (by decide) _ rfl
                have h3 : a.tmps.getD 126 undef = Whr.v ⟨xa, false, yd⟩ := hp.pre 10 (by decide) _ rfl
                obtain ⟨W', hrun, hoff, ht, him⟩ := (hI.1 (by decide)).put HX.out.player ⟨xa, false, yd⟩
                exact ⟨W', ex_update rfl h1 h2 h3 hrun, trivial, trivial, fun h => absurd rfl h, fun _ => hoff⟩
            case fin26 =>
              intro vs W hl hI hall
              match vs, hl with
              | [v0, v1, v2, v3, v4, v5, v6, v7, v8, v9, v10, v11], _ =>
                simp only [putAll, Act.put, List.setIfInBounds_toArray, List.set_cons_succ, List.set_cons_zero]
                have HI := Lib.hid (hI.2 rfl)
                clear hI hall
                go_wp2
                go_ret
                exact ok_post HI.out HE.out (by unfold followO; rw [if_pos HE.out.symm, if_pos rfl]; dsimp only; rw [HY.out])
  by_cases k2 : xk = 2
  · subst k2
    cases a1 : eqS yt xa with
    | false =>
      have b1 := et.symm.trans a1
      have HE := Lib.hid (show (8 : Int) = errO O ⟨xt, 2, xa, xp⟩ by simp [errO, HY.out, a1])
      go_wp2
      go_ret
      exact err_post HZ.out HE.out (by decide)
    | true =>
      have b1 := et.symm.trans a1
      have HE := Lib.hid (show (0 : Int) = errO O ⟨xt, 2, xa, xp⟩ by simp [errO, HY.out, a1])
      go_wp2
      refine wp_region_rgi 0 (fun m W => (m ≠ 0 → OffAt lo w ob bm ba O w.heap.size #[.int .i64 xt, .int .i64 2, .string xa, .string xp] W1.heap.size #[.string yt, .bool yh, .int .i64 yd] W) ∧ (m = 0 → OffAt lo w ob bm ba { O with pl := putM O.pl xp ⟨noStr, false, xt⟩ } w.heap.size #[.int .i64 xt, .int .i64 2, .string xa, .string xp] W1.heap.size #[.string yt, .bool yh, .int .i64 yd] W)) (fun _ _ _ => True)
        (fun i u W => match i with
            | 0 => u = .pointer (some ⟨ob, 0, none⟩)
            | 1 => u = .pointer (some ⟨ob, 0, none⟩)
            | 2 => u = .pointer (some ⟨ob, 4, none⟩)
            | 3 => u = .map (some bm)
            | 4 => u = .pointer (some ⟨w.heap.size, 3, none⟩)
            | 5 => u = .string xp
            | 6 => u = .pointer (some ⟨w.heap.size, 0, none⟩)
            | 7 => u = .int .i64 xt
            | 8 => u = Whr.v ⟨noStr, false, xt⟩
            | 9 => True
            | _ => True)
        (fun i => match i with | 9 => 1 | _ => 0) (by kernel_rfl) (by kernel_rfl) (by kernel_rfl) ?start30 ?stable30 ?step30 ?fin30
      case start30 => exact ⟨fun _ => OffAt.drewN HZ.out 1, fun h => absurd h (by decide)⟩
      case stable30 =>
        intro i k u W W' hne h hG
        exact h
      case step30 =>
        refine ⟨?_, ?_, ?_, ?_, ?_, ?_, ?_, ?_, ?_, ?_, trivial⟩
        · exact step_run rfl rfl rfl fun a W m hp hI => ⟨_, _, ex_move rfl (show a.tmps.getD 0 undef = .pointer (some ⟨ob, 0, none⟩) from hp.old 0 (by kernel_rfl)), rfl, trivial, hI⟩
        · exact step_run rfl rfl rfl fun a W m hp hI => ⟨_, _, ex_nil rfl (show a.tmps.getD 131 undef = .pointer (some ⟨ob, 0, none⟩) from hp.pre 0 (by decide) _ rfl), rfl, trivial, hI⟩
        · exact step_run rfl rfl rfl fun a W m hp hI => ⟨_, _, ex_field (off := 4) rfl (show a.tmps.getD 132 undef = .pointer (some ⟨ob, 0, none⟩) from hp.pre 1 (by decide) _ rfl) (fun w => by simp [Instr.fieldAt, go_sem]), congrArg (fun n => Value.pointer (some ⟨ob, n, none⟩)) (show 0 + 4 = 4 from rfl), trivial, hI⟩
        · exact step_run rfl rfl rfl fun a W m hp hI => ⟨_, _, ex_load rfl (show a.tmps.getD 133 undef = .pointer (some ⟨ob, 4, none⟩) from hp.pre 2 (by decide) _ rfl) (fun w => by simp [isAgg, go_sem]) ((row_cells (hI.1 (phase1 hp.low (by kernel_rfl))).row).1 4), rfl, trivial, hI⟩
        · exact step_run rfl rfl rfl fun a W m hp hI => ⟨_, _, ex_field (off := 3) rfl (show a.tmps.getD 3 undef = .pointer (some ⟨w.heap.size, 0, none⟩) from hp.old 3 (by kernel_rfl)) (fun w => by simp [Instr.fieldAt, go_sem]), congrArg (fun n => Value.pointer (some ⟨w.heap.size, n, none⟩)) (show 0 + 3 = 3 from rfl), trivial, hI⟩
        · exact step_run rfl rfl rfl fun a W m hp hI => ⟨_, _, ex_load rfl (show a.tmps.getD 135 undef = .pointer (some ⟨w.heap.size, 3, none⟩) from hp.pre 4 (by decide) _ rfl) (fun w => by simp [isAgg, go_sem]) ((row_cells (hI.1 (phase1 hp.low (by kernel_rfl))).x).1 3), rfl, trivial, hI⟩
        · exact step_run rfl rfl rfl fun a W m hp hI => ⟨_, _, ex_field (off := 0) rfl (show a.tmps.getD 3 undef = .pointer (some ⟨w.heap.size, 0, none⟩) from hp.old 3 (by kernel_rfl)) (fun w => by simp [Instr.fieldAt, go_sem]), congrArg (fun n => Value.pointer (some ⟨w.heap.size, n, none⟩)) (show 0 + 0 = 0 from rfl), trivial, hI⟩
        · exact step_run rfl rfl rfl fun a W m hp hI => ⟨_, _, ex_load rfl (show a.tmps.getD 137 undef = .pointer (some ⟨w.heap.size, 0, none⟩) from hp.pre 6 (by decide) _ rfl) (fun w => by simp [isAgg, go_sem]) ((row_cells (hI.1 (phase1 hp.low (by kernel_rfl))).x).1 0), rfl, trivial, hI⟩
        · refine step_run rfl rfl rfl fun a W m hp hI => ?_
          have h1 : a.tmps.getD 138 undef = .int .i64 xt := hp.pre 7 (by decide) _ rfl
          exact ⟨_, _, ex_build1 rfl h1 (by simp [go_sem]; rfl), rfl, trivial, hI⟩
        · refine step_skip rfl rfl rfl fun a W m hp hI => ?_
          have hm : m = 0 := phase (hp.low) (hp.high) (by kernel_rfl) (by kernel_rfl) rfl
          subst hm
          have h1 : a.tmps.getD 134 undef = .map (some bm) := hp.pre 3 (by decide) _ rfl
          have h2 : a.tmps.getD 136 undef = .string xp := hp.pre 5 (by decide) _ rfl
          have h3 : a.tmps.getD 139 undef = Whr.v ⟨noStr, false, xt⟩ := hp.pre 8 (by decide) _ rfl
          obtain ⟨W', hrun, hoff, ht, him⟩ := (hI.1 (by decide)).put HX.out.player ⟨noStr, false, xt⟩
          exact ⟨W', ex_update rfl h1 h2 h3 hrun, trivial, trivial, fun h => absurd rfl h, fun _ => hoff⟩
      case fin30 =>
        intro vs W hl hI hall
        match vs, hl with
        | [v0, v1, v2, v3, v4, v5, v6, v7, v8, v9], _ =>
          simp only [putAll, Act.put, List.setIfInBounds_toArray, List.set_cons_succ, List.set_cons_zero]
          have HI := Lib.hid (hI.2 rfl)
          clear hI hall
          go_wp2
          go_ret
          exact ok_post HI.out HE.out (by unfold followO; rw [if_pos HE.out.symm, if_neg (show ¬ (2 : Int) = 1 by decide), if_pos rfl])
  by_cases k3 : xk = 3
  · subst k3
    clear k1 k2
    cases a1 : eqS yt xa with
    | false =>
      have b1 := et.symm.trans a1
      have HE := Lib.hid (show (8 : Int) = errO O ⟨xt, 3, xa, xp⟩ by simp [errO, HY.out, a1])
      go_wp2
      go_ret
      exact err_post HZ.out HE.out (by decide)
    | true =>
    have b1 := et.symm.trans a1
    cases yh with
    | true =>
      have HE := Lib.hid (show (8 : Int) = errO O ⟨xt, 3, xa, xp⟩ by simp [errO, HY.out, a1])
      go_wp2
      go_ret
      exact err_post HZ.out HE.out (by decide)
    | false =>
    obtain ⟨mo, hmo⟩ : ∃ mo, manyO O xa true = mo := ⟨_, rfl⟩
    have HMO := Lib.hid hmo
    clear hmo
    go_wp2_with fail
    refine (many_any HZ.out.off xa true hlen).mono ?_
    rintro e V ⟨rfl, hbv⟩
    rw [HMO.out]
    have hZ2 := HZ.out.below hbv
    clear hcx hfx hcy hfy hc hbv
    have HZ2 := Lib.hid hZ2
    obtain ⟨hcx, hfx⟩ := row_cells hZ2.x
    obtain ⟨hcy, hfy⟩ := row_cells hZ2.y
    obtain ⟨hc, hf⟩ := row_cells hZ2.off.row
    clear hZ2 hf hfx
    by_cases a5 : O.b.hurt ≤ (mo : Int)
    · have HE := Lib.hid (show (12 : Int) = errO O ⟨xt, 3, xa, xp⟩ by simp [errO, HY.out, HMO.out, a1, a5])
      go_wp2
      go_ret
      exact err_post HZ2.out HE.out (by decide)
    have HE := Lib.hid (show (0 : Int) = errO O ⟨xt, 3, xa, xp⟩ by simp [errO, HY.out, HMO.out, a1, a5])
    have HZ4 := Lib.hid (HZ2.out.hurt true)
    go_wp2
    refine wp_region_rgi 0 (fun m W => (m ≠ 0 → OffAt lo w ob bm ba O w.heap.size #[.int .i64 xt, .int .i64 3, .string xa, .string xp] W1.heap.size #[.string yt, .bool true, .int .i64 yd] W) ∧ (m = 0 → OffAt lo w ob bm ba { O with pl := putM O.pl xp ⟨yt, true, yd⟩ } w.heap.size #[.int .i64 xt, .int .i64 3, .string xa, .string xp] W1.heap.size #[.string yt, .bool true, .int .i64 yd] W)) (fun _ _ _ => True)
      (fun i u W => match i with
          | 0 => u = .pointer (some ⟨ob, 0, none⟩)
          | 1 => u = .pointer (some ⟨ob, 0, none⟩)
          | 2 => u = .pointer (some ⟨ob, 4, none⟩)
          | 3 => u = .map (some bm)
          | 4 => u = .pointer (some ⟨w.heap.size, 3, none⟩)
          | 5 => u = .string xp
          | 6 => u = Whr.v ⟨yt, true, yd⟩
          | 7 => True
          | _ => True)
      (fun i => match i with | 7 => 1 | _ => 0) (by kernel_rfl) (by kernel_rfl) (by kernel_rfl) ?start13true ?stable13true ?step13true ?fin13true
    case start13true => exact ⟨fun _ => OffAt.drewN HZ4.out 1, fun h => absurd h (by decide)⟩
    case stable13true =>
      intro i k u W W' hne h hG
      exact h
    case step13true =>
      refine ⟨?_, ?_, ?_, ?_, ?_, ?_, ?_, ?_, trivial⟩
      · exact step_run rfl rfl rfl fun a W m hp hI => ⟨_, _, ex_move rfl (show a.tmps.getD 0 undef = .pointer (some ⟨ob, 0, none⟩) from hp.old 0 (by kernel_rfl)), rfl, trivial, hI⟩
      · exact step_run rfl rfl rfl fun a W m hp hI => ⟨_, _, ex_nil rfl (show a.tmps.getD 53 undef = .pointer (some ⟨ob, 0, none⟩) from hp.pre 0 (by decide) _ rfl), rfl, trivial, hI⟩
      · exact step_run rfl rfl rfl fun a W m hp hI => ⟨_, _, ex_field (off := 4) rfl (show a.tmps.getD 54 undef = .pointer (some ⟨ob, 0, none⟩) from hp.pre 1 (by decide) _ rfl) (fun w => by simp [Instr.fieldAt, go_sem]), congrArg (fun n => Value.pointer (some ⟨ob, n, none⟩)) (show 0 + 4 = 4 from rfl), trivial, hI⟩
      · exact step_run rfl rfl rfl fun a W m hp hI => ⟨_, _, ex_load rfl (show a.tmps.getD 55 undef = .pointer (some ⟨ob, 4, none⟩) from hp.pre 2 (by decide) _ rfl) (fun w => by simp [isAgg, go_sem]) ((row_cells (hI.1 (phase1 hp.low (by kernel_rfl))).row).1 4), rfl, trivial, hI⟩
      · exact step_run rfl rfl rfl fun a W m hp hI => ⟨_, _, ex_field (off := 3) rfl (show a.tmps.getD 3 undef = .pointer (some ⟨w.heap.size, 0, none⟩) from hp.old 3 (by kernel_rfl)) (fun w => by simp [Instr.fieldAt, go_sem]), congrArg (fun n => Value.pointer (some ⟨w.heap.size, n, none⟩)) (show 0 + 3 = 3 from rfl), trivial, hI⟩
      · exact step_run rfl rfl rfl fun a W m hp hI => ⟨_, _, ex_load rfl (show a.tmps.getD 57 undef = .pointer (some ⟨w.heap.size, 3, none⟩) from hp.pre 4 (by decide) _ rfl) (fun w => by simp [isAgg, go_sem]) ((row_cells (hI.1 (phase1 hp.low (by kernel_rfl))).x).1 3), rfl, trivial, hI⟩
      · refine step_run rfl rfl rfl fun a W m hp hI => ?_
        have h1 : a.tmps.getD 5 undef = .pointer (some ⟨W1.heap.size, 0, none⟩) := hp.old 5 (by kernel_rfl)
        exact ⟨_, _, ex_whr rfl h1 (hI.1 (phase1 hp.low (by kernel_rfl))).y, rfl, trivial, hI⟩
      · refine step_skip rfl rfl rfl fun a W m hp hI => ?_
        have hm : m = 0 := phase (hp.low) (hp.high) (by kernel_rfl) (by kernel_rfl) rfl
        subst hm
        have h1 : a.tmps.getD 56 undef = .map (some bm) := hp.pre 3 (by decide) _ rfl
        have h2 : a.tmps.getD 58 undef = .string xp := hp.pre 5 (by decide) _ rfl
        have h3 : a.tmps.getD 59 undef = Whr.v ⟨yt, true, yd⟩ := hp.pre 6 (by decide) _ rfl
        obtain ⟨W', hrun, hoff, ht, him⟩ := (hI.1 (by decide)).put HX.out.player ⟨yt, true, yd⟩
        exact ⟨W', ex_update rfl h1 h2 h3 hrun, trivial, trivial, fun h => absurd rfl h, fun _ => hoff⟩
    case fin13true =>
      intro vs W hl hI hall
      match vs, hl with
      | [v0, v1, v2, v3, v4, v5, v6, v7], _ =>
        simp only [putAll, Act.put, List.setIfInBounds_toArray, List.set_cons_succ, List.set_cons_zero]
        have HI := Lib.hid (hI.2 rfl)
        clear hI hall
        go_wp2
        go_ret
        exact ok_post HI.out HE.out (by unfold followO; rw [if_pos HE.out.symm, if_neg (show ¬ (3 : Int) = 1 by decide), if_neg (show ¬ (3 : Int) = 2 by decide)]; dsimp only; rw [HY.out]; rfl)
  · have K3 := Lib.hid (show (xk == 3) = false by simpa using k3)
    cases a1 : eqS yt xa with
    | false =>
      have b1 := et.symm.trans a1
      have HE := Lib.hid (show (8 : Int) = errO O ⟨xt, xk, xa, xp⟩ by simp [errO, HY.out, a1, k1, k2, K3.out])
      go_wp2
      go_ret
      exact err_post HZ.out HE.out (by decide)
    | true =>
    have b1 := et.symm.trans a1
    cases yh with
    | false =>
      have HE := Lib.hid (show (8 : Int) = errO O ⟨xt, xk, xa, xp⟩ by simp [errO, HY.out, a1, k1, k2, K3.out])
      go_wp2
      go_ret
      exact err_post HZ.out HE.out (by decide)
    | true =>
    obtain ⟨mo, hmo⟩ : ∃ mo, manyO O xa false = mo := ⟨_, rfl⟩
    have HMO := Lib.hid hmo
    clear hmo
    go_wp2_with fail
    refine (many_any HZ.out.off xa false hlen).mono ?_
    rintro e V ⟨rfl, hbv⟩
    rw [HMO.out]
    have hZ2 := HZ.out.below hbv
    clear hcx hfx hcy hfy hc hbv
    have HZ2 := Lib.hid hZ2
    obtain ⟨hcx, hfx⟩ := row_cells hZ2.x
    obtain ⟨hcy, hfy⟩ := row_cells hZ2.y
    obtain ⟨hc, hf⟩ := row_cells hZ2.off.row
    clear hZ2 hf hfx
    by_cases a5 : O.b.most ≤ (mo : Int)
    · have HE := Lib.hid (show (12 : Int) = errO O ⟨xt, xk, xa, xp⟩ by simp [errO, HY.out, HMO.out, a1, a5, k1, k2, K3.out])
      go_wp2
      go_ret
      exact err_post HZ2.out HE.out (by decide)
    have HE := Lib.hid (show (0 : Int) = errO O ⟨xt, xk, xa, xp⟩ by simp [errO, HY.out, HMO.out, a1, a5, k1, k2, K3.out])
    have HZ4 := Lib.hid (HZ2.out.hurt false)
    go_wp2
    refine wp_region_rgi 0 (fun m W => (m ≠ 0 → OffAt lo w ob bm ba O w.heap.size #[.int .i64 xt, .int .i64 xk, .string xa, .string xp] W1.heap.size #[.string yt, .bool false, .int .i64 yd] W) ∧ (m = 0 → OffAt lo w ob bm ba { O with pl := putM O.pl xp ⟨yt, false, yd⟩ } w.heap.size #[.int .i64 xt, .int .i64 xk, .string xa, .string xp] W1.heap.size #[.string yt, .bool false, .int .i64 yd] W)) (fun _ _ _ => True)
      (fun i u W => match i with
          | 0 => u = .pointer (some ⟨ob, 0, none⟩)
          | 1 => u = .pointer (some ⟨ob, 0, none⟩)
          | 2 => u = .pointer (some ⟨ob, 4, none⟩)
          | 3 => u = .map (some bm)
          | 4 => u = .pointer (some ⟨w.heap.size, 3, none⟩)
          | 5 => u = .string xp
          | 6 => u = Whr.v ⟨yt, false, yd⟩
          | 7 => True
          | _ => True)
      (fun i => match i with | 7 => 1 | _ => 0) (by kernel_rfl) (by kernel_rfl) (by kernel_rfl) ?start13false ?stable13false ?step13false ?fin13false
    case start13false => exact ⟨fun _ => OffAt.drewN HZ4.out 1, fun h => absurd h (by decide)⟩
    case stable13false =>
      intro i k u W W' hne h hG
      exact h
    case step13false =>
      refine ⟨?_, ?_, ?_, ?_, ?_, ?_, ?_, ?_, trivial⟩
      · exact step_run rfl rfl rfl fun a W m hp hI => ⟨_, _, ex_move rfl (show a.tmps.getD 0 undef = .pointer (some ⟨ob, 0, none⟩) from hp.old 0 (by kernel_rfl)), rfl, trivial, hI⟩
      · exact step_run rfl rfl rfl fun a W m hp hI => ⟨_, _, ex_nil rfl (show a.tmps.getD 53 undef = .pointer (some ⟨ob, 0, none⟩) from hp.pre 0 (by decide) _ rfl), rfl, trivial, hI⟩
      · exact step_run rfl rfl rfl fun a W m hp hI => ⟨_, _, ex_field (off := 4) rfl (show a.tmps.getD 54 undef = .pointer (some ⟨ob, 0, none⟩) from hp.pre 1 (by decide) _ rfl) (fun w => by simp [Instr.fieldAt, go_sem]), congrArg (fun n => Value.pointer (some ⟨ob, n, none⟩)) (show 0 + 4 = 4 from rfl), trivial, hI⟩
      · exact step_run rfl rfl rfl fun a W m hp hI => ⟨_, _, ex_load rfl (show a.tmps.getD 55 undef = .pointer (some ⟨ob, 4, none⟩) from hp.pre 2 (by decide) _ rfl) (fun w => by simp [isAgg, go_sem]) ((row_cells (hI.1 (phase1 hp.low (by kernel_rfl))).row).1 4), rfl, trivial, hI⟩
      · exact step_run rfl rfl rfl fun a W m hp hI => ⟨_, _, ex_field (off := 3) rfl (show a.tmps.getD 3 undef = .pointer (some ⟨w.heap.size, 0, none⟩) from hp.old 3 (by kernel_rfl)) (fun w => by simp [Instr.fieldAt, go_sem]), congrArg (fun n => Value.pointer (some ⟨w.heap.size, n, none⟩)) (show 0 + 3 = 3 from rfl), trivial, hI⟩
      · exact step_run rfl rfl rfl fun a W m hp hI => ⟨_, _, ex_load rfl (show a.tmps.getD 57 undef = .pointer (some ⟨w.heap.size, 3, none⟩) from hp.pre 4 (by decide) _ rfl) (fun w => by simp [isAgg, go_sem]) ((row_cells (hI.1 (phase1 hp.low (by kernel_rfl))).x).1 3), rfl, trivial, hI⟩
      · refine step_run rfl rfl rfl fun a W m hp hI => ?_
        have h1 : a.tmps.getD 5 undef = .pointer (some ⟨W1.heap.size, 0, none⟩) := hp.old 5 (by kernel_rfl)
        exact ⟨_, _, ex_whr rfl h1 (hI.1 (phase1 hp.low (by kernel_rfl))).y, rfl, trivial, hI⟩
      · refine step_skip rfl rfl rfl fun a W m hp hI => ?_
        have hm : m = 0 := phase (hp.low) (hp.high) (by kernel_rfl) (by kernel_rfl) rfl
        subst hm
        have h1 : a.tmps.getD 56 undef = .map (some bm) := hp.pre 3 (by decide) _ rfl
        have h2 : a.tmps.getD 58 undef = .string xp := hp.pre 5 (by decide) _ rfl
        have h3 : a.tmps.getD 59 undef = Whr.v ⟨yt, false, yd⟩ := hp.pre 6 (by decide) _ rfl
        obtain ⟨W', hrun, hoff, ht, him⟩ := (hI.1 (by decide)).put HX.out.player ⟨yt, false, yd⟩
        exact ⟨W', ex_update rfl h1 h2 h3 hrun, trivial, trivial, fun h => absurd rfl h, fun _ => hoff⟩
    case fin13false =>
      intro vs W hl hI hall
      match vs, hl with
      | [v0, v1, v2, v3, v4, v5, v6, v7], _ =>
        simp only [putAll, Act.put, List.setIfInBounds_toArray, List.set_cons_succ, List.set_cons_zero]
        have HI := Lib.hid (hI.2 rfl)
        clear hI hall
        go_wp2
        go_ret
        exact ok_post HI.out HE.out (by unfold followO; rw [if_pos HE.out.symm, if_neg k1, if_neg k2]; dsimp only; rw [HY.out]; simp [K3.out])
end Go.Proofs.Ytfmffobdkfgekaa
