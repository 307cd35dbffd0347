import Derived.Test.YtfmffobdkfgekaaGreatJm8
import Derived.Test.YtfmffobdkfgekaaGreatJm7
import Derived.Test.YtfmffobdkfgekaaGreatRows
import Derived.ProofKit
import Derived.SizedLaws
/- The law MovesFollowed: its walk. (Printed by gen/lawmoves.py.) -/
set_option linter.unusedVariables false
set_option linter.unusedSimpArgs false
namespace Go.Proofs.YtfmffobdkfgekaaGreat
open Go.RowKit Go.Maps

set_option maxHeartbeats 4000000 in
set_option maxRecDepth 20000 in
theorem law2_any (A : Option Addr) (len c : Nat) (w : World) (h : IntsIn w A len) :
    Calls Tryz.prog 3 #[.slice A len c] w fun e w' => e = .returned (.bool true) ∧ Below w.heap.size w w' := by
  have HS := Lib.hid (stream_new (c := c) h)
  clear h
  go_enter Tryz.func3, Tryz.ntmps3
  go_wp2_with fail
  refine (bounds_any w.heap.size 900 _ (HS.out.mono (by omega))).mono ?_
  rintro e w1 ⟨⟨m1, m2, m3, m4, rfl, hbok⟩, st1⟩
  have HB := Lib.hid hbok
  have S1 := Lib.hid st1
  clear hbok st1
  go_wp2_with fail
  refine (range_any w.heap.size 800 0 20 _ (S1.out.s.mono (by omega)) (by omega) (by omega) (by omega) (by omega)).mono ?_
  rintro e w2 ⟨⟨r, rfl, hr1, hr2⟩, hs2, hg2⟩
  have S2 := Lib.hid (S1.out.call hs2 hg2)
  clear hs2 hg2
  obtain ⟨rn, rfl⟩ : ∃ rn : Nat, r = rn := ⟨r.toNat, by omega⟩
  go_wp2_with fail
  refine (moves_any w.heap.size 500 rn _ (S2.out.s.mono (by omega)) (by omega)).mono ?_
  rintro e w3 ⟨⟨x, lx, rfl, hmv, hml, hmo⟩, st3⟩
  have S3 := Lib.hid (S2.out.then st3)
  have hsz2 := S2.out.s.lt
  have MX := Lib.hid (hmv.mono (Nat.succ_le_of_lt hsz2))
  have HOX := Lib.hid hmo
  have hlx : lx.length ≤ 20 := by omega
  clear st3 hmv hmo
  go_wp2_with fail
  refine (range_any w.heap.size 400 0 6 _ (S3.out.s.mono (by omega)) (by omega) (by omega) (by omega) (by omega)).mono ?_
  rintro e w4 ⟨⟨r2, rfl, hr3, hr4⟩, hs4, hg4⟩
  have hsz3 := S3.out.s.lt
  have S4 := Lib.hid (S3.out.call hs4 hg4)
  have MX4 := Lib.hid (MX.out.gr hg4 (by omega))
  clear hs4 hg4
  obtain ⟨rm, rfl⟩ : ∃ rn : Nat, r2 = rn := ⟨r2.toNat, by omega⟩
  go_wp2_with fail
  refine (moves_any w.heap.size 100 rm _ (S4.out.s.mono (by omega)) (by omega)).mono ?_
  rintro e w5 ⟨⟨y, ly, rfl, hmv, hml2, hmo⟩, st5⟩
  have S5 := Lib.hid (S4.out.then st5)
  have MX5 := Lib.hid (MX4.out.gr st5.g (by omega))
  have MY5 := Lib.hid (hmv.mono (Nat.zero_le _))
  have HOY := Lib.hid hmo
  have hly : ly.length ≤ 20 := by omega
  have hbl : Below w5.heap.size w5 (w5.alloc (.cells #[.int .i64 m1, .int .i64 m2, .int .i64 m3, .int .i64 m4] 27)) := (Below.refl _ _).alloc (Nat.le_refl _) _
  have HA0 := Lib.hid (show MvAt w w5.heap.size ⟨m1, m2, m3, m4⟩ x y (.slice none 0 0) (.slice none 0 0) (.slice none 0 0) (.slice none 0 0) (.slice none 0 0) (.slice none 0 0) lx ly [] [] [] [] (w5.alloc (.cells #[.int .i64 m1, .int .i64 m2, .int .i64 m3, .int .i64 m4] 27)) from
    ⟨heap_alloc_new _ _, (MX5.out.mono (Nat.zero_le _)).below hbl, MY5.out.below hbl, Sl.nil _ _ _, Sl.nil _ _ _, Sl.nil _ _ _, Sl.nil _ _ _, Sl.nil _ _ _, Sl.nil _ _ _, S5.out.bel.trans (hbl.mono S5.out.bel.size)⟩)
  obtain ⟨bb, hbb⟩ : ∃ bb, w5.heap.size = bb := ⟨_, rfl⟩
  have HBB := Lib.hid hbb
  clear st5 hmv hmo hbl hbb S1 S2 S3 S4 S5 MX MX4 MX5 MY5
  obtain ⟨E1, hE1⟩ : ∃ E, mergeE lx ly = E := ⟨_, rfl⟩
  obtain ⟨lm, hlm⟩ : ∃ E, mergeL lx ly = E := ⟨_, rfl⟩
  obtain ⟨E2, hE2⟩ : ∃ E, faultE ⟨m1, m2, m3, m4⟩ lx = E := ⟨_, rfl⟩
  obtain ⟨lr, hlr⟩ : ∃ E, refusedB ⟨m1, m2, m3, m4⟩ lx = E := ⟨_, rfl⟩
  have HE1 := Lib.hid hE1
  have HE2 := Lib.hid hE2
  have HLM := Lib.hid hlm
  have HLR := Lib.hid hlr
  clear hE1 hE2 hlm hlr
  go_wp2_with fail
  refine (merge_any HA0.out.x HA0.out.y (by omega) HOX.out HOY.out).mono ?_
  rintro e w6 ⟨mg, rfl, hm, hb6⟩
  rw [HE1.out]
  rw [HLM.out] at hm
  have HA6 := Lib.hid (show MvAt w w5.heap.size ⟨m1, m2, m3, m4⟩ x y mg (.slice none 0 0) (.slice none 0 0) (.slice none 0 0) (.slice none 0 0) (.slice none 0 0) lx ly lm [] [] [] w6 by
    obtain ⟨k1, k2, k3, k4, k5, k6, k7, k8, k9, k10⟩ := HA0.out.below hb6
    exact ⟨k1, k2, k3, hm, k5, k6, k7, k8, k9, k10⟩)
  clear hm hb6 HA0
  rw [HBB.out] at *
  obtain ⟨hc, hf⟩ := row_cells HA6.out.box
  go_wp2_with fail
  refine (refused_any ⟨m1, m2, m3, m4⟩ HA6.out.x rfl (by omega) HOX.out HB.out).mono ?_
  rintro e w7 ⟨rv, ru, rfl, hv, hu, hb7⟩
  rw [HE2.out]
  rw [HLR.out] at hv hu
  have HA1 := Lib.hid (show MvAt w bb ⟨m1, m2, m3, m4⟩ x y mg (.slice none 0 0) rv ru (.slice none 0 0) (.slice none 0 0) lx ly lm [] lr [] w7 by
    obtain ⟨k1, k2, k3, k4, k5, k6, k7, k8, k9, k10⟩ := HA6.out.below hb7
    exact ⟨k1, k2, k3, k4, k5, hv, hu, k8, k9, k10⟩)
  clear hv hu hb7 HA6 hc hf
  go_wp2
  refine wp_region_rgs 0 (fun _ W => MvAt w bb ⟨m1, m2, m3, m4⟩ x y mg (.slice none 0 0) rv ru (.slice none 0 0) (.slice none 0 0) lx ly lm [] lr [] W) GB
    (fun i u W => match i with
        | 0 => u = x
        | 1 => u = .int .i64 (mfault lx)
        | 2 => u = y
        | 3 => u = .int .i64 (mfault ly)
        | 4 => ∃ g, u = .slice (some ⟨g, 0, none⟩) 2 2 ∧ W.heap[g]? = some (.cells #[.int .i64 (mfault lx), .int .i64 (mfault ly)] 32 (0, 0))
        | 5 => u = .int .i64 E1
        | 6 => u = .agg #[.int .i64 m1, .int .i64 m2, .int .i64 m3, .int .i64 m4]
        | 7 => u = .int .i64 (bfault ⟨m1, m2, m3, m4⟩)
        | 8 => u = x
        | 9 => u = .int .i64 (mfault lx)
        | 10 => ∃ g, u = .slice (some ⟨g, 0, none⟩) 2 2 ∧ W.heap[g]? = some (.cells #[.int .i64 (bfault ⟨m1, m2, m3, m4⟩), .int .i64 (mfault lx)] 32 (0, 0))
        | 11 => u = .int .i64 E2
        | 12 => u = .int .i64 E1
        | 13 => u = .int .i64 E2
        | _ => True)
    (fun _ => 0) (by kernel_rfl) (by kernel_rfl) (by kernel_rfl) ?start5 ?stable5 ?step5 ?fin5
  case start5 => exact HA1.out.below (below_drewN (Below.refl _ _) 1)
  case stable5 =>
    intro i u W W' h hG
    match i with
    | 4 =>
      obtain ⟨g, h1, h2⟩ := h; exact ⟨g, h1, (hG.block _ (Array.getElem?_eq_some_iff.1 h2).1).trans h2⟩
    | 10 =>
      obtain ⟨g, h1, h2⟩ := h; exact ⟨g, h1, (hG.block _ (Array.getElem?_eq_some_iff.1 h2).1).trans h2⟩
    | 0 | 1 | 2 | 3 | 5 | 6 | 7 | 8 | 9 | 11 | 12 | 13 | _ + 14 => exact h
  case step5 =>
    refine ⟨?_, ?_, ?_, ?_, ?_, ?_, ?_, ?_, ?_, ?_, ?_, ?_, ?_, ?_, trivial⟩
    · exact step_run rfl rfl rfl fun a W m hp hI => ⟨_, _, ex_move rfl (show a.tmps.getD 5 undef = x from hp.old 5 (by kernel_rfl)), rfl, .refl _ _ rfl, hI⟩
    · refine step_call (f := 12) (fun a => #[a.tmps.getD 43 undef]) rfl rfl rfl (fun a w => by simp [go_sem]) fun a W m hp hI => ?_
      have h1 : a.tmps.getD 43 undef = x := hp.pre 0 (by decide) _ rfl
      rw [h1]
      refine (movesFault_any hI.x rfl (by omega) HOX.out).mono ?_
      rintro e W' ⟨rfl, hb⟩
      exact ⟨_, rfl, rfl, .of_below hb, hI.below hb⟩
    · exact step_run rfl rfl rfl fun a W m hp hI => ⟨_, _, ex_move rfl (show a.tmps.getD 6 undef = y from hp.old 6 (by kernel_rfl)), rfl, .refl _ _ rfl, hI⟩
    · refine step_call (f := 12) (fun a => #[a.tmps.getD 45 undef]) rfl rfl rfl (fun a w => by simp [go_sem]) fun a W m hp hI => ?_
      have h1 : a.tmps.getD 45 undef = y := hp.pre 2 (by decide) _ rfl
      rw [h1]
      refine (movesFault_any hI.y rfl (by omega) HOY.out).mono ?_
      rintro e W' ⟨rfl, hb⟩
      exact ⟨_, rfl, rfl, .of_below hb, hI.below hb⟩
    · refine step_run rfl rfl rfl fun a W m hp hI => ?_
      have h1 : a.tmps.getD 44 undef = .int .i64 (mfault lx) := hp.pre 1 (by decide) _ rfl
      have h2 : a.tmps.getD 46 undef = .int .i64 (mfault ly) := hp.pre 3 (by decide) _ rfl
      have hb : Below W.heap.size W (W.alloc (.cells #[.int .i64 (mfault lx), .int .i64 (mfault ly)] 32)) := (Below.refl _ _).alloc (Nat.le_refl _) _
      exact ⟨_, _, ex_slice2 rfl h1 h2 (fun w => by simp [go_sem]), ⟨W.heap.size, rfl, heap_alloc_new _ _⟩, .of_below hb, hI.below hb⟩
    · refine step_call (f := 11) (fun a => #[a.tmps.getD 47 undef]) rfl rfl rfl (fun a w => by simp [go_sem]) fun a W m hp hI => ?_
      obtain ⟨g, h1, h2⟩ : ∃ g, a.tmps.getD 47 undef = .slice (some ⟨g, 0, none⟩) 2 2 ∧ W.heap[g]? = some (.cells #[.int .i64 (mfault lx), .int .i64 (mfault ly)] 32 (0, 0)) := hp.pre 4 (by decide) _ rfl
      rw [h1]
      refine (errs_any (l := [mfault lx, mfault ly]) (lo := g) (n := 2) (sl_prefix h2 (by simp) (by omega) (by omega) (by omega)) rfl).mono ?_
      rintro e W' ⟨rfl, hd⟩
      exact ⟨_, rfl, congrArg (Value.int .i64) HE1.out, hd.gb, hI.drew hd⟩
    · exact step_run rfl rfl rfl fun a W m hp hI => ⟨_, _, ex_bnds rfl (show a.tmps.getD 4 undef = .pointer (some ⟨bb, 0, none⟩) from hp.old 4 (by kernel_rfl)) hI.box, rfl, .refl _ _ rfl, hI⟩
    · refine step_call (f := 13) (fun a => #[a.tmps.getD 49 undef]) rfl rfl rfl (fun a w => by simp [go_sem]) fun a W m hp hI => ?_
      have h1 : a.tmps.getD 49 undef = .agg #[.int .i64 m1, .int .i64 m2, .int .i64 m3, .int .i64 m4] := hp.pre 6 (by decide) _ rfl
      rw [h1]
      refine (boundsFault_any ⟨m1, m2, m3, m4⟩ W).mono ?_
      rintro e W' ⟨rfl, hb⟩
      exact ⟨_, rfl, rfl, .of_below hb, hI.below hb⟩
    · exact step_run rfl rfl rfl fun a W m hp hI => ⟨_, _, ex_move rfl (show a.tmps.getD 5 undef = x from hp.old 5 (by kernel_rfl)), rfl, .refl _ _ rfl, hI⟩
    · refine step_call (f := 12) (fun a => #[a.tmps.getD 51 undef]) rfl rfl rfl (fun a w => by simp [go_sem]) fun a W m hp hI => ?_
      have h1 : a.tmps.getD 51 undef = x := hp.pre 8 (by decide) _ rfl
      rw [h1]
      refine (movesFault_any hI.x rfl (by omega) HOX.out).mono ?_
      rintro e W' ⟨rfl, hb⟩
      exact ⟨_, rfl, rfl, .of_below hb, hI.below hb⟩
    · refine step_run rfl rfl rfl fun a W m hp hI => ?_
      have h1 : a.tmps.getD 50 undef = .int .i64 (bfault ⟨m1, m2, m3, m4⟩) := hp.pre 7 (by decide) _ rfl
      have h2 : a.tmps.getD 52 undef = .int .i64 (mfault lx) := hp.pre 9 (by decide) _ rfl
      have hb : Below W.heap.size W (W.alloc (.cells #[.int .i64 (bfault ⟨m1, m2, m3, m4⟩), .int .i64 (mfault lx)] 32)) := (Below.refl _ _).alloc (Nat.le_refl _) _
      exact ⟨_, _, ex_slice2 rfl h1 h2 (fun w => by simp [go_sem]), ⟨W.heap.size, rfl, heap_alloc_new _ _⟩, .of_below hb, hI.below hb⟩
    · refine step_call (f := 11) (fun a => #[a.tmps.getD 53 undef]) rfl rfl rfl (fun a w => by simp [go_sem]) fun a W m hp hI => ?_
      obtain ⟨g, h1, h2⟩ : ∃ g, a.tmps.getD 53 undef = .slice (some ⟨g, 0, none⟩) 2 2 ∧ W.heap[g]? = some (.cells #[.int .i64 (bfault ⟨m1, m2, m3, m4⟩), .int .i64 (mfault lx)] 32 (0, 0)) := hp.pre 10 (by decide) _ rfl
      rw [h1]
      refine (errs_any (l := [bfault ⟨m1, m2, m3, m4⟩, mfault lx]) (lo := g) (n := 2) (sl_prefix h2 (by simp) (by omega) (by omega) (by omega)) rfl).mono ?_
      rintro e W' ⟨rfl, hd⟩
      exact ⟨_, rfl, congrArg (Value.int .i64) HE2.out, hd.gb, hI.drew hd⟩
    · exact step_run rfl rfl rfl fun a W m hp hI => ⟨_, _, ex_assign rfl (show a.tmps.getD 48 undef = .int .i64 E1 from hp.pre 5 (by decide) _ rfl), rfl, .refl _ _ rfl, hI⟩
    · exact step_run rfl rfl rfl fun a W m hp hI => ⟨_, _, ex_assign rfl (show a.tmps.getD 54 undef = .int .i64 E2 from hp.pre 11 (by decide) _ rfl), rfl, .refl _ _ rfl, hI⟩
  case fin5 =>
    intro vs W hl hI hall
    match vs, hl with
    | [v0, v1, v2, v3, v4, v5, v6, v7, v8, v9, v10, v11, v12, v13], _ =>
      obtain ⟨_, _, _, _, _, _, _, _, _, _, _, _, q12, q13, _⟩ := hall
      have q12 : v12 = .int .i64 E1 := q12
      have q13 : v13 = .int .i64 E2 := q13
      subst q12
      subst q13
      simp only [putAll, Act.put, List.setIfInBounds_toArray, List.set_cons_succ, List.set_cons_zero]
      have HI := Lib.hid hI
      clear hI
      have HA2 := HI
      go_upto_if 56 with fail
      go_cut [12, 14] (fun s12 s14 wx => s12 = .int .i64 E1 ∧ MvAt w bb ⟨m1, m2, m3, m4⟩ x y mg s14 rv ru (.slice none 0 0) (.slice none 0 0) lx ly lm lm lr [] wx)
      case first =>
        by_cases h1 : E1 = 0
        · have HL := Lib.hid (show mergedL lx ly = lm by rw [← HLM.out]; exact (merge_yes (by rw [HE1.out, h1])).symm)
          have HQ := Lib.hid (movesOf_any HA2.out.x HA2.out.y (by omega) HOX.out HOY.out)
          subst h1
          go_wp2_with fail
          refine HQ.out.mono ?_
          rintro e w10 ⟨z, rfl, hz, hb⟩
          rw [HL.out] at hz
          have HZ := Lib.hid ((HA2.out.below hb).setN hz)
          clear hb hz
          go_wp2
          go_meet
          case rel => exact ⟨rfl, HZ.out⟩
        · have HL := Lib.hid (show [] = lm by rw [← HLM.out]; exact (merge_no (by rw [HE1.out]; exact h1)).symm)
          go_wp2
          go_meet
          case rel => exact ⟨rfl, HL.out ▸ HA2.out⟩
      case rest =>
        obtain ⟨rfl, ha3⟩ := hcut
        have HA3 := Lib.hid ha3
        clear ha3 HA2
        obtain ⟨hc, hf⟩ := row_cells HA3.out.box
        go_upto_if 64 with fail
        go_cut [15, 16] (fun s15 s16 wx => MvAt w bb ⟨m1, m2, m3, m4⟩ x y mg u14 rv ru s15 s16 lx ly lm lm lr lr wx)
        case first =>
          by_cases h2 : E2 = 0
          · have HL := Lib.hid (show refsO (office0 ⟨m1, m2, m3, m4⟩) 0 lx = lr by rw [← HLR.out]; exact (refused_yes (by rw [HE2.out, h2])).symm)
            have HQ := Lib.hid (refusedMoves_any (lo := 0) ⟨m1, m2, m3, m4⟩ HA3.out.x rfl (by omega) HOX.out HB.out)
            subst h2
            go_wp2_with fail
            refine HQ.out.mono ?_
            rintro e w11 ⟨z1, z2, rfl, hz1, hz2, hb⟩
            rw [HL.out] at hz1 hz2
            have HZ := Lib.hid ((HA3.out.below hb).setST hz1 hz2)
            clear hb hz1 hz2
            go_wp2
            go_meet
            case rel => exact HZ.out
          · have HL := Lib.hid (show [] = lr by rw [← HLR.out]; exact (refused_no (by rw [HE2.out]; exact h2)).symm)
            go_wp2
            go_meet
            case rel => exact HA3.out.setST (HL.out ▸ Sl.nil _ _ _) (HL.out ▸ Sl.nil _ _ _)
        case rest =>
          have HA4 := Lib.hid hcut
          clear hcut hc hf HA3
          go_wp2
          refine wp_region_rgs 0 (fun _ W => MvAt w bb ⟨m1, m2, m3, m4⟩ x y mg u14 rv ru u15 u16 lx ly lm lm lr lr W) GB
            (fun i u W => match i with
                | 0 => u = .agg #[.int .i64 m1, .int .i64 m2, .int .i64 m3, .int .i64 m4]
                | 1 => u = .int .i64 (bfault ⟨m1, m2, m3, m4⟩)
                | 2 => u = .agg #[.int .i64 m1, .int .i64 m2, .int .i64 m3, .int .i64 m4]
                | 3 => u = .int .i64 (bfault ⟨m1, m2, m3, m4⟩)
                | 4 => u = .bool true
                | 5 => u = .bool true
                | 6 => u = x
                | 7 => u = .int .i64 (mfault lx)
                | 8 => u = x
                | 9 => u = .int .i64 (mfault lx)
                | 10 => u = .bool true
                | 11 => u = .bool true
                | 12 => u = .bool true
                | 13 => u = .int .i64 E1
                | 14 => u = .int .i64 E1
                | 15 => u = .bool true
                | 16 => u = .bool true
                | 17 => u = .bool true
                | 18 => u = mg
                | 19 => u = u14
                | 20 => u = .bool true
                | 21 => u = .bool true
                | 22 => u = .bool true
                | 23 => u = .int .i64 E2
                | 24 => u = .int .i64 E2
                | 25 => u = .bool true
                | 26 => u = .bool true
                | 27 => u = .bool true
                | 28 => u = rv
                | 29 => u = u15
                | 30 => u = .bool true
                | 31 => u = .bool true
                | 32 => u = .bool true
                | 33 => u = ru
                | 34 => u = u16
                | 35 => u = .bool true
                | 36 => u = .bool true
                | 37 => u = .bool true
                | 38 => u = .bool true
                | 39 => u = .bool true
                | 40 => u = .bool true
                | _ => True)
            (fun _ => 0) (by kernel_rfl) (by kernel_rfl) (by kernel_rfl) ?start13 ?stable13 ?step13 ?fin13
          case start13 => exact HA4.out.below (below_drewN (Below.refl _ _) 1)
          case stable13 =>
            intro i u W W' h hG
            match i with
            | 0 | 1 | 2 | 3 | 4 | 5 | 6 | 7 | 8 | 9 | 10 | 11 | 12 | 13 | 14 | 15 | 16 | 17 | 18 | 19 | 20 | 21 | 22 | 23 | 24 | 25 | 26 | 27 | 28 | 29 | 30 | 31 | 32 | 33 | 34 | 35 | 36 | 37 | 38 | 39 | 40 | _ + 41 => exact h
          case step13 =>
            refine ⟨?_, ?_, ?_, ?_, ?_, ?_, ?_, ?_, ?_, ?_, ?_, ?_, ?_, ?_, ?_, ?_, ?_, ?_, ?_, ?_, ?_, ?_, ?_, ?_, ?_, ?_, ?_, ?_, ?_, ?_, ?_, ?_, ?_, ?_, ?_, ?_, ?_, ?_, ?_, ?_, ?_, trivial⟩
            · exact step_run rfl rfl rfl fun a W m hp hI => ⟨_, _, ex_bnds rfl (show a.tmps.getD 4 undef = .pointer (some ⟨bb, 0, none⟩) from hp.old 4 (by kernel_rfl)) hI.box, rfl, .refl _ _ rfl, hI⟩
            · refine step_call (f := 16) (fun a => #[a.tmps.getD 71 undef]) rfl rfl rfl (fun a w => by simp [go_sem]) fun a W m hp hI => ?_
              have h1 : a.tmps.getD 71 undef = .agg #[.int .i64 m1, .int .i64 m2, .int .i64 m3, .int .i64 m4] := hp.pre 0 (by decide) _ rfl
              rw [h1]
              refine (checkBounds_any ⟨m1, m2, m3, m4⟩ W).mono ?_
              rintro e W' ⟨rfl, hb⟩
              exact ⟨_, rfl, rfl, .of_below hb, hI.below hb⟩
            · exact step_run rfl rfl rfl fun a W m hp hI => ⟨_, _, ex_bnds rfl (show a.tmps.getD 4 undef = .pointer (some ⟨bb, 0, none⟩) from hp.old 4 (by kernel_rfl)) hI.box, rfl, .refl _ _ rfl, hI⟩
            · refine step_call (f := 13) (fun a => #[a.tmps.getD 73 undef]) rfl rfl rfl (fun a w => by simp [go_sem]) fun a W m hp hI => ?_
              have h1 : a.tmps.getD 73 undef = .agg #[.int .i64 m1, .int .i64 m2, .int .i64 m3, .int .i64 m4] := hp.pre 2 (by decide) _ rfl
              rw [h1]
              refine (boundsFault_any ⟨m1, m2, m3, m4⟩ W).mono ?_
              rintro e W' ⟨rfl, hb⟩
              exact ⟨_, rfl, rfl, .of_below hb, hI.below hb⟩
            · refine step_run rfl rfl rfl fun a W m hp hI => ?_
              have h1 : a.tmps.getD 72 undef = .int .i64 (bfault ⟨m1, m2, m3, m4⟩) := hp.pre 1 (by decide) _ rfl
              have h2 : a.tmps.getD 74 undef = .int .i64 (bfault ⟨m1, m2, m3, m4⟩) := hp.pre 3 (by decide) _ rfl
              exact ⟨_, _, ex_bin rfl h1 h2 (by simp [go_sem]) (by simp [go_sem]), rfl, .refl _ _ rfl, hI⟩
            · exact step_run rfl rfl rfl fun a W m hp hI => ⟨_, _, ex_move rfl (show a.tmps.getD 75 undef = .bool true from hp.pre 4 (by decide) _ rfl), rfl, .refl _ _ rfl, hI⟩
            · exact stepg_run (k := 5) (d := 76) rfl rfl rfl (fun a W m hp => hp.pre 5 (by decide) _ rfl) rfl fun a W m hp hI => ⟨_, _, ex_move rfl (show a.tmps.getD 5 undef = x from hp.old 5 (by kernel_rfl)), rfl, .refl _ _ rfl, hI⟩
            · refine stepg_call (k := 5) (d := 76) (f := 17) (fun a => #[a.tmps.getD 77 undef]) rfl rfl rfl (fun a W m hp => hp.pre 5 (by decide) _ rfl) rfl (fun a w => by simp [go_sem]) fun a W m hp hI => ?_
              have h1 : a.tmps.getD 77 undef = x := hp.pre 6 (by decide) _ rfl
              rw [h1]
              refine (checkMoves_any hI.x rfl (by omega) HOX.out).mono ?_
              rintro e W' ⟨rfl, hb⟩
              exact ⟨_, rfl, rfl, .of_below hb, hI.below hb⟩
            · exact stepg_run (k := 5) (d := 76) rfl rfl rfl (fun a W m hp => hp.pre 5 (by decide) _ rfl) rfl fun a W m hp hI => ⟨_, _, ex_move rfl (show a.tmps.getD 5 undef = x from hp.old 5 (by kernel_rfl)), rfl, .refl _ _ rfl, hI⟩
            · refine stepg_call (k := 5) (d := 76) (f := 12) (fun a => #[a.tmps.getD 79 undef]) rfl rfl rfl (fun a W m hp => hp.pre 5 (by decide) _ rfl) rfl (fun a w => by simp [go_sem]) fun a W m hp hI => ?_
              have h1 : a.tmps.getD 79 undef = x := hp.pre 8 (by decide) _ rfl
              rw [h1]
              refine (movesFault_any hI.x rfl (by omega) HOX.out).mono ?_
              rintro e W' ⟨rfl, hb⟩
              exact ⟨_, rfl, rfl, .of_below hb, hI.below hb⟩
            · refine stepg_run (k := 5) (d := 76) rfl rfl rfl (fun a W m hp => hp.pre 5 (by decide) _ rfl) rfl fun a W m hp hI => ?_
              have h1 : a.tmps.getD 78 undef = .int .i64 (mfault lx) := hp.pre 7 (by decide) _ rfl
              have h2 : a.tmps.getD 80 undef = .int .i64 (mfault lx) := hp.pre 9 (by decide) _ rfl
              exact ⟨_, _, ex_bin rfl h1 h2 (by simp [go_sem]) (by simp [go_sem]), rfl, .refl _ _ rfl, hI⟩
            · exact step_run rfl rfl rfl fun a W m hp hI => ⟨_, _, ex_pick rfl (show a.tmps.getD 76 undef = .bool true from hp.pre 5 (by decide) _ rfl) (show a.tmps.getD 81 undef = .bool true from hp.pre 10 (by decide) _ rfl), rfl, .refl _ _ rfl, hI⟩
            · exact step_run rfl rfl rfl fun a W m hp hI => ⟨_, _, ex_move rfl (show a.tmps.getD 82 undef = .bool true from hp.pre 11 (by decide) _ rfl), rfl, .refl _ _ rfl, hI⟩
            · exact stepg_run (k := 12) (d := 83) rfl rfl rfl (fun a W m hp => hp.pre 12 (by decide) _ rfl) rfl fun a W m hp hI => ⟨_, _, ex_move rfl (show a.tmps.getD 8 undef = .int .i64 E1 from hp.old 8 (by kernel_rfl)), rfl, .refl _ _ rfl, hI⟩
            · exact stepg_run (k := 12) (d := 83) rfl rfl rfl (fun a W m hp => hp.pre 12 (by decide) _ rfl) rfl fun a W m hp hI => ⟨_, _, ex_move rfl (show a.tmps.getD 12 undef = .int .i64 E1 from hp.old 12 (by kernel_rfl)), rfl, .refl _ _ rfl, hI⟩
            · refine stepg_run (k := 12) (d := 83) rfl rfl rfl (fun a W m hp => hp.pre 12 (by decide) _ rfl) rfl fun a W m hp hI => ?_
              have h1 : a.tmps.getD 84 undef = .int .i64 E1 := hp.pre 13 (by decide) _ rfl
              have h2 : a.tmps.getD 85 undef = .int .i64 E1 := hp.pre 14 (by decide) _ rfl
              exact ⟨_, _, ex_bin rfl h1 h2 (by simp [go_sem]) (by simp [go_sem]), rfl, .refl _ _ rfl, hI⟩
            · exact step_run rfl rfl rfl fun a W m hp hI => ⟨_, _, ex_pick rfl (show a.tmps.getD 83 undef = .bool true from hp.pre 12 (by decide) _ rfl) (show a.tmps.getD 86 undef = .bool true from hp.pre 15 (by decide) _ rfl), rfl, .refl _ _ rfl, hI⟩
            · exact step_run rfl rfl rfl fun a W m hp hI => ⟨_, _, ex_move rfl (show a.tmps.getD 87 undef = .bool true from hp.pre 16 (by decide) _ rfl), rfl, .refl _ _ rfl, hI⟩
            · exact stepg_run (k := 17) (d := 88) rfl rfl rfl (fun a W m hp => hp.pre 17 (by decide) _ rfl) rfl fun a W m hp hI => ⟨_, _, ex_move rfl (show a.tmps.getD 7 undef = mg from hp.old 7 (by kernel_rfl)), rfl, .refl _ _ rfl, hI⟩
            · exact stepg_run (k := 17) (d := 88) rfl rfl rfl (fun a W m hp => hp.pre 17 (by decide) _ rfl) rfl fun a W m hp hI => ⟨_, _, ex_move rfl (show a.tmps.getD 14 undef = u14 from hp.old 14 (by kernel_rfl)), rfl, .refl _ _ rfl, hI⟩
            · refine stepg_call (k := 17) (d := 88) (f := 18) (fun a => #[a.tmps.getD 89 undef, a.tmps.getD 90 undef]) rfl rfl rfl (fun a W m hp => hp.pre 17 (by decide) _ rfl) rfl (fun a w => by simp [go_sem]) fun a W m hp hI => ?_
              have h1 : a.tmps.getD 89 undef = mg := hp.pre 18 (by decide) _ rfl
              have h2 : a.tmps.getD 90 undef = u14 := hp.pre 19 (by decide) _ rfl
              rw [h1, h2]
              refine (equalMv_same hI.m hI.n).mono ?_
              rintro e W' ⟨rfl, hd⟩
              exact ⟨_, rfl, rfl, hd.gb, hI.drew hd⟩
            · exact step_run rfl rfl rfl fun a W m hp hI => ⟨_, _, ex_pick rfl (show a.tmps.getD 88 undef = .bool true from hp.pre 17 (by decide) _ rfl) (show a.tmps.getD 91 undef = .bool true from hp.pre 20 (by decide) _ rfl), rfl, .refl _ _ rfl, hI⟩
            · exact step_run rfl rfl rfl fun a W m hp hI => ⟨_, _, ex_move rfl (show a.tmps.getD 92 undef = .bool true from hp.pre 21 (by decide) _ rfl), rfl, .refl _ _ rfl, hI⟩
            · exact stepg_run (k := 22) (d := 93) rfl rfl rfl (fun a W m hp => hp.pre 22 (by decide) _ rfl) rfl fun a W m hp hI => ⟨_, _, ex_move rfl (show a.tmps.getD 11 undef = .int .i64 E2 from hp.old 11 (by kernel_rfl)), rfl, .refl _ _ rfl, hI⟩
            · exact stepg_run (k := 22) (d := 93) rfl rfl rfl (fun a W m hp => hp.pre 22 (by decide) _ rfl) rfl fun a W m hp hI => ⟨_, _, ex_move rfl (show a.tmps.getD 13 undef = .int .i64 E2 from hp.old 13 (by kernel_rfl)), rfl, .refl _ _ rfl, hI⟩
            · refine stepg_run (k := 22) (d := 93) rfl rfl rfl (fun a W m hp => hp.pre 22 (by decide) _ rfl) rfl fun a W m hp hI => ?_
              have h1 : a.tmps.getD 94 undef = .int .i64 E2 := hp.pre 23 (by decide) _ rfl
              have h2 : a.tmps.getD 95 undef = .int .i64 E2 := hp.pre 24 (by decide) _ rfl
              exact ⟨_, _, ex_bin rfl h1 h2 (by simp [go_sem]) (by simp [go_sem]), rfl, .refl _ _ rfl, hI⟩
            · exact step_run rfl rfl rfl fun a W m hp hI => ⟨_, _, ex_pick rfl (show a.tmps.getD 93 undef = .bool true from hp.pre 22 (by decide) _ rfl) (show a.tmps.getD 96 undef = .bool true from hp.pre 25 (by decide) _ rfl), rfl, .refl _ _ rfl, hI⟩
            · exact step_run rfl rfl rfl fun a W m hp hI => ⟨_, _, ex_move rfl (show a.tmps.getD 97 undef = .bool true from hp.pre 26 (by decide) _ rfl), rfl, .refl _ _ rfl, hI⟩
            · exact stepg_run (k := 27) (d := 98) rfl rfl rfl (fun a W m hp => hp.pre 27 (by decide) _ rfl) rfl fun a W m hp hI => ⟨_, _, ex_move rfl (show a.tmps.getD 9 undef = rv from hp.old 9 (by kernel_rfl)), rfl, .refl _ _ rfl, hI⟩
            · exact stepg_run (k := 27) (d := 98) rfl rfl rfl (fun a W m hp => hp.pre 27 (by decide) _ rfl) rfl fun a W m hp hI => ⟨_, _, ex_move rfl (show a.tmps.getD 15 undef = u15 from hp.old 15 (by kernel_rfl)), rfl, .refl _ _ rfl, hI⟩
            · refine stepg_call (k := 27) (d := 98) (f := 19) (fun a => #[a.tmps.getD 99 undef, a.tmps.getD 100 undef]) rfl rfl rfl (fun a W m hp => hp.pre 27 (by decide) _ rfl) rfl (fun a w => by simp [go_sem]) fun a W m hp hI => ?_
              have h1 : a.tmps.getD 99 undef = rv := hp.pre 28 (by decide) _ rfl
              have h2 : a.tmps.getD 100 undef = u15 := hp.pre 29 (by decide) _ rfl
              rw [h1, h2]
              refine (equalInts_same (by simp) hI.v hI.s).mono ?_
              rintro e W' ⟨rfl, hd⟩
              exact ⟨_, rfl, rfl, hd.gb, hI.drew hd⟩
            · exact step_run rfl rfl rfl fun a W m hp hI => ⟨_, _, ex_pick rfl (show a.tmps.getD 98 undef = .bool true from hp.pre 27 (by decide) _ rfl) (show a.tmps.getD 101 undef = .bool true from hp.pre 30 (by decide) _ rfl), rfl, .refl _ _ rfl, hI⟩
            · exact step_run rfl rfl rfl fun a W m hp hI => ⟨_, _, ex_move rfl (show a.tmps.getD 102 undef = .bool true from hp.pre 31 (by decide) _ rfl), rfl, .refl _ _ rfl, hI⟩
            · exact stepg_run (k := 32) (d := 103) rfl rfl rfl (fun a W m hp => hp.pre 32 (by decide) _ rfl) rfl fun a W m hp hI => ⟨_, _, ex_move rfl (show a.tmps.getD 10 undef = ru from hp.old 10 (by kernel_rfl)), rfl, .refl _ _ rfl, hI⟩
            · exact stepg_run (k := 32) (d := 103) rfl rfl rfl (fun a W m hp => hp.pre 32 (by decide) _ rfl) rfl fun a W m hp hI => ⟨_, _, ex_move rfl (show a.tmps.getD 16 undef = u16 from hp.old 16 (by kernel_rfl)), rfl, .refl _ _ rfl, hI⟩
            · refine stepg_call (k := 32) (d := 103) (f := 20) (fun a => #[a.tmps.getD 104 undef, a.tmps.getD 105 undef]) rfl rfl rfl (fun a W m hp => hp.pre 32 (by decide) _ rfl) rfl (fun a w => by simp [go_sem]) fun a W m hp hI => ?_
              have h1 : a.tmps.getD 104 undef = ru := hp.pre 33 (by decide) _ rfl
              have h2 : a.tmps.getD 105 undef = u16 := hp.pre 34 (by decide) _ rfl
              rw [h1, h2]
              refine (equalErrs_same (by simp) hI.u hI.t).mono ?_
              rintro e W' ⟨rfl, hd⟩
              exact ⟨_, rfl, rfl, hd.gb, hI.drew hd⟩
            · exact step_run rfl rfl rfl fun a W m hp hI => ⟨_, _, ex_pick rfl (show a.tmps.getD 103 undef = .bool true from hp.pre 32 (by decide) _ rfl) (show a.tmps.getD 106 undef = .bool true from hp.pre 35 (by decide) _ rfl), rfl, .refl _ _ rfl, hI⟩
            · exact step_run rfl rfl rfl fun a W m hp hI => ⟨_, _, ex_move rfl (show a.tmps.getD 107 undef = .bool true from hp.pre 36 (by decide) _ rfl), rfl, .refl _ _ rfl, hI⟩
            · refine stepg_call (k := 37) (d := 108) (f := 21) (fun a => #[]) rfl rfl rfl (fun a W m hp => hp.pre 37 (by decide) _ rfl) rfl (fun a w => by simp [go_sem]) fun a W m hp hI => ?_
              refine (kept_any W).mono ?_
              rintro e W' ⟨rfl, hb⟩
              exact ⟨_, rfl, rfl, .of_below hb, hI.below hb⟩
            · exact step_run rfl rfl rfl fun a W m hp hI => ⟨_, _, ex_pick rfl (show a.tmps.getD 108 undef = .bool true from hp.pre 37 (by decide) _ rfl) (show a.tmps.getD 109 undef = .bool true from hp.pre 38 (by decide) _ rfl), rfl, .refl _ _ rfl, hI⟩
            · exact step_run rfl rfl rfl fun a W m hp hI => ⟨_, _, ex_assign rfl (show a.tmps.getD 110 undef = .bool true from hp.pre 39 (by decide) _ rfl), rfl, .refl _ _ rfl, hI⟩
          case fin13 =>
            intro vs W hl hI hall
            have hl : vs.length = 41 := hl
            obtain ⟨v0, t0, rfl, hl0⟩ := len_cons hl
            obtain ⟨v1, t1, rfl, hl1⟩ := len_cons hl0
            obtain ⟨v2, t2, rfl, hl2⟩ := len_cons hl1
            obtain ⟨v3, t3, rfl, hl3⟩ := len_cons hl2
            obtain ⟨v4, t4, rfl, hl4⟩ := len_cons hl3
            obtain ⟨v5, t5, rfl, hl5⟩ := len_cons hl4
            obtain ⟨v6, t6, rfl, hl6⟩ := len_cons hl5
            obtain ⟨v7, t7, rfl, hl7⟩ := len_cons hl6
            obtain ⟨v8, t8, rfl, hl8⟩ := len_cons hl7
            obtain ⟨v9, t9, rfl, hl9⟩ := len_cons hl8
            obtain ⟨v10, t10, rfl, hl10⟩ := len_cons hl9
            obtain ⟨v11, t11, rfl, hl11⟩ := len_cons hl10
            obtain ⟨v12, t12, rfl, hl12⟩ := len_cons hl11
            obtain ⟨v13, t13, rfl, hl13⟩ := len_cons hl12
            obtain ⟨v14, t14, rfl, hl14⟩ := len_cons hl13
            obtain ⟨v15, t15, rfl, hl15⟩ := len_cons hl14
            obtain ⟨v16, t16, rfl, hl16⟩ := len_cons hl15
            obtain ⟨v17, t17, rfl, hl17⟩ := len_cons hl16
            obtain ⟨v18, t18, rfl, hl18⟩ := len_cons hl17
            obtain ⟨v19, t19, rfl, hl19⟩ := len_cons hl18
            obtain ⟨v20, t20, rfl, hl20⟩ := len_cons hl19
            obtain ⟨v21, t21, rfl, hl21⟩ := len_cons hl20
            obtain ⟨v22, t22, rfl, hl22⟩ := len_cons hl21
            obtain ⟨v23, t23, rfl, hl23⟩ := len_cons hl22
            obtain ⟨v24, t24, rfl, hl24⟩ := len_cons hl23
            obtain ⟨v25, t25, rfl, hl25⟩ := len_cons hl24
            obtain ⟨v26, t26, rfl, hl26⟩ := len_cons hl25
            obtain ⟨v27, t27, rfl, hl27⟩ := len_cons hl26
            obtain ⟨v28, t28, rfl, hl28⟩ := len_cons hl27
            obtain ⟨v29, t29, rfl, hl29⟩ := len_cons hl28
            obtain ⟨v30, t30, rfl, hl30⟩ := len_cons hl29
            obtain ⟨v31, t31, rfl, hl31⟩ := len_cons hl30
            obtain ⟨v32, t32, rfl, hl32⟩ := len_cons hl31
            obtain ⟨v33, t33, rfl, hl33⟩ := len_cons hl32
            obtain ⟨v34, t34, rfl, hl34⟩ := len_cons hl33
            obtain ⟨v35, t35, rfl, hl35⟩ := len_cons hl34
            obtain ⟨v36, t36, rfl, hl36⟩ := len_cons hl35
            obtain ⟨v37, t37, rfl, hl37⟩ := len_cons hl36
            obtain ⟨v38, t38, rfl, hl38⟩ := len_cons hl37
            obtain ⟨v39, t39, rfl, hl39⟩ := len_cons hl38
            obtain ⟨v40, t40, rfl, hl40⟩ := len_cons hl39
            obtain rfl := List.eq_nil_of_length_eq_zero hl40
            · skip
              obtain ⟨_, _, _, _, _, _, _, _, _, _, _, _, _, _, _, _, _, _, _, _, _, _, _, _, _, _, _, _, _, _, _, _, _, _, _, _, _, _, _, _, q40, _⟩ := hall
              have q40 : v40 = .bool true := q40
              subst q40
              simp only [putAll, Act.put, List.setIfInBounds_toArray, List.set_cons_succ, List.set_cons_zero]
              have HI := Lib.hid hI
              clear hI
              go_wp2
              go_ret
              exact ⟨rfl, HI.out.bel⟩
end Go.Proofs.YtfmffobdkfgekaaGreat
/- What the rows' proofs share: one slice of numbers comes in, a bool goes out. -/
set_option linter.unusedVariables false
set_option linter.unusedSimpArgs false
namespace Go.Proofs.YtfmffobdkfgekaaGreat
open Go.RowKit Go.ChangeShapes Go.WideShapes Go.ChangeAt

theorem Tryz.own : ownKnob Tryz.prog.godebug = none := by kernel_rfl
theorem Tryz.cells3 : Tryz.prog.cellsOf 3 = 1 := by kernel_rfl
theorem Tryz.bytes3 : Tryz.prog.bytesOf 3 = 8 := by kernel_rfl
theorem wf_range {z : Int} (h : (Lit.int .i64 z).wf = true) : -9223372036854775808 ≤ z ∧ z ≤ 9223372036854775807 := by
  have h1 : IntKind.i64.min = -9223372036854775808 := rfl
  have h2 : IntKind.i64.max = 9223372036854775807 := rfl
  simp only [Lit.wf, Bool.and_eq_true, decide_eq_true_eq] at h
  omega
end Go.Proofs.YtfmffobdkfgekaaGreat
/- For every list of numbers, the law MovesFollowed answers true, and the list reads afterwards as before: Merge, Refused and the checks answer as the reference does. No condition. -/
set_option linter.unusedVariables false
set_option linter.unusedSimpArgs false
namespace Go.Proofs.YtfmffobdkfgekaaGreat
open Go.RowKit Go.ChangeShapes Go.WideShapes Go.ChangeAt

set_option maxRecDepth 100000 in
theorem moves_lifted (os : Os) (started : os.Started) (H : Type) (enc : TypeId × Value → H) :
    ReturnsInHanded {} Tryz.checked os 3 .any (Rows.movesFollowedSpec.pre6 enc Tryz.prog Tryz.f3 Rows.movesFollowedRow.domain false) (Rows.movesFollowedSpec.post enc Tryz.prog Tryz.f3 false true false false) := by
  refine returnsInHanded_of_change_sized (C := Tryz.checked) Tryz.own started (by kernel_rfl) Tryz.func3
    (ChangeSpec.witness6 (enc := enc) (C := Tryz.checked) false ⟨#[], #[.slice none 0 0], []⟩ 8 (by kernel_rfl) (by kernel_rfl) (by kernel_rfl) (by kernel_rfl)) ?_
  intro W base args ds gs before hval0 hW _ hsz0 _
  have hsz : (DataW.weightsEach Tryz.prog (Tryz.f3.params.toList ++ Rows.movesFollowedSpec.plain.varTypes Tryz.prog) (ds ++ gs)).all (· ≤ reachBytes) = true := hsz0
  clear hsz0
  have hval : ∀ (j : Nat) t v, Tryz.f3.params[j]? = some t → args[j]? = some v → Value.okWide Tryz.prog W .any base t v := hval0
  have hW' := hW
  obtain ⟨p, q, hA0, hV, rfl, _, _⟩ := hW
  have hA : DataW.TrodAll enc Tryz.prog W 0 (fun _ => true) true Tryz.f3.params.toList args.toList ds p := hA0
  rw [Tryz.params3] at hA hval hsz
  obtain ⟨v0, d0, rfl, rfl, h0⟩ := trodAll_one hA
  obtain ⟨rfl, rfl⟩ := trodVars_none hV
  obtain ⟨a0, len, cap, rfl⟩ := okWide_slice Tryz.underlying22 (hval 0 22 v0 rfl rfl)
  have h0k := h0
  obtain ⟨fuel, hf⟩ := h0
  clear hA0 hval0
  simp only [List.append_nil] at hW'
  have hlt : ∀ x ∈ p, x.block < W.heap.size := fun x hx => by simpa using hW'.lt x (by simpa using hx)
  have hargs : ∀ (W' : World), Below W.heap.size W W' → DataW.Trod enc Tryz.prog W' 0 (fun b => decide (b < W.heap.size)) true 22 (.slice a0 len cap) d0 p :=
    fun W' hn => Below.trod laidOut (by kernel_rfl) (of_decide_eq_true (by kernel_rfl)) h0k hn hlt
  have fin : IntsIn W a0 len → Calls Tryz.checked.prog 3 #[.slice a0 len cap] W fun e W' => ∃ v, e = Ending.returned v ∧ Rows.movesFollowedSpec.post enc Tryz.checked.prog Tryz.f3 false true false false W #[.slice a0 len cap] v W' := by
    intro hin
    refine (law2_any a0 len cap W hin).mono fun e W' ⟨he, hnx⟩ => ?_
    subst he
    exact ⟨_, rfl, _, _, _, [], p, [], hW', trodAll_mk1 (shut_bool Tryz.underlying4 _), trodAll_mk1 (hargs _ hnx), rfl, hnx.frame _, fun h => by cases h⟩
  rcases open_ints Tryz.underlying22 Tryz.underlying3 Tryz.cells3 hf with ⟨hcs, hx⟩ | ⟨a, len', cap', zs, hcs, _, hl, hm, hz, hx, hcell, hwz⟩
  · simp [Value.cells] at hcs
    obtain ⟨rfl, rfl, rfl⟩ := hcs
    exact fin ⟨by omega, fun i hi => by omega⟩
  · simp [Value.cells] at hcs
    obtain ⟨rfl, rfl, rfl⟩ := hcs
    simp only [Prod.mk.injEq] at hx
    obtain ⟨rfl, rfl⟩ := hx
    simp only [if_true] at hz
    have hreach : len * 8 ≤ 140737488351232 := by
      have := sized_slice hsz (j := 0) (t := 22) (e := 3) rfl rfl Tryz.underlying22
      rw [Tryz.bytes3] at this
      simp only [lits, List.length_map, List.length_take, List.length_drop, reachBytes] at this
      omega
    refine fin ⟨by omega, fun i hi => ?_⟩
    obtain ⟨b, off, spot⟩ := a
    have hspot : spot = none := by simpa [Addr.add] using World.cell?_spot (hcell 0 (by omega))
    subst hspot
    have hbW : b < W.heap.size := hlt (.cell b off) (MemPlace.mem_row.2 ⟨0, by omega, by simp⟩)
    refine ⟨b, off, zs.getD i 0, rfl, hbW, by rw [← add_plain]; exact hcell i (by omega), wf_range (hwz _ ?_)⟩
    rw [List.getD_eq_getElem?_getD, List.getElem?_eq_getElem (by omega)]
    exact List.getElem_mem _
theorem movesFollowed_holds : Rows.MovesFollowedSaid :=
  OpenClaim.holds_of_wide 3 Tryz.f3 rfl rfl rfl rfl rfl rfl rfl ⟨rfl, rfl, rfl, rfl, rfl⟩ rfl rfl rfl rfl rfl (by kernel_rfl) Tryz.func3 (by kernel_rfl)
    (of_decide_eq_true (by kernel_rfl)) (by unfold Func.isWrapper; first | (rw [if_pos (by decide +kernel)]; kernel_rfl) | (rw [if_neg (by decide +kernel)]; exact ⟨rfl, rfl⟩))
    (fun os started H enc _ => moves_lifted os started H enc)
end Go.Proofs.YtfmffobdkfgekaaGreat
