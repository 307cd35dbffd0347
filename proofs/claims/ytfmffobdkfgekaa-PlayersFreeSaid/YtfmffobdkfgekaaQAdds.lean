/- The reference: AddsLeft. -/
import Derived.Test.YtfmffobdkfgekaaQFree
set_option linter.unusedVariables false
set_option linter.unusedSimpArgs false
namespace Go.Proofs.Ytfmffobdkfgekaa
open Go.RowKit Go.Maps

theorem oinv_fold {b : Bd} {u : Int} : ∀ (l : List Mv) (O : Office) (n : Nat), OInv b n O → (∀ x ∈ l, x.ok) → OInv b (n + l.length) (l.foldl (stepO u) O)
  | [], O, n, h, _ => h
  | x :: l, O, n, h, hx => by
    have h2 : OInv b (n + 1) (stepO u O x) := by
      unfold stepO
      split
      · exact oinv_step h x (hx x (by simp))
      · exact h.mono (Nat.le_succ n)
    have := oinv_fold (u := u) l _ _ h2 fun y hy => hx y (by simp [hy])
    rw [List.length_cons, show n + (l.length + 1) = n + 1 + l.length by omega]
    exact this
theorem officeL_inv (b : Bd) (l : List Mv) (u : Int) (hok : ∀ x ∈ l, x.ok) : OInv b l.length (officeL b l u) := by
  have := oinv_fold (u := u) l (office0 b) 0 (oinv0 b) hok
  rwa [Nat.zero_add] at this
set_option maxHeartbeats 400000 in
set_option maxRecDepth 20000 in
theorem addsLeft_any {lo : Nat} {w : World} {v : Value} {n : Nat} {l : List Mv} (b : Bd) (s : ByteArray) (t : Int) (h : Sl lo w v 4 n (l.flatMap Mv.c)) (hl : l.length = n) (hn : n ≤ 800) (hok : ∀ x ∈ l, x.ok) (hb : b.ok) (hs : s.size ≤ 1000) (ht : small t) :
    Calls Try.prog 25 #[b.v, v, .string s, .int .i64 t] w fun e w' => e = .returned (.int .i64 (b.adds - (addedO (officeL b l t) s t : Nat))) ∧ Below w.heap.size w w' := by
  have hA := (Below.refl w.heap.size w).alloc (Nat.le_refl _) (.cells #[.int .i64 b.most, .int .i64 b.hurt, .int .i64 b.adds, .int .i64 b.hold] 27)
  have hbox := heap_alloc_new w (.cells #[.int .i64 b.most, .int .i64 b.hurt, .int .i64 b.adds, .int .i64 b.hold] 27)
  have hinv := officeL_inv b l t hok
  obtain ⟨k, hk⟩ : ∃ k, addedO (officeL b l t) s t = k := ⟨_, rfl⟩
  have hkn : k ≤ n := by
    rw [← hk, ← hl]
    exact Nat.le_trans (List.length_filter_le _ _) (hinv.al s)
  have hda := hb.adds
  have HV := Lib.hid hinv
  have HK := Lib.hid hk
  have HBX := Lib.hid hbox
  have HM := Lib.hid (h.below hA)
  have HA := Lib.hid hA
  have HOK := Lib.hid hb
  obtain ⟨m1, m2, m3, m4⟩ := b
  obtain ⟨a1, a2⟩ := hda
  have HW := Lib.hid (show IntKind.i64.wrap (m3 - (k : Int)) = m3 - (k : Int) by rw [IntKind.wrap_i64]; dsimp only at a1 a2; omega)
  clear h hA hbox hb hinv hk a1 a2
  dsimp only [Bd.v] at *
  go_enter Try.func25, Try.ntmps25
  go_wp2
  refine wp_region_rgs 0 (fun _ W => AddsAt lo w ⟨m1, m2, m3, m4⟩ v n l W) GB
    (fun i u W => match i with
        | 0 => u = .pointer (some ⟨w.heap.size, 2, none⟩)
        | 1 => u = .int .i64 m3
        | 2 => u = .agg #[.int .i64 m1, .int .i64 m2, .int .i64 m3, .int .i64 m4]
        | 3 => u = v
        | 4 => u = .int .i64 t
        | 5 => ∃ ob bm ba, u = .pointer (some ⟨ob, 0, none⟩) ∧ OfficeIn 0 W ob bm ba (officeL ⟨m1, m2, m3, m4⟩ l t)
        | 6 => u = .string s
        | 7 => u = .int .i64 t
        | 8 => u = .int .i64 (k : Nat)
        | 9 => u = .int .i64 (m3 - (k : Int))
        | 10 => u = .int .i64 (m3 - (k : Int))
        | _ => True)
    (fun _ => 0) (by kernel_rfl) (by kernel_rfl) (by kernel_rfl) ?start ?stable ?step ?fin
  case start => exact ⟨HBX.out, HM.out, below_drewN HA.out 1, by simp⟩
  case stable =>
    intro i u W W' h hG
    match i with
    | 5 =>
      obtain ⟨ob, bm, ba, h1, h2⟩ := h; exact ⟨ob, bm, ba, h1, h2.gb hG⟩
    | 0 | 1 | 2 | 3 | 4 | 6 | 7 | 8 | 9 | 10 | _ + 11 => exact h
  case step =>
    refine ⟨?_, ?_, ?_, ?_, ?_, ?_, ?_, ?_, ?_, ?_, ?_, trivial⟩
    · exact step_run rfl rfl rfl fun a W m hp hI => ⟨_, _, ex_field (off := 2) rfl (show a.tmps.getD 4 undef = .pointer (some ⟨w.heap.size, 0, none⟩) from hp.old 4 (by kernel_rfl)) (fun w => by simp [Instr.fieldAt, go_sem]), congrArg (fun n => Value.pointer (some ⟨w.heap.size, n, none⟩)) (show 0 + 2 = 2 from rfl), .refl _ _ rfl, hI⟩
    · exact step_run rfl rfl rfl fun a W m hp hI => ⟨_, _, ex_load rfl (show a.tmps.getD 9 undef = .pointer (some ⟨w.heap.size, 2, none⟩) from hp.pre 0 (by decide) _ rfl) (fun w => by simp [isAgg, go_sem]) ((row_cells hI.box).1 2), rfl, .refl _ _ rfl, hI⟩
    · exact step_run rfl rfl rfl fun a W m hp hI => ⟨_, _, ex_bounds rfl (show a.tmps.getD 4 undef = .pointer (some ⟨w.heap.size, 0, none⟩) from hp.old 4 (by kernel_rfl)) hI.box, rfl, .refl _ _ rfl, hI⟩
    · exact step_run rfl rfl rfl fun a W m hp hI => ⟨_, _, ex_move rfl (show a.tmps.getD 1 undef = v from hp.old 1 (by kernel_rfl)), rfl, .refl _ _ rfl, hI⟩
    · exact step_run rfl rfl rfl fun a W m hp hI => ⟨_, _, ex_move rfl (show a.tmps.getD 3 undef = .int .i64 t from hp.old 3 (by kernel_rfl)), rfl, .refl _ _ rfl, hI⟩
    · refine step_call (f := 46) (fun a => #[a.tmps.getD 11 undef, a.tmps.getD 12 undef, a.tmps.getD 13 undef]) rfl rfl rfl (fun a w => by simp [go_sem]) fun a W m hp hI => ?_
      have h1 : a.tmps.getD 11 undef = .agg #[.int .i64 m1, .int .i64 m2, .int .i64 m3, .int .i64 m4] := hp.pre 2 (by decide) _ rfl
      have h2 : a.tmps.getD 12 undef = v := hp.pre 3 (by decide) _ rfl
      have h3 : a.tmps.getD 13 undef = .int .i64 t := hp.pre 4 (by decide) _ rfl
      rw [h1, h2, h3]
      refine (officeAt_any ⟨m1, m2, m3, m4⟩ t hI.mv hl hn hok HOK.out).mono ?_
      rintro e W' ⟨ob, bm, ba, rfl, g1, g2, g3⟩
      exact ⟨_, rfl, ⟨ob, bm, ba, rfl, g1.lower (Nat.zero_le _)⟩, .of_below g3, (g3.block _ hI.low).trans hI.box, hI.mv.below g3, hI.bel.trans (g3.mono (Nat.le_of_lt hI.low)), Nat.lt_of_lt_of_le hI.low g3.size⟩
    · exact step_run rfl rfl rfl fun a W m hp hI => ⟨_, _, ex_move rfl (show a.tmps.getD 2 undef = .string s from hp.old 2 (by kernel_rfl)), rfl, .refl _ _ rfl, hI⟩
    · exact step_run rfl rfl rfl fun a W m hp hI => ⟨_, _, ex_move rfl (show a.tmps.getD 3 undef = .int .i64 t from hp.old 3 (by kernel_rfl)), rfl, .refl _ _ rfl, hI⟩
    · refine step_call (f := 49) (fun a => #[a.tmps.getD 14 undef, a.tmps.getD 15 undef, a.tmps.getD 16 undef]) rfl rfl rfl (fun a w => by simp [go_sem]) fun a W m hp hI => ?_
      obtain ⟨ob, bm, ba, h1, h2⟩ : ∃ ob bm ba, a.tmps.getD 14 undef = .pointer (some ⟨ob, 0, none⟩) ∧ OfficeIn 0 W ob bm ba (officeL ⟨m1, m2, m3, m4⟩ l t) := hp.pre 5 (by decide) _ rfl
      have h3 : a.tmps.getD 15 undef = .string s := hp.pre 6 (by decide) _ rfl
      have h4 : a.tmps.getD 16 undef = .int .i64 t := hp.pre 7 (by decide) _ rfl
      rw [h1, h3, h4]
      refine (added_any h2 s t hs ht (by have := HV.out.al s; omega) (HV.out.am s)).mono ?_
      rintro e W' ⟨rfl, rfl⟩
      exact ⟨_, rfl, congrArg (fun n : Nat => Value.int .i64 n) HK.out, .refl _ _ rfl, hI⟩
    · refine step_run rfl rfl rfl fun a W m hp hI => ?_
      have h1 : a.tmps.getD 10 undef = .int .i64 m3 := hp.pre 1 (by decide) _ rfl
      have h2 : a.tmps.getD 17 undef = .int .i64 (k : Nat) := hp.pre 8 (by decide) _ rfl
      exact ⟨_, _, ex_bin rfl h1 h2 (by simp [go_sem]) (by simp [go_sem, HW.out]), rfl, .refl _ _ rfl, hI⟩
    · exact step_run rfl rfl rfl fun a W m hp hI => ⟨_, _, ex_assign rfl (show a.tmps.getD 18 undef = .int .i64 (m3 - (k : Int)) from hp.pre 9 (by decide) _ rfl), rfl, .refl _ _ rfl, hI⟩
  case fin =>
    intro vs W hl2 hI hall
    match vs, hl2 with
    | [v0, v1, v2, v3, v4, v5, v6, v7, v8, v9, v10], _ =>
      obtain ⟨_, _, _, _, _, _, _, _, _, _, q10, _⟩ := hall
      have q10 : v10 = .int .i64 (m3 - (k : Int)) := q10
      subst q10
      simp only [putAll, Act.put, List.setIfInBounds_toArray, List.set_cons_succ, List.set_cons_zero]
      have HBL := Lib.hid hI.bel
      clear hI
      go_wp2
      go_ret
      exact ⟨by rw [HK.out]; rfl, HBL.out⟩
end Go.Proofs.Ytfmffobdkfgekaa
