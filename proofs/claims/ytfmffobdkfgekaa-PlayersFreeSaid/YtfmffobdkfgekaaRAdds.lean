/- roster.Adds. -/
import Derived.Test.YtfmffobdkfgekaaROwner
set_option linter.unusedVariables false
set_option linter.unusedSimpArgs false
namespace Go.Proofs.Ytfmffobdkfgekaa
open Go.RowKit Go.Maps

theorem inv_fold {b : Bd} {u : Int} : ∀ (l : List Mv) (K : Book) (n : Nat), BInv b n K → (∀ x ∈ l, x.ok) → BInv b (n + l.length) (l.foldl (stepB u) K)
  | [], K, n, h, _ => h
  | x :: l, K, n, h, hok => by
    have hx := hok x (by simp)
    have h1 : BInv b (n + 1) (stepB u K x) := by
      unfold stepB
      split
      · exact inv_step h x hx
      · exact h.mono (Nat.le_succ n)
    have := inv_fold (u := u) l (stepB u K x) (n + 1) h1 fun y hy => hok y (by simp [hy])
    rw [List.length_cons, show n + (l.length + 1) = n + 1 + l.length by omega]
    exact this
theorem bookAt_inv (b : Bd) (l : List Mv) (u : Int) (hok : ∀ x ∈ l, x.ok) : BInv b l.length (bookAt b l u) := by
  have := inv_fold (u := u) l (book0 b) 0 (inv0 b) hok
  rwa [Nat.zero_add] at this
structure AddsAt (lo : Nat) (w0 : World) (b : Bd) (v : Value) (n : Nat) (l : List Mv) (w : World) : Prop where
  box : w.heap[w0.heap.size]? = some (.cells #[.int .i64 b.most, .int .i64 b.hurt, .int .i64 b.adds, .int .i64 b.hold] 27 (0, 0))
  mv : Sl lo w v 4 n (l.flatMap Mv.c)
  bel : Below w0.heap.size w0 w
  low : w0.heap.size < w.heap.size
theorem BookIn.gb {lo : Nat} {w w' : World} {kb bp bh bo bd ba : Nat} {K : Book} (h : BookIn lo w kb bp bh bo bd ba K) (hb : GB w w') : BookIn lo w' kb bp bh bo bd ba K := by
  obtain ⟨h1, h2, h3, ⟨P, p1, p2, p3⟩, ⟨H, q1, q2⟩, ⟨O, o1, o2⟩, ⟨D, d1, d2⟩, ⟨A, a1, a2⟩⟩ := h
  exact ⟨h1, h2, (hb.block _ (Array.getElem?_eq_some_iff.1 h3).1).trans h3, ⟨P, p1.keep (hb.block _ p1.lt), fun t => hb.sl (p2 t), p3⟩, ⟨H, q1.keep (hb.block _ q1.lt), fun t => hb.sl (q2 t)⟩, ⟨O, o1.keep (hb.block _ o1.lt), o2⟩, ⟨D, d1.keep (hb.block _ d1.lt), d2⟩, ⟨A, a1.keep (hb.block _ a1.lt), a2⟩⟩
theorem ex_bounds {o : Oper} {ρ : Operand → Value} {x : Operand} {bb : Nat} {m1 m2 m3 m4 : Value} {w : World} (h : o.op = .load 27 x) (hx : ρ x = .pointer (some ⟨bb, 0, none⟩)) (hb : w.heap[bb]? = some (.cells #[m1, m2, m3, m4] 27 (0, 0))) : (execOp ρ o).run Try.prog w = .ok (.value (.agg #[m1, m2, m3, m4])) w := by
  obtain ⟨hc, hf⟩ := row_cells hb
  simp [execOp, h, hx, hc, go_sem, Result.andThen]
set_option maxHeartbeats 400000 in
set_option maxRecDepth 20000 in
theorem adds_any {lo : Nat} {w : World} {v : Value} {n : Nat} {l : List Mv} (b : Bd) (s : ByteArray) (t : Int) (h : Sl lo w v 4 n (l.flatMap Mv.c)) (hl : l.length = n) (hn : n ≤ 800) (hok : ∀ x ∈ l, x.ok) (hb : b.ok) (hs : s.size ≤ 1000) (ht : small t) :
    Calls Try.prog 13 #[b.v, v, .string s, .int .i64 t] w fun e w' => e = .returned (.tuple #[.int .i64 (if askedE b l s t = 0 then b.adds - (bookAt b l t).adds (s, weekOf t) else 0), .int .i64 (askedE b l s t)]) ∧ Below w.heap.size w w' := by
  have hA := (Below.refl w.heap.size w).alloc (Nat.le_refl _) (.cells #[.int .i64 b.most, .int .i64 b.hurt, .int .i64 b.adds, .int .i64 b.hold] 27)
  have hbox := heap_alloc_new w (.cells #[.int .i64 b.most, .int .i64 b.hurt, .int .i64 b.adds, .int .i64 b.hold] 27)
  have HC := Lib.hid (askedFault_any (w := w.alloc (.cells #[.int .i64 b.most, .int .i64 b.hurt, .int .i64 b.adds, .int .i64 b.hold] 27)) b s t (h.below hA) hl (by omega) hok hs)
  have HB := Lib.hid hbox
  have HA := Lib.hid hA
  have H := Lib.hid h
  have HOK := Lib.hid hb
  obtain ⟨m1, m2, m3, m4⟩ := b
  clear h hA hbox
  dsimp only [Bd.v] at *
  go_enter Try.func13, Try.ntmps13
  go_wp2_with fail
  refine HC.out.mono ?_
  rintro e w2 ⟨rfl, hb2⟩
  have H2 := Lib.hid (HA.out.trans (hb2.mono (by simp)))
  have hbx : w2.heap[w.heap.size]? = some (.cells #[.int .i64 m1, .int .i64 m2, .int .i64 m3, .int .i64 m4] 27 (0, 0)) := (hb2.block _ (by simp)).trans HB.out
  clear hb2
  obtain ⟨hcb, hfb⟩ := row_cells hbx
  generalize hf : askedE ⟨m1, m2, m3, m4⟩ l s t = f
  by_cases h0 : f = 0
  · subst h0
    have hwr := weekOf_range ht
    unfold weekOf at hwr
    have hwk : IntKind.i64.wrap (t.tdiv 604800000) = t.tdiv 604800000 := by generalize t.tdiv 604800000 = d at hwr ⊢; rw [IntKind.wrap_i64]; omega
    have hlt : w.heap.size < w2.heap.size := (Array.getElem?_eq_some_iff.1 hbx).1
    have HM := Lib.hid (H.out.below H2.out)
    go_wp2_with fail
    refine wp_region_rgs 0 (fun _ W => AddsAt lo w ⟨m1, m2, m3, m4⟩ v n l W) GB
      (fun i u W => match i with
        | 0 => u = .pointer (some ⟨w.heap.size, 2, none⟩) | 1 => u = .int .i64 m3 | 2 => u = .agg #[.int .i64 m1, .int .i64 m2, .int .i64 m3, .int .i64 m4]
        | 3 => u = v | 4 | 10 => u = .int .i64 t | 9 => u = .string s | 11 => u = .int .i64 (t.tdiv 604800000) | 12 => u = .agg #[.string s, .int .i64 (t.tdiv 604800000)]
        | 5 | 6 => ∃ kb bp bh bo bd ba, u = .pointer (some ⟨kb, 0, none⟩) ∧ BookIn 0 W kb bp bh bo bd ba (bookAt ⟨m1, m2, m3, m4⟩ l t)
        | 7 => ∃ kb bp bh bo bd ba, u = .pointer (some ⟨kb, 8, none⟩) ∧ BookIn 0 W kb bp bh bo bd ba (bookAt ⟨m1, m2, m3, m4⟩ l t)
        | 8 => ∃ kb bp bh bo bd ba, u = .map (some ba) ∧ BookIn 0 W kb bp bh bo bd ba (bookAt ⟨m1, m2, m3, m4⟩ l t)
        | 13 => u = .int .i64 ((bookAt ⟨m1, m2, m3, m4⟩ l t).adds (s, t.tdiv 604800000))
        | 14 | 15 => u = .int .i64 (IntKind.i64.wrap (m3 - (bookAt ⟨m1, m2, m3, m4⟩ l t).adds (s, t.tdiv 604800000)))
        | 16 => u = .int .i64 0
        | _ => True)
      (fun _ => 0) (by kernel_rfl) (by kernel_rfl) (by kernel_rfl) ?start ?stable ?step ?fin
    case start => exact ⟨hbx, HM.out, below_drewN H2.out 1, hlt⟩
    case stable =>
      intro i u W W' h hG
      match i with
      | 5 => obtain ⟨kb, bp, bh, bo, bd, ba, h1, h2⟩ := h; exact ⟨kb, bp, bh, bo, bd, ba, h1, h2.gb hG⟩
      | 6 => obtain ⟨kb, bp, bh, bo, bd, ba, h1, h2⟩ := h; exact ⟨kb, bp, bh, bo, bd, ba, h1, h2.gb hG⟩
      | 7 => obtain ⟨kb, bp, bh, bo, bd, ba, h1, h2⟩ := h; exact ⟨kb, bp, bh, bo, bd, ba, h1, h2.gb hG⟩
      | 8 => obtain ⟨kb, bp, bh, bo, bd, ba, h1, h2⟩ := h; exact ⟨kb, bp, bh, bo, bd, ba, h1, h2.gb hG⟩
      | 0 | 1 | 2 | 3 | 4 | 9 | 10 | 11 | 12 | 13 | 14 | 15 | 16 | _ + 17 => exact h
    case fin =>
      intro vs W hl2 hI hall
      match vs, hl2 with
      | [v0, v1, v2, v3, v4, v5, v6, v7, v8, v9, v10, v11, v12, v13, v14, v15, v16], _ =>
        obtain ⟨_, _, _, _, _, _, _, _, _, _, _, _, _, _, _, q15, q16, _⟩ := hall
        have q15 : v15 = .int .i64 (IntKind.i64.wrap (m3 - (bookAt ⟨m1, m2, m3, m4⟩ l t).adds (s, t.tdiv 604800000))) := q15
        have q16 : v16 = .int .i64 0 := q16
        have hba := (bookAt_inv ⟨m1, m2, m3, m4⟩ l t hok).ad (s, t.tdiv 604800000)
        have had := HOK.out.adds
        obtain ⟨had1, had2⟩ := had
        dsimp only at had1 had2
        have hw : IntKind.i64.wrap (m3 - (bookAt ⟨m1, m2, m3, m4⟩ l t).adds (s, t.tdiv 604800000)) = m3 - (bookAt ⟨m1, m2, m3, m4⟩ l t).adds (s, t.tdiv 604800000) := by rw [IntKind.wrap_i64]; omega
        rw [hw] at q15
        subst q15 q16
        have HBL := Lib.hid hI.bel
        clear hI hba hw had1 had2
        generalize hval : m3 - (bookAt ⟨m1, m2, m3, m4⟩ l t).adds (s, t.tdiv 604800000) = val
        have HV := Lib.hid hval
        clear hval
        simp only [putAll, Act.put, List.setIfInBounds_toArray, List.set_cons_succ, List.set_cons_zero]
        go_wp2
        refine bodyPost_ret (v := .tuple #[.int .i64 val, .int .i64 0]) (by simp [results, Try.results13, go_sem]) rfl ⟨?_, HBL.out⟩
        rw [← HV.out]; rfl
    case step =>
      refine ⟨?_, ?_, ?_, ?_, ?_, ?_, ?_, ?_, ?_, ?_, ?_, ?_, ?_, ?_, ?_, ?_, ?_, trivial⟩
      · exact step_run rfl rfl rfl fun a W m hp hI => ⟨_, _, ex_field (off := 2) rfl (show a.tmps.getD 4 undef = .pointer (some ⟨w.heap.size, 0, none⟩) from hp.old 4 (by kernel_rfl)) (fun w => by simp [Instr.fieldAt, go_sem]), congrArg (fun n => Value.pointer (some ⟨w.heap.size, n, none⟩)) (Nat.zero_add 2), .refl _ _ rfl, hI⟩
      · exact step_run rfl rfl rfl fun a W m hp hI => ⟨_, _, ex_load rfl (show a.tmps.getD 19 undef = .pointer (some ⟨w.heap.size, 2, none⟩) from hp.pre 0 (by decide) _ rfl) (fun w => by simp [isAgg, go_sem]) ((row_cells hI.box).1 2), rfl, .refl _ _ rfl, hI⟩
      · exact step_run rfl rfl rfl fun a W m hp hI => ⟨_, _, ex_bounds rfl (show a.tmps.getD 4 undef = .pointer (some ⟨w.heap.size, 0, none⟩) from hp.old 4 (by kernel_rfl)) hI.box, rfl, .refl _ _ rfl, hI⟩
      · exact step_run rfl rfl rfl fun a W m hp hI => ⟨_, _, ex_move rfl (show a.tmps.getD 1 undef = _ from hp.old 1 (by kernel_rfl)), rfl, .refl _ _ rfl, hI⟩
      · exact step_run rfl rfl rfl fun a W m hp hI => ⟨_, _, ex_move rfl (show a.tmps.getD 3 undef = _ from hp.old 3 (by kernel_rfl)), rfl, .refl _ _ rfl, hI⟩
      · refine step_call (f := 39) (fun a => #[a.tmps.getD 21 undef, a.tmps.getD 22 undef, a.tmps.getD 23 undef]) rfl rfl rfl (fun a w => by simp [go_sem]) fun a W m hp hI => ?_
        have h1 : a.tmps.getD 21 undef = .agg #[.int .i64 m1, .int .i64 m2, .int .i64 m3, .int .i64 m4] := hp.pre 2 (by decide) _ rfl
        have h2 : a.tmps.getD 22 undef = v := hp.pre 3 (by decide) _ rfl
        have h3 : a.tmps.getD 23 undef = .int .i64 t := hp.pre 4 (by decide) _ rfl
        rw [h1, h2, h3]
        refine (rat_any ⟨m1, m2, m3, m4⟩ t hI.mv hl hn hok HOK.out).mono ?_
        rintro e W' ⟨kb, bp, bh, bo, bd, ba, rfl, g1, g2, g3⟩
        exact ⟨_, rfl, ⟨kb, bp, bh, bo, bd, ba, rfl, g1.lower (Nat.zero_le _)⟩, .of_below g3, (g3.block _ hI.low).trans hI.box, hI.mv.below g3, hI.bel.trans (g3.mono (Nat.le_of_lt hI.low)), Nat.lt_of_lt_of_le hI.low g3.size⟩
      · refine step_run rfl rfl rfl fun a W m hp hI => ?_
        obtain ⟨kb, bp, bh, bo, bd, ba, h1, h2⟩ : ∃ kb bp bh bo bd ba, a.tmps.getD 24 undef = .pointer (some ⟨kb, 0, none⟩) ∧ BookIn 0 W kb bp bh bo bd ba (bookAt ⟨m1, m2, m3, m4⟩ l t) := hp.pre 5 (by decide) _ rfl
        exact ⟨_, _, ex_nil rfl h1, ⟨kb, bp, bh, bo, bd, ba, rfl, h2⟩, .refl _ _ rfl, hI⟩
      · refine step_run rfl rfl rfl fun a W m hp hI => ?_
        obtain ⟨kb, bp, bh, bo, bd, ba, h1, h2⟩ : ∃ kb bp bh bo bd ba, a.tmps.getD 25 undef = .pointer (some ⟨kb, 0, none⟩) ∧ BookIn 0 W kb bp bh bo bd ba (bookAt ⟨m1, m2, m3, m4⟩ l t) := hp.pre 6 (by decide) _ rfl
        exact ⟨_, _, ex_field (off := 8) rfl h1 (fun w => by simp [Instr.fieldAt, go_sem]), ⟨kb, bp, bh, bo, bd, ba, congrArg (fun n => Value.pointer (some ⟨kb, n, none⟩)) (Nat.zero_add 8), h2⟩, .refl _ _ rfl, hI⟩
      · refine step_run rfl rfl rfl fun a W m hp hI => ?_
        obtain ⟨kb, bp, bh, bo, bd, ba, h1, h2⟩ : ∃ kb bp bh bo bd ba, a.tmps.getD 26 undef = .pointer (some ⟨kb, 8, none⟩) ∧ BookIn 0 W kb bp bh bo bd ba (bookAt ⟨m1, m2, m3, m4⟩ l t) := hp.pre 7 (by decide) _ rfl
        exact ⟨_, _, ex_load rfl h1 (fun w => by simp [isAgg, go_sem]) ((row_cells h2.row).1 8), ⟨kb, bp, bh, bo, bd, ba, rfl, h2⟩, .refl _ _ rfl, hI⟩
      · exact step_run rfl rfl rfl fun a W m hp hI => ⟨_, _, ex_move rfl (show a.tmps.getD 2 undef = _ from hp.old 2 (by kernel_rfl)), rfl, .refl _ _ rfl, hI⟩
      · exact step_run rfl rfl rfl fun a W m hp hI => ⟨_, _, ex_move rfl (show a.tmps.getD 3 undef = _ from hp.old 3 (by kernel_rfl)), rfl, .refl _ _ rfl, hI⟩
      · refine step_run rfl rfl rfl fun a W m hp hI => ?_
        have h1 : a.tmps.getD 29 undef = .int .i64 t := hp.pre 10 (by decide) _ rfl
        exact ⟨_, _, ex_bin rfl h1 rfl (by simp [go_sem]) (by simp [go_sem, hwk]), rfl, .refl _ _ rfl, hI⟩
      · refine step_run rfl rfl rfl fun a W m hp hI => ?_
        have h1 : a.tmps.getD 28 undef = .string s := hp.pre 9 (by decide) _ rfl
        have h2 : a.tmps.getD 30 undef = .int .i64 (t.tdiv 604800000) := hp.pre 11 (by decide) _ rfl
        exact ⟨_, _, ex_build2 (r := .agg #[.string s, .int .i64 (t.tdiv 604800000)]) rfl h1 h2 (by simp [go_sem]), rfl, .refl _ _ rfl, hI⟩
      · refine step_run rfl rfl rfl fun a W m hp hI => ?_
        obtain ⟨kb, bp, bh, bo, bd, ba, h1, h2⟩ : ∃ kb bp bh bo bd ba, a.tmps.getD 27 undef = .map (some ba) ∧ BookIn 0 W kb bp bh bo bd ba (bookAt ⟨m1, m2, m3, m4⟩ l t) := hp.pre 8 (by decide) _ rfl
        have h3 : a.tmps.getD 31 undef = .agg #[.string s, .int .i64 (t.tdiv 604800000)] := hp.pre 12 (by decide) _ rfl
        obtain ⟨M, p1, p2⟩ := h2.ad
        have hr := lookWeek p1 hs hwr.1 hwr.2
        rw [p2] at hr
        exact ⟨_, _, ex_lookup rfl h1 h3 hr, rfl, .refl _ _ rfl, hI⟩
      · refine step_run rfl rfl rfl fun a W m hp hI => ?_
        have h1 : a.tmps.getD 20 undef = .int .i64 m3 := hp.pre 1 (by decide) _ rfl
        have h2 : a.tmps.getD 32 undef = .int .i64 ((bookAt ⟨m1, m2, m3, m4⟩ l t).adds (s, t.tdiv 604800000)) := hp.pre 13 (by decide) _ rfl
        exact ⟨_, _, ex_bin rfl h1 h2 (by simp [go_sem]) (by simp [go_sem]), rfl, .refl _ _ rfl, hI⟩
      · exact step_run rfl rfl rfl fun a W m hp hI => ⟨_, _, ex_assign rfl (show a.tmps.getD 33 undef = _ from rfl), hp.pre 14 (by decide) _ rfl, .refl _ _ rfl, hI⟩
      · exact step_run rfl rfl rfl fun a W m hp hI => ⟨_, _, ex_assign rfl rfl, rfl, .refl _ _ rfl, hI⟩
  · go_wp2
    refine bodyPost_ret (v := .tuple #[.int .i64 0, .int .i64 f]) (by simp [results, Try.results13, go_sem]) rfl ⟨rfl, H2.out⟩
end Go.Proofs.Ytfmffobdkfgekaa
