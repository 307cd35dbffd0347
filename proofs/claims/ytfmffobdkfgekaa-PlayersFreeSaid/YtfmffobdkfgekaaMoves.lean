/- The maker of moves: it returns a list of moves, and turns the stream's own block alone. -/
import Derived.Test.YtfmffobdkfgekaaCompact
set_option linter.unusedVariables false
set_option linter.unusedSimpArgs false
namespace Go.Proofs.Ytfmffobdkfgekaa
open Go.RowKit

set_option maxHeartbeats 1000000 in
theorem moves_any (b n m : Nat) (w : World) (hs : SOk w b (n + 1 + m * 12)) (hm : m ≤ 20) :
    Calls Try.prog 5 #[.pointer (some ⟨b, 0, none⟩), .int .i64 m] w fun e w' => (∃ (v : Value) (l : List Mv), e = .returned v ∧ Sl w.heap.size w' v 4 l.length (l.flatMap Mv.c) ∧ l.length ≤ m ∧ ∀ x ∈ l, x.ok) ∧ St b n w w' := by
  have hlt := hs.lt
  obtain ⟨i0, hi, hz0, hz1, hz2⟩ := info_parts infoMove
  go_enter Try.func5, Try.ntmps5
  go_wp2_with fail
  refine (pick_any b (n + m * 12) 2 _ [0, 604799980] _ (((St.start hs).alloc _).mono (by omega)).s (Sl.lit rfl (by omega) rfl (by simp) (by omega)) (by omega)).mono ?_
  rintro e w1 ⟨⟨r1, rfl, hr1⟩, hs1, hg1⟩
  have st1 := ((St.start hs).alloc _).call hs1 hg1
  clear hs1 hg1
  go_wp2_with fail
  go_loopw [5, 6, 12] (fun out t i wr => ∃ (k : Nat) (l : List Mv) (x : Int), k ≤ m ∧ i = .int .i64 k ∧ t = .int .i64 x ∧ 0 ≤ x ∧ x ≤ 604799980 + 30 * k ∧ wr.ownsRow w.heap.size 61 4 out k (l.flatMap Mv.c) ∧ l.length = k ∧ (∀ y ∈ l, y.ok) ∧ St b (n + (m - k) * 12) w wr) (fun _ _ i _ => m - (intOf i).toNat)
  case atStart =>
    simp at hr1
    exact ⟨0, [], r1, by omega, rfl, rfl, by omega, by omega, World.ownsRow_nil _ _ _ _, rfl, by simp, st1⟩
  case round =>
    obtain ⟨k, l, x, hk, rfl, rfl, hx0, hx, hown, hlk, hok, st⟩ := hrel
    by_cases hlt2 : k < m
    · have e12 : n + (m - k) * 12 = (n + (m - (k + 1)) * 12) + 12 := by omega
      rw [e12] at st
      clear e12
      generalize hN : n + (m - (k + 1)) * 12 = N at st
      have HN := Lib.hid hN
      clear hN
      have st0 := St.start st.s
      go_wp2_with fail
      refine (pick_any b (N + 11) 5 _ [0, 1, 5, 10, 30] _ (st0.alloc _).s (Sl.lit rfl (by have := st.s.lt; omega) rfl (by simp) (by omega)) (by omega)).mono ?_
      rintro e w2 ⟨⟨r2, rfl, hr2⟩, hs2, hg2⟩
      have st2 := (st0.alloc _).call hs2 hg2
      have hr2' : 0 ≤ r2 ∧ r2 ≤ 30 := by simp at hr2; omega
      clear hs2 hg2 hr2
      go_wp2_with fail
      refine (pick_any b (N + 10) 8 _ [1, 1, 1, 1, 2, 2, 3, 4] _ (st2.alloc _).s (Sl.lit rfl (by have := st2.s.lt; omega) rfl (by simp) (by omega)) (by omega)).mono ?_
      rintro e w3 ⟨⟨r3, rfl, hr3⟩, hs3, hg3⟩
      have st3 := (st2.alloc _).call hs3 hg3
      have hr3' : 0 ≤ r3 ∧ r3 ≤ 30 := by simp at hr3; omega
      clear hs3 hg3 hr3
      go_wp2_with fail
      refine (some_any b (N + 9) 3 _ [⟨#[116, 120]⟩, ⟨#[116, 120]⟩, ⟨#[116, 121]⟩] _ (st3.alloc _).s (Sl.lit rfl (by have := st3.s.lt; omega) rfl (by simp) (by omega)) (by omega)).mono ?_
      rintro e w4 ⟨⟨s4, rfl, hr4⟩, hs4, hg4⟩
      have st4 := (st3.alloc _).call hs4 hg4
      have hr4' : s4.size ≤ 1000 := by
        simp at hr4
        rcases hr4 with rfl | rfl <;> decide
      clear hs4 hg4 hr4
      go_wp2_with fail
      refine (some_any b (N + 8) 5 _ [⟨#[112, 97]⟩, ⟨#[112, 98]⟩, ⟨#[112, 99]⟩, ⟨#[112, 100]⟩, ⟨#[112, 101]⟩] _ (st4.alloc _).s (Sl.lit rfl (by have := st4.s.lt; omega) rfl (by simp) (by omega)) (by omega)).mono ?_
      rintro e w5 ⟨⟨s5, rfl, hr5⟩, hs5, hg5⟩
      have st5 := (st4.alloc _).call hs5 hg5
      have hr5' : s5.size ≤ 1000 := by
        simp at hr5
        rcases hr5 with rfl | rfl | rfl | rfl | rfl <;> decide
      clear hs5 hg5 hr5
      go_wp2_with fail
      have stA := st5.alloc (.cells #[.int .i64 (x + r2), .int .i64 r3, .string s4, .string s5] 61)
      refine (flip_any b (N + 7) _ _ stA.s (by omega)).mono ?_
      rintro e w6 ⟨⟨f6, rfl⟩, hs6, hg6⟩
      have st6 := stA.call hs6 hg6
      have hm6 := ((St.start stA.s).call hs6 hg6).block (alloc_at _ rfl) (by have := st5.s.lt; omega)
      clear hs6 hg6
      have HM6 := Lib.hid hm6
      clear hm6
      go_upto_if 31 with fail
      go_cut [] (fun wx => ∃ mv : Mv, mv.ok ∧ wx.heap[w5.heap.size]? = some (.cells #[.int .i64 mv.time, .int .i64 mv.kind, .string mv.team, .string mv.player] 61 (0, 0)) ∧ St b N wr wx)
      case first =>
        cases f6
        · go_wp2
          go_meet
          case rel => exact ⟨⟨x + r2, r3, s4, s5⟩, ⟨⟨by dsimp only; omega, by dsimp only; omega⟩, ⟨by dsimp only; omega, by dsimp only; omega⟩, hr4', hr5'⟩, HM6.out, st6.mono (by omega)⟩
        · go_wp2_with fail
          have hblk : b < w5.heap.size := st5.s.lt
          refine wp_region_rgs 0 (fun n w => ∃ mv : Mv, mv.ok ∧ w.heap[w5.heap.size]? = some (.cells #[.int .i64 mv.time, .int .i64 mv.kind, .string mv.team, .string mv.player] 61 (0, 0)) ∧ St b (N + n) wr w)
            (fun w w' => w.heap.size ≤ w'.heap.size ∧ ∀ i, i < w.heap.size → i ≠ b → i ≠ w5.heap.size → w'.heap[i]? = w.heap[i]?)
            (fun i v w => match i with
              | 0 => v = .pointer (some ⟨b, 0, none⟩) | 2 => v = .pointer (some ⟨b, 0, none⟩) | 4 => v = .pointer (some ⟨b, 0, none⟩) | 9 => v = .pointer (some ⟨b, 0, none⟩)
              | 1 => ∃ r, v = .int .i64 r ∧ small r | 3 => ∃ r, v = .int .i64 r ∧ small r
              | 5 => v = .pointer (some ⟨w5.heap.size, 2, none⟩) | 10 => v = .pointer (some ⟨w5.heap.size, 3, none⟩)
              | 6 => ∃ s, v = .string s ∧ s.size ≤ 1000 | 11 => ∃ s, v = .string s ∧ s.size ≤ 1000
              | 7 => ∃ s : ByteArray, s.size ≤ 1000 ∧ Sl (w5.heap.size + 1) w v 1 2 [.string ⟨#[]⟩, .string s] | 12 => ∃ s : ByteArray, s.size ≤ 1000 ∧ Sl (w5.heap.size + 1) w v 1 2 [.string ⟨#[65]⟩, .string s]
              | 8 => ∃ s, v = .string s ∧ s.size ≤ 1000 | 13 => ∃ s, v = .string s ∧ s.size ≤ 1000
              | 14 => v = .pointer (some ⟨w5.heap.size, 0, none⟩) | 16 => v = .pointer (some ⟨w5.heap.size, 1, none⟩) | 18 => v = .pointer (some ⟨w5.heap.size, 2, none⟩) | 20 => v = .pointer (some ⟨w5.heap.size, 3, none⟩)
              | _ => True)
            (fun i => match i with | 1 => 2 | 3 => 2 | 8 => 1 | 13 => 1 | _ => 0) (by kernel_rfl) (by kernel_rfl) (by kernel_rfl) ?start ?stable ?step ?fin
          case start => exact ⟨⟨x + r2, r3, s4, s5⟩, ⟨⟨by dsimp only; omega, by dsimp only; omega⟩, ⟨by dsimp only; omega, by dsimp only; omega⟩, hr4', hr5'⟩, HM6.out, (st6.drewN 1).mono (by simp [costs, List.range_succ])⟩
          case stable =>
            intro i v w w' h hG
            have hsl : ∀ s t : ByteArray, Sl (w5.heap.size + 1) w v 1 2 [.string s, .string t] → Sl (w5.heap.size + 1) w' v 1 2 [.string s, .string t] := fun s t hx => hx.keep hG.1 fun i hi hlt => hG.2 i hlt (by omega) (by omega)
            match i with
            | 7 => obtain ⟨s, h1, h2⟩ := h; exact ⟨s, h1, hsl _ _ h2⟩
            | 12 => obtain ⟨s, h1, h2⟩ := h; exact ⟨s, h1, hsl _ _ h2⟩
            | 0 | 1 | 2 | 3 | 4 | 5 | 6 | 8 | 9 | 10 | 11 | 13 | 14 | 15 | 16 | 17 | 18 | 19 | 20 | 21 | _ + 22 => exact h
          case fin =>
            intro vs w hlen hI hall
            obtain ⟨mv, hmv, hb, stx⟩ := hI
            match vs, hlen with
            | [v0, v1, v2, v3, v4, v5, v6, v7, v8, v9, v10, v11, v12, v13, v14, v15, v16, v17, v18, v19, v20, v21], _ =>
              simp only [putAll, Act.put, List.setIfInBounds_toArray, List.set_cons_succ, List.set_cons_zero]
              go_wp2
              go_meet
              case rel => exact ⟨mv, hmv, hb, stx⟩
          case step =>
            refine ⟨?_, ?_, ?_, ?_, ?_, ?_, ?_, ?_, ?_, ?_, ?_, ?_, ?_, ?_, ?_, ?_, ?_, ?_, ?_, ?_, ?_, ?_, trivial⟩
            · exact step_run rfl rfl rfl fun a w m hp hI => ⟨_, _, ex_move rfl (show a.tmps.getD 0 undef = _ from hp.old 0 (by kernel_rfl)), rfl, ⟨Nat.le_refl _, fun _ _ _ _ => rfl⟩, hI⟩
            · refine step_call (f := 29) (fun a => #[a.tmps.getD 32 undef, .int .i64 0, .int .i64 100]) rfl rfl rfl (fun a w => by simp [go_sem]) fun a w m hp hI => ?_
              have h1 : a.tmps.getD 32 undef = .pointer (some ⟨b, 0, none⟩) := hp.pre 0 (by decide) _ rfl
              obtain ⟨mv, hmv, hb, stx⟩ := hI
              have stx : St b (N + m + 2) wr w := stx
              rw [h1]
              refine (odd_any b (N + m) _ _ _ stx.s (by omega) (by omega) (by omega) (by omega)).mono ?_
              rintro e w' ⟨⟨r, rfl, hr⟩, sty⟩
              exact ⟨_, rfl, ⟨r, rfl, hr⟩, ⟨sty.g.size, fun i hi hne _ => sty.g.block i hi (by simpa using hne)⟩, mv, hmv, sty.block hb (by omega), stx.then sty⟩
            · exact step_run rfl rfl rfl fun a w m hp hI => ⟨_, _, ex_move rfl (show a.tmps.getD 0 undef = _ from hp.old 0 (by kernel_rfl)), rfl, ⟨Nat.le_refl _, fun _ _ _ _ => rfl⟩, hI⟩
            · refine step_call (f := 29) (fun a => #[a.tmps.getD 34 undef, .int .i64 1, .int .i64 4]) rfl rfl rfl (fun a w => by simp [go_sem]) fun a w m hp hI => ?_
              have h1 : a.tmps.getD 34 undef = .pointer (some ⟨b, 0, none⟩) := hp.pre 2 (by decide) _ rfl
              obtain ⟨mv, hmv, hb, stx⟩ := hI
              have stx : St b (N + m + 2) wr w := stx
              rw [h1]
              refine (odd_any b (N + m) _ _ _ stx.s (by omega) (by omega) (by omega) (by omega)).mono ?_
              rintro e w' ⟨⟨r, rfl, hr⟩, sty⟩
              exact ⟨_, rfl, ⟨r, rfl, hr⟩, ⟨sty.g.size, fun i hi hne _ => sty.g.block i hi (by simpa using hne)⟩, mv, hmv, sty.block hb (by omega), stx.then sty⟩
            · exact step_run rfl rfl rfl fun a w m hp hI => ⟨_, _, ex_move rfl (show a.tmps.getD 0 undef = _ from hp.old 0 (by kernel_rfl)), rfl, ⟨Nat.le_refl _, fun _ _ _ _ => rfl⟩, hI⟩
            · exact step_run rfl rfl rfl fun a w m hp hI => ⟨_, _, ex_field (off := 2) rfl (show a.tmps.getD 7 undef = .pointer (some ⟨w5.heap.size, 0, none⟩) from hp.old 7 (by kernel_rfl)) (fun w => by simp [Instr.fieldAt, go_sem]), congrArg (fun n => Value.pointer (some ⟨w5.heap.size, n, none⟩)) (Nat.zero_add 2), ⟨Nat.le_refl _, fun _ _ _ _ => rfl⟩, hI⟩
            · refine step_run rfl rfl rfl fun a w m hp hI => ?_
              have h1 : a.tmps.getD 37 undef = .pointer (some ⟨w5.heap.size, 2, none⟩) := hp.pre 5 (by decide) _ rfl
              obtain ⟨mv, hmv, hb, stx⟩ := hI
              exact ⟨_, _, ex_load rfl h1 (fun w => by simp [isAgg, go_sem]) ((row_cells hb).1 2), ⟨_, rfl, hmv.team⟩, ⟨Nat.le_refl _, fun _ _ _ _ => rfl⟩, mv, hmv, hb, stx⟩
            · refine step_run rfl rfl rfl fun a w m hp hI => ?_
              obtain ⟨s, h1, hs⟩ : ∃ s, a.tmps.getD 38 undef = .string s ∧ s.size ≤ 1000 := hp.pre 6 (by decide) _ rfl
              obtain ⟨mv, hmv, hb, stx⟩ := hI
              have hlt5 : w5.heap.size < w.heap.size := (Array.getElem?_eq_some_iff.1 hb).1
              exact ⟨_, _, ex_slice2 (u := .string ⟨#[]⟩) (e := 9) rfl rfl h1 (fun w => by simp [go_sem]), ⟨s, hs, Sl.lit rfl (by omega) rfl (by simp) (by omega)⟩, ⟨by simp, fun i hi _ _ => Below.heap_alloc _ _ _ hi⟩, mv, hmv, by rw [Below.heap_alloc _ _ _ hlt5]; exact hb, stx.alloc _⟩
            · refine step_call (f := 7) (fun a => #[a.tmps.getD 36 undef, a.tmps.getD 39 undef]) rfl rfl rfl (fun a w => by simp [go_sem]) fun a w m hp hI => ?_
              have h1 : a.tmps.getD 36 undef = .pointer (some ⟨b, 0, none⟩) := hp.pre 4 (by decide) _ rfl
              obtain ⟨s, hs, h2⟩ : ∃ s : ByteArray, s.size ≤ 1000 ∧ Sl (w5.heap.size + 1) w (a.tmps.getD 39 undef) 1 2 [.string ⟨#[]⟩, .string s] := hp.pre 7 (by decide) _ rfl
              obtain ⟨mv, hmv, hb, stx⟩ := hI
              have stx : St b (N + m + 1) wr w := stx
              rw [h1]
              refine (some_any b (N + m) 2 _ [⟨#[]⟩, s] _ stx.s (h2.mono (by omega)) (by omega)).mono ?_
              rintro e w' ⟨⟨r, rfl, hr⟩, hs', hg'⟩
              have hr' : r.size ≤ 1000 := by
                simp at hr
                rcases hr with rfl | rfl
                · decide
                · exact hs
              exact ⟨_, rfl, ⟨r, rfl, hr'⟩, ⟨hg'.size, fun i hi hne _ => hg'.block i hi (by simpa using hne)⟩, mv, hmv, (St.call (St.start stx.s) hs' hg').block hb (by omega), stx.call hs' hg'⟩
            · exact step_run rfl rfl rfl fun a w m hp hI => ⟨_, _, ex_move rfl (show a.tmps.getD 0 undef = _ from hp.old 0 (by kernel_rfl)), rfl, ⟨Nat.le_refl _, fun _ _ _ _ => rfl⟩, hI⟩
            · exact step_run rfl rfl rfl fun a w m hp hI => ⟨_, _, ex_field (off := 3) rfl (show a.tmps.getD 7 undef = .pointer (some ⟨w5.heap.size, 0, none⟩) from hp.old 7 (by kernel_rfl)) (fun w => by simp [Instr.fieldAt, go_sem]), congrArg (fun n => Value.pointer (some ⟨w5.heap.size, n, none⟩)) (Nat.zero_add 3), ⟨Nat.le_refl _, fun _ _ _ _ => rfl⟩, hI⟩
            · refine step_run rfl rfl rfl fun a w m hp hI => ?_
              have h1 : a.tmps.getD 42 undef = .pointer (some ⟨w5.heap.size, 3, none⟩) := hp.pre 10 (by decide) _ rfl
              obtain ⟨mv, hmv, hb, stx⟩ := hI
              exact ⟨_, _, ex_load rfl h1 (fun w => by simp [isAgg, go_sem]) ((row_cells hb).1 3), ⟨_, rfl, hmv.player⟩, ⟨Nat.le_refl _, fun _ _ _ _ => rfl⟩, mv, hmv, hb, stx⟩
            · refine step_run rfl rfl rfl fun a w m hp hI => ?_
              obtain ⟨s, h1, hs⟩ : ∃ s, a.tmps.getD 43 undef = .string s ∧ s.size ≤ 1000 := hp.pre 11 (by decide) _ rfl
              obtain ⟨mv, hmv, hb, stx⟩ := hI
              have hlt5 : w5.heap.size < w.heap.size := (Array.getElem?_eq_some_iff.1 hb).1
              exact ⟨_, _, ex_slice2 (u := .string ⟨#[65]⟩) (e := 9) rfl rfl h1 (fun w => by simp [go_sem]), ⟨s, hs, Sl.lit rfl (by omega) rfl (by simp) (by omega)⟩, ⟨by simp, fun i hi _ _ => Below.heap_alloc _ _ _ hi⟩, mv, hmv, by rw [Below.heap_alloc _ _ _ hlt5]; exact hb, stx.alloc _⟩
            · refine step_call (f := 7) (fun a => #[a.tmps.getD 41 undef, a.tmps.getD 44 undef]) rfl rfl rfl (fun a w => by simp [go_sem]) fun a w m hp hI => ?_
              have h1 : a.tmps.getD 41 undef = .pointer (some ⟨b, 0, none⟩) := hp.pre 9 (by decide) _ rfl
              obtain ⟨s, hs, h2⟩ : ∃ s : ByteArray, s.size ≤ 1000 ∧ Sl (w5.heap.size + 1) w (a.tmps.getD 44 undef) 1 2 [.string ⟨#[65]⟩, .string s] := hp.pre 12 (by decide) _ rfl
              obtain ⟨mv, hmv, hb, stx⟩ := hI
              have stx : St b (N + m + 1) wr w := stx
              rw [h1]
              refine (some_any b (N + m) 2 _ [⟨#[65]⟩, s] _ stx.s (h2.mono (by omega)) (by omega)).mono ?_
              rintro e w' ⟨⟨r, rfl, hr⟩, hs', hg'⟩
              have hr' : r.size ≤ 1000 := by
                simp at hr
                rcases hr with rfl | rfl
                · decide
                · exact hs
              exact ⟨_, rfl, ⟨r, rfl, hr'⟩, ⟨hg'.size, fun i hi hne _ => hg'.block i hi (by simpa using hne)⟩, mv, hmv, (St.call (St.start stx.s) hs' hg').block hb (by omega), stx.call hs' hg'⟩
            · exact step_run rfl rfl rfl fun a w m hp hI => ⟨_, _, ex_field (off := 0) rfl (show a.tmps.getD 7 undef = .pointer (some ⟨w5.heap.size, 0, none⟩) from hp.old 7 (by kernel_rfl)) (fun w => by simp [Instr.fieldAt, go_sem]), congrArg (fun n => Value.pointer (some ⟨w5.heap.size, n, none⟩)) (Nat.zero_add 0), ⟨Nat.le_refl _, fun _ _ _ _ => rfl⟩, hI⟩
            · refine step_skip rfl rfl rfl fun a w m hp hI => ?_
              have h1 : a.tmps.getD 46 undef = .pointer (some ⟨w5.heap.size, 0, none⟩) := hp.pre 14 (by decide) _ rfl
              obtain ⟨r, h2, hr⟩ : ∃ r, a.tmps.getD 33 undef = .int .i64 r ∧ small r := hp.pre 1 (by decide) _ rfl
              obtain ⟨mv, hmv, hb, stx⟩ := hI
              refine ⟨_, ex_store_int rfl h1 h2 (fun w => by kernel_rfl) ((row_cells hb).1 0) ((row_cells hb).2 0), trivial, ⟨by simp [World.setCell], fun i _ _ hne => Below.heap_setCell _ _ _ _ hne⟩, ⟨r, mv.kind, mv.team, mv.player⟩, ⟨hr, hmv.kind, hmv.team, hmv.player⟩, ?_, ?_⟩
              · simp [World.setCell, Array.getElem?_modify, hb]
              · exact ⟨stx.s.keep fun i hi => Below.heap_setCell _ _ _ _ (by dsimp only; omega), ⟨stx.g.os, stx.g.tape, stx.g.output, by simpa [World.setCell] using stx.g.size, fun i hi hne => (Below.heap_setCell _ _ _ _ (by have := st5.g.size; dsimp only; omega)).trans (stx.g.block i hi hne)⟩⟩
            · exact step_run rfl rfl rfl fun a w m hp hI => ⟨_, _, ex_field (off := 1) rfl (show a.tmps.getD 7 undef = .pointer (some ⟨w5.heap.size, 0, none⟩) from hp.old 7 (by kernel_rfl)) (fun w => by simp [Instr.fieldAt, go_sem]), congrArg (fun n => Value.pointer (some ⟨w5.heap.size, n, none⟩)) (Nat.zero_add 1), ⟨Nat.le_refl _, fun _ _ _ _ => rfl⟩, hI⟩
            · refine step_skip rfl rfl rfl fun a w m hp hI => ?_
              have h1 : a.tmps.getD 47 undef = .pointer (some ⟨w5.heap.size, 1, none⟩) := hp.pre 16 (by decide) _ rfl
              obtain ⟨r, h2, hr⟩ : ∃ r, a.tmps.getD 35 undef = .int .i64 r ∧ small r := hp.pre 3 (by decide) _ rfl
              obtain ⟨mv, hmv, hb, stx⟩ := hI
              refine ⟨_, ex_store_int rfl h1 h2 (fun w => by kernel_rfl) ((row_cells hb).1 1) ((row_cells hb).2 1), trivial, ⟨by simp [World.setCell], fun i _ _ hne => Below.heap_setCell _ _ _ _ hne⟩, ⟨mv.time, r, mv.team, mv.player⟩, ⟨hmv.time, hr, hmv.team, hmv.player⟩, ?_, ?_⟩
              · simp [World.setCell, Array.getElem?_modify, hb]
              · exact ⟨stx.s.keep fun i hi => Below.heap_setCell _ _ _ _ (by dsimp only; omega), ⟨stx.g.os, stx.g.tape, stx.g.output, by simpa [World.setCell] using stx.g.size, fun i hi hne => (Below.heap_setCell _ _ _ _ (by have := st5.g.size; dsimp only; omega)).trans (stx.g.block i hi hne)⟩⟩
            · exact step_run rfl rfl rfl fun a w m hp hI => ⟨_, _, ex_field (off := 2) rfl (show a.tmps.getD 7 undef = .pointer (some ⟨w5.heap.size, 0, none⟩) from hp.old 7 (by kernel_rfl)) (fun w => by simp [Instr.fieldAt, go_sem]), congrArg (fun n => Value.pointer (some ⟨w5.heap.size, n, none⟩)) (Nat.zero_add 2), ⟨Nat.le_refl _, fun _ _ _ _ => rfl⟩, hI⟩
            · refine step_skip rfl rfl rfl fun a w m hp hI => ?_
              have h1 : a.tmps.getD 48 undef = .pointer (some ⟨w5.heap.size, 2, none⟩) := hp.pre 18 (by decide) _ rfl
              obtain ⟨r, h2, hr⟩ : ∃ r, a.tmps.getD 40 undef = .string r ∧ r.size ≤ 1000 := hp.pre 8 (by decide) _ rfl
              obtain ⟨mv, hmv, hb, stx⟩ := hI
              refine ⟨_, ex_store_str rfl h1 h2 (fun w => by kernel_rfl) ((row_cells hb).1 2) ((row_cells hb).2 2), trivial, ⟨by simp [World.setCell], fun i _ _ hne => Below.heap_setCell _ _ _ _ hne⟩, ⟨mv.time, mv.kind, r, mv.player⟩, ⟨hmv.time, hmv.kind, hr, hmv.player⟩, ?_, ?_⟩
              · simp [World.setCell, Array.getElem?_modify, hb]
              · exact ⟨stx.s.keep fun i hi => Below.heap_setCell _ _ _ _ (by dsimp only; omega), ⟨stx.g.os, stx.g.tape, stx.g.output, by simpa [World.setCell] using stx.g.size, fun i hi hne => (Below.heap_setCell _ _ _ _ (by have := st5.g.size; dsimp only; omega)).trans (stx.g.block i hi hne)⟩⟩
            · exact step_run rfl rfl rfl fun a w m hp hI => ⟨_, _, ex_field (off := 3) rfl (show a.tmps.getD 7 undef = .pointer (some ⟨w5.heap.size, 0, none⟩) from hp.old 7 (by kernel_rfl)) (fun w => by simp [Instr.fieldAt, go_sem]), congrArg (fun n => Value.pointer (some ⟨w5.heap.size, n, none⟩)) (Nat.zero_add 3), ⟨Nat.le_refl _, fun _ _ _ _ => rfl⟩, hI⟩
            · refine step_skip rfl rfl rfl fun a w m hp hI => ?_
              have h1 : a.tmps.getD 49 undef = .pointer (some ⟨w5.heap.size, 3, none⟩) := hp.pre 20 (by decide) _ rfl
              obtain ⟨r, h2, hr⟩ : ∃ r, a.tmps.getD 45 undef = .string r ∧ r.size ≤ 1000 := hp.pre 13 (by decide) _ rfl
              obtain ⟨mv, hmv, hb, stx⟩ := hI
              refine ⟨_, ex_store_str rfl h1 h2 (fun w => by kernel_rfl) ((row_cells hb).1 3) ((row_cells hb).2 3), trivial, ⟨by simp [World.setCell], fun i _ _ hne => Below.heap_setCell _ _ _ _ hne⟩, ⟨mv.time, mv.kind, mv.team, r⟩, ⟨hmv.time, hmv.kind, hmv.team, hr⟩, ?_, ?_⟩
              · simp [World.setCell, Array.getElem?_modify, hb]
              · exact ⟨stx.s.keep fun i hi => Below.heap_setCell _ _ _ _ (by dsimp only; omega), ⟨stx.g.os, stx.g.tape, stx.g.output, by simpa [World.setCell] using stx.g.size, fun i hi hne => (Below.heap_setCell _ _ _ _ (by have := st5.g.size; dsimp only; omega)).trans (stx.g.block i hi hne)⟩⟩
      case rest =>
        obtain ⟨mv, hmv, hmb, stx⟩ := hcut
        obtain ⟨hc, hf⟩ := row_cells hmb
        have hownx := own_gr hown stx.g hlt
        go_wp2_with (at_builtin; refine wpList_append_own _ rfl _ _ 29 rfl w.heap.size 61 i0 _ 4 48 Try.underlying29 hi hz0 hz1 hz2 rfl (by decide) _ _ _ rfl (hownx.alloc _) ⟨wc.heap.size, 0, none⟩ 1 1 mv.c rfl rfl ?c1 ?c2 ?c3 ?c4 ?c5 ?_)
        case c1 => exact new_cells rfl
        case c2 => exact fun u hu => by simp [Mv.c] at hu; rcases hu with rfl | rfl | rfl | rfl <;> rfl
        case c3 => unfold maxLen; omega
        case c4 => omega
        case c5 => have := stx.g.size; have := st.g.size; simp; omega
        intro v' w' hown' hg' _
        have stf := ((st.then stx).alloc (.cells #[.int .i64 mv.time, .int .i64 mv.kind, .string mv.team, .string mv.player] 61)).grown hg' hlt (fun k hk => (hown.lt k hk).1)
        clear hc hf hmb hownx hg'
        go_wp2
        go_roundw
        case rel =>
          refine ⟨k + 1, l ++ [mv], x + r2, by omega, by go_num, rfl, by omega, by omega, ?_, by simp [hlk], ?_, ?_⟩
          · simpa using hown'
          · intro y hy
            rcases List.mem_append.1 hy with hy | hy
            · exact hok y hy
            · simp at hy; subst hy; exact hmv
          · rw [HN.out]; exact stf
        case measure => simp [intOf]; omega
    · have hkm : k = m := by omega
      subst hkm
      have HO := Lib.hid hown
      clear hown hlt2
      go_wp2_with fail
      refine (sortStableMv_any (w := wr) (base := w.heap.size) (l := l) (by rw [hlk]; exact HO.out) hok (by omega)).mono ?_
      rintro e w2 ⟨rfl, l2, hl2, hok2, hown2, hg2⟩
      have st2 := st.grown hg2 hlt fun k hk => (HO.out.lt k hk).1
      have HO2 := Lib.hid hown2
      clear hown2 hg2
      go_wp2_with fail
      refine (compactMv_any (w := w2) (base := w.heap.size) (l := l2) (by rw [hl2]; exact HO2.out) (by omega) hok2).mono ?_
      rintro e w3 ⟨v3, l3, rfl, hl3, hok3, hown3, hg3⟩
      have st3 := st2.grown hg3 hlt fun k hk => (HO2.out.lt k hk).1
      clear hg3
      go_wp2
      go_ret
      exact ⟨⟨_, l3, rfl, Sl.of_own hown3 (by omega), by omega, hok3⟩, st3.mono (by omega)⟩
end Go.Proofs.Ytfmffobdkfgekaa
