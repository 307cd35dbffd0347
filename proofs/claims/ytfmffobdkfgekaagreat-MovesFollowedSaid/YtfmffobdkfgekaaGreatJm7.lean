import Derived.Test.YtfmffobdkfgekaaGreatJm6
import Derived.Test.YtfmffobdkfgekaaGreatJm3
import Derived.Test.YtfmffobdkfgekaaGreatJm2
import Derived.Test.YtfmffobdkfgekaaGreatShelfD
import Derived.Test.YtfmffobdkfgekaaGreatShelfC
import Derived.Deep.Upon
/- The maker of moves: it returns a list of moves, and turns the stream's own block alone. -/
set_option linter.unusedVariables false
set_option linter.unusedSimpArgs false
namespace Go.Proofs.YtfmffobdkfgekaaGreat
open Go.RowKit

set_option maxHeartbeats 1000000 in
theorem moves_any (b n m : Nat) (w : World) (hs : SOk w b (n + 1 + m * 12)) (hm : m ≤ 20) :
    Calls Tryz.prog 7 #[.pointer (some ⟨b, 0, none⟩), .int .i64 m] w fun e w' => (∃ (v : Value) (l : List Mv), e = .returned v ∧ Sl w.heap.size w' v 4 l.length (l.flatMap Mv.c) ∧ l.length ≤ m ∧ ∀ x ∈ l, x.ok) ∧ St b n w w' := by
  have hlt := hs.lt
  obtain ⟨i0, hi, hz0, hz1, hz2⟩ := info_parts infoMove
  go_enter Tryz.func7, Tryz.ntmps7
  go_wp2_with fail
  refine (pick_any b (n + m * 12) 2 _ [0, 604799980] _ (((St.start hs).alloc _).mono (by omega)).s (Sl.lit rfl (by omega) rfl (by simp) (by omega)) (by omega)).mono ?_
  rintro e w1 ⟨⟨r1, rfl, hr1⟩, hs1, hg1⟩
  have st1 := ((St.start hs).alloc _).call hs1 hg1
  clear hs1 hg1
  go_wp2_with fail
  go_loopw [5, 6, 12] (fun out t i wr => ∃ (k : Nat) (l : List Mv) (x : Int), k ≤ m ∧ i = .int .i64 k ∧ t = .int .i64 x ∧ 0 ≤ x ∧ x ≤ 604799980 + 30 * k ∧ wr.ownsRow w.heap.size 45 4 out k (l.flatMap Mv.c) ∧ l.length = k ∧ (∀ y ∈ l, y.ok) ∧ St b (n + (m - k) * 12) w wr) (fun _ _ i _ => m - (intOf i).toNat)
  case atStart =>
    simp at hr1
    exact ⟨0, [], r1, by omega, rfl, rfl, by omega, by omega, World.ownsRow_nil _ _ _ _, rfl, by simp, st1⟩
  case round =>
    obtain ⟨k, l, x, hk, rfl, rfl, hx0, hx, hown, hlk, hok, st⟩ := hrel
    by_cases hlt2 : k < m
    · have e12 : n + (m - k) * 12 = (n + (m - (k + 1)) * 12) + 12 := by omega
      rw [e12] at st
      clear e12
      generalize hN : n + (m - (k + 1)) * 12 = N at st
      have HN := Lib.hid hN
      clear hN
      have st0 := St.start st.s
      go_wp2_with fail
      refine (pick_any b (N + 11) 5 _ [0, 1, 5, 10, 30] _ (st0.alloc _).s (Sl.lit rfl (by have := st.s.lt; omega) rfl (by simp) (by omega)) (by omega)).mono ?_
      rintro e w2 ⟨⟨r2, rfl, hr2⟩, hs2, hg2⟩
      have st2 := (st0.alloc _).call hs2 hg2
      have hr2' : 0 ≤ r2 ∧ r2 ≤ 30 := by simp at hr2; omega
      clear hs2 hg2 hr2
      go_wp2_with fail
      refine (pick_any b (N + 10) 8 _ [1, 1, 1, 1, 2, 2, 3, 4] _ (st2.alloc _).s (Sl.lit rfl (by have := st2.s.lt; omega) rfl (by simp) (by omega)) (by omega)).mono ?_
      rintro e w3 ⟨⟨r3, rfl, hr3⟩, hs3, hg3⟩
      have st3 := (st2.alloc _).call hs3 hg3
      have hr3' : 0 ≤ r3 ∧ r3 ≤ 30 := by simp at hr3; omega
      clear hs3 hg3 hr3
      go_wp2_with fail
      refine (some_any b (N + 9) 3 _ [⟨#[116, 120]⟩, ⟨#[116, 120]⟩, ⟨#[116, 121]⟩] _ (st3.alloc _).s (Sl.lit rfl (by have := st3.s.lt; omega) rfl (by simp) (by omega)) (by omega)).mono ?_
      rintro e w4 ⟨⟨s4, rfl, hr4⟩, hs4, hg4⟩
      have st4 := (st3.alloc _).call hs4 hg4
      have hr4' : s4.size ≤ 1000 := by
        simp at hr4
        rcases hr4 with rfl | rfl <;> decide
      clear hs4 hg4 hr4
      go_wp2_with fail
      refine (some_any b (N + 8) 5 _ [⟨#[112, 97]⟩, ⟨#[112, 98]⟩, ⟨#[112, 99]⟩, ⟨#[112, 100]⟩, ⟨#[112, 101]⟩] _ (st4.alloc _).s (Sl.lit rfl (by have := st4.s.lt; omega) rfl (by simp) (by omega)) (by omega)).mono ?_
      rintro e w5 ⟨⟨s5, rfl, hr5⟩, hs5, hg5⟩
      have st5 := (st4.alloc _).call hs5 hg5
      have hr5' : s5.size ≤ 1000 := by
        simp at hr5
        rcases hr5 with rfl | rfl | rfl | rfl | rfl <;> decide
      clear hs5 hg5 hr5
      go_wp2_with fail
      have stA := st5.alloc (.cells #[.int .i64 (x + r2), .int .i64 r3, .string s4, .string s5] 45)
      refine (flip_any b (N + 7) _ _ stA.s (by omega)).mono ?_
      rintro e w6 ⟨⟨f6, rfl⟩, hs6, hg6⟩
      have st6 := stA.call hs6 hg6
      have hm6 := ((St.start stA.s).call hs6 hg6).block (alloc_at _ rfl) (by have := st5.s.lt; omega)
      clear hs6 hg6
      have HM6 := Lib.hid hm6
      clear hm6
      go_upto_if 31 with fail
      go_cut [] (fun wx => ∃ mv : Mv, mv.ok ∧ wx.heap[w5.heap.size]? = some (.cells #[.int .i64 mv.time, .int .i64 mv.kind, .string mv.team, .string mv.player] 45 (0, 0)) ∧ St b N wr wx)
      case first =>
        cases f6
        · go_wp2
          go_meet
          case rel => exact ⟨⟨x + r2, r3, s4, s5⟩, ⟨⟨by dsimp only; omega, by dsimp only; omega⟩, ⟨by dsimp only; omega, by dsimp only; omega⟩, hr4', hr5'⟩, HM6.out, st6.mono (by omega)⟩
        · go_wp2_with fail
          have hblk : b < w5.heap.size := st5.s.lt
          refine wp_region_rgs 0 (fun n w => ∃ mv : Mv, mv.ok ∧ w.heap[w5.heap.size]? = some (.cells #[.int .i64 mv.time, .int .i64 mv.kind, .string mv.team, .string mv.player] 45 (0, 0)) ∧ St b (N + n) wr w)
            (fun w w' => w.heap.size ≤ w'.heap.size ∧ ∀ i, i < w.heap.size → i ≠ b → i ≠ w5.heap.size → w'.heap[i]? = w.heap[i]?)
            (fun i v w => match i with
              | 0 => v = .pointer (some ⟨b, 0, none⟩) | 2 => v = .pointer (some ⟨b, 0, none⟩) | 4 => v = .pointer (some ⟨b, 0, none⟩) | 9 => v = .pointer (some ⟨b, 0, none⟩)
              | 1 => ∃ r, v = .int .i64 r ∧ small r | 3 => ∃ r, v = .int .i64 r ∧ small r
              | 5 => v = .pointer (some ⟨w5.heap.size, 2, none⟩) | 10 => v = .pointer (some ⟨w5.heap.size, 3, none⟩)
              | 6 => ∃ s, v = .string s ∧ s.size ≤ 1000 | 11 => ∃ s, v = .string s ∧ s.size ≤ 1000
              | 7 => ∃ s : ByteArray, s.size ≤ 1000 ∧ Sl (w5.heap.size + 1) w v 1 2 [.string ⟨#[]⟩, .string s] | 12 => ∃ s : ByteArray, s.size ≤ 1000 ∧ Sl (w5.heap.size + 1) w v 1 2 [.string ⟨#[65]⟩, .string s]
              | 8 => ∃ s, v = .string s ∧ s.size ≤ 1000 | 13 => ∃ s, v = .string s ∧ s.size ≤ 1000
              | 14 => v = .pointer (some ⟨w5.heap.size, 0, none⟩) | 16 => v = .pointer (some ⟨w5.heap.size, 1, none⟩) | 18 => v = .pointer (some ⟨w5.heap.size, 2, none⟩) | 20 => v = .pointer (some ⟨w5.heap.size, 3, none⟩)
              | _ => True)
            (fun i => match i with | 1 => 2 | 3 => 2 | 8 => 1 | 13 => 1 | _ => 0) (by kernel_rfl) (by kernel_rfl) (by kernel_rfl) ?start ?stable ?step ?fin
          case start => exact ⟨⟨x + r2, r3, s4, s5⟩, ⟨⟨by dsimp only; omega, by dsimp only; omega⟩, ⟨by dsimp only; omega, by dsimp only; omega⟩, hr4', hr5'⟩, HM6.out, (st6.drewN 1).mono (by simp [costs, List.range_succ])⟩
          case stable =>
            intro i v w w' h hG
            have hsl : ∀ s t : ByteArray, Sl (w5.heap.size + 1) w v 1 2 [.string s, .string t] → Sl (w5.heap.size + 1) w' v 1 2 [.string s, .string t] := fun s t hx => hx.keep hG.1 fun i hi hlt => hG.2 i hlt (by omega) (by omega)
            match i with
            | 7 => obtain ⟨s, h1, h2⟩ := h; exact ⟨s, h1, hsl _ _ h2⟩
            | 12 => obtain ⟨s, h1, h2⟩ := h; exact ⟨s, h1, hsl _ _ h2⟩
            | 0 | 1 | 2 | 3 | 4 | 5 | 6 | 8 | 9 | 10 | 11 | 13 | 14 | 15 | 16 | 17 | 18 | 19 | 20 | 21 | _ + 22 => exact h
          case fin =>
            intro vs w hlen hI hall
            obtain ⟨mv, hmv, hb, stx⟩ := hI
            match vs, hlen with
            | [v0, v1, v2, v3, v4, v5, v6, v7, v8, v9, v10, v11, v12, v13, v14, v15, v16, v17, v18, v19, v20, v21], _ =>
              simp only [putAll, Act.put, List.setIfInBounds_toArray, List.set_cons_succ, List.set_cons_zero]
              go_wp2
              go_meet
              case rel => exact ⟨mv, hmv, hb, stx⟩
          case step =>
            refine ⟨?_, ?_, ?_, ?_, ?_, ?_, ?_, ?_, ?_, ?_, ?_, ?_, ?_, ?_, ?_, ?_, ?_, ?_, ?_, ?_, ?_, ?_, trivial⟩
            · exact step_run rfl rfl rfl fun a w m hp hI => ⟨_, _, ex_move rfl (show a.tmps.getD 0 undef = _ from hp.old 0 (by kernel_rfl)), rfl, ⟨Nat.le_refl _, fun _ _ _ _ => rfl⟩, hI⟩
            · refine step_call (f := 47) (fun a => #[a.tmps.getD 32 undef, .int .i64 0, .int .i64 100]) rfl rfl rfl (fun a w => by simp [go_sem]) fun a w m hp hI => ?_
              have h1 : a.tmps.getD 32 undef = .pointer (some ⟨b, 0, none⟩) := hp.pre 0 (by decide) _ rfl
              obtain ⟨mv, hmv, hb, stx⟩ := hI
              have stx : St b (N + m + 2) wr w := stx
              rw [h1]
              refine (odd_any b (N + m) _ _ _ stx.s (by omega) (by omega) (by omega) (by omega)).mono ?_
              rintro e w' ⟨⟨r, rfl, hr⟩, sty⟩
              exact ⟨_, rfl, ⟨r, rfl, hr⟩, ⟨sty.g.size, fun i hi hne _ => sty.g.block i hi (by simpa using hne)⟩, mv, hmv, sty.block hb (by omega), stx.then sty⟩
            · exact step_run rfl rfl rfl fun a w m hp hI => ⟨_, _, ex_move rfl (show a.tmps.getD 0 undef = _ from hp.old 0 (by kernel_rfl)), rfl, ⟨Nat.le_refl _, fun _ _ _ _ => rfl⟩, hI⟩
            · refine step_call (f := 47) (fun a => #[a.tmps.getD 34 undef, .int .i64 1, .int .i64 4]) rfl rfl rfl (fun a w => by simp [go_sem]) fun a w m hp hI => ?_
              have h1 : a.tmps.getD 34 undef = .pointer (some ⟨b, 0, none⟩) := hp.pre 2 (by decide) _ rfl
              obtain ⟨mv, hmv, hb, stx⟩ := hI
              have stx : St b (N + m + 2) wr w := stx
              rw [h1]
              refine (odd_any b (N + m) _ _ _ stx.s (by omega) (by omega) (by omega) (by omega)).mono ?_
              rintro e w' ⟨⟨r, rfl, hr⟩, sty⟩
              exact ⟨_, rfl, ⟨r, rfl, hr⟩, ⟨sty.g.size, fun i hi hne _ => sty.g.block i hi (by simpa using hne)⟩, mv, hmv, sty.block hb (by omega), stx.then sty⟩
            · exact step_run rfl rfl rfl fun a w m hp hI => ⟨_, _, ex_move rfl (show a.tmps.getD 0 undef = _ from hp.old 0 (by kernel_rfl)), rfl, ⟨Nat.le_refl _, fun _ _ _ _ => rfl⟩, hI⟩
            · exact step_run rfl rfl rfl fun a w m hp hI => ⟨_, _, ex_field (off := 2) rfl (show a.tmps.getD 7 undef = .pointer (some ⟨w5.heap.size, 0, none⟩) from hp.old 7 (by kernel_rfl)) (fun w => by simp [Instr.fieldAt, go_sem]), congrArg (fun n => Value.pointer (some ⟨w5.heap.size, n, none⟩)) (Nat.zero_add 2), ⟨Nat.le_refl _, fun _ _ _ _ => rfl⟩, hI⟩
            · refine step_run rfl rfl rfl fun a w m hp hI => ?_
              have h1 : a.tmps.getD 37 undef = .pointer (some ⟨w5.heap.size, 2, none⟩) := hp.pre 5 (by decide) _ rfl
              obtain ⟨mv, hmv, hb, stx⟩ := hI
              exact ⟨_, _, ex_load rfl h1 (fun w => by simp [isAgg, go_sem]) ((row_cells hb).1 2), ⟨_, rfl, hmv.team⟩, ⟨Nat.le_refl _, fun _ _ _ _ => rfl⟩, mv, hmv, hb, stx⟩
            · refine step_run rfl rfl rfl fun a w m hp hI => ?_
              obtain ⟨s, h1, hs⟩ : ∃ s, a.tmps.getD 38 undef = .string s ∧ s.size ≤ 1000 := hp.pre 6 (by decide) _ rfl
              obtain ⟨mv, hmv, hb, stx⟩ := hI
              have hlt5 : w5.heap.size < w.heap.size := (Array.getElem?_eq_some_iff.1 hb).1
              exact ⟨_, _, ex_slice2 (u := .string ⟨#[]⟩) (e := 9) rfl rfl h1 (fun w => by simp [go_sem]), ⟨s, hs, Sl.lit rfl (by omega) rfl (by simp) (by omega)⟩, ⟨by simp, fun i hi _ _ => Below.heap_alloc _ _ _ hi⟩, mv, hmv, by rw [Below.heap_alloc _ _ _ hlt5]; exact hb, stx.alloc _⟩
            · refine step_call (f := 22) (fun a => #[a.tmps.getD 36 undef, a.tmps.getD 39 undef]) rfl rfl rfl (fun a w => by simp [go_sem]) fun a w m hp hI => ?_
              have h1 : a.tmps.getD 36 undef = .pointer (some ⟨b, 0, none⟩) := hp.pre 4 (by decide) _ rfl
              obtain ⟨s, hs, h2⟩ : ∃ s : ByteArray, s.size ≤ 1000 ∧ Sl (w5.heap.size + 1) w (a.tmps.getD 39 undef) 1 2 [.string ⟨#[]⟩, .string s] := hp.pre 7 (by decide) _ rfl
              obtain ⟨mv, hmv, hb, stx⟩ := hI
              have stx : St b (N + m + 1) wr w := stx
              rw [h1]
              refine (some_any b (N + m) 2 _ [⟨#[]⟩, s] _ stx.s (h2.mono (by omega)) (by omega)).mono ?_
              rintro e w' ⟨⟨r, rfl, hr⟩, hs', hg'⟩
              have hr' : r.size ≤ 1000 := by
                simp at hr
                rcases hr with rfl | rfl
                · decide
                · exact hs
              exact ⟨_, rfl, ⟨r, rfl, hr'⟩, ⟨hg'.size, fun i hi hne _ => hg'.block i hi (by simpa using hne)⟩, mv, hmv, (St.call (St.start stx.s) hs' hg').block hb (by omega), stx.call hs' hg'⟩
            · exact step_run rfl rfl rfl fun a w m hp hI => ⟨_, _, ex_move rfl (show a.tmps.getD 0 undef = _ from hp.old 0 (by kernel_rfl)), rfl, ⟨Nat.le_refl _, fun _ _ _ _ => rfl⟩, hI⟩
            · exact step_run rfl rfl rfl fun a w m hp hI => ⟨_, _, ex_field (off := 3) rfl (show a.tmps.getD 7 undef = .pointer (some ⟨w5.heap.size, 0, none⟩) from hp.old 7 (by kernel_rfl)) (fun w => by simp [Instr.fieldAt, go_sem]), congrArg (fun n => Value.pointer (some ⟨w5.heap.size, n, none⟩)) (Nat.zero_add 3), ⟨Nat.le_refl _, fun _ _ _ _ => rfl⟩, hI⟩
            · refine step_run rfl rfl rfl fun a w m hp hI => ?_
              have h1 : a.tmps.getD 42 undef = .pointer (some ⟨w5.heap.size, 3, none⟩) := hp.pre 10 (by decide) _ rfl
              obtain ⟨mv, hmv, hb, stx⟩ := hI
              exact ⟨_, _, ex_load rfl h1 (fun w => by simp [isAgg, go_sem]) ((row_cells hb).1 3), ⟨_, rfl, hmv.player⟩, ⟨Nat.le_refl _, fun _ _ _ _ => rfl⟩, mv, hmv, hb, stx⟩
            · refine step_run rfl rfl rfl fun a w m hp hI => ?_
              obtain ⟨s, h1, hs⟩ : ∃ s, a.tmps.getD 43 undef = .string s ∧ s.size ≤ 1000 := hp.pre 11 (by decide) _ rfl
              obtain ⟨mv, hmv, hb, stx⟩ := hI
              have hlt5 : w5.heap.size < w.heap.size := (Array.getElem?_eq_some_iff.1 hb).1
              exact ⟨_, _, ex_slice2 (u := .string ⟨#[65]⟩) (e := 9) rfl rfl h1 (fun w => by simp [go_sem]), ⟨s, hs, Sl.lit rfl (by omega) rfl (by simp) (by omega)⟩, ⟨by simp, fun i hi _ _ => Below.heap_alloc _ _ _ hi⟩, mv, hmv, by rw [Below.heap_alloc _ _ _ hlt5]; exact hb, stx.alloc _⟩
            · refine step_call (f := 22) (fun a => #[a.tmps.getD 41 undef, a.tmps.getD 44 undef]) rfl rfl rfl (fun a w => by simp [go_sem]) fun a w m hp hI => ?_
              have h1 : a.tmps.getD 41 undef = .pointer (some ⟨b, 0, none⟩) := hp.pre 9 (by decide) _ rfl
              obtain ⟨s, hs, h2⟩ : ∃ s : ByteArray, s.size ≤ 1000 ∧ Sl (w5.heap.size + 1) w (a.tmps.getD 44 undef) 1 2 [.string ⟨#[65]⟩, .string s] := hp.pre 12 (by decide) _ rfl
              obtain ⟨mv, hmv, hb, stx⟩ := hI
              have stx : St b (N + m + 1) wr w := stx
              rw [h1]
              refine (some_any b (N + m) 2 _ [⟨#[65]⟩, s] _ stx.s (h2.mono (by omega)) (by omega)).mono ?_
              rintro e w' ⟨⟨r, rfl, hr⟩, hs', hg'⟩
              have hr' : r.size ≤ 1000 := by
                simp at hr
                rcases hr with rfl | rfl
                · decide
                · exact hs
              exact ⟨_, rfl, ⟨r, rfl, hr'⟩, ⟨hg'.size, fun i hi hne _ => hg'.block i hi (by simpa using hne)⟩, mv, hmv, (St.call (St.start stx.s) hs' hg').block hb (by omega), stx.call hs' hg'⟩
            · exact step_run rfl rfl rfl fun a w m hp hI => ⟨_, _, ex_field (off := 0) rfl (show a.tmps.getD 7 undef = .pointer (some ⟨w5.heap.size, 0, none⟩) from hp.old 7 (by kernel_rfl)) (fun w => by simp [Instr.fieldAt, go_sem]), congrArg (fun n => Value.pointer (some ⟨w5.heap.size, n, none⟩)) (Nat.zero_add 0), ⟨Nat.le_refl _, fun _ _ _ _ => rfl⟩, hI⟩
            · refine step_skip rfl rfl rfl fun a w m hp hI => ?_
              have h1 : a.tmps.getD 46 undef = .pointer (some ⟨w5.heap.size, 0, none⟩) := hp.pre 14 (by decide) _ rfl
              obtain ⟨r, h2, hr⟩ : ∃ r, a.tmps.getD 33 undef = .int .i64 r ∧ small r := hp.pre 1 (by decide) _ rfl
              obtain ⟨mv, hmv, hb, stx⟩ := hI
              refine ⟨_, ex_store_int rfl h1 h2 (fun w => by kernel_rfl) ((row_cells hb).1 0) ((row_cells hb).2 0), trivial, ⟨by simp [World.setCell], fun i _ _ hne => Below.heap_setCell _ _ _ _ hne⟩, ⟨r, mv.kind, mv.team, mv.player⟩, ⟨hr, hmv.kind, hmv.team, hmv.player⟩, ?_, ?_⟩
              · simp [World.setCell, Array.getElem?_modify, hb]
              · exact ⟨stx.s.keep fun i hi => Below.heap_setCell _ _ _ _ (by dsimp only; omega), ⟨stx.g.os, stx.g.tape, stx.g.output, by simpa [World.setCell] using stx.g.size, fun i hi hne => (Below.heap_setCell _ _ _ _ (by have := st5.g.size; dsimp only; omega)).trans (stx.g.block i hi hne)⟩⟩
            · exact step_run rfl rfl rfl fun a w m hp hI => ⟨_, _, ex_field (off := 1) rfl (show a.tmps.getD 7 undef = .pointer (some ⟨w5.heap.size, 0, none⟩) from hp.old 7 (by kernel_rfl)) (fun w => by simp [Instr.fieldAt, go_sem]), congrArg (fun n => Value.pointer (some ⟨w5.heap.size, n, none⟩)) (Nat.zero_add 1), ⟨Nat.le_refl _, fun _ _ _ _ => rfl⟩, hI⟩
            · refine step_skip rfl rfl rfl fun a w m hp hI => ?_
              have h1 : a.tmps.getD 47 undef = .pointer (some ⟨w5.heap.size, 1, none⟩) := hp.pre 16 (by decide) _ rfl
              obtain ⟨r, h2, hr⟩ : ∃ r, a.tmps.getD 35 undef = .int .i64 r ∧ small r := hp.pre 3 (by decide) _ rfl
              obtain ⟨mv, hmv, hb, stx⟩ := hI
              refine ⟨_, ex_store_int rfl h1 h2 (fun w => by kernel_rfl) ((row_cells hb).1 1) ((row_cells hb).2 1), trivial, ⟨by simp [World.setCell], fun i _ _ hne => Below.heap_setCell _ _ _ _ hne⟩, ⟨mv.time, r, mv.team, mv.player⟩, ⟨hmv.time, hr, hmv.team, hmv.player⟩, ?_, ?_⟩
              · simp [World.setCell, Array.getElem?_modify, hb]
              · exact ⟨stx.s.keep fun i hi => Below.heap_setCell _ _ _ _ (by dsimp only; omega), ⟨stx.g.os, stx.g.tape, stx.g.output, by simpa [World.setCell] using stx.g.size, fun i hi hne => (Below.heap_setCell _ _ _ _ (by have := st5.g.size; dsimp only; omega)).trans (stx.g.block i hi hne)⟩⟩
            · exact step_run rfl rfl rfl fun a w m hp hI => ⟨_, _, ex_field (off := 2) rfl (show a.tmps.getD 7 undef = .pointer (some ⟨w5.heap.size, 0, none⟩) from hp.old 7 (by kernel_rfl)) (fun w => by simp [Instr.fieldAt, go_sem]), congrArg (fun n => Value.pointer (some ⟨w5.heap.size, n, none⟩)) (Nat.zero_add 2), ⟨Nat.le_refl _, fun _ _ _ _ => rfl⟩, hI⟩
            · refine step_skip rfl rfl rfl fun a w m hp hI => ?_
              have h1 : a.tmps.getD 48 undef = .pointer (some ⟨w5.heap.size, 2, none⟩) := hp.pre 18 (by decide) _ rfl
              obtain ⟨r, h2, hr⟩ : ∃ r, a.tmps.getD 40 undef = .string r ∧ r.size ≤ 1000 := hp.pre 8 (by decide) _ rfl
              obtain ⟨mv, hmv, hb, stx⟩ := hI
              refine ⟨_, ex_store_str rfl h1 h2 (fun w => by kernel_rfl) ((row_cells hb).1 2) ((row_cells hb).2 2), trivial, ⟨by simp [World.setCell], fun i _ _ hne => Below.heap_setCell _ _ _ _ hne⟩, ⟨mv.time, mv.kind, r, mv.player⟩, ⟨hmv.time, hmv.kind, hr, hmv.player⟩, ?_, ?_⟩
              · simp [World.setCell, Array.getElem?_modify, hb]
              · exact ⟨stx.s.keep fun i hi => Below.heap_setCell _ _ _ _ (by dsimp only; omega), ⟨stx.g.os, stx.g.tape, stx.g.output, by simpa [World.setCell] using stx.g.size, fun i hi hne => (Below.heap_setCell _ _ _ _ (by have := st5.g.size; dsimp only; omega)).trans (stx.g.block i hi hne)⟩⟩
            · exact step_run rfl rfl rfl fun a w m hp hI => ⟨_, _, ex_field (off := 3) rfl (show a.tmps.getD 7 undef = .pointer (some ⟨w5.heap.size, 0, none⟩) from hp.old 7 (by kernel_rfl)) (fun w => by simp [Instr.fieldAt, go_sem]), congrArg (fun n => Value.pointer (some ⟨w5.heap.size, n, none⟩)) (Nat.zero_add 3), ⟨Nat.le_refl _, fun _ _ _ _ => rfl⟩, hI⟩
            · refine step_skip rfl rfl rfl fun a w m hp hI => ?_
              have h1 : a.tmps.getD 49 undef = .pointer (some ⟨w5.heap.size, 3, none⟩) := hp.pre 20 (by decide) _ rfl
              obtain ⟨r, h2, hr⟩ : ∃ r, a.tmps.getD 45 undef = .string r ∧ r.size ≤ 1000 := hp.pre 13 (by decide) _ rfl
              obtain ⟨mv, hmv, hb, stx⟩ := hI
              refine ⟨_, ex_store_str rfl h1 h2 (fun w => by kernel_rfl) ((row_cells hb).1 3) ((row_cells hb).2 3), trivial, ⟨by simp [World.setCell], fun i _ _ hne => Below.heap_setCell _ _ _ _ hne⟩, ⟨mv.time, mv.kind, mv.team, r⟩, ⟨hmv.time, hmv.kind, hmv.team, hr⟩, ?_, ?_⟩
              · simp [World.setCell, Array.getElem?_modify, hb]
              · exact ⟨stx.s.keep fun i hi => Below.heap_setCell _ _ _ _ (by dsimp only; omega), ⟨stx.g.os, stx.g.tape, stx.g.output, by simpa [World.setCell] using stx.g.size, fun i hi hne => (Below.heap_setCell _ _ _ _ (by have := st5.g.size; dsimp only; omega)).trans (stx.g.block i hi hne)⟩⟩
      case rest =>
        obtain ⟨mv, hmv, hmb, stx⟩ := hcut
        obtain ⟨hc, hf⟩ := row_cells hmb
        have hownx := own_gr hown stx.g hlt
        go_wp2_with (at_builtin; refine wpList_append_own _ rfl _ _ 29 rfl w.heap.size 45 i0 _ 4 48 Tryz.underlying29 hi hz0 hz1 hz2 rfl (by decide) _ _ _ rfl (hownx.alloc _) ⟨wc.heap.size, 0, none⟩ 1 1 mv.c rfl rfl ?c1 ?c2 ?c3 ?c4 ?c5 ?_)
        case c1 => exact new_cells rfl
        case c2 => exact fun u hu => by simp [Mv.c] at hu; rcases hu with rfl | rfl | rfl | rfl <;> rfl
        case c3 => unfold maxLen; omega
        case c4 => omega
        case c5 => have := stx.g.size; have := st.g.size; simp; omega
        intro v' w' hown' hg' _
        have stf := ((st.then stx).alloc (.cells #[.int .i64 mv.time, .int .i64 mv.kind, .string mv.team, .string mv.player] 45)).grown hg' hlt (fun k hk => (hown.lt k hk).1)
        clear hc hf hmb hownx hg'
        go_wp2
        go_roundw
        case rel =>
          refine ⟨k + 1, l ++ [mv], x + r2, by omega, by go_num, rfl, by omega, by omega, ?_, by simp [hlk], ?_, ?_⟩
          · simpa using hown'
          · intro y hy
            rcases List.mem_append.1 hy with hy | hy
            · exact hok y hy
            · simp at hy; subst hy; exact hmv
          · rw [HN.out]; exact stf
        case measure => simp [intOf]; omega
    · have hkm : k = m := by omega
      subst hkm
      have HO := Lib.hid hown
      clear hown hlt2
      go_wp2_with fail
      refine (sortStableMv_any (w := wr) (base := w.heap.size) (l := l) (by rw [hlk]; exact HO.out) hok (by omega)).mono ?_
      rintro e w2 ⟨rfl, l2, hl2, hok2, hown2, hg2⟩
      have st2 := st.grown hg2 hlt fun k hk => (HO.out.lt k hk).1
      have HO2 := Lib.hid hown2
      clear hown2 hg2
      go_wp2_with fail
      refine (compactMv_any (w := w2) (base := w.heap.size) (l := l2) (by rw [hl2]; exact HO2.out) (by omega) hok2).mono ?_
      rintro e w3 ⟨v3, l3, rfl, hl3, hok3, hown3, hg3⟩
      have st3 := st2.grown hg3 hlt fun k hk => (HO2.out.lt k hk).1
      clear hg3
      go_wp2
      go_ret
      exact ⟨⟨_, l3, rfl, Sl.of_own hown3 (by omega), by omega, hok3⟩, st3.mono (by omega)⟩
end Go.Proofs.YtfmffobdkfgekaaGreat
/- What the laws' walks share: the numbers that come in, the stream over them; equal lists are equal. -/
set_option linter.unusedVariables false
set_option linter.unusedSimpArgs false
namespace Go.Proofs.YtfmffobdkfgekaaGreat
open Go.RowKit Go.Maps

/-- The numbers that came in. -/
def IntsIn (w : World) (A : Option Addr) (len : Nat) : Prop := len ≤ 1000000000000000000 ∧ ∀ i, i < len → ∃ ab ao x, A = some ⟨ab, ao, none⟩ ∧ ab < w.heap.size ∧ w.cell? ⟨ab, ao + i, none⟩ = some (.int .i64 x) ∧ -9223372036854775808 ≤ x ∧ x ≤ 9223372036854775807
theorem stream_new {w : World} {A : Option Addr} {len c : Nat} (h : IntsIn w A len) : SOk (w.alloc (.cells #[.slice A len c, .int .i64 0] 25)) w.heap.size 1000000000000 := by
  refine ⟨0, A, len, c, heap_alloc_new _ _, by omega, h.1, fun i hi => ?_⟩
  obtain ⟨ab, ao, x, e1, e2, e3, e4⟩ := h.2 i hi
  refine ⟨ab, ao, x, e1, e2, ?_, e4⟩
  rw [World.cell?_of_block (w := w) (Below.heap_alloc _ _ _ e2)]; exact e3
theorem St.bel {n : Nat} {w0 w : World} {o : Obj} (h : St w0.heap.size n (w0.alloc o) w) : Below w0.heap.size w0 w := by
  have h1 := (Below.refl w0.heap.size w0).alloc (Nat.le_refl _) o
  exact h1.trans (h.g.below (by simp))
theorem equal_same {lo1 lo2 : Nat} {w : World} {v1 v2 : Value} {l : List ByteArray} (h1 : Sl lo1 w v1 1 l.length (l.map Value.string)) (h2 : Sl lo2 w v2 1 l.length (l.map Value.string)) :
    Calls Tryz.prog 79 #[v1, v2] w fun e w' => e = .returned (.bool true) ∧ Drew w w' := by
  obtain ⟨A1, c1, rfl, hn1⟩ := h1.shape
  obtain ⟨A2, c2, rfl, hn2⟩ := h2.shape
  rcases Nat.eq_zero_or_pos l.length with h0 | h0
  · rw [h0]
    refine (Tryz.slices_Equal_string_empty A1 A2 c1 0 c2 w (by omega)).mono ?_
    rintro e w' ⟨rfl, rfl⟩
    exact ⟨by simp, Drew.refl _⟩
  · obtain ⟨x, hx⟩ : ∃ x, l[0]? = some x := ⟨_, List.getElem?_eq_getElem h0⟩
    obtain ⟨b1, o1, rfl, _, _, _⟩ := str_at h1 hx
    obtain ⟨b2, o2, rfl, _, _, _⟩ := str_at h2 hx
    have hc : ∀ {lo b o c : Nat}, Sl lo w (.slice (some ⟨b, o, none⟩) l.length c) 1 l.length (l.map Value.string) → ∀ j, j < l.length → w.cell? ⟨b, o + j, none⟩ = some (.string (l.getD j ByteArray.empty)) := fun {lo b o c} h j hj => by
      obtain ⟨y, hy⟩ : ∃ y, l[j]? = some y := ⟨_, List.getElem?_eq_getElem hj⟩
      obtain ⟨b', o', hbo, _, _, hc⟩ := str_at h hy
      cases hbo
      rw [List.getD_eq_getElem?_getD, hy]
      exact hc
    refine (Tryz.slices_Equal_string b1 o1 l.length c1 b2 o2 l.length c2 l l w (Nat.le_refl _) (Nat.le_refl _) (by omega) (by omega) (hc h1) (hc h2)).mono ?_
    rintro e w' ⟨rfl, q, rfl⟩
    exact ⟨by simp, q, rfl⟩
theorem sl_prefix {w : World} {b n c : Nat} {cs : Array Value} {e : TypeId} (h : w.heap[b]? = some (.cells cs e (0, 0))) (hn : n ≤ cs.size) (hc : n ≤ c) (hc2 : c ≤ 9223372036854775807) (hn2 : n ≤ 1099511627776) : Sl b w (.slice (some ⟨b, 0, none⟩) n c) 1 n (cs.toList.take n) := by
  refine ⟨by simp; omega, hn2, _, _, rfl, hc, hc2, fun _ => ⟨b, 0, rfl, Nat.le_refl _, (Array.getElem?_eq_some_iff.1 h).1, fun j u hu => ?_⟩⟩
  rw [cell_of_row w b (0 + j) cs e (0, 0) h]
  rw [List.getElem?_take] at hu
  split at hu
  · simpa using hu
  · cases hu
/-- A law's data in the course of its walk: bounds in a box, moves, players. -/
structure LawAt (w0 : World) (bb : Nat) (b : Bd) (mv : Value) (l : List Mv) (pv : Value) (ps : List ByteArray) (W : World) : Prop where
  box : W.heap[bb]? = some (.cells #[.int .i64 b.most, .int .i64 b.hurt, .int .i64 b.adds, .int .i64 b.hold] 27 (0, 0))
  mvs : Sl 0 W mv 4 l.length (l.flatMap Mv.c)
  pvs : Sl 0 W pv 1 ps.length (ps.map Value.string)
  bel : Below w0.heap.size w0 W
section
variable {w0 W W' : World} {bb : Nat} {b : Bd} {mv pv : Value} {l : List Mv} {ps : List ByteArray}
theorem LawAt.below (h : LawAt w0 bb b mv l pv ps W) (hb : Below W.heap.size W W') : LawAt w0 bb b mv l pv ps W' :=
  ⟨(hb.block _ (Array.getElem?_eq_some_iff.1 h.box).1).trans h.box, h.mvs.below hb, h.pvs.below hb, h.bel.trans (hb.mono h.bel.size)⟩
theorem LawAt.drew (h : LawAt w0 bb b mv l pv ps W) (hd : Drew W W') : LawAt w0 bb b mv l pv ps W' := by
  obtain ⟨q, rfl⟩ := hd
  exact h.below (below_drewN (Below.refl _ W) q)
theorem Drew.sl (hd : Drew W W') {lo sz n : Nat} {v : Value} {vs : List Value} (h : Sl lo W v sz n vs) : Sl lo W' v sz n vs := by
  obtain ⟨q, rfl⟩ := hd
  exact h.below (below_drewN (Below.refl _ W) q)
theorem LawAt.alloc (h : LawAt w0 bb b mv l pv ps W) (o : Obj) : LawAt w0 bb b mv l pv ps (W.alloc o) := h.below ((Below.refl _ _).alloc (Nat.le_refl _) o)
end
end Go.Proofs.YtfmffobdkfgekaaGreat
/- slices.SortFunc over moves, by either order: one list, rising. -/
set_option linter.unusedVariables false
set_option linter.unusedSimpArgs false
namespace Go.Proofs.YtfmffobdkfgekaaGreat
open Go.RowKit Go.Sort

/-! ### comparers -/
/-- f compares: it turns its sign when its arguments change places, and 'not above' is handed on. -/
structure Cmp {α : Type} (f : α → α → Int) : Prop where
  anti : ∀ x y, f y x = - f x y
  trans : ∀ x y z, f x y ≤ 0 → f y z ≤ 0 → f x z ≤ 0
section
variable {α β : Type} {f g : α → α → Int}
def lexI (a b : Int) : Int := if a ≠ 0 then a else b
theorem Cmp.lex (hf : Cmp f) (hg : Cmp g) : Cmp fun x y => lexI (f x y) (g x y) := by
  refine ⟨fun x y => ?_, fun x y z h1 h2 => ?_⟩
  · have a1 := hf.anti x y
    have a2 := hg.anti x y
    unfold lexI
    split <;> split <;> omega
  · have a1 := hf.anti x y
    have a2 := hf.anti y z
    have a3 := hf.anti x z
    have t1 := hf.trans x y z
    have t2 := hf.trans y z x
    have t3 := hf.trans z x y
    have t4 := hg.trans x y z
    unfold lexI at *
    split at h1 <;> split at h2 <;> split <;> omega
theorem Cmp.of (hf : Cmp f) (k : β → α) : Cmp fun x y => f (k x) (k y) := ⟨fun x y => hf.anti _ _, fun x y z => hf.trans _ _ _⟩
theorem cmp_zero : Cmp fun _ _ : α => (0 : Int) := ⟨fun _ _ => rfl, fun _ _ _ _ _ => Int.le_refl _⟩
theorem Cmp.swo [Inhabited α] (hf : Cmp f) : SWO (ltOf f) := by
  have lt : ∀ x y, ltOf f x y = decide (f x y < 0) := fun _ _ => rfl
  refine ⟨fun x => ?_, fun x y z h1 h2 => ?_, fun x y z h1 h2 => ?_⟩
  · rw [lt, decide_eq_false_iff_not]
    have := hf.anti x x; omega
  · rw [lt, decide_eq_true_eq] at *
    have a1 := hf.anti x y
    have a2 := hf.anti y z
    have a3 := hf.anti x z
    have t1 := hf.trans x y z
    have t2 := hf.trans y z x
    have t3 := hf.trans z x y
    omega
  · rw [lt, decide_eq_false_iff_not] at *
    have a1 := hf.anti x y
    have a2 := hf.anti y z
    have a3 := hf.anti x z
    have t1 := hf.trans z y x
    omega
end
theorem cmp_int : Cmp cmpI := by
  refine ⟨fun x y => cmpI_anti x y, fun x y z => ?_⟩
  unfold cmpI
  split <;> split <;> (try split) <;> (try split) <;> (try split) <;> (try split) <;> omega
theorem cb_cons (x y : UInt8) (a b : List UInt8) : Lib.compareBytes (x :: a) (y :: b) = if x < y then -1 else if y < x then 1 else Lib.compareBytes a b := by
  rw [Lib.compareBytes]
theorem bytes_trans : ∀ (a b c : List UInt8), Lib.compareBytes a b ≤ 0 → Lib.compareBytes b c ≤ 0 → Lib.compareBytes a c ≤ 0
  | [], b, [], _, _ => by simp [Lib.compareBytes]
  | [], b, z :: c, _, _ => by simp [Lib.compareBytes]
  | x :: a, [], c, h, _ => by simp [Lib.compareBytes] at h
  | x :: a, y :: b, [], _, h => by simp [Lib.compareBytes] at h
  | x :: a, y :: b, z :: c, h1, h2 => by
    rw [cb_cons] at h1 h2 ⊢
    have ih := bytes_trans a b c
    simp only [UInt8.lt_iff_toNat_lt] at *
    split at h1 <;> split at h2 <;> (try split at h1) <;> (try split at h2) <;> (try split) <;> (try split) <;> (try omega) <;> (first | exact ih h1 h2 | (exfalso; omega))
theorem cmp_str : Cmp cmpS := ⟨fun x y => cmpS_anti x y, fun x y z => bytes_trans _ _ _⟩
theorem byMom_lex (x y : Mv) : byMom x y = lexI (cmpI x.time y.time) (lexI (cmpS x.team y.team) (lexI (cmpS x.player y.player) (lexI (cmpI x.kind y.kind) 0))) := rfl
theorem cmp_mom : Cmp byMom := by
  have h := ((cmp_int.of Mv.time).lex ((cmp_str.of Mv.team).lex ((cmp_str.of Mv.player).lex ((cmp_int.of Mv.kind).lex (cmp_zero (α := Mv))))))
  exact ⟨fun x y => h.anti x y, fun x y z => h.trans x y z⟩
theorem mom_ord (x y : Mv) : moveOrd x y = byMom x y := by
  have h1 := orders_agree y x
  have h2 := cmp_mom.anti x y
  omega
theorem str_eq {a b : ByteArray} (h : a.toList = b.toList) : a = b := by
  rw [toList_data, toList_data] at h
  exact Go.WideShapes.bytes_inj h
theorem mom_zero {x y : Mv} (h : byMom x y = 0) : x = y := by
  rw [byMom_lex] at h
  unfold lexI at h
  have h1 : cmpI x.time y.time = 0 := by
    by_cases e : cmpI x.time y.time = 0
    · exact e
    · rw [if_pos e] at h; exact h
  rw [if_neg (by rw [h1]; simp)] at h
  have h2 : cmpS x.team y.team = 0 := by
    by_cases e : cmpS x.team y.team = 0
    · exact e
    · rw [if_pos e] at h; exact h
  rw [if_neg (by rw [h2]; simp)] at h
  have h3 : cmpS x.player y.player = 0 := by
    by_cases e : cmpS x.player y.player = 0
    · exact e
    · rw [if_pos e] at h; exact h
  rw [if_neg (by rw [h3]; simp)] at h
  have h4 : cmpI x.kind y.kind = 0 := by
    by_cases e : cmpI x.kind y.kind = 0
    · exact e
    · rw [if_pos e] at h; exact h
  obtain ⟨a1, a2, a3, a4⟩ := x
  obtain ⟨b1, b2, b3, b4⟩ := y
  dsimp only at *
  rw [cmpI_zero.1 h1, cmpI_zero.1 h4, str_eq (cmpS_zero.1 h2), str_eq (cmpS_zero.1 h3)]

/-! ### the sort -/
def sortL (l : List Mv) : List Mv := l.mergeSort fun x y => !decide (byMom y x < 0)
theorem sortL_perm (l : List Mv) : (sortL l).Perm l := List.mergeSort_perm _ _
theorem sortL_len (l : List Mv) : (sortL l).length = l.length := (sortL_perm l).length_eq
theorem sortL_ok {l : List Mv} (h : ∀ x ∈ l, x.ok) : ∀ x ∈ sortL l, x.ok := fun x hx => h x ((sortL_perm l).mem_iff.1 hx)
def ordMom (x y : SMv) : Int := byMom x.1 y.1
theorem ordMv_eq : ordMv = ordMom := by funext x y; exact mom_ord x.1 y.1
theorem ordMom_swo : SWO (ltOf ordMom) := (cmp_mom.of (fun x : SMv => x.1)).swo
theorem ordMom_total (x y : SMv) (h1 : ltOf ordMom x y = false) (h2 : ltOf ordMom y x = false) : x = y := by
  have lt : ∀ x y, ltOf ordMom x y = decide (byMom x.1 y.1 < 0) := fun _ _ => rfl
  rw [lt, decide_eq_false_iff_not] at h1 h2
  have := cmp_mom.anti x.1 y.1
  exact Subtype.ext (mom_zero (by omega))
theorem entersByMoment : ∀ args w, (callFunc 56 args).run Tryz.prog w = .ok (.enter 56 args) w := enters_of Tryz.func56 (by kernel_rfl) rfl
theorem cmpMom (blk off size : Nat) (w : World) : CmpLays Tryz.prog 56 #[] encMv 4 ordMom blk off size w := by
  intro m os dk hs x y
  exact byMoment_grow x.1 y.1 _
theorem cmpMv2 (blk off size : Nat) (w : World) : CmpLays Tryz.prog 50 #[] encMv 4 ordMom blk off size w := by
  have := cmpMv blk off size w
  rw [ordMv_eq] at this
  exact this
/-- g compares moves. -/
def Orders (g : Nat) : Prop := (∀ args w, (callFunc g args).run Tryz.prog w = .ok (.enter g args) w) ∧ ∀ blk off size w, CmpLays Tryz.prog g #[] encMv 4 ordMom blk off size w
theorem orders_mom : Orders 56 := ⟨entersByMoment, cmpMom⟩
theorem orders_ref : Orders 50 := ⟨entersMoveOrder, cmpMv2⟩
theorem sortMv_any {g : Nat} (hg : Orders g) {w : World} {base : Nat} {v : Value} {l : List Mv} (hown : w.ownsRow base 45 4 v l.length (l.flatMap Mv.c)) (hl : ∀ x ∈ l, x.ok) (hn : l.length ≤ 100000) :
    Calls Tryz.prog 55 #[v, .func (.func g) #[] #[]] w fun e w' =>
      e = .returned (.tuple #[]) ∧ w'.ownsRow base 45 4 v (sortL l).length ((sortL l).flatMap Mv.c) ∧ w.grownBy w' v.ownBlock := by
  obtain ⟨ls, hls⟩ := mv_lift l hl
  rcases hown.2 with ⟨rfl, h0⟩ | ⟨blk, cap, cur, rfl, hrest⟩
  · have hl0 : l = [] := List.eq_nil_of_length_eq_zero h0
    subst hl0
    refine (AnyF.slices_SortFunc_none Tryz.sortMv none 0 _ w).mono ?_
    rintro e w' ⟨rfl, rfl⟩
    have h0' : sortL [] = [] := List.eq_nil_of_length_eq_zero (by rw [sortL_len]; rfl)
    exact ⟨rfl, by rw [h0']; exact hown, ⟨rfl, rfl, rfl, Nat.le_refl _, fun _ _ _ => rfl⟩⟩
  · have hsz : (⟨ls⟩ : Array SMv).size = l.length := by rw [← hls]; simp
    have hown' : w.ownsRow base 45 4 (.slice (some ⟨blk, 0, none⟩) (⟨ls⟩ : Array SMv).size cap) (⟨ls⟩ : Array SMv).size ((⟨ls⟩ : Array SMv).toList.flatMap encMv) := by
      rw [hsz, mv_flat, hls]; exact hown
    obtain ⟨hH, hlt⟩ := holdsK_of_own encMv_len hown'
    have hcon := AnyQ.slices_SortFunc_total Tryz.sortMv 4 Tryz.isAgg45 Tryz.sizeOf45 encMv encMv_len encMv_one ordMom ordMom_swo g #[] blk 0 cap (⟨ls⟩ : Array SMv) w hg.1 (hg.2 _ _ _ _) hH hlt (by omega) ordMom_total
    rw [hsz] at hcon
    refine Calls.mono hcon ?_
    rintro e w' ⟨rfl, n, os, rfl⟩
    have hms : ((ls.mergeSort fun x y => !(ltOf ordMom) y x).map (·.1)) = sortL l := by
      rw [← hls]
      exact List.map_mergeSort fun a _ b _ => rfl
    have hdk : (ls.mergeSort fun x y => !(ltOf ordMom) y x).toArray.size = (⟨ls⟩ : Array SMv).size := by simp
    obtain ⟨k1, k2⟩ := own_sortWorldK encMv_len hdk n os hown'
    rw [hsz] at k1
    refine ⟨rfl, ?_, k2⟩
    rw [sortL_len, ← hms, ← mv_flat]
    exact k1
end Go.Proofs.YtfmffobdkfgekaaGreat
/- append of a slice that is read onto a row of the call's own; slices.Grow of nil, slices.Concat of two lists of moves. -/
set_option linter.unusedVariables false
set_option linter.unusedSimpArgs false
namespace Go.Proofs.YtfmffobdkfgekaaGreat
open Go.RowKit

theorem run_append_sl {P : Program} {w : World} (base : Nat) (t ty e : TypeId) (i : TypeInfo) (z : Value) (size bytes : Nat) (ht : P.underlying t = some (.slice e)) (hi : P.info? e = some i) (hz : i.zero = some z)
    (hsize : i.size = size) (hby : i.bytes = bytes) (hzs : z.cells.size = size) (hsz : 0 < size)
    {v : Value} {n : Nat} {xs : List Value} (hown : w.ownsRow base e size v n xs) {lo : Nat} {u : Value} {m : Nat} {news : List Value} (hs : Sl lo w u size m news) (h1 : ∀ x ∈ news, x.oneCell' = true)
    (h63 : n + m ≤ maxLen) (hbytes : (n + m) * bytes ≤ 140737488355328) (hbase : base ≤ w.heap.size) :
    ∃ v' w', (Builtin.append_ #[t, t] ty #[v, u]).run P w = .ok v' w' ∧ w'.ownsRow base e size v' (n + m) (xs ++ news) ∧ w.grownBy w' v.ownBlock := by
  obtain ⟨hl, hm, A, c, rfl, hnc, hc2, hcell⟩ := hs
  cases A with
  | none =>
    have hm0 : m = 0 := by
      rcases Nat.eq_zero_or_pos m with h | h
      · exact h
      · obtain ⟨b, o, hb, _⟩ := hcell h; cases hb
    subst hm0
    have hn0 : news = [] := List.eq_nil_of_length_eq_zero (by rw [hl]; simp)
    subst hn0
    have hrun : (Builtin.append_ #[t, t] ty #[v, .slice none 0 c]).run P w = .ok v w := by
      rcases hown.2 with ⟨rfl, h0⟩ | ⟨g, cap, cur, rfl, _, _, hn, _⟩
      · exact run_append_nothing w t t ty e i ht hi none 0 0 (Nat.le_refl _) _ (Src.ofNil w ht c)
      · exact run_append_nothing w t t ty e i ht hi (some ⟨g, 0, none⟩) n cap hn _ (Src.ofNil w ht c)
    exact ⟨v, w, hrun, by simpa using hown, ⟨rfl, rfl, rfl, Nat.le_refl _, fun _ _ _ => rfl⟩⟩
  | some ad =>
    have hnews : ∀ j x, news[j]? = some x → w.cell? (ad.add j) = some x := fun j x hx => by
      have hj : j < news.length := (List.getElem?_eq_some_iff.1 hx).1
      have h0 : 0 < m := by
        rcases Nat.eq_zero_or_pos m with h | h
        · rw [hl, h] at hj; simp at hj
        · exact h
      obtain ⟨b, o, hb, _, _, hcc⟩ := hcell h0
      cases hb
      rw [add_off]
      exact hcc j x hx
    obtain ⟨v', w', r1, r2, r3, _⟩ := run_append_own w base t ty e i z size bytes ht hi hz hsize hby hzs hsz v n xs hown ad m c news hl hnews h1 h63 hbytes hbase
    exact ⟨v', w', r1, r2, r3⟩
theorem wpList_append_sl {P : Program} {w : World} {ops : Array Oper} {rest : List Oper} {o : Oper} {a : Act} {Q : Exit → Act → World → Prop} (hgd : o.guard = none) (s x : Operand) (t : TypeId)
    (ho : o.op = .call { callee := .builtin .append, args := #[s, x], argTypes := #[t, t] })
    (base : Nat) (e : TypeId) (i : TypeInfo) (z : Value) (size bytes : Nat) (ht : P.underlying t = some (.slice e)) (hi : P.info? e = some i) (hz : i.zero = some z)
    (hsize : i.size = size) (hby : i.bytes = bytes) (hzs : z.cells.size = size) (hsz : 0 < size)
    (v : Value) (n : Nat) (xs : List Value) (hs : a.eval s = v) (hown : w.ownsRow base e size v n xs) (lo : Nat) (u : Value) (m : Nat) (news : List Value) (hx : a.eval x = u) (hsl : Sl lo w u size m news) (h1 : ∀ x ∈ news, x.oneCell' = true)
    (h63 : n + m ≤ maxLen) (hbytes : (n + m) * bytes ≤ 140737488355328) (hbase : base ≤ w.heap.size)
    (h : ∀ v' w', w'.ownsRow base e size v' (n + m) (xs ++ news) → w.grownBy w' v.ownBlock → wpList P ops Q rest (a.put o.dst v') w') : wpList P ops Q (o :: rest) a w := by
  refine wpList_plain hgd fun K hK => ?_
  obtain ⟨v', w', hrun, k1, k2⟩ := run_append_sl base t o.type e i z size bytes ht hi hz hsize hby hzs hsz hown hsl h1 h63 hbytes hbase
  unfold Oper.wp
  simp [execOp, ho, resolve, invoke, builtin, hs, hx, hrun, Result.andThen]
  exact hK _ _ (h v' w' k1 k2)

theorem growMv_any (n : Nat) (w : World) (hn : n ≤ 100000) :
    Calls Tryz.prog 107 #[.slice none 0 0, .int .i64 n] w fun e w' => ∃ v', e = .returned v' ∧ w'.ownsRow w.heap.size 45 4 v' 0 [] ∧ Below w.heap.size w w' := by
  obtain ⟨i0, hi, hz0, hz1, hz2⟩ := info_parts infoMove
  by_cases h0 : n = 0
  · subst h0
    refine (Any8.slices_Grow_room Tryz.growMv none 0 0 0 w (by omega) (by omega) (by omega) (by omega)).mono ?_
    rintro e w' ⟨rfl, rfl⟩
    exact ⟨_, rfl, World.ownsRow_nil _ _ _ _, Below.refl _ _⟩
  · refine (Any8.slices_Grow_grow Tryz.growMv i0 _ hi hz0 (by rw [hz1]; omega) none 0 0 n [] w (by omega) (by omega) (by rw [hz2]; omega) (by omega) (by simp) (fun _ => rfl) (fun a ha => by cases ha)).mono ?_
    rintro e w' ⟨rfl, rfl⟩
    refine ⟨_, rfl, ⟨by simp, .inr ⟨w.heap.size, _, _, rfl, Nat.le_refl _, heap_alloc_new w.drew _, Nat.zero_le _, grownCap_le_maxLen w _ _ _ (by unfold maxLen; omega), ?_, by simp⟩⟩, (below_drewN (Below.refl w.heap.size w) 1).alloc (Nat.le_refl _) _⟩
    have hge := grownCap_ge w (0 + n) 0 45
    simp only [Array.size_append, List.size_toArray, List.length_nil, size_zeroCells]
    have h4 : (Value.agg #[.int .i64 0, .int .i64 0, .string ⟨#[]⟩, .string ⟨#[]⟩]).cells.size = 4 := rfl
    rw [h4]
    show 0 + (0 + n - 0) * 4 + (grownCap w (0 + n) 0 45 - (0 + n)) * 4 = grownCap w (0 + n) 0 45 * 4
    omega
theorem mv_one {l : List Mv} : ∀ u ∈ l.flatMap Mv.c, u.oneCell' = true := fun u hu => by
  obtain ⟨x, _, hx⟩ := List.mem_flatMap.1 hu
  simp [Mv.c] at hx
  rcases hx with rfl | rfl | rfl | rfl <;> rfl
set_option maxHeartbeats 800000 in
set_option maxRecDepth 20000 in
theorem concatMv_any {w : World} {bb lo1 lo2 : Nat} {va vb : Value} {a b : List Mv} (h : w.heap[bb]? = some (.cells #[va, vb] 29 (0, 0))) (ha : Sl lo1 w va 4 a.length (a.flatMap Mv.c)) (hb : Sl lo2 w vb 4 b.length (b.flatMap Mv.c)) (hn : a.length + b.length ≤ 1000) :
    Calls Tryz.prog 54 #[.slice (some ⟨bb, 0, none⟩) 2 2] w fun e w' => ∃ v', e = .returned v' ∧ w'.ownsRow w.heap.size 45 4 v' (a ++ b).length ((a ++ b).flatMap Mv.c) ∧ Below w.heap.size w w' := by
  obtain ⟨i0, hi, hz0, hz1, hz2⟩ := info_parts infoMove
  obtain ⟨hc, hf⟩ := row_cells h
  obtain ⟨A1, c1, rfl, hn1⟩ := ha.shape
  obtain ⟨A2, c2, rfl, hn2⟩ := hb.shape
  have HA := Lib.hid ha
  have HB := Lib.hid hb
  have HH := Lib.hid h
  have hlen : (a ++ b).length = a.length + b.length := List.length_append
  have HLEN := Lib.hid hlen
  have hsz : bb < w.heap.size := (Array.getElem?_eq_some_iff.1 h).1
  have hfm : (a ++ b).flatMap Mv.c = a.flatMap Mv.c ++ b.flatMap Mv.c := List.flatMap_append
  have HFM := Lib.hid hfm
  clear h ha hb hlen hfm hf
  generalize a.length = na at *
  generalize b.length = nb at *
  have HG := Lib.hid (growMv_any (na + nb) w (by omega))
  go_enter Tryz.func54, Tryz.ntmps54
  go_wp2
  refine wp_loop_rounds 3 ?_
  rw [rounds_succ]
  go_wp2
  rw [rounds_succ]
  go_wp2
  rw [rounds_succ]
  go_wp2_with fail
  refine HG.out.mono ?_
  rintro e w1 ⟨v1, rfl, hown1, hb1⟩
  have h1 := (hb1.block _ hsz).trans HH.out
  have E1 := Lib.hid (And.intro hown1 (And.intro hb1 (And.intro (HA.out.below hb1) (HB.out.below hb1))))
  clear hc hown1 hb1
  obtain ⟨hc, hf⟩ := row_cells h1
  have hsz1 := (Array.getElem?_eq_some_iff.1 h1).1
  have HH1 := Lib.hid h1
  clear hf h1
  go_wp2
  refine wp_loop_rounds 3 ?_
  rw [rounds_succ]
  go_wp2_with (at_builtin; refine wpList_append_sl rfl _ _ 29 rfl w.heap.size 45 i0 _ 4 48 Tryz.underlying29 hi hz0 hz1 hz2 rfl (by decide) _ _ _ rfl E1.out.1 lo1 _ na (a.flatMap Mv.c) rfl E1.out.2.2.1 mv_one ?c1 ?c2 ?c3 ?_)
  case c1 => unfold maxLen; omega
  case c2 => omega
  case c3 => exact E1.out.2.1.size
  intro v2 w2 hown2 hg2
  have hbw2 : ∀ k, v1.ownBlock = some k → w.heap.size ≤ k := fun k hk => (E1.out.1.lt k hk).1
  have hb2 := E1.out.2.1.grown hg2 E1.out.2.1.size hbw2
  have h2 := (hb2.block _ hsz).trans HH.out
  have E2 := Lib.hid (And.intro hown2 (And.intro hb2 (HB.out.keep hb2.size fun i _ hi => hb2.block i hi)))
  clear hc hown2 hg2 hb2 hbw2
  obtain ⟨hc, hf⟩ := row_cells h2
  clear hf h2
  go_wp2
  rw [rounds_succ]
  go_wp2_with (at_builtin; refine wpList_append_sl rfl _ _ 29 rfl w.heap.size 45 i0 _ 4 48 Tryz.underlying29 hi hz0 hz1 hz2 rfl (by decide) _ _ _ rfl E2.out.1 lo2 _ nb (b.flatMap Mv.c) rfl E2.out.2.2 mv_one ?d1 ?d2 ?d3 ?_)
  case d1 => unfold maxLen; omega
  case d2 => omega
  case d3 => exact E2.out.2.1.size
  intro v3 w3 hown3 hg3
  have hb3 := E2.out.2.1.grown hg3 E2.out.2.1.size fun k hk => (E2.out.1.lt k hk).1
  have E3 := Lib.hid (And.intro hown3 hb3)
  clear hc hown3 hg3 hb3
  go_wp2
  rw [rounds_succ]
  go_wp2
  go_ret
  refine ⟨_, rfl, ?_, E3.out.2⟩
  rw [HLEN.out, HFM.out]
  simpa using E3.out.1
/-- Two lists of moves that are one are equal. -/
theorem equalMv_nil (A B : Option Addr) (c d : Nat) (w : World) : Calls Tryz.prog 18 #[.slice A 0 c, .slice B 0 d] w fun e w' => e = .returned (.bool true) ∧ w = w' := by
  go_enter Tryz.func18, Tryz.ntmps18
  go_wp2
  refine wp_loop_rounds 1 ?_
  rw [rounds_succ]
  go_wp2
  go_ret
  exact ⟨rfl, rfl⟩
end Go.Proofs.YtfmffobdkfgekaaGreat
/- roster.Merge, and MovesOf of the reference. -/
set_option linter.unusedVariables false
set_option linter.unusedSimpArgs false
namespace Go.Proofs.YtfmffobdkfgekaaGreat
open Go.RowKit

def mergedL (a b : List Mv) : List Mv := compM (sortL (a ++ b))
def mergeE (a b : List Mv) : Int := firstI [mfault a, mfault b]
def mergeL (a b : List Mv) : List Mv := if mergeE a b = 0 then mergedL a b else []
theorem merged_len (a b : List Mv) : (mergedL a b).length ≤ a.length + b.length := by
  have h1 := compUp_len (sortL (a ++ b)) (sortL (a ++ b)).length
  have h2 := sortL_len (a ++ b)
  rw [List.length_append] at h2
  unfold mergedL compM
  omega
set_option maxHeartbeats 1600000 in
set_option maxRecDepth 20000 in
theorem merge_any {lo1 lo2 : Nat} {w : World} {va vb : Value} {a b : List Mv} (ha : Sl lo1 w va 4 a.length (a.flatMap Mv.c)) (hb : Sl lo2 w vb 4 b.length (b.flatMap Mv.c)) (hn : a.length + b.length ≤ 500) (hoa : ∀ x ∈ a, x.ok) (hob : ∀ x ∈ b, x.ok) :
    Calls Tryz.prog 9 #[va, vb] w fun e w' => ∃ v', e = .returned (.tuple #[v', .int .i64 (mergeE a b)]) ∧ Sl 0 w' v' 4 (mergeL a b).length ((mergeL a b).flatMap Mv.c) ∧ Below w.heap.size w w' := by
  obtain ⟨A1, c1, rfl, _⟩ := ha.shape
  obtain ⟨A2, c2, rfl, _⟩ := hb.shape
  have H1 := Lib.hid (And.intro ha hb)
  have HO := Lib.hid (And.intro hoa hob)
  clear ha hb hoa hob
  go_enter Tryz.func9, Tryz.ntmps9
  go_wp2_with fail
  refine (checkMoves_any H1.out.1 rfl (by omega) HO.out.1).mono ?_
  rintro e w1 ⟨rfl, hb1⟩
  have B1 := Lib.hid hb1
  clear hb1
  go_wp2_with fail
  refine (checkMoves_any (H1.out.2.below B1.out) rfl (by omega) HO.out.2).mono ?_
  rintro e w2 ⟨rfl, hb2⟩
  have B2 := Lib.hid (B1.out.trans (hb2.mono B1.out.size))
  clear hb2
  obtain ⟨f1, hf1⟩ : ∃ x, mfault a = x := ⟨_, rfl⟩
  obtain ⟨f2, hf2⟩ : ∃ x, mfault b = x := ⟨_, rfl⟩
  obtain ⟨f, hf⟩ : ∃ x, mergeE a b = x := ⟨_, rfl⟩
  rw [hf1, hf2]
  have HF := Lib.hid hf
  have HFF := Lib.hid (show firstI [f1, f2] = f by rw [← hf1, ← hf2, ← hf]; rfl)
  clear hf1 hf2 hf
  go_wp2_with fail
  refine (first_any (l := [f1, f2]) (lo := 0) (n := 2) (Sl.lit rfl (Nat.zero_le _) rfl (by simp) (by omega)) rfl).mono ?_
  rintro e w3 ⟨rfl, hd3⟩
  rw [HFF.out]
  have B3 := Lib.hid (show Below w.heap.size w w3 by
    obtain ⟨q, rfl⟩ := hd3
    exact below_drewN (B2.out.alloc B2.out.size _) q)
  clear hd3
  by_cases h0 : f = 0
  · subst h0
    have HM := Lib.hid (show mergeL a b = mergedL a b by unfold mergeL; rw [if_pos HF.out])
    have ht := (Below.refl w3.heap.size w3).alloc (Nat.le_refl _) (.cells #[.slice A1 a.length c1, .slice A2 b.length c2] 29)
    have HC := Lib.hid (concatMv_any (w := w3.alloc (.cells #[.slice A1 a.length c1, .slice A2 b.length c2] 29)) (heap_alloc_new _ _) ((H1.out.1.below B3.out).below ht) ((H1.out.2.below B3.out).below ht) (by omega))
    have B4 := Lib.hid (B3.out.alloc B3.out.size (.cells #[.slice A1 a.length c1, .slice A2 b.length c2] 29))
    clear ht
    go_wp2_with fail
    refine HC.out.mono ?_
    rintro e w5 ⟨v5, rfl, hown5, hb5⟩
    have E5 := Lib.hid (And.intro (hown5.mono (base' := w.heap.size) (by have := B3.out.size; simp; omega)) (B4.out.trans (hb5.mono B4.out.size)))
    have HOK := Lib.hid (show ∀ x ∈ a ++ b, x.ok from fun x hx => by
      rcases List.mem_append.1 hx with hx | hx
      · exact HO.out.1 x hx
      · exact HO.out.2 x hx)
    clear hown5 hb5
    go_wp2_with fail
    refine (sortMv_any orders_mom E5.out.1 HOK.out (by rw [List.length_append]; omega)).mono ?_
    rintro e w6 ⟨rfl, hown6, hg6⟩
    have E6 := Lib.hid (And.intro hown6 (E5.out.2.grown hg6 E5.out.2.size fun k hk => (E5.out.1.lt k hk).1))
    clear hown6 hg6
    go_wp2_with fail
    refine (compactMv_eq E6.out.1 (by rw [sortL_len, List.length_append]; omega) (sortL_ok HOK.out)).mono ?_
    rintro e w7 ⟨v7, rfl, hl7, _, hown7, hg7⟩
    have hml := merged_len a b
    have E7 := Lib.hid (And.intro (Sl.of_own hown7 (by unfold mergedL at hml; omega)) (E6.out.2.grown hg7 E6.out.2.size fun k hk => (E6.out.1.lt k hk).1))
    obtain ⟨A7, c7, rfl, _⟩ := (Sl.of_own hown7 (by unfold mergedL at hml; omega)).shape
    have hml2 : (compM (sortL (a ++ b))).length ≤ 500 := by unfold mergedL at hml; omega
    clear hl7 hown7 hg7 hml
    generalize hcl : (compM (sortL (a ++ b))).length = cl at *
    have HCL := Lib.hid hcl
    clear hcl
    go_wp2
    refine bodyPost_ret (v := .tuple #[.slice A7 cl c7, .int .i64 0]) (by simp [results, Tryz.results9, go_sem]) rfl ⟨_, by rw [HF.out], ?_, E7.out.2⟩
    rw [HM.out]
    unfold mergedL
    rw [HCL.out]
    exact E7.out.1.mono (Nat.zero_le _)
  · have HM := Lib.hid (show mergeL a b = [] by unfold mergeL; rw [HF.out, if_neg h0])
    go_wp2
    refine bodyPost_ret (v := .tuple #[.slice none 0 0, .int .i64 f]) (by simp [results, Tryz.results9, go_sem]) rfl ⟨_, by rw [HF.out], by rw [HM.out]; exact Sl.nil _ _ _, B3.out⟩
set_option maxHeartbeats 1600000 in
set_option maxRecDepth 20000 in
theorem movesOf_any {lo1 lo2 : Nat} {w : World} {va vb : Value} {a b : List Mv} (ha : Sl lo1 w va 4 a.length (a.flatMap Mv.c)) (hb : Sl lo2 w vb 4 b.length (b.flatMap Mv.c)) (hn : a.length + b.length ≤ 500) (hoa : ∀ x ∈ a, x.ok) (hob : ∀ x ∈ b, x.ok) :
    Calls Tryz.prog 14 #[va, vb] w fun e w' => ∃ v', e = .returned (.tuple #[v', .int .i64 0]) ∧ Sl 0 w' v' 4 (mergedL a b).length ((mergedL a b).flatMap Mv.c) ∧ Below w.heap.size w w' := by
  obtain ⟨A1, c1, rfl, _⟩ := ha.shape
  obtain ⟨A2, c2, rfl, _⟩ := hb.shape
  have ht := (Below.refl w.heap.size w).alloc (Nat.le_refl _) (.cells #[.slice A1 a.length c1, .slice A2 b.length c2] 29)
  have HC := Lib.hid (concatMv_any (w := w.alloc (.cells #[.slice A1 a.length c1, .slice A2 b.length c2] 29)) (heap_alloc_new _ _) (ha.below ht) (hb.below ht) (by omega))
  have B4 := Lib.hid ht
  have HOK := Lib.hid (show ∀ x ∈ a ++ b, x.ok from fun x hx => by
    rcases List.mem_append.1 hx with hx | hx
    · exact hoa x hx
    · exact hob x hx)
  clear ha hb hoa hob ht
  go_enter Tryz.func14, Tryz.ntmps14
  go_wp2_with fail
  refine HC.out.mono ?_
  rintro e w5 ⟨v5, rfl, hown5, hb5⟩
  have E5 := Lib.hid (And.intro (hown5.mono (base' := w.heap.size) (by simp)) (B4.out.trans (hb5.mono B4.out.size)))
  clear hown5 hb5
  go_wp2_with fail
  refine (sortMv_any orders_ref E5.out.1 HOK.out (by rw [List.length_append]; omega)).mono ?_
  rintro e w6 ⟨rfl, hown6, hg6⟩
  have E6 := Lib.hid (And.intro hown6 (E5.out.2.grown hg6 E5.out.2.size fun k hk => (E5.out.1.lt k hk).1))
  clear hown6 hg6
  go_wp2_with fail
  refine (compactMv_eq E6.out.1 (by rw [sortL_len, List.length_append]; omega) (sortL_ok HOK.out)).mono ?_
  rintro e w7 ⟨v7, rfl, hl7, _, hown7, hg7⟩
  have hml := merged_len a b
  have E7 := Lib.hid (And.intro (Sl.of_own hown7 (by unfold mergedL at hml; omega)) (E6.out.2.grown hg7 E6.out.2.size fun k hk => (E6.out.1.lt k hk).1))
  obtain ⟨A7, c7, rfl, _⟩ := (Sl.of_own hown7 (by unfold mergedL at hml; omega)).shape
  have hml2 : (compM (sortL (a ++ b))).length ≤ 500 := by unfold mergedL at hml; omega
  clear hl7 hown7 hg7 hml
  generalize hcl : (compM (sortL (a ++ b))).length = cl at *
  have HCL := Lib.hid hcl
  clear hcl
  go_wp2
  refine bodyPost_ret (v := .tuple #[.slice A7 cl c7, .int .i64 0]) (by simp [results, Tryz.results14, go_sem]) rfl ⟨_, rfl, ?_, E7.out.2⟩
  unfold mergedL
  rw [HCL.out]
  exact E7.out.1.mono (Nat.zero_le _)
end Go.Proofs.YtfmffobdkfgekaaGreat
/- Lists that are one are equal: moves, numbers, errors. -/
set_option linter.unusedVariables false
set_option linter.unusedSimpArgs false
namespace Go.Proofs.YtfmffobdkfgekaaGreat
open Go.RowKit

theorem allEq_same {α : Type} {eq : α → α → Bool} (h : ∀ x, eq x x = true) : ∀ l : List α, Lib.allEq eq l l = true
  | [] => rfl
  | x :: l => by rw [Lib.allEq, h, allEq_same h l]; rfl
instance : Inhabited Mv := ⟨⟨0, 0, ⟨#[]⟩, ⟨#[]⟩⟩⟩
theorem mvEq_same (x : Mv) : mvEq x x = true := by simp [mvEq]
theorem neqMv : NeqAt Tryz.prog 45 (fun x : Mv => .agg (Mv.c x).toArray) mvEq := ⟨fun x y w => neMv w x y, GuardAt.agg _ (by kernel_rfl)⟩
theorem equalMv_same {lo1 lo2 : Nat} {w : World} {v1 v2 : Value} {l : List Mv} (h1 : Sl lo1 w v1 4 l.length (l.flatMap Mv.c)) (h2 : Sl lo2 w v2 4 l.length (l.flatMap Mv.c)) :
    Calls Tryz.prog 18 #[v1, v2] w fun e w' => e = .returned (.bool true) ∧ Drew w w' := by
  obtain ⟨A1, c1, rfl, hn1⟩ := h1.shape
  obtain ⟨A2, c2, rfl, hn2⟩ := h2.shape
  rcases Nat.eq_zero_or_pos l.length with h0 | h0
  · rw [h0]
    refine (equalMv_nil A1 A2 c1 c2 w).mono ?_
    rintro e w' ⟨rfl, rfl⟩
    exact ⟨rfl, Drew.refl _⟩
  · obtain ⟨x, hx⟩ : ∃ x, l[0]? = some x := ⟨_, List.getElem?_eq_getElem h0⟩
    obtain ⟨b1, o1, rfl, _, _, _⟩ := h1.recd Mv.c_len hx (by omega)
    obtain ⟨b2, o2, rfl, _, _, _⟩ := h2.recd Mv.c_len hx (by omega)
    have hc : ∀ {lo b o c : Nat}, Sl lo w (.slice (some ⟨b, o, none⟩) l.length c) 4 l.length (l.flatMap Mv.c) → ∀ j, j < l.length → ∀ (i : Nat) (v : Value), (Mv.c l[j]!)[i]? = some v → w.cell? ⟨b, o + j * 4 + i, none⟩ = some v := fun {lo b o c} h j hj i v hv => by
      obtain ⟨b', o', hbo, _, _, hcc⟩ := h.recd Mv.c_len (List.getElem?_eq_getElem hj) (by omega)
      cases hbo
      rw [getElem!_pos l j hj] at hv
      rw [Nat.add_assoc]
      exact hcc i v hv
    refine (AnyQ.slices_Equal Tryz.equalMv 4 Tryz.isAgg45 Tryz.sizeOf45 Mv.c Mv.c_len mvEq neqMv b1 o1 l.length c1 b2 o2 l.length c2 l l w (Nat.le_refl _) (Nat.le_refl _) (by omega) (by omega) (hc h1) (hc h2)).mono ?_
    rintro e w' ⟨rfl, q, rfl⟩
    exact ⟨by rw [allEq_same mvEq_same], q, rfl⟩
theorem num_at {lo : Nat} {w : World} {b o c n : Nat} {l : List Int} (h : Sl lo w (.slice (some ⟨b, o, none⟩) n c) 1 n (l.map (.int .i64))) (hl : l.length = n) : ∀ j, j < l.length → w.cell? ⟨b, o + j, none⟩ = some (.int .i64 l[j]!) := fun j hj => by
  obtain ⟨b', o', hbo, _, _, hc⟩ := int_at h (List.getElem?_eq_getElem hj)
  cases hbo
  rw [getElem!_pos l j hj]
  exact hc
theorem equalInts_nil (A B : Option Addr) (c d : Nat) (w : World) : Calls Tryz.prog 19 #[.slice A 0 c, .slice B 0 d] w fun e w' => e = .returned (.bool true) ∧ w = w' := by
  go_enter Tryz.func19, Tryz.ntmps19
  go_wp2
  refine wp_loop_rounds 1 ?_
  rw [rounds_succ]
  go_wp2
  go_ret
  exact ⟨rfl, rfl⟩
theorem equalErrs_nil (A B : Option Addr) (c d : Nat) (w : World) : Calls Tryz.prog 20 #[.slice A 0 c, .slice B 0 d] w fun e w' => e = .returned (.bool true) ∧ w = w' := by
  go_enter Tryz.func20, Tryz.ntmps20
  go_wp2
  refine wp_loop_rounds 1 ?_
  rw [rounds_succ]
  go_wp2
  go_ret
  exact ⟨rfl, rfl⟩
theorem equalInts_same {lo1 lo2 n : Nat} {w : World} {v1 v2 : Value} {l : List Int} (hl : l.length = n) (h1 : Sl lo1 w v1 1 n (l.map (.int .i64))) (h2 : Sl lo2 w v2 1 n (l.map (.int .i64))) :
    Calls Tryz.prog 19 #[v1, v2] w fun e w' => e = .returned (.bool true) ∧ Drew w w' := by
  obtain ⟨A1, c1, rfl, hn1⟩ := h1.shape
  obtain ⟨A2, c2, rfl, hn2⟩ := h2.shape
  rcases Nat.eq_zero_or_pos n with h0 | h0
  · subst h0
    refine (equalInts_nil A1 A2 c1 c2 w).mono ?_
    rintro e w' ⟨rfl, rfl⟩
    exact ⟨rfl, Drew.refl _⟩
  · obtain ⟨b1, o1, rfl, _, _, _⟩ := int_at h1 (List.getElem?_eq_getElem (show 0 < l.length by omega))
    obtain ⟨b2, o2, rfl, _, _, _⟩ := int_at h2 (List.getElem?_eq_getElem (show 0 < l.length by omega))
    refine (AnyE.slices_Equal Tryz.equalInts (Value.int .i64) (fun x y => x == y) (NeqAt.int _ _ .i64) b1 o1 n c1 b2 o2 n c2 l l w (by omega) (by omega) (by omega) (by omega) (num_at h1 hl) (num_at h2 hl)).mono ?_
    rintro e w' ⟨rfl, q, rfl⟩
    exact ⟨by rw [allEq_same (fun x => by simp)], q, rfl⟩
theorem equalErrs_same {lo1 lo2 n : Nat} {w : World} {v1 v2 : Value} {l : List Int} (hl : l.length = n) (h1 : Sl lo1 w v1 1 n (l.map (.int .i64))) (h2 : Sl lo2 w v2 1 n (l.map (.int .i64))) :
    Calls Tryz.prog 20 #[v1, v2] w fun e w' => e = .returned (.bool true) ∧ Drew w w' := by
  obtain ⟨A1, c1, rfl, hn1⟩ := h1.shape
  obtain ⟨A2, c2, rfl, hn2⟩ := h2.shape
  rcases Nat.eq_zero_or_pos n with h0 | h0
  · subst h0
    refine (equalErrs_nil A1 A2 c1 c2 w).mono ?_
    rintro e w' ⟨rfl, rfl⟩
    exact ⟨rfl, Drew.refl _⟩
  · obtain ⟨b1, o1, rfl, _, _, _⟩ := int_at h1 (List.getElem?_eq_getElem (show 0 < l.length by omega))
    obtain ⟨b2, o2, rfl, _, _, _⟩ := int_at h2 (List.getElem?_eq_getElem (show 0 < l.length by omega))
    refine (AnyE.slices_Equal Tryz.equalErrs (Value.int .i64) (fun x y => x == y) (NeqAt.int _ _ .i64) b1 o1 n c1 b2 o2 n c2 l l w (by omega) (by omega) (by omega) (by omega) (num_at h1 hl) (num_at h2 hl)).mono ?_
    rintro e w' ⟨rfl, q, rfl⟩
    exact ⟨by rw [allEq_same (fun x => by simp)], q, rfl⟩
end Go.Proofs.YtfmffobdkfgekaaGreat
/- A region that draws its order, once more: the invariant may ask which operations have been carried out; guarded operations that are carried out. -/
set_option linter.unusedVariables false
set_option linter.unusedSimpArgs false
namespace Go.Proofs.YtfmffobdkfgekaaGreat
open Go.RowKit

theorem rgl_any {P : Program} {ops : Array Oper} {Q : Exit → Act → World → Prop} {a0 : Act} {Inv : Array Bool → World → Prop} {G : Nat → World → World → Prop} {R : Nat → Value → World → Prop}
    (hB : rgB ops = true) (hsz : ∀ (i : Nat) (o : Oper) (d : Nat), ops[i]? = some o → o.dst = some d → d < a0.tmps.size)
    (stable : ∀ i k v w w', i ≠ k → R k v w → G i w w' → R k v w')
    (step : ∀ (i : Nat) (o : Oper), ops[i]? = some o → ∀ (a : Act) (w : World) (L : Array Bool), a.tmps.size = a0.tmps.size → a.defers = a0.defers → L.size = ops.size → L.getD i false = false → (∀ j ∈ preds o, L.getD j false = true) → (∀ (k : Nat) (p : Oper), ops[k]? = some p → L.getD k false = true → ∀ j ∈ preds p, L.getD j false = true) → Inv L w → RgPre0 ops a0 R i o a w →
      wpOp P ops Q i (fun a' w' => ∃ v, a' = a.put o.dst v ∧ (o.dst = none → v = undef) ∧ R i v w' ∧ G i w w' ∧ Inv (L.setIfInBounds i true) w') a w)
    (fin : ∀ (a : Act) (w : World) (L : Array Bool), L.size = ops.size → (∀ i, i < ops.size → L.getD i false = true) → a.tmps.size = a0.tmps.size → a.defers = a0.defers → Inv L w → (∀ (i : Nat) (o : Oper), ops[i]? = some o → R i (slotOf a o) w) → (∀ t, neverB ops t = true → a.tmps.getD t undef = a0.tmps.getD t undef) → Q .normal a w) :
    ∀ (fuel : Nat) (listed : Array Bool) (a : Act) (w : World), RgAt ops a0 R listed a w → Inv listed w →
      costs (fun _ => 1) listed (List.range ops.size) ≤ fuel → wpAny P .any ops Q fuel listed a w := by
  have last : ∀ (listed : Array Bool) (a : Act) (w : World), RgAt ops a0 R listed a w → Inv listed w → (∀ i, i < ops.size → listed.getD i false = true) → Q .normal a w := by
    intro listed a w h hI hall
    refine fin a w listed h.lsize hall h.size h.defers hI (fun i o ho => h.done i o ho (hall i (Array.getElem?_eq_some_iff.1 ho).1)) (fun t ht => h.old t (fun k o ho hd => ?_))
    have hk := List.all_eq_true.1 ht o (by have := (Array.getElem?_eq_some_iff.1 ho); rw [← this.2]; simp)
    simp [hd] at hk
  have ready_of : ∀ (listed : Array Bool) (a : Act) (w : World), RgAt ops a0 R listed a w → ∀ i, i < ops.size → listed.getD i false = false → ∃ j, j ∈ Region.ready .any ops listed := by
    intro listed a w h i
    induction i using Nat.strongRecOn with
    | _ i ih =>
      intro hi hl
      obtain ⟨o, ho⟩ : ∃ o, ops[i]? = some o := ⟨_, Array.getElem?_eq_getElem hi⟩
      by_cases hp : ∀ j ∈ preds o, listed.getD j false = true
      · refine ⟨i, mem_ready.2 ⟨getD_in (by rw [h.lsize]; exact hi) hl, o, ho, fun e he hb => hp e.on ?_⟩⟩
        exact List.mem_map.2 ⟨e, List.mem_filter.2 ⟨by simpa using he, hb⟩, rfl⟩
      · have ⟨j, hj, hjl⟩ : ∃ j, j ∈ preds o ∧ listed.getD j false = false := by
          apply Classical.byContradiction
          intro hc
          refine hp fun j hj => ?_
          cases hx : listed.getD j false with
          | true => rfl
          | false => exact absurd ⟨j, hj, hx⟩ hc
        have hlt := rgB_lt hB ho j hj
        exact ih j hlt (by omega) hjl
  have notready : ∀ (listed : Array Bool), (∀ i, i < ops.size → listed.getD i false = true) → Region.ready .any ops listed = [] := by
    intro listed hall
    refine List.eq_nil_iff_forall_not_mem.2 fun i hi => ?_
    obtain ⟨h1, o, ho, _⟩ := mem_ready.1 hi
    rw [getD_true_of (hall i (Array.getElem?_eq_some_iff.1 ho).1)] at h1
    cases h1
  intro fuel
  induction fuel with
  | zero =>
    intro listed a w h hI hc
    have hall := costs_zero _ (Nat.le_zero.1 hc)
    have hall' : ∀ i, i < ops.size → listed.getD i false = true := fun i hi => hall i (List.mem_range.2 hi)
    exact ⟨notready listed hall', last listed a w h hI hall'⟩
  | succ fuel ih =>
    intro listed a w h hI hc
    refine ⟨fun h0 => last listed a w h hI fun i hi => ?_, fun i hi => ?_⟩
    · cases hl : listed.getD i false with
      | true => rfl
      | false =>
        obtain ⟨j, hj⟩ := ready_of listed a w h i hi hl
        rw [h0] at hj; cases hj
    · obtain ⟨hun, o, ho, hall⟩ := mem_ready.1 hi
      have his := (Array.getElem?_eq_some_iff.1 ho).1
      have hun' := getD_both hun
      have hil : i < listed.size := by rw [h.lsize]; exact his
      have hpl : ∀ j ∈ preds o, listed.getD j false = true := fun j hj => by
        obtain ⟨e, he, rfl⟩ := List.mem_map.1 hj
        obtain ⟨he1, he2⟩ := List.mem_filter.1 he
        exact hall e (by simpa using he1) he2
      have hcs1 := costs_set (cost := fun _ => 1) hil hun' (List.range ops.size) List.nodup_range
      rw [if_pos (List.mem_range.2 his)] at hcs1
      refine wpOp_mono (fun a' w' => ?_) (step i o ho a w listed h.size h.defers h.lsize hun' hpl h.closed hI
        ⟨fun j hj p hp => h.done j p hp (hpl j hj), fun t ht => h.old t fun k p hp hd => ?_⟩)
      · rintro ⟨v, rfl, hv, hR, hG, hI'⟩
        refine ih _ _ _ ⟨by simp [h.lsize], fun k p hp hk j hj => ?_, fun k p hp hk => ?_, fun t ht => ?_, ?_, ?_⟩ hI' (by omega)
        · by_cases hki : i = k
          · subst hki
            have : p = o := Option.some.inj (hp.symm.trans ho)
            subst this
            exact getD_set_true (hpl j hj)
          · rw [getD_set_ne false hki] at hk
            exact getD_set_true (h.closed k p hp hk j hj)
        · by_cases hki : i = k
          · subst hki
            have : p = o := Option.some.inj (hp.symm.trans ho)
            subst this
            have hsl : slotOf (a.put p.dst v) p = v := by
              unfold slotOf
              cases hd : p.dst with
              | none => exact (hv hd).symm
              | some d =>
                have := hsz i p d ho hd
                simp [Act.put, h.size, this]
            rw [hsl]; exact hR
          · rw [getD_set_ne false hki] at hk
            rw [slotOf_put_other (rgB_ne hB ho hp (fun e => hki e.symm))]
            exact stable i k _ _ _ hki (h.done k p hp hk) hG
        · have hne : ∀ d, o.dst = some d → d ≠ t := fun d hd e => by
            subst e
            have := ht i o ho hd
            simp [hil] at this
          have : (a.put o.dst v).tmps.getD t undef = a.tmps.getD t undef := by
            cases hd : o.dst with
            | none => rfl
            | some d => simp [Act.put, Array.getElem?_setIfInBounds, hne d hd]
          rw [this]
          refine h.old t fun k p hp hd => ?_
          have := ht k p hp hd
          by_cases hki : i = k
          · subst hki; exact hun'
          · rwa [getD_set_ne false hki] at this
        · cases hd : o.dst with
          | none => exact h.size
          | some d => simpa [Act.put] using h.size
        · cases hd : o.dst with
          | none => exact h.defers
          | some d => exact h.defers
      · have := List.all_eq_true.1 ht p (by have := (Array.getElem?_eq_some_iff.1 hp); rw [← this.2]; simp)
        simp only [hd, beq_self_eq_true, Bool.not_true, Bool.false_or] at this
        cases hl : listed.getD k false with
        | false => rfl
        | true =>
          have := h.closed k p hp hl i (by simpa using this)
          rw [hun'] at this; cases this

theorem wp_region_rl {P : Program} {l : List Oper} {Q : Exit → Act → World → Prop} {a0 : Act} {w0 : World} {id : Nat} (Inv : Array Bool → World → Prop) (G : Nat → World → World → Prop) (R : Nat → Value → World → Prop)
    (hm : P.follows .mixedOrders = true) (hB : rgB l.toArray = true) (hsz : (l.all fun o => match o.dst with | some d => decide (d < a0.tmps.size) | none => true) = true)
    (start : Inv (Array.replicate l.length false) w0.drew)
    (stable : ∀ i k v w w', i ≠ k → R k v w → G i w w' → R k v w')
    (step : ∀ (i : Nat) (o : Oper), l[i]? = some o → ∀ (a : Act) (w : World) (L : Array Bool), a.tmps.size = a0.tmps.size → a.defers = a0.defers → L.size = l.length → L.getD i false = false → (∀ j ∈ preds o, L.getD j false = true) → (∀ (k : Nat) (p : Oper), l[k]? = some p → L.getD k false = true → ∀ j ∈ preds p, L.getD j false = true) → Inv L w → RgPre0 l.toArray a0 R i o a w →
      wpOp P l.toArray Q i (fun a' w' => ∃ v, a' = a.put o.dst v ∧ (o.dst = none → v = undef) ∧ R i v w' ∧ G i w w' ∧ Inv (L.setIfInBounds i true) w') a w)
    (fin : ∀ (vs : List Value) (w : World) (L : Array Bool), vs.length = l.length → (∀ i, i < l.length → L.getD i false = true) → Inv L w → AllV R w 0 vs → Q .normal (putAll a0 l vs) w) :
    (Code.region id l.toArray true).wp P Q a0 w0 := by
  refine wp_region_any hm (rgl_any (Inv := Inv) (G := G) (R := R) hB (fun i o d ho hd => ?_) stable (fun i o ho a w L h1 h2 h3 h4 h5 hcl h6 h7 => step i o (by simpa using ho) a w L h1 h2 (by simpa using h3) h4 h5 (fun k p hk => hcl k p (by simpa using hk)) h6 h7) (fun a w L h0 h00 h1 h2 h3 h4 h5 => ?_) _ _ _ _ ?_ ?_ ?_)
  · have := List.all_eq_true.1 hsz o (List.mem_of_getElem? (by simpa using ho))
    rw [hd] at this
    simpa using this
  · have := fin (l.map (slotOf a)) w L (by simp) (fun i hi => h00 i (by simpa using hi)) h3 (allv_of l 0 (alls_of l 0 fun i o ho => by rw [Nat.zero_add]; exact h4 i o (by simpa using ho)))
    rwa [putAll_eq l a0 h1.symm h2.symm (fun t ht => (h5 t (List.all_eq_true.2 fun o ho => by simpa using ht o (by simpa using ho))).symm)] at this
  · exact ⟨by simp, fun i o _ h => (by rw [getD_replicate_false] at h; cases h), fun i o _ h => (by rw [getD_replicate_false] at h; cases h), fun t _ => rfl, rfl, rfl⟩
  · simpa using start
  · have : ∀ l' : List Nat, costs (fun _ => 1) (Array.replicate l.toArray.size false) l' ≤ l'.length := fun l' => by
      induction l' with
      | nil => simp [costs]
      | cons x l' ih => simp only [costs, List.length_cons]; split <;> omega
    simpa using this (List.range l.toArray.size)
/-- One operation's step. -/
def StepL (P : Program) (ops : Array Oper) (Q : Exit → Act → World → Prop) (a0 : Act) (Inv : Array Bool → World → Prop) (G : Nat → World → World → Prop) (R : Nat → Value → World → Prop) (i : Nat) (o : Oper) : Prop :=
  ∀ (a : Act) (w : World) (L : Array Bool), a.tmps.size = a0.tmps.size → a.defers = a0.defers → L.size = ops.size → L.getD i false = false → (∀ j ∈ preds o, L.getD j false = true) → (∀ (k : Nat) (p : Oper), ops[k]? = some p → L.getD k false = true → ∀ j ∈ preds p, L.getD j false = true) → Inv L w → RgPre0 ops a0 R i o a w →
      wpOp P ops Q i (fun a' w' => ∃ v, a' = a.put o.dst v ∧ (o.dst = none → v = undef) ∧ R i v w' ∧ G i w w' ∧ Inv (L.setIfInBounds i true) w') a w
theorem wp_region_rls {P : Program} {l : List Oper} {Q : Exit → Act → World → Prop} {a0 : Act} {w0 : World} {id : Nat} (Inv : Array Bool → World → Prop) (G : Nat → World → World → Prop) (R : Nat → Value → World → Prop)
    (hm : P.follows .mixedOrders = true) (hB : rgB l.toArray = true) (hsz : (l.all fun o => match o.dst with | some d => decide (d < a0.tmps.size) | none => true) = true)
    (start : Inv (Array.replicate l.length false) w0.drew)
    (stable : ∀ i k v w w', i ≠ k → R k v w → G i w w' → R k v w')
    (step : Steps (StepL P l.toArray Q a0 Inv G R) 0 l)
    (fin : ∀ (vs : List Value) (w : World) (L : Array Bool), vs.length = l.length → (∀ i, i < l.length → L.getD i false = true) → Inv L w → AllV R w 0 vs → Q .normal (putAll a0 l vs) w) :
    (Code.region id l.toArray true).wp P Q a0 w0 :=
  wp_region_rl Inv G R hm hB hsz start stable (fun i o ho a w L h1 h2 h3 h4 h5 hcl h6 h7 => by
    have := Steps.get l 0 step i o ho
    rw [Nat.zero_add] at this
    exact this a w L h1 h2 (by simpa using h3) h4 h5 (fun k p hk => hcl k p (by simpa using hk)) h6 h7) fin
section
variable {P : Program} {l : List Oper} {Q : Exit → Act → World → Prop} {a0 : Act} {Inv : Array Bool → World → Prop} {G : Nat → World → World → Prop} {R : Nat → Value → World → Prop} {i : Nat} {o : Oper}
structure RlPre (l : List Oper) (a0 : Act) (R : Nat → Value → World → Prop) (i : Nat) (o : Oper) (L : Array Bool) (a : Act) (w : World) : Prop extends RgPre0 l.toArray a0 R i o a w where
  mine : L.getD i false = false
  size : L.size = l.length
  did : ∀ j ∈ preds o, L.getD j false = true
  closed : ∀ (k : Nat) (p : Oper), l[k]? = some p → L.getD k false = true → ∀ j ∈ preds p, L.getD j false = true
theorem stepl_run (ho : l[i]? = some o) (hg : o.guard = none) (hd : o.dst.isSome = true)
    (h : ∀ (a : Act) (w : World) (L : Array Bool), RlPre l a0 R i o L a w → Inv L w → ∃ v w', (execOp a.eval o).run P w = .ok (.value v) w' ∧ R i v w' ∧ G i w w' ∧ Inv (L.setIfInBounds i true) w') : StepL P l.toArray Q a0 Inv G R i o := by
  intro a w L hsz hdf hL hmine hdid hcl hI hp
  refine wpOp_plain ho hg ?_
  obtain ⟨v, w', hr, hR, hG, hI'⟩ := h a w L ⟨hp, hmine, by simpa using hL, hdid, fun k p hk => hcl k p (by simpa using hk)⟩ hI
  unfold Oper.wp
  rw [hr]
  exact ⟨v, rfl, fun h0 => (by rw [h0] at hd; cases hd), hR, hG, hI'⟩
theorem stepl_skip (ho : l[i]? = some o) (hg : o.guard = none) (hd : o.dst = none)
    (h : ∀ (a : Act) (w : World) (L : Array Bool), RlPre l a0 R i o L a w → Inv L w → ∃ w', (execOp a.eval o).run P w = .ok .skip w' ∧ R i undef w' ∧ G i w w' ∧ Inv (L.setIfInBounds i true) w') : StepL P l.toArray Q a0 Inv G R i o := by
  intro a w L hsz hdf hL hmine hdid hcl hI hp
  refine wpOp_plain ho hg ?_
  obtain ⟨w', hr, hR, hG, hI'⟩ := h a w L ⟨hp, hmine, by simpa using hL, hdid, fun k p hk => hcl k p (by simpa using hk)⟩ hI
  unfold Oper.wp
  rw [hr]
  exact ⟨undef, rfl, fun _ => rfl, hR, hG, hI'⟩
end
end Go.Proofs.YtfmffobdkfgekaaGreat
