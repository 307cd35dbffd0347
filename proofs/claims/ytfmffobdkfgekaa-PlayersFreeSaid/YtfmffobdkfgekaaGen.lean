/- Contracts of the makers of bounds, moves and rosters: they return values of their types, and turn the stream's own block alone. -/
import Derived.Test.YtfmffobdkfgekaaStream
import Derived.Test.YtfmffobdkfgekaaRegion
set_option linter.unusedVariables false
set_option linter.unusedSimpArgs false
namespace Go.Proofs.Ytfmffobdkfgekaa
open Go.RowKit

/-- A move. -/
structure Mv where
  time : Int
  kind : Int
  team : ByteArray
  player : ByteArray
def Mv.c (m : Mv) : List Value := [.int .i64 m.time, .int .i64 m.kind, .string m.team, .string m.player]
theorem Mv.c_len (m : Mv) : m.c.length = 4 := rfl

/-- Bounds of rosters, as a value. -/
structure Bd where
  most : Int
  hurt : Int
  adds : Int
  hold : Int
def Bd.v (b : Bd) : Value := .agg #[.int .i64 b.most, .int .i64 b.hurt, .int .i64 b.adds, .int .i64 b.hold]
def small (n : Int) : Prop := -1099511627777 ≤ n ∧ n ≤ 1099511627777
structure Mv.ok (m : Mv) : Prop where
  time : small m.time
  kind : small m.kind
  team : m.team.size ≤ 1000
  player : m.player.size ≤ 1000
structure Bd.ok (b : Bd) : Prop where
  most : small b.most
  hurt : small b.hurt
  adds : small b.adds
  hold : small b.hold

set_option maxHeartbeats 800000 in
theorem rightBounds_any (b n : Nat) (w : World) (hs : SOk w b (n + 4)) :
    Calls Try.prog 28 #[.pointer (some ⟨b, 0, none⟩)] w fun e w' => (∃ m1 m2 m3 m4 : Int, e = .returned (.agg #[.int .i64 m1, .int .i64 m2, .int .i64 m3, .int .i64 m4]) ∧ Bd.ok ⟨m1, m2, m3, m4⟩) ∧ St b n w w' := by
  have hlt := hs.lt
  go_enter Try.func28, Try.ntmps28
  go_wp2_with fail
  have st0 := (St.start ((St.start hs).alloc (.cells #[.int .i64 0, .int .i64 0, .int .i64 0, .int .i64 0] 27)).s)
  refine (pick_any b (n + 3) 4 _ [1, 2, 3, 3] _ (st0.alloc _).s (Sl.lit (alloc_size _ _) (by omega) rfl (by simp) (by omega)) (by omega)).mono ?_
  rintro e w1 ⟨⟨r1, rfl, hr1⟩, hs1, hg1⟩
  have st1 := (st0.alloc _).call hs1 hg1
  go_wp2_with fail
  refine (pick_any b (n + 2) 3 _ [0, 1, 2] _ (st1.alloc _).s (Sl.lit rfl (by have := st1.s.lt; omega) rfl (by simp) (by omega)) (by omega)).mono ?_
  rintro e w2 ⟨⟨r2, rfl, hr2⟩, hs2, hg2⟩
  have st2 := (st1.alloc _).call hs2 hg2
  go_wp2_with fail
  refine (pick_any b (n + 1) 4 _ [1, 2, 4, 9] _ (st2.alloc _).s (Sl.lit rfl (by have := st2.s.lt; omega) rfl (by simp) (by omega)) (by omega)).mono ?_
  rintro e w3 ⟨⟨r3, rfl, hr3⟩, hs3, hg3⟩
  have st3 := (st2.alloc _).call hs3 hg3
  go_wp2_with fail
  refine (pick_any b n 4 _ [0, 10, 50, 1000] _ (st3.alloc _).s (Sl.lit rfl (by have := st3.s.lt; omega) rfl (by simp) (by omega)) (by omega)).mono ?_
  rintro e w4 ⟨⟨r4, rfl, hr4⟩, hs4, hg4⟩
  have st4 := (st3.alloc _).call hs4 hg4
  obtain ⟨hc, hf⟩ := row_cells (st4.block (alloc_at _ rfl) (by omega))
  go_wp2
  refine bodyPost_ret (v := .agg #[.int .i64 r1, .int .i64 r2, .int .i64 r3, .int .i64 r4]) (by simp [results, Try.results28, go_sem, hc, hf]) rfl ⟨⟨r1, r2, r3, r4, rfl, ?_⟩, ?_⟩
  · simp at hr1 hr2 hr3 hr4
    exact ⟨⟨by dsimp only; omega, by dsimp only; omega⟩, ⟨by dsimp only; omega, by dsimp only; omega⟩, ⟨by dsimp only; omega, by dsimp only; omega⟩, ⟨by dsimp only; omega, by dsimp only; omega⟩⟩
  · exact (((((((St.start hs).alloc _).then st4).setCell hlt (Nat.le_refl _) _).setCell hlt (Nat.le_refl _) _).setCell hlt (Nat.le_refl _) _).setCell hlt (Nat.le_refl _) _)

set_option maxHeartbeats 800000 in
theorem bounds_any (b n : Nat) (w : World) (hs : SOk w b (n + 13)) :
    Calls Try.prog 4 #[.pointer (some ⟨b, 0, none⟩)] w fun e w' => (∃ m1 m2 m3 m4 : Int, e = .returned (.agg #[.int .i64 m1, .int .i64 m2, .int .i64 m3, .int .i64 m4]) ∧ Bd.ok ⟨m1, m2, m3, m4⟩) ∧ St b n w w' := by
  have hlt := hs.lt
  go_enter Try.func4, Try.ntmps4
  go_wp2_with fail
  have st0 := (St.start ((St.start hs).alloc (.cells #[.int .i64 0, .int .i64 0, .int .i64 0, .int .i64 0] 27)).s)
  refine (rightBounds_any b (n + 9) _ st0.s).mono ?_
  rintro e w1 ⟨⟨m1, m2, m3, m4, rfl, hok⟩, st1⟩
  have hB1 := st1.block (alloc_at _ rfl) (by omega)
  go_wp2_with fail
  have st2 := st1.alloc (.cells #[.int .i64 m1, .int .i64 m2, .int .i64 m3, .int .i64 m4] 27)
  refine (flip_any b (n + 8) _ _ st2.s (by omega)).mono ?_
  rintro e w2 ⟨⟨r, rfl⟩, hs2, hg2⟩
  have st3 := st2.call hs2 hg2
  have hR2 := (st1.alloc (.cells #[.int .i64 m1, .int .i64 m2, .int .i64 m3, .int .i64 m4] 27)).call hs2 hg2 |>.block (alloc_at _ rfl) (by omega)
  have stL := (St.start st2.s).call hs2 hg2
  have hL2 := stL.block (alloc_at _ rfl) (by have := st1.s.lt; omega)
  have hsz := st1.g.size
  simp only [alloc_size] at hsz
  cases r
  · obtain ⟨hcR, hfR⟩ := row_cells hR2
    obtain ⟨hcL, hfL⟩ := row_cells hL2
    go_wp2
    refine bodyPost_ret (v := .agg #[.int .i64 m1, .int .i64 m2, .int .i64 m3, .int .i64 m4]) (by simp [results, Try.results4, go_sem, hcR, hfR]) rfl ⟨⟨_, _, _, _, rfl, hok⟩, ?_⟩
    exact (((((((St.start hs).alloc _).then st3).mono (by omega)).setCell hlt (Nat.le_refl _) _).setCell hlt (Nat.le_refl _) _).setCell hlt (Nat.le_refl _) _).setCell hlt (Nat.le_refl _) _
  · go_wp2_with fail
    refine (odd_any b (n + 6) _ _ _ st3.s (by omega) (by omega) (by omega) (by omega)).mono ?_
    rintro e w3 ⟨⟨r1, rfl, hr1⟩, st4⟩
    go_wp2_with fail
    refine (odd_any b (n + 4) _ _ _ st4.s (by omega) (by omega) (by omega) (by omega)).mono ?_
    rintro e w4 ⟨⟨r2, rfl, hr2⟩, st5⟩
    go_wp2_with fail
    refine (odd_any b (n + 2) _ _ _ st5.s (by omega) (by omega) (by omega) (by omega)).mono ?_
    rintro e w5 ⟨⟨r3, rfl, hr3⟩, st6⟩
    go_wp2_with fail
    refine (odd_any b n _ _ _ st6.s (by omega) (by omega) (by omega) (by omega)).mono ?_
    rintro e w6 ⟨⟨r4, rfl, hr4⟩, st7⟩
    have st8 := ((st4.then st5).then st6).then st7
    have hR6 := st8.block hR2 (by omega)
    have hL6 := st8.block hL2 (by have := st1.s.lt; omega)
    obtain ⟨hcR, hfR⟩ := row_cells hR6
    obtain ⟨hcL, hfL⟩ := row_cells hL6
    clear hR2 hL2 hR6 hL6 hB1
    go_wp2
    refine bodyPost_ret (v := .agg #[.int .i64 r1, .int .i64 r2, .int .i64 r3, .int .i64 r4]) (by simp [results, Try.results4, go_sem, hcR, hfR]) rfl ⟨⟨_, _, _, _, rfl, ⟨hr1, hr2, hr3, hr4⟩⟩, ?_⟩
    have fin := ((((St.start hs).alloc _).then st3).then st8)
    repeat (with_reducible refine St.setCell ?_ hlt (by dsimp only; omega) _)
    with_reducible exact fin
end Go.Proofs.Ytfmffobdkfgekaa
