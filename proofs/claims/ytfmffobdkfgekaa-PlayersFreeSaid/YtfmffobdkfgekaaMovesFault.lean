/- What is wrong with a list of moves: the reference's MovesFault. -/
import Derived.Test.YtfmffobdkfgekaaCheckMoves
set_option linter.unusedVariables false
set_option linter.unusedSimpArgs false
namespace Go.Proofs.Ytfmffobdkfgekaa
open Go.RowKit

/-- A value is laid in a block, and numbers are drawn. -/
theorem one_box2 (w : World) (c1 : Array Value) (t1 : TypeId) (q : Nat) : ∃ W, W = ((w.alloc (.cells c1 t1)).drewN q).drew ∧
    W.heap[w.heap.size]? = some (.cells c1 t1 (0, 0)) ∧ Below w.heap.size w W :=
  ⟨_, rfl, heap_alloc_new _ _, below_drewN (below_drewN ((Below.refl w.heap.size w).alloc (Nat.le_refl _) _) q) 1⟩
set_option maxHeartbeats 800000 in
set_option maxRecDepth 20000 in
theorem movesFault_any {lo : Nat} {w : World} {v : Value} {n : Nat} {l : List Mv} (h : Sl lo w v 4 n (l.flatMap Mv.c)) (hl : l.length = n) (hn : n ≤ 2000) (hok : ∀ x ∈ l, x.ok) :
    Calls Try.prog 16 #[v] w fun e w' => e = .returned (.int .i64 (mfault l)) ∧ Below w.heap.size w w' := by
  obtain ⟨A, c, rfl, hn2⟩ := h.shape
  have H := Lib.hid h
  clear h
  go_enter Try.func16, Try.ntmps16
  go_wp2
  go_loopw [10, 3] (fun i j wr => ∃ k : Nat, k ≤ n ∧ i = .int .i64 k ∧ mfGo (before l k) (l.drop k) = mfault l ∧ Below w.heap.size w wr) (fun i _ _ => n - (intOf i).toNat)
  case atStart => exact ⟨0, by omega, rfl, rfl, Below.refl _ _⟩
  case round =>
    obtain ⟨k, hk, rfl, hf, hbw⟩ := hrel
    have HF := Lib.hid hf
    have HB := Lib.hid hbw
    clear hf hbw
    by_cases hlt : k < n
    · obtain ⟨x, hx⟩ : ∃ x, l[k]? = some x := ⟨_, List.getElem?_eq_getElem (by omega)⟩
      have hxo := hok x (List.mem_of_getElem? hx)
      obtain ⟨b, o, rfl, _, hbl, h1, h2, h3, h4⟩ := mv_cells (H.out.below HB.out) hx
      have HX := Lib.hid hx
      clear hx
      obtain ⟨xt, xk, xa, xp⟩ := x
      dsimp only at h1 h2 h3 h4
      have hs1 : xa.size ≤ 1000 := hxo.team
      have hs2 : xp.size ≤ 1000 := hxo.player
      have ix : (0 : Int) ≤ (k : Int) ∧ (k : Int) < (n : Int) := ⟨by omega, by omega⟩
      cases e1 : inB xt 0 maxMoment with
      | false =>
        have hv : mvBad (before l k) ⟨xt, xk, xa, xp⟩ = 1 := by simp [mvBad, e1]
        have HE := Lib.hid ((mfGo_stop HX.out HF.out (by rw [hv]; decide)).trans hv)
        clear hv
        go_wp2_with (first | (go_at_call 43; refine (qmoment_any _ _).mono ?_; rintro e w' ⟨rfl, rfl⟩) | (go_at_call 42; refine (in_any _ _ _ _).mono ?_; rintro e w' ⟨rfl, rfl⟩) | (go_at_call 20; refine (qkey_any _ _ (by omega)).mono ?_; rintro e w' ⟨rfl, ⟨_, rfl⟩⟩))
        go_ret
        exact ⟨congrArg (fun b => Ending.returned (.int .i64 b)) HE.out.symm, by first | exact HB.out.alloc HB.out.size _ | exact below_drewN (HB.out.alloc HB.out.size _) _⟩
      | true =>
      cases e2 : inB xk 1 4 with
      | false =>
        have hv : mvBad (before l k) ⟨xt, xk, xa, xp⟩ = 4 := by simp [mvBad, e1, e2]
        have HE := Lib.hid ((mfGo_stop HX.out HF.out (by rw [hv]; decide)).trans hv)
        clear hv
        go_wp2_with (first | (go_at_call 43; refine (qmoment_any _ _).mono ?_; rintro e w' ⟨rfl, rfl⟩) | (go_at_call 42; refine (in_any _ _ _ _).mono ?_; rintro e w' ⟨rfl, rfl⟩) | (go_at_call 20; refine (qkey_any _ _ (by omega)).mono ?_; rintro e w' ⟨rfl, ⟨_, rfl⟩⟩))
        go_ret
        exact ⟨congrArg (fun b => Ending.returned (.int .i64 b)) HE.out.symm, by first | exact HB.out.alloc HB.out.size _ | exact below_drewN (HB.out.alloc HB.out.size _) _⟩
      | true =>
      cases e3 : keyB xa with
      | false =>
        have hv : mvBad (before l k) ⟨xt, xk, xa, xp⟩ = 5 := by simp [mvBad, e1, e2, e3]
        have HE := Lib.hid ((mfGo_stop HX.out HF.out (by rw [hv]; decide)).trans hv)
        clear hv
        go_wp2_with (first | (go_at_call 43; refine (qmoment_any _ _).mono ?_; rintro e w' ⟨rfl, rfl⟩) | (go_at_call 42; refine (in_any _ _ _ _).mono ?_; rintro e w' ⟨rfl, rfl⟩) | (go_at_call 20; refine (qkey_any _ _ (by omega)).mono ?_; rintro e w' ⟨rfl, ⟨_, rfl⟩⟩))
        go_ret
        exact ⟨congrArg (fun b => Ending.returned (.int .i64 b)) HE.out.symm, by first | exact HB.out.alloc HB.out.size _ | exact below_drewN (HB.out.alloc HB.out.size _) _⟩
      | true =>
      cases e4 : keyB xp with
      | false =>
        have hv : mvBad (before l k) ⟨xt, xk, xa, xp⟩ = 5 := by simp [mvBad, e1, e2, e3, e4]
        have HE := Lib.hid ((mfGo_stop HX.out HF.out (by rw [hv]; decide)).trans hv)
        clear hv
        go_wp2_with (first | (go_at_call 43; refine (qmoment_any _ _).mono ?_; rintro e w' ⟨rfl, rfl⟩) | (go_at_call 42; refine (in_any _ _ _ _).mono ?_; rintro e w' ⟨rfl, rfl⟩) | (go_at_call 20; refine (qkey_any _ _ (by omega)).mono ?_; rintro e w' ⟨rfl, ⟨_, rfl⟩⟩))
        go_ret
        exact ⟨congrArg (fun b => Ending.returned (.int .i64 b)) HE.out.symm, by first | exact HB.out.alloc HB.out.size _ | exact below_drewN (HB.out.alloc HB.out.size _) _⟩
      | true =>
        rcases k with _ | j
        · have hv : mvBad (before l 0) ⟨xt, xk, xa, xp⟩ = 0 := by simp [mvBad, before, e1, e2, e3, e4]
          have HE := Lib.hid (mfGo_step HX.out HF.out hv)
          clear hv
          simp only [Nat.zero_mul, Nat.add_zero] at h1 h2 h3 h4
          go_wp2_with (first | (go_at_call 43; refine (qmoment_any _ _).mono ?_; rintro e w' ⟨rfl, rfl⟩) | (go_at_call 42; refine (in_any _ _ _ _).mono ?_; rintro e w' ⟨rfl, rfl⟩) | (go_at_call 20; refine (qkey_any _ _ (by omega)).mono ?_; rintro e w' ⟨rfl, ⟨_, rfl⟩⟩))
          go_quiet (fail)
          go_wp2
          go_roundw
          case rel => exact ⟨1, by omega, by go_num, HE.out, below_drewN (HB.out.alloc HB.out.size _) _⟩
          case measure => simp [intOf]; omega
        · go_wp2_with (first | (go_at_call 43; refine (qmoment_any _ _).mono ?_; rintro e w' ⟨rfl, rfl⟩) | (go_at_call 42; refine (in_any _ _ _ _).mono ?_; rintro e w' ⟨rfl, rfl⟩))
          refine (qkey_any _ _ (by omega)).mono ?_
          rintro e w' ⟨rfl, q1, rfl⟩
          go_wp2_with fail
          refine (qkey_any _ _ (by omega)).mono ?_
          rintro e w' ⟨rfl, q2, rfl⟩
          go_wp2
          obtain ⟨y, hy⟩ : ∃ y, l[j]? = some y := ⟨_, List.getElem?_eq_getElem (by omega)⟩
          have hbef : before l (j + 1) = some y := hy
          have hyo := hok y (List.mem_of_getElem? hy)
          have HO := Lib.hid (And.intro hyo.time (And.intro hxo.time (And.intro hyo.kind hxo.kind)))
          clear hyo
          obtain ⟨W, hW, hb1, hb2⟩ := one_box2 wr #[.int .i64 xt, .int .i64 xk, .string xa, .string xp] 61 (q1 + q2)
          have hbW := HB.out.trans (hb2.mono HB.out.size)
          obtain ⟨b', o', hbo, _, _, g1, g2, g3, g4⟩ := mv_cells (H.out.below hbW) hy
          cases hbo
          obtain ⟨yt, yk, ya, yp⟩ := y
          dsimp only at g1 g2 g3 g4
          obtain ⟨r1, r2⟩ := row_cells hb1
          have iy : (0 : Int) ≤ (j : Int) ∧ (j : Int) < (n : Int) := ⟨by omega, by omega⟩
          have ew : IntKind.i64.wrap (j : Int) = (j : Int) := by rw [IntKind.wrap_i64]; omega
          refine wp_region_still_tail 9 (by kernel_rfl) (by kernel_rfl) ?_
          change wpStill _ _ (World.drew (World.drewN (World.alloc wr (.cells #[.int .i64 xt, .int .i64 xk, .string xa, .string xp] 61)) (q1 + q2))) _ _ _
          rw [← hW]
          have HW := Lib.hid hW
          have HBW := Lib.hid hbW
          have HR := Lib.hid hbef
          clear hW hb1 hb2 h1 h2 h3 h4 hbW hy hbef r2
          simp only [List.take_succ_cons, List.take_zero, List.drop_succ_cons, List.drop_zero]
          repeat still_step
          refine wpStill_nil ?_
          change wpList _ _ _ _ _ (World.drew (World.drewN (World.alloc wr (.cells #[.int .i64 xt, .int .i64 xk, .string xa, .string xp] 61)) (q1 + q2)))
          rw [← HW.out]
          go_wp2_with fail
          refine (moveOrder_any ⟨yt, yk, ya, yp⟩ ⟨xt, xk, xa, xp⟩ W HO.out.1 HO.out.2.1 HO.out.2.2.1 HO.out.2.2.2).mono ?_
          rintro e w' ⟨rfl, hw'⟩
          have hbe : Below w.heap.size w w' := by rw [hw']; exact HBW.out.trans ((((Below.refl W.heap.size W).alloc (Nat.le_refl _) _).alloc (by simp) _).mono HBW.out.size)
          have HBE := Lib.hid hbe
          clear hw' hbe g1 g2 g3 g4 r1
          have hbv : mvBad (before l (j + 1)) ⟨xt, xk, xa, xp⟩ = if 0 ≤ moveOrd ⟨yt, yk, ya, yp⟩ ⟨xt, xk, xa, xp⟩ then 7 else 0 := by rw [HR.out]; simp [mvBad, e1, e2, e3, e4, orders_agree]
          generalize moveOrd ⟨yt, yk, ya, yp⟩ ⟨xt, xk, xa, xp⟩ = m at hbv ⊢
          by_cases hm : 0 ≤ m
          · rw [if_pos hm] at hbv
            have HE := Lib.hid ((mfGo_stop HX.out HF.out (by rw [hbv]; decide)).trans hbv)
            clear hbv
            go_wp2
            go_ret
            exact ⟨congrArg (fun b => Ending.returned (.int .i64 b)) HE.out.symm, HBE.out⟩
          · rw [if_neg hm] at hbv
            have HE := Lib.hid (mfGo_step HX.out HF.out hbv)
            clear hbv
            go_wp2
            go_roundw
            case rel => exact ⟨j + 2, by omega, by go_num, HE.out, HBE.out⟩
            case measure => simp [intOf]; omega
    · have HC := Lib.hid (mfGo_end (by rw [hl]; exact hlt) HF.out)
      go_wp2
      go_ret
      exact ⟨congrArg (fun b => Ending.returned (.int .i64 b)) HC.out.symm, HB.out⟩
end Go.Proofs.Ytfmffobdkfgekaa
