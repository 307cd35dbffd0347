/- What is wrong with a list of moves: roster.CheckMoves. -/
import Derived.Test.YtfmffobdkfgekaaChecks
set_option linter.unusedVariables false
set_option linter.unusedSimpArgs false
namespace Go.Proofs.Ytfmffobdkfgekaa
open Go.RowKit

def mvBad (p : Option Mv) (x : Mv) : Int :=
  if inB x.time 0 maxMoment then if inB x.kind 1 4 then if keyB x.team then if keyB x.player then (match p with | none => 0 | some y => if byMom x y ≤ 0 then 7 else 0) else 5 else 5 else 4 else 1
def mfGo : Option Mv → List Mv → Int
  | _, [] => 0
  | p, x :: l => if mvBad p x ≠ 0 then mvBad p x else mfGo (some x) l
/-- What is wrong with moves. -/
def mfault (l : List Mv) : Int := mfGo none l
def before {α : Type} (l : List α) : Nat → Option α
  | 0 => none
  | k + 1 => l[k]?
theorem mfGo_stop {l : List Mv} {k : Nat} {x : Mv} (hk : l[k]? = some x) (h : mfGo (before l k) (l.drop k) = mfault l) (hb : mvBad (before l k) x ≠ 0) : mfault l = mvBad (before l k) x := by
  have hlt : k < l.length := (List.getElem?_eq_some_iff.1 hk).1
  rw [← h, List.drop_eq_getElem_cons hlt, (List.getElem?_eq_some_iff.1 hk).2, mfGo, if_pos hb]
theorem mfGo_step {l : List Mv} {k : Nat} {x : Mv} (hk : l[k]? = some x) (h : mfGo (before l k) (l.drop k) = mfault l) (hb : mvBad (before l k) x = 0) : mfGo (before l (k + 1)) (l.drop (k + 1)) = mfault l := by
  have hlt : k < l.length := (List.getElem?_eq_some_iff.1 hk).1
  rw [← h, List.drop_eq_getElem_cons hlt, (List.getElem?_eq_some_iff.1 hk).2, mfGo, if_neg (by rw [hb]; simp)]
  simp only [before, hk]
theorem mfGo_end {l : List Mv} {k : Nat} (hk : ¬ k < l.length) (h : mfGo (before l k) (l.drop k) = mfault l) : mfault l = 0 := by
  rw [← h, List.drop_eq_nil_of_le (by omega)]; rfl
theorem mv_cells {lo : Nat} {w : World} {A : Option Addr} {c n : Nat} {l : List Mv} (h : Sl lo w (.slice A n c) 4 n (l.flatMap Mv.c)) {k : Nat} {x : Mv} (hx : l[k]? = some x) :
    ∃ b o, A = some ⟨b, o, none⟩ ∧ lo ≤ b ∧ b < w.heap.size ∧ w.cell? ⟨b, o + k * 4, none⟩ = some (.int .i64 x.time) ∧ w.cell? ⟨b, o + k * 4 + 1, none⟩ = some (.int .i64 x.kind) ∧ w.cell? ⟨b, o + k * 4 + 2, none⟩ = some (.string x.team) ∧ w.cell? ⟨b, o + k * 4 + 3, none⟩ = some (.string x.player) := by
  obtain ⟨b, o, e1, e2, e3, e4⟩ := h.recd Mv.c_len hx (by omega)
  exact ⟨b, o, e1, e2, e3, e4 0 _ rfl, e4 1 _ rfl, e4 2 _ rfl, e4 3 _ rfl⟩

/-- A value is laid in a block, and a number is drawn. -/
theorem one_box (w : World) (c1 : Array Value) (t1 : TypeId) : ∃ W, W = (w.alloc (.cells c1 t1)).drew ∧
    W.heap[w.heap.size]? = some (.cells c1 t1 (0, 0)) ∧ Below w.heap.size w W :=
  ⟨_, rfl, heap_alloc_new _ _, below_drewN ((Below.refl w.heap.size w).alloc (Nat.le_refl _) _) 1⟩
set_option maxHeartbeats 800000 in
set_option maxRecDepth 20000 in
theorem checkMoves_any {lo : Nat} {w : World} {v : Value} {n : Nat} {l : List Mv} (h : Sl lo w v 4 n (l.flatMap Mv.c)) (hl : l.length = n) (hn : n ≤ 2000) (hok : ∀ x ∈ l, x.ok) :
    Calls Try.prog 57 #[v] w fun e w' => e = .returned (.int .i64 (mfault l)) ∧ Below w.heap.size w w' := by
  obtain ⟨A, c, rfl, hn2⟩ := h.shape
  have H := Lib.hid h
  clear h
  go_enter Try.func57, Try.ntmps57
  go_wp2
  go_loopw [10, 3] (fun i j wr => ∃ k : Nat, k ≤ n ∧ i = .int .i64 k ∧ mfGo (before l k) (l.drop k) = mfault l ∧ Below w.heap.size w wr) (fun i _ _ => n - (intOf i).toNat)
  case atStart => exact ⟨0, by omega, rfl, rfl, Below.refl _ _⟩
  case round =>
    obtain ⟨k, hk, rfl, hf, hbw⟩ := hrel
    have HF := Lib.hid hf
    have HB := Lib.hid hbw
    clear hf hbw
    by_cases hlt : k < n
    · obtain ⟨x, hx⟩ : ∃ x, l[k]? = some x := ⟨_, List.getElem?_eq_getElem (by omega)⟩
      have hxo := hok x (List.mem_of_getElem? hx)
      obtain ⟨b, o, rfl, _, hbl, h1, h2, h3, h4⟩ := mv_cells (H.out.below HB.out) hx
      have HX := Lib.hid hx
      clear hx
      obtain ⟨xt, xk, xa, xp⟩ := x
      dsimp only at h1 h2 h3 h4
      have hs1 : xa.size ≤ 1000 := hxo.team
      have hs2 : xp.size ≤ 1000 := hxo.player
      have ix : (0 : Int) ≤ (k : Int) ∧ (k : Int) < (n : Int) := ⟨by omega, by omega⟩
      cases e1 : inB xt 0 maxMoment with
      | false =>
        have hv : mvBad (before l k) ⟨xt, xk, xa, xp⟩ = 1 := by simp [mvBad, e1]
        have HE := Lib.hid ((mfGo_stop HX.out HF.out (by rw [hv]; decide)).trans hv)
        clear hv
        go_wp2_with (first | (go_at_call 38; refine (moment_any _ _).mono ?_; rintro e w' ⟨rfl, rfl⟩) | (go_at_call 58; refine (out_any _ _ _ _).mono ?_; rintro e w' ⟨rfl, rfl⟩) | (go_at_call 37; refine (key_any _ _ (by omega)).mono ?_; rintro e w' ⟨rfl, rfl⟩))
        go_ret
        exact ⟨congrArg (fun b => Ending.returned (.int .i64 b)) HE.out.symm, HB.out.alloc HB.out.size _⟩
      | true =>
      cases e2 : inB xk 1 4 with
      | false =>
        have hv : mvBad (before l k) ⟨xt, xk, xa, xp⟩ = 4 := by simp [mvBad, e1, e2]
        have HE := Lib.hid ((mfGo_stop HX.out HF.out (by rw [hv]; decide)).trans hv)
        clear hv
        go_wp2_with (first | (go_at_call 38; refine (moment_any _ _).mono ?_; rintro e w' ⟨rfl, rfl⟩) | (go_at_call 58; refine (out_any _ _ _ _).mono ?_; rintro e w' ⟨rfl, rfl⟩) | (go_at_call 37; refine (key_any _ _ (by omega)).mono ?_; rintro e w' ⟨rfl, rfl⟩))
        go_ret
        exact ⟨congrArg (fun b => Ending.returned (.int .i64 b)) HE.out.symm, HB.out.alloc HB.out.size _⟩
      | true =>
      cases e3 : keyB xa with
      | false =>
        have hv : mvBad (before l k) ⟨xt, xk, xa, xp⟩ = 5 := by simp [mvBad, e1, e2, e3]
        have HE := Lib.hid ((mfGo_stop HX.out HF.out (by rw [hv]; decide)).trans hv)
        clear hv
        go_wp2_with (first | (go_at_call 38; refine (moment_any _ _).mono ?_; rintro e w' ⟨rfl, rfl⟩) | (go_at_call 58; refine (out_any _ _ _ _).mono ?_; rintro e w' ⟨rfl, rfl⟩) | (go_at_call 37; refine (key_any _ _ (by omega)).mono ?_; rintro e w' ⟨rfl, rfl⟩))
        go_ret
        exact ⟨congrArg (fun b => Ending.returned (.int .i64 b)) HE.out.symm, HB.out.alloc HB.out.size _⟩
      | true =>
      cases e4 : keyB xp with
      | false =>
        have hv : mvBad (before l k) ⟨xt, xk, xa, xp⟩ = 5 := by simp [mvBad, e1, e2, e3, e4]
        have HE := Lib.hid ((mfGo_stop HX.out HF.out (by rw [hv]; decide)).trans hv)
        clear hv
        go_wp2_with (first | (go_at_call 38; refine (moment_any _ _).mono ?_; rintro e w' ⟨rfl, rfl⟩) | (go_at_call 58; refine (out_any _ _ _ _).mono ?_; rintro e w' ⟨rfl, rfl⟩) | (go_at_call 37; refine (key_any _ _ (by omega)).mono ?_; rintro e w' ⟨rfl, rfl⟩))
        go_ret
        exact ⟨congrArg (fun b => Ending.returned (.int .i64 b)) HE.out.symm, HB.out.alloc HB.out.size _⟩
      | true =>
        rcases k with _ | j
        · have hv : mvBad (before l 0) ⟨xt, xk, xa, xp⟩ = 0 := by simp [mvBad, before, e1, e2, e3, e4]
          have HE := Lib.hid (mfGo_step HX.out HF.out hv)
          clear hv
          simp only [Nat.zero_mul, Nat.add_zero] at h1 h2 h3 h4
          go_wp2_with (first | (go_at_call 38; refine (moment_any _ _).mono ?_; rintro e w' ⟨rfl, rfl⟩) | (go_at_call 58; refine (out_any _ _ _ _).mono ?_; rintro e w' ⟨rfl, rfl⟩) | (go_at_call 37; refine (key_any _ _ (by omega)).mono ?_; rintro e w' ⟨rfl, rfl⟩))
          go_quiet (fail)
          go_wp2
          go_roundw
          case rel => exact ⟨1, by omega, by go_num, HE.out, below_drewN (HB.out.alloc HB.out.size _) _⟩
          case measure => simp [intOf]; omega
        · go_wp2_with (first | (go_at_call 38; refine (moment_any _ _).mono ?_; rintro e w' ⟨rfl, rfl⟩) | (go_at_call 58; refine (out_any _ _ _ _).mono ?_; rintro e w' ⟨rfl, rfl⟩) | (go_at_call 37; refine (key_any _ _ (by omega)).mono ?_; rintro e w' ⟨rfl, rfl⟩))
          obtain ⟨y, hy⟩ : ∃ y, l[j]? = some y := ⟨_, List.getElem?_eq_getElem (by omega)⟩
          have hbef : before l (j + 1) = some y := hy
          obtain ⟨W, hW, hb1, hb2⟩ := one_box wr #[.int .i64 xt, .int .i64 xk, .string xa, .string xp] 61
          have hbW := HB.out.trans (hb2.mono HB.out.size)
          obtain ⟨b', o', hbo, _, _, g1, g2, g3, g4⟩ := mv_cells (H.out.below hbW) hy
          cases hbo
          obtain ⟨yt, yk, ya, yp⟩ := y
          dsimp only at g1 g2 g3 g4
          obtain ⟨r1, r2⟩ := row_cells hb1
          have iy : (0 : Int) ≤ (j : Int) ∧ (j : Int) < (n : Int) := ⟨by omega, by omega⟩
          have ew : IntKind.i64.wrap (j : Int) = (j : Int) := by rw [IntKind.wrap_i64]; omega
          refine wp_region_still_tail 9 (by kernel_rfl) (by kernel_rfl) ?_
          change wpStill _ _ (World.drew (World.alloc wr (.cells #[.int .i64 xt, .int .i64 xk, .string xa, .string xp] 61))) _ _ _
          rw [← hW]
          have HW := Lib.hid hW
          have HBW := Lib.hid hbW
          have HR := Lib.hid hbef
          clear hW hb1 hb2 h1 h2 h3 h4 hbW hy hbef r2
          simp only [List.take_succ_cons, List.take_zero, List.drop_succ_cons, List.drop_zero]
          repeat still_step
          refine wpStill_nil ?_
          change wpList _ _ _ _ _ (World.drew (World.alloc wr (.cells #[.int .i64 xt, .int .i64 xk, .string xa, .string xp] 61)))
          rw [← HW.out]
          go_wp2_with fail
          refine (byMoment_any ⟨xt, xk, xa, xp⟩ ⟨yt, yk, ya, yp⟩ W).mono ?_
          rintro e w' ⟨rfl, hbw'⟩
          have hbe : Below w.heap.size w w' := HBW.out.trans (hbw'.mono HBW.out.size)
          have HBE := Lib.hid hbe
          clear hbw' hbe g1 g2 g3 g4 r1
          have hbv : mvBad (before l (j + 1)) ⟨xt, xk, xa, xp⟩ = if byMom ⟨xt, xk, xa, xp⟩ ⟨yt, yk, ya, yp⟩ ≤ 0 then 7 else 0 := by rw [HR.out]; simp [mvBad, e1, e2, e3, e4]
          generalize byMom ⟨xt, xk, xa, xp⟩ ⟨yt, yk, ya, yp⟩ = m at hbv ⊢
          by_cases hm : m ≤ 0
          · rw [if_pos hm] at hbv
            have HE := Lib.hid ((mfGo_stop HX.out HF.out (by rw [hbv]; decide)).trans hbv)
            clear hbv
            go_wp2
            go_ret
            exact ⟨congrArg (fun b => Ending.returned (.int .i64 b)) HE.out.symm, HBE.out⟩
          · rw [if_neg hm] at hbv
            have HE := Lib.hid (mfGo_step HX.out HF.out hbv)
            clear hbv
            go_wp2
            go_roundw
            case rel => exact ⟨j + 2, by omega, by go_num, HE.out, HBE.out⟩
            case measure => simp [intOf]; omega
    · have HC := Lib.hid (mfGo_end (by rw [hl]; exact hlt) HF.out)
      go_wp2
      go_ret
      exact ⟨congrArg (fun b => Ending.returned (.int .i64 b)) HC.out.symm, HB.out⟩
end Go.Proofs.Ytfmffobdkfgekaa
