import Derived.Test.YtfmffobdkfgekaaGreatJm2
import Derived.Test.YtfmffobdkfgekaaGreatJm1
import Derived.Deep.Onto
/- What is wrong with a list of moves: the reference's MovesFault. -/
set_option linter.unusedVariables false
set_option linter.unusedSimpArgs false
namespace Go.Proofs.YtfmffobdkfgekaaGreat
open Go.RowKit

/-- A value is laid in a block, and numbers are drawn. -/
theorem one_box2 (w : World) (c1 : Array Value) (t1 : TypeId) (q : Nat) : ∃ W, W = ((w.alloc (.cells c1 t1)).drewN q).drew ∧
    W.heap[w.heap.size]? = some (.cells c1 t1 (0, 0)) ∧ Below w.heap.size w W :=
  ⟨_, rfl, heap_alloc_new _ _, below_drewN (below_drewN ((Below.refl w.heap.size w).alloc (Nat.le_refl _) _) q) 1⟩
set_option maxHeartbeats 800000 in
set_option maxRecDepth 20000 in
theorem movesFault_any {lo : Nat} {w : World} {v : Value} {n : Nat} {l : List Mv} (h : Sl lo w v 4 n (l.flatMap Mv.c)) (hl : l.length = n) (hn : n ≤ 2000) (hok : ∀ x ∈ l, x.ok) :
    Calls Tryz.prog 12 #[v] w fun e w' => e = .returned (.int .i64 (mfault l)) ∧ Below w.heap.size w w' := by
  obtain ⟨A, c, rfl, hn2⟩ := h.shape
  have H := Lib.hid h
  clear h
  go_enter Tryz.func12, Tryz.ntmps12
  go_wp2
  go_loopw [10, 3] (fun i j wr => ∃ k : Nat, k ≤ n ∧ i = .int .i64 k ∧ mfGo (before l k) (l.drop k) = mfault l ∧ Below w.heap.size w wr) (fun i _ _ => n - (intOf i).toNat)
  case atStart => exact ⟨0, by omega, rfl, rfl, Below.refl _ _⟩
  case round =>
    obtain ⟨k, hk, rfl, hf, hbw⟩ := hrel
    have HF := Lib.hid hf
    have HB := Lib.hid hbw
    clear hf hbw
    by_cases hlt : k < n
    · obtain ⟨x, hx⟩ : ∃ x, l[k]? = some x := ⟨_, List.getElem?_eq_getElem (by omega)⟩
      have hxo := hok x (List.mem_of_getElem? hx)
      obtain ⟨b, o, rfl, _, hbl, h1, h2, h3, h4⟩ := mv_cells (H.out.below HB.out) hx
      have HX := Lib.hid hx
      clear hx
      obtain ⟨xt, xk, xa, xp⟩ := x
      dsimp only at h1 h2 h3 h4
      have hs1 : xa.size ≤ 1000 := hxo.team
      have hs2 : xp.size ≤ 1000 := hxo.player
      have ix : (0 : Int) ≤ (k : Int) ∧ (k : Int) < (n : Int) := ⟨by omega, by omega⟩
      cases e1 : inB xt 0 maxMoment with
      | false =>
        have hv : mvBad (before l k) ⟨xt, xk, xa, xp⟩ = 1 := by simp [mvBad, e1]
        have HE := Lib.hid ((mfGo_stop HX.out HF.out (by rw [hv]; decide)).trans hv)
        clear hv
        go_wp2_with (first | (go_at_call 60; refine (qmoment_any _ _).mono ?_; rintro e w' ⟨rfl, rfl⟩) | (go_at_call 61; refine (in_any _ _ _ _).mono ?_; rintro e w' ⟨rfl, rfl⟩) | (go_at_call 62; refine (qkey_any _ _ (by omega)).mono ?_; rintro e w' ⟨rfl, ⟨_, rfl⟩⟩))
        go_ret
        exact ⟨congrArg (fun b => Ending.returned (.int .i64 b)) HE.out.symm, by first | exact HB.out.alloc HB.out.size _ | exact below_drewN (HB.out.alloc HB.out.size _) _⟩
      | true =>
      cases e2 : inB xk 1 4 with
      | false =>
        have hv : mvBad (before l k) ⟨xt, xk, xa, xp⟩ = 4 := by simp [mvBad, e1, e2]
        have HE := Lib.hid ((mfGo_stop HX.out HF.out (by rw [hv]; decide)).trans hv)
        clear hv
        go_wp2_with (first | (go_at_call 60; refine (qmoment_any _ _).mono ?_; rintro e w' ⟨rfl, rfl⟩) | (go_at_call 61; refine (in_any _ _ _ _).mono ?_; rintro e w' ⟨rfl, rfl⟩) | (go_at_call 62; refine (qkey_any _ _ (by omega)).mono ?_; rintro e w' ⟨rfl, ⟨_, rfl⟩⟩))
        go_ret
        exact ⟨congrArg (fun b => Ending.returned (.int .i64 b)) HE.out.symm, by first | exact HB.out.alloc HB.out.size _ | exact below_drewN (HB.out.alloc HB.out.size _) _⟩
      | true =>
      cases e3 : keyB xa with
      | false =>
        have hv : mvBad (before l k) ⟨xt, xk, xa, xp⟩ = 5 := by simp [mvBad, e1, e2, e3]
        have HE := Lib.hid ((mfGo_stop HX.out HF.out (by rw [hv]; decide)).trans hv)
        clear hv
        go_wp2_with (first | (go_at_call 60; refine (qmoment_any _ _).mono ?_; rintro e w' ⟨rfl, rfl⟩) | (go_at_call 61; refine (in_any _ _ _ _).mono ?_; rintro e w' ⟨rfl, rfl⟩) | (go_at_call 62; refine (qkey_any _ _ (by omega)).mono ?_; rintro e w' ⟨rfl, ⟨_, rfl⟩⟩))
        go_ret
        exact ⟨congrArg (fun b => Ending.returned (.int .i64 b)) HE.out.symm, by first | exact HB.out.alloc HB.out.size _ | exact below_drewN (HB.out.alloc HB.out.size _) _⟩
      | true =>
      cases e4 : keyB xp with
      | false =>
        have hv : mvBad (before l k) ⟨xt, xk, xa, xp⟩ = 5 := by simp [mvBad, e1, e2, e3, e4]
        have HE := Lib.hid ((mfGo_stop HX.out HF.out (by rw [hv]; decide)).trans hv)
        clear hv
        go_wp2_with (first | (go_at_call 60; refine (qmoment_any _ _).mono ?_; rintro e w' ⟨rfl, rfl⟩) | (go_at_call 61; refine (in_any _ _ _ _).mono ?_; rintro e w' ⟨rfl, rfl⟩) | (go_at_call 62; refine (qkey_any _ _ (by omega)).mono ?_; rintro e w' ⟨rfl, ⟨_, rfl⟩⟩))
        go_ret
        exact ⟨congrArg (fun b => Ending.returned (.int .i64 b)) HE.out.symm, by first | exact HB.out.alloc HB.out.size _ | exact below_drewN (HB.out.alloc HB.out.size _) _⟩
      | true =>
        rcases k with _ | j
        · have hv : mvBad (before l 0) ⟨xt, xk, xa, xp⟩ = 0 := by simp [mvBad, before, e1, e2, e3, e4]
          have HE := Lib.hid (mfGo_step HX.out HF.out hv)
          clear hv
          simp only [Nat.zero_mul, Nat.add_zero] at h1 h2 h3 h4
          go_wp2_with (first | (go_at_call 60; refine (qmoment_any _ _).mono ?_; rintro e w' ⟨rfl, rfl⟩) | (go_at_call 61; refine (in_any _ _ _ _).mono ?_; rintro e w' ⟨rfl, rfl⟩) | (go_at_call 62; refine (qkey_any _ _ (by omega)).mono ?_; rintro e w' ⟨rfl, ⟨_, rfl⟩⟩))
          go_quiet (fail)
          go_wp2
          go_roundw
          case rel => exact ⟨1, by omega, by go_num, HE.out, below_drewN (HB.out.alloc HB.out.size _) _⟩
          case measure => simp [intOf]; omega
        · go_wp2_with (first | (go_at_call 60; refine (qmoment_any _ _).mono ?_; rintro e w' ⟨rfl, rfl⟩) | (go_at_call 61; refine (in_any _ _ _ _).mono ?_; rintro e w' ⟨rfl, rfl⟩))
          refine (qkey_any _ _ (by omega)).mono ?_
          rintro e w' ⟨rfl, q1, rfl⟩
          go_wp2_with fail
          refine (qkey_any _ _ (by omega)).mono ?_
          rintro e w' ⟨rfl, q2, rfl⟩
          go_wp2
          obtain ⟨y, hy⟩ : ∃ y, l[j]? = some y := ⟨_, List.getElem?_eq_getElem (by omega)⟩
          have hbef : before l (j + 1) = some y := hy
          have hyo := hok y (List.mem_of_getElem? hy)
          have HO := Lib.hid (And.intro hyo.time (And.intro hxo.time (And.intro hyo.kind hxo.kind)))
          clear hyo
          obtain ⟨W, hW, hb1, hb2⟩ := one_box2 wr #[.int .i64 xt, .int .i64 xk, .string xa, .string xp] 45 (q1 + q2)
          have hbW := HB.out.trans (hb2.mono HB.out.size)
          obtain ⟨b', o', hbo, _, _, g1, g2, g3, g4⟩ := mv_cells (H.out.below hbW) hy
          cases hbo
          obtain ⟨yt, yk, ya, yp⟩ := y
          dsimp only at g1 g2 g3 g4
          obtain ⟨r1, r2⟩ := row_cells hb1
          have iy : (0 : Int) ≤ (j : Int) ∧ (j : Int) < (n : Int) := ⟨by omega, by omega⟩
          have ew : IntKind.i64.wrap (j : Int) = (j : Int) := by rw [IntKind.wrap_i64]; omega
          refine wp_region_still_tail 9 (by kernel_rfl) (by kernel_rfl) ?_
          change wpStill _ _ (World.drew (World.drewN (World.alloc wr (.cells #[.int .i64 xt, .int .i64 xk, .string xa, .string xp] 45)) (q1 + q2))) _ _ _
          rw [← hW]
          have HW := Lib.hid hW
          have HBW := Lib.hid hbW
          have HR := Lib.hid hbef
          clear hW hb1 hb2 h1 h2 h3 h4 hbW hy hbef r2
          simp only [List.take_succ_cons, List.take_zero, List.drop_succ_cons, List.drop_zero]
          repeat still_step
          refine wpStill_nil ?_
          change wpList _ _ _ _ _ (World.drew (World.drewN (World.alloc wr (.cells #[.int .i64 xt, .int .i64 xk, .string xa, .string xp] 45)) (q1 + q2)))
          rw [← HW.out]
          go_wp2_with fail
          refine (moveOrder_any ⟨yt, yk, ya, yp⟩ ⟨xt, xk, xa, xp⟩ W HO.out.1 HO.out.2.1 HO.out.2.2.1 HO.out.2.2.2).mono ?_
          rintro e w' ⟨rfl, hw'⟩
          have hbe : Below w.heap.size w w' := by rw [hw']; exact HBW.out.trans ((((Below.refl W.heap.size W).alloc (Nat.le_refl _) _).alloc (by simp) _).mono HBW.out.size)
          have HBE := Lib.hid hbe
          clear hw' hbe g1 g2 g3 g4 r1
          have hbv : mvBad (before l (j + 1)) ⟨xt, xk, xa, xp⟩ = if 0 ≤ moveOrd ⟨yt, yk, ya, yp⟩ ⟨xt, xk, xa, xp⟩ then 7 else 0 := by rw [HR.out]; simp [mvBad, e1, e2, e3, e4, orders_agree]
          generalize moveOrd ⟨yt, yk, ya, yp⟩ ⟨xt, xk, xa, xp⟩ = m at hbv ⊢
          by_cases hm : 0 ≤ m
          · rw [if_pos hm] at hbv
            have HE := Lib.hid ((mfGo_stop HX.out HF.out (by rw [hbv]; decide)).trans hbv)
            clear hbv
            go_wp2
            go_ret
            exact ⟨congrArg (fun b => Ending.returned (.int .i64 b)) HE.out.symm, HBE.out⟩
          · rw [if_neg hm] at hbv
            have HE := Lib.hid (mfGo_step HX.out HF.out hbv)
            clear hbv
            go_wp2
            go_roundw
            case rel => exact ⟨j + 2, by omega, by go_num, HE.out, HBE.out⟩
            case measure => simp [intOf]; omega
    · have HC := Lib.hid (mfGo_end (by rw [hl]; exact hlt) HF.out)
      go_wp2
      go_ret
      exact ⟨congrArg (fun b => Ending.returned (.int .i64 b)) HC.out.symm, HB.out⟩
end Go.Proofs.YtfmffobdkfgekaaGreat
/- What is wrong with what is asked: fault, askedFault; whether a list has an element of a kind. -/
set_option linter.unusedVariables false
set_option linter.unusedSimpArgs false
namespace Go.Proofs.YtfmffobdkfgekaaGreat
open Go.RowKit

def faultE (b : Bd) (l : List Mv) : Int := firstI [bfault b, mfault l]
set_option maxHeartbeats 400000 in
theorem fault_any {lo : Nat} {w : World} {v : Value} {n : Nat} {l : List Mv} (b : Bd) (h : Sl lo w v 4 n (l.flatMap Mv.c)) (hl : l.length = n) (hn : n ≤ 2000) (hok : ∀ x ∈ l, x.ok) :
    Calls Tryz.prog 57 #[b.v, v] w fun e w' => e = .returned (.int .i64 (faultE b l)) ∧ Below w.heap.size w w' := by
  obtain ⟨m1, m2, m3, m4⟩ := b
  have H := Lib.hid h
  clear h
  have hb1 : Below w.heap.size w (w.alloc (.cells #[.int .i64 m1, .int .i64 m2, .int .i64 m3, .int .i64 m4] 27)) := (Below.refl w.heap.size w).alloc (Nat.le_refl _) _
  have HB1 := Lib.hid hb1
  clear hb1
  dsimp only [Bd.v]
  go_enter Tryz.func57, Tryz.ntmps57
  go_wp2_with fail
  refine (checkBounds_any ⟨m1, m2, m3, m4⟩ _).mono ?_
  rintro e w1 ⟨rfl, hb⟩
  have HB2 := Lib.hid (HB1.out.trans (hb.mono HB1.out.size))
  clear hb
  go_wp2_with fail
  refine (checkMoves_any (H.out.below HB2.out) hl hn hok).mono ?_
  rintro e w2 ⟨rfl, hb⟩
  have HB3 := Lib.hid (HB2.out.trans (hb.mono HB2.out.size))
  clear hb
  go_wp2_with fail
  refine (first_any (lo := 0) (n := 2) (l := [bfault ⟨m1, m2, m3, m4⟩, mfault l]) (Sl.lit rfl (Nat.zero_le _) rfl (by simp) (by omega)) rfl).mono ?_
  rintro e w3 ⟨rfl, q, rfl⟩
  go_wp2
  go_ret
  exact ⟨rfl, below_drewN (HB3.out.alloc HB3.out.size _) _⟩

def askedE (b : Bd) (l : List Mv) (s : ByteArray) (t : Int) : Int := if faultE b l ≠ 0 then faultE b l else if keyB s then if inB t 0 maxMoment then 0 else 1 else 5
set_option maxHeartbeats 400000 in
theorem askedFault_any {lo : Nat} {w : World} {v : Value} {n : Nat} {l : List Mv} (b : Bd) (s : ByteArray) (t : Int) (h : Sl lo w v 4 n (l.flatMap Mv.c)) (hl : l.length = n) (hn : n ≤ 2000) (hok : ∀ x ∈ l, x.ok) (hs : s.size ≤ 1000) :
    Calls Tryz.prog 68 #[b.v, v, .string s, .int .i64 t] w fun e w' => e = .returned (.int .i64 (askedE b l s t)) ∧ Below w.heap.size w w' := by
  obtain ⟨m1, m2, m3, m4⟩ := b
  have H := Lib.hid h
  clear h
  have hb1 : Below w.heap.size w (w.alloc (.cells #[.int .i64 m1, .int .i64 m2, .int .i64 m3, .int .i64 m4] 27)) := (Below.refl w.heap.size w).alloc (Nat.le_refl _) _
  have HB1 := Lib.hid hb1
  clear hb1
  dsimp only [Bd.v]
  unfold askedE
  go_enter Tryz.func68, Tryz.ntmps68
  go_wp2_with fail
  refine (fault_any ⟨m1, m2, m3, m4⟩ (H.out.below HB1.out) hl hn hok).mono ?_
  rintro e w1 ⟨rfl, hb⟩
  have HB2 := Lib.hid (HB1.out.trans (hb.mono HB1.out.size))
  clear hb
  generalize hf : faultE ⟨m1, m2, m3, m4⟩ l = f
  have hs2 : s.size ≤ 4611686018427387904 := by omega
  by_cases h0 : f = 0
  · subst h0
    cases hk : keyB s
    · go_wp2_with (first | (go_at_call 67; refine (key_any _ _ (by omega)).mono ?_; rintro e w' ⟨rfl, rfl⟩) | (go_at_call 66; refine (moment_any _ _).mono ?_; rintro e w' ⟨rfl, rfl⟩))
      go_ret
      exact ⟨by simp [hf, hk], HB2.out⟩
    · cases ht : inB t 0 maxMoment
      all_goals
        go_wp2_with (first | (go_at_call 67; refine (key_any _ _ (by omega)).mono ?_; rintro e w' ⟨rfl, rfl⟩) | (go_at_call 66; refine (moment_any _ _).mono ?_; rintro e w' ⟨rfl, rfl⟩))
        go_ret
        exact ⟨by simp [hf, hk, ht], HB2.out⟩
  · go_wp2
    go_ret
    exact ⟨by simp [hf, h0], HB2.out⟩

/-- A named function that answers by p, and only draws. -/
def Asks (f : Nat) (p : ByteArray → Bool) : Prop := ∀ (s : ByteArray) (w : World), s.size ≤ 1000 → Calls Tryz.prog f #[.string s] w fun e w' => e = .returned (.bool (p s)) ∧ Drew w w'






















end Go.Proofs.YtfmffobdkfgekaaGreat
/- Whether a list of strings has one that is no key. -/
set_option linter.unusedVariables false
set_option linter.unusedSimpArgs false
namespace Go.Proofs.YtfmffobdkfgekaaGreat
open Go.RowKit

theorem str_at {lo : Nat} {w : World} {A : Option Addr} {c n : Nat} {l : List ByteArray} (h : Sl lo w (.slice A n c) 1 n (l.map Value.string)) {k : Nat} {x : ByteArray} (hk : l[k]? = some x) :
    ∃ b o, A = some ⟨b, o, none⟩ ∧ lo ≤ b ∧ b < w.heap.size ∧ w.cell? ⟨b, o + k, none⟩ = some (.string x) :=
  h.cell (j := k) (by rw [List.getElem?_map, hk]; rfl)
theorem any_stop {α : Type} {p : α → Bool} {l : List α} {k : Nat} {x : α} (hk : l[k]? = some x) (hx : p x = true) : l.any p = true := List.any_eq_true.2 ⟨x, List.mem_of_getElem? hk, hx⟩
theorem any_end {α : Type} {p : α → Bool} {l : List α} (h : ∀ (k : Nat) (x : α), l[k]? = some x → p x = false) : l.any p = false := by
  cases ha : l.any p with
  | false => rfl
  | true =>
    obtain ⟨x, hx, hp⟩ := List.any_eq_true.1 ha
    obtain ⟨k, hk⟩ := List.getElem?_of_mem hx
    rw [h k x hk] at hp; cases hp












































































































end Go.Proofs.YtfmffobdkfgekaaGreat
/- A string is put into a rising list: roster.add. -/
set_option linter.unusedVariables false
set_option linter.unusedSimpArgs false
namespace Go.Proofs.YtfmffobdkfgekaaGreat
open Go.RowKit

theorem bs_bound (less : Nat → Bool) : ∀ (f lo hi : Nat), lo ≤ hi → lo ≤ Lib.bsGo less f lo hi ∧ Lib.bsGo less f lo hi ≤ hi
  | 0, lo, hi, h => by unfold Lib.bsGo; omega
  | f + 1, lo, hi, h => by
    unfold Lib.bsGo
    split
    · split
      · have := bs_bound less f ((lo + hi) / 2 + 1) hi (by omega); omega
      · have := bs_bound less f lo ((lo + hi) / 2) (by omega); omega
    · omega
/-- The row's own block, and what it is. -/
theorem own_block {lo n sz : Nat} {e : TypeId} {w : World} {v : Value} {xs : List Value} (h : w.ownsRow lo e sz v n xs) {g : Nat} (hg : v.ownBlock = some g) : ∃ cur, w.heap[g]? = some (.cells cur e (0, 0)) := by
  rcases h.2 with ⟨rfl, _⟩ | ⟨g', cap, cur, rfl, _, e3, _⟩
  · cases hg
  · have : g' = g := by simpa [Value.ownBlock] using hg
    subst this; exact ⟨cur, e3⟩
/-- A list of strings that is read; the block in which it lies holds strings. -/
structure SlT (lo : Nat) (w : World) (v : Value) (l : List ByteArray) : Prop where
  sl : Sl lo w v 1 l.length (l.map Value.string)
  ty : ∀ g, v.ownBlock = some g → ∃ cs, w.heap[g]? = some (.cells cs 9 (0, 0))
section
variable {lo lo' : Nat} {w w' : World} {v : Value} {l : List ByteArray}
theorem SlT.keep (h : SlT lo w v l) (hs : w.heap.size ≤ w'.heap.size) (hk : ∀ (i : Nat) (cs : Array Value), w.heap[i]? = some (Obj.cells cs 9 (0, 0)) → w'.heap[i]? = some (Obj.cells cs 9 (0, 0))) : SlT lo w' v l := by
  refine ⟨?_, fun g hg => ?_⟩
  · obtain ⟨⟨h1, h2, A, c, h3, h4, h4', h5⟩, ht⟩ := h
    refine ⟨h1, h2, A, c, h3, h4, h4', fun hn => ?_⟩
    obtain ⟨b, o, e1, e2, e3, e4⟩ := h5 hn
    subst h3 e1
    obtain ⟨cs, hc⟩ := ht b rfl
    exact ⟨b, o, rfl, e2, by omega, fun j u hu => (World.cell?_of_block (w := w) ((hk b cs hc).trans hc.symm)).trans (e4 j u hu)⟩
  · obtain ⟨cs, hc⟩ := h.ty g hg
    exact ⟨cs, hk g cs hc⟩
theorem SlT.below (h : SlT lo w v l) (hb : Below w.heap.size w w') : SlT lo w' v l := h.keep hb.size fun i cs hc => (hb.block i (Array.getElem?_eq_some_iff.1 hc).1).trans hc
theorem SlT.mono (h : SlT lo w v l) (hl : lo' ≤ lo) : SlT lo' w v l := ⟨h.sl.mono hl, h.ty⟩
theorem SlT.drewN (h : SlT lo w v l) (q : Nat) : SlT lo (w.drewN q) v l := ⟨h.sl, h.ty⟩
theorem SlT.drew (h : SlT lo w v l) : SlT lo w.drew v l := ⟨h.sl, h.ty⟩
theorem SlT.nil (lo : Nat) (w : World) : SlT lo w (.slice none 0 0) [] := ⟨Sl.nil _ _ _, fun g hg => by cases hg⟩
theorem SlT.of_own {base : Nat} (h : w.ownsRow base 9 1 v l.length (l.map Value.string)) (hn : l.length ≤ 1099511627776) : SlT base w v l := ⟨Sl.of_own h hn, fun g hg => own_block h hg⟩
end
def posS (l : List ByteArray) (s : ByteArray) : Nat := Lib.bsGo (fun t => Op.bytesLess (l.getD t ⟨#[]⟩).toList s.toList) l.length 0 l.length
theorem posS_le (l : List ByteArray) (s : ByteArray) : posS l s ≤ l.length := (bs_bound _ _ 0 _ (Nat.zero_le _)).2
def addS (l : List ByteArray) (s : ByteArray) : List ByteArray := l.take (posS l s) ++ s :: l.drop (posS l s)
theorem addS_len (l : List ByteArray) (s : ByteArray) : (addS l s).length = l.length + 1 := by
  have := posS_le l s
  simp [addS]; omega
theorem addS_mem {l : List ByteArray} {s x : ByteArray} : x ∈ addS l s ↔ x = s ∨ x ∈ l := by
  have h : x ∈ l ↔ x ∈ l.take (posS l s) ∨ x ∈ l.drop (posS l s) := by rw [← List.mem_append, List.take_append_drop]
  simp only [addS, List.mem_append, List.mem_cons, h]
  constructor
  · rintro (h | h | h) <;> simp [h]
  · rintro (h | h | h) <;> simp [h]

theorem search_any {lo : Nat} {w : World} {v : Value} {l : List ByteArray} (s : ByteArray) (h : Sl lo w v 1 l.length (l.map Value.string)) (hn : l.length ≤ 1000) :
    Calls Tryz.prog 168 #[v, .string s] w fun e w' => (∃ b, e = .returned (.tuple #[.int .i64 (posS l s : Nat), .bool b])) ∧ Drew w w' := by
  obtain ⟨A, c, rfl, hn2⟩ := h.shape
  rcases Nat.eq_zero_or_pos l.length with h0 | h0
  · obtain rfl : l = [] := List.eq_nil_of_length_eq_zero h0
    refine (Any2.slices_BinarySearch_string_empty Tryz.bsStr A c s w).mono ?_
    rintro e w' ⟨rfl, rfl⟩
    exact ⟨⟨_, rfl⟩, Drew.refl _⟩
  · obtain ⟨x, hx⟩ : ∃ x, l[0]? = some x := ⟨_, List.getElem?_eq_getElem h0⟩
    obtain ⟨b, o, rfl, _, _, _⟩ := str_at h hx
    refine (Any2.slices_BinarySearch_string Tryz.bsStr b o l.length c (fun t => l.getD t ⟨#[]⟩) s w (by omega) fun j hj => ?_).mono ?_
    · obtain ⟨y, hy⟩ : ∃ y, l[j]? = some y := ⟨_, List.getElem?_eq_getElem hj⟩
      obtain ⟨b', o', hbo, _, _, hc⟩ := str_at h hy
      cases hbo
      rw [List.getD_eq_getElem?_getD, hy]
      exact hc
    · rintro e w' ⟨rfl, q, rfl⟩
      exact ⟨⟨_, rfl⟩, q, rfl⟩
theorem clone_any {lo : Nat} {w : World} {v : Value} {l : List ByteArray} (h : Sl lo w v 1 l.length (l.map Value.string)) (hn : l.length ≤ 1000) :
    Calls Tryz.prog 81 #[v] w fun e w' => ∃ v', e = .returned v' ∧ w'.ownsRow w.heap.size 9 1 v' l.length (l.map Value.string) ∧ Below w.heap.size w w' := by
  obtain ⟨A, c, rfl, hn2⟩ := h.shape
  rcases Nat.eq_zero_or_pos l.length with h0 | h0
  · obtain rfl : l = [] := List.eq_nil_of_length_eq_zero h0
    rcases A with _ | a
    · refine (Tryz.slices_Clone_string_nil 0 c w).mono ?_
      rintro e w' ⟨rfl, rfl⟩
      exact ⟨_, rfl, World.ownsRow_nil _ _ _ _, Below.refl _ _⟩
    · refine (Tryz.slices_Clone_string_zero a c w).mono ?_
      rintro e w' ⟨v', rfl, h1, _, h2⟩
      exact ⟨_, rfl, h1, h2⟩
  · obtain ⟨x, hx⟩ : ∃ x, l[0]? = some x := ⟨_, List.getElem?_eq_getElem h0⟩
    obtain ⟨b, o, rfl, _, _, _⟩ := str_at h hx
    refine (Tryz.slices_Clone_string b o l.length c l w (Nat.le_refl _) (by omega) fun j hj => ?_).mono ?_
    · obtain ⟨y, hy⟩ : ∃ y, l[j]? = some y := ⟨_, List.getElem?_eq_getElem hj⟩
      obtain ⟨b', o', hbo, _, _, hc⟩ := str_at h hy
      cases hbo
      rw [List.getD_eq_getElem?_getD, hy]
      exact hc
    · rintro e w' ⟨v', rfl, h1, _, h2⟩
      rw [List.take_length] at h1
      exact ⟨_, rfl, h1, h2⟩
set_option maxHeartbeats 400000 in
theorem add_any {lo : Nat} {w : World} {v : Value} {l : List ByteArray} (s : ByteArray) (h : Sl lo w v 1 l.length (l.map Value.string)) (hn : l.length ≤ 999) :
    Calls Tryz.prog 123 #[v, .string s] w fun e w' => ∃ v', e = .returned v' ∧ SlT w.heap.size w' v' (addS l s) ∧ Below w.heap.size w w' := by
  have H := Lib.hid h
  clear h
  have HL := Lib.hid (addS_len l s)
  go_enter Tryz.func123, Tryz.ntmps123
  go_wp2_with fail
  refine (search_any s H.out (by omega)).mono ?_
  rintro e w1 ⟨⟨b, rfl⟩, q, rfl⟩
  go_wp2_with fail
  refine (clone_any (w := w.drewN q) (lo := lo) H.out (by omega)).mono ?_
  rintro e w2 ⟨v2, rfl, hown, hb⟩
  have hb : Below w.heap.size w w2 := (below_drewN (Below.refl w.heap.size w) q).trans hb
  have hown : w2.ownsRow w.heap.size 9 1 v2 l.length (l.map Value.string) := hown
  have HB := Lib.hid hb
  have HO := Lib.hid hown
  clear hb hown
  go_wp2_with fail
  have hne : v2.ownBlock ≠ some w2.heap.size := fun hh => by have := (HO.out.lt _ hh).2; omega
  refine (insert_any (base := w.heap.size) (vb := w2.heap.size) (s := s) (i := posS l s) (HO.out.alloc _) (by rw [alloc_size]; have := HB.out.size; omega) rfl (by omega) (posS_le l s) (heap_alloc_new _ _) hne).mono ?_
  rintro e w3 ⟨v3, rfl, hown3, hb3⟩
  go_wp2
  go_ret
  refine ⟨_, rfl, ?_, (HB.out.alloc HB.out.size _).trans hb3⟩
  refine SlT.of_own ?_ (by rw [HL.out]; omega)
  rw [HL.out]
  exact hown3
end Go.Proofs.YtfmffobdkfgekaaGreat
/- A list without a string: roster.less. -/
set_option linter.unusedVariables false
set_option linter.unusedSimpArgs false
namespace Go.Proofs.YtfmffobdkfgekaaGreat
open Go.RowKit Go.Sort Go.Proofs

def lessS (l : List ByteArray) (s : ByteArray) : List ByteArray := l.filter fun x => !(x.toList == s.toList)
instance : Inhabited ByteArray := ⟨⟨#[]⟩⟩
theorem less1_gives (s x : ByteArray) (B : Nat) (W : World) (hc : W.cell? ⟨B, 0, none⟩ = some (.string s)) :
    FnGives Tryz.prog 167 #[.pointer (some ⟨B, 0, none⟩)] #[.string x] (.bool (x.toList == s.toList)) W := by
  show Calls Tryz.prog 167 #[.string x, .pointer (some ⟨B, 0, none⟩)] W _
  go_enter Tryz.func167, Tryz.ntmps167
  go_wp2
  all_goals (go_ret; exact ⟨rfl, 0, rfl⟩)
theorem less1_pred (s : ByteArray) (B : Nat) (w : World) (hB : B < w.heap.size) (hcell : w.cell? ⟨B, 0, none⟩ = some (.string s)) :
    PredAt Tryz.prog 167 #[.pointer (some ⟨B, 0, none⟩)] Value.string (fun x => x.toList == s.toList) w :=
  fun W x hb => less1_gives s x B W ((hb.cell (p := ⟨B, 0, none⟩) hB).trans hcell)
theorem less1_over (s : ByteArray) (B blk off size : Nat) (w : World) (hB : B < w.heap.size) (hne : B ≠ blk) (hcell : w.cell? ⟨B, 0, none⟩ = some (.string s)) :
    PredOver Tryz.prog 167 #[.pointer (some ⟨B, 0, none⟩)] Value.string (fun x => x.toList == s.toList) blk off size w :=
  fun n os dk x _ => less1_gives s x B _ (by
    unfold sortWorld
    rw [cell?_grow _ _ _ (by show B < (putRow _ _ _ _ _).heap.size; rw [size_putRow]; exact hB), cell?_putRow_other _ _ blk off _ _ (Or.inl hne)]
    exact hcell)
theorem holds_own {w : World} {base g cap : Nat} {e : TypeId} {l : List ByteArray} (h : w.ownsRow base e 1 (.slice (some ⟨g, 0, none⟩) l.length cap) l.length (l.map Value.string)) : Holds Value.string w g 0 l.toArray := by
  intro j hj
  have hj' : j < l.length := by simpa using hj
  have hc := h.cells (g := g) rfl j (.string l[j]) (by rw [List.getElem?_map, List.getElem?_eq_getElem hj']; rfl)
  rw [add_off] at hc
  refine ⟨by rw [hc, getElem!_pos l.toArray j hj]; rfl, ?_⟩
  obtain ⟨h1, h2⟩ := h
  rcases h2 with ⟨h2, _⟩ | ⟨g', cap', cur, h2, hb, hg, hnc, hcm, hcs, ht⟩
  · cases h2
  · cases h2; exact (row_cells hg).2 _
theorem below_putRow {B g : Nat} {w : World} (hg : B ≤ g) (q : Nat) (d : Array ByteArray) : Below B w (putRow Value.string (Sort.ahead w q) g 0 d) := by
  refine ⟨rfl, rfl, rfl, by rw [size_putRow]; exact Nat.le_refl _, fun i hi => ?_⟩
  unfold putRow mapBlock Sort.ahead
  simp only [Array.getElem?_modify]
  rw [if_neg (by omega)]
theorem enters_less1 : ∀ args w, (callFunc 167 args).run Tryz.prog w = .ok (.enter 167 args) w := enters_of Tryz.func167 (by kernel_rfl) rfl
theorem zeroStr : ∀ w, (zeroValue 9).run Tryz.prog w = .ok (.string ⟨#[]⟩) w := Tryz.zeroValue9

theorem deleteFunc_some {w : World} {base g cap B : Nat} {l : List ByteArray} {s : ByteArray} (hown : w.ownsRow base 9 1 (.slice (some ⟨g, 0, none⟩) l.length cap) l.length (l.map Value.string)) (hn : l.length ≤ 1000)
    (hB : B < w.heap.size) (hne : B ≠ g) (hcell : w.cell? ⟨B, 0, none⟩ = some (.string s)) :
    Calls Tryz.prog 139 #[.slice (some ⟨g, 0, none⟩) l.length cap, .func (.func 167) #[] #[.pointer (some ⟨B, 0, none⟩)]] w fun e w' =>
      ∃ v', e = .returned v' ∧ SlT base w' v' (lessS l s) ∧ Below base w w' := by
  have hH := holds_own hown
  have hbs := (hown.lt g rfl)
  have hcc : l.length ≤ cap ∧ cap ≤ 9223372036854775807 := by
    rcases hown.2 with ⟨h2, _⟩ | ⟨g', cap', cur, h2, hb, hg, hnc, hcm, hcs, ht⟩
    · cases h2
    · cases h2; exact ⟨hnc, hcm⟩
  have hcon := AnyE.slices_DeleteFunc Tryz.delF Value.string (fun _ => rfl) (fun x => x.toList == s.toList) 167 #[.pointer (some ⟨B, 0, none⟩)] enters_less1 (⟨#[]⟩ : ByteArray) zeroStr g 0 cap l.toArray w
    (less1_pred s B w hB hcell) (less1_over s B g 0 _ w hB hne hcell) hH (by simp; omega) (by simpa using hcc.1)
  simp only [List.size_toArray] at hcon
  refine Calls.mono hcon ?_
  rintro e w' ⟨rfl, q, rfl⟩
  have hle : (lessS l s).length ≤ l.length := List.length_filter_le _ _
  refine ⟨_, rfl, ⟨?_, fun g' hg' => ?_⟩, below_putRow hbs.1 q _⟩
  rotate_left
  · obtain rfl : g = g' := by simpa [Value.ownBlock] using hg'
    obtain ⟨cur, hcur⟩ := own_block hown rfl
    have hput : ∀ (W : World) (d : Array ByteArray), W.heap[g]? = some (.cells cur 9 (0, 0)) → ∃ cs, (putRow Value.string W g 0 d).heap[g]? = some (.cells cs 9 (0, 0)) := fun W d hW => by
      unfold putRow mapBlock
      simp [Array.getElem?_modify, hW, onCells]
    exact hput (Sort.ahead w q) _ hcur
  have hh := holds_putRow Value.string (Sort.ahead w q) g 0 l.toArray ((lessS l s) ++ List.replicate (l.length - (lessS l s).length) (⟨#[]⟩ : ByteArray)).toArray (holds_ahead _ w q g 0 _ hH) (by simp; omega)
  refine ⟨by simp, by omega, _, _, rfl, by show (lessS l s).length ≤ cap; omega, hcc.2, fun h0 => ⟨g, 0, rfl, hbs.1, by rw [size_putRow]; exact hbs.2, fun j u hu => ?_⟩⟩
  rw [List.getElem?_map] at hu
  obtain ⟨x, hx, rfl⟩ := Option.map_eq_some_iff.1 hu
  have hj : j < (lessS l s).length := (List.getElem?_eq_some_iff.1 hx).1
  have := (hh j (by simp; omega)).1
  refine this.trans ?_
  rw [getElem!_pos _ j (by simp; omega)]
  simp only [List.getElem_toArray]
  rw [List.getElem_append_left hj, (List.getElem?_eq_some_iff.1 hx).2]
theorem indexFunc_nil (f : Value) (w : World) : Calls Tryz.prog 171 #[.slice none 0 0, f] w fun e w' => e = .returned (.int .i64 (-1)) ∧ Drew w w' := by
  go_enter Tryz.func171, Tryz.ntmps171
  go_wp2
  go_loopw [8] (fun i wr => i = .int .i64 0 ∧ ∃ q, wr = w.drewN q) (fun i _ => 0)
  case atStart => exact ⟨rfl, 0, rfl⟩
  case round =>
    obtain ⟨rfl, q, rfl⟩ := hrel
    go_wp2
    go_ret
    exact ⟨rfl, _, rfl⟩
theorem deleteFunc_nil (f : Value) (w : World) : Calls Tryz.prog 139 #[.slice none 0 0, f] w fun e w' => e = .returned (.slice none 0 0) ∧ Drew w w' := by
  go_enter Tryz.func139, Tryz.ntmps139
  go_wp2_with fail
  refine (indexFunc_nil _ _).mono ?_
  rintro e w' ⟨rfl, q, rfl⟩
  go_wp2
  go_ret
  exact ⟨rfl, _, rfl⟩
set_option maxHeartbeats 400000 in
theorem less_any {lo : Nat} {w : World} {v : Value} {l : List ByteArray} (s : ByteArray) (h : Sl lo w v 1 l.length (l.map Value.string)) (hn : l.length ≤ 999) :
    Calls Tryz.prog 122 #[v, .string s] w fun e w' => ∃ v', e = .returned v' ∧ SlT w.heap.size w' v' (lessS l s) ∧ Below w.heap.size w w' := by
  have hcl := clone_any (w := w.alloc (.cells #[.string s] 9)) (h.below ((Below.refl w.heap.size w).alloc (Nat.le_refl _) _)) (by omega)
  have HC := Lib.hid hcl
  clear h hcl
  go_enter Tryz.func122, Tryz.ntmps122
  go_wp2_with fail
  refine HC.out.mono ?_
  rintro e w2 ⟨v2, rfl, hown, hb⟩
  have hcell : w2.cell? ⟨w.heap.size, 0, none⟩ = some (.string s) := by
    rw [hb.cell (p := ⟨w.heap.size, 0, none⟩) (by simp)]
    exact (row_cells (heap_alloc_new w _)).1 0
  have hsz : w.heap.size < w2.heap.size := by have := hb.size; rw [alloc_size] at this; omega
  have hbw : Below w.heap.size w w2 := ((Below.refl w.heap.size w).alloc (Nat.le_refl _) _).trans (hb.mono (by simp))
  have HB := Lib.hid hbw
  have hown : w2.ownsRow (w.heap.size + 1) 9 1 v2 l.length (l.map Value.string) := by rw [alloc_size] at hown; exact hown
  clear hb hbw
  rcases hown.2 with ⟨rfl, h0⟩ | ⟨g, cap, cur, rfl, hrest⟩
  · have HH := Lib.hid h0
    clear hown h0
    go_wp2_with fail
    refine (deleteFunc_nil _ _).mono ?_
    rintro e w3 ⟨rfl, q, rfl⟩
    go_wp2
    go_ret
    have hl0 : l = [] := List.eq_nil_of_length_eq_zero HH.out
    subst hl0
    exact ⟨_, rfl, SlT.nil _ _, below_drewN HB.out _⟩
  · have hgl := hown.lt g rfl
    have HO := Lib.hid hown
    clear hown hrest
    go_wp2_with fail
    refine (deleteFunc_some (base := w.heap.size) (B := w.heap.size) (s := s) (World.ownsRow.mono HO.out (by omega)) (by omega) hsz (by omega) hcell).mono ?_
    rintro e w3 ⟨v3, rfl, hs3, hb3⟩
    go_wp2
    go_ret
    exact ⟨_, rfl, hs3, HB.out.trans hb3⟩
end Go.Proofs.YtfmffobdkfgekaaGreat
/- The roster book: what it holds, and how it lies in memory. -/
set_option linter.unusedVariables false
set_option linter.unusedSimpArgs false
namespace Go.Proofs.YtfmffobdkfgekaaGreat
open Go.RowKit Go.Maps

/-- Who has whom. -/
structure Book where
  b : Bd
  teams : List ByteArray
  players : ByteArray → List ByteArray
  hurt : ByteArray → List ByteArray
  owner : ByteArray → ByteArray
  dropped : ByteArray → Option Int
  adds : ByteArray × Int → Int
def noStr : ByteArray := ⟨#[]⟩
def eqS (a b : ByteArray) : Bool := a.toList == b.toList
theorem eqS_iff {a b : ByteArray} : eqS a b = true ↔ a = b := by
  unfold eqS
  rw [beq_iff_eq, toList_data, toList_data]
  constructor
  · intro h; exact Go.WideShapes.bytes_inj h
  · rintro rfl; rfl

/-- Lists of strings in a map. -/
def Lists (lo : Nat) (w : World) (P : List (ByteArray × Value)) (f : ByteArray → List ByteArray) : Prop := ∀ t, SlT lo w ((getM P t).getD (.slice none 0 0)) (f t)
structure BookIn (lo : Nat) (w : World) (kb bp bh bo bd ba : Nat) (K : Book) : Prop where
  low : lo ≤ kb ∧ lo ≤ bp ∧ lo ≤ bh ∧ lo ≤ bo ∧ lo ≤ bd ∧ lo ≤ ba
  diff : bp ≠ bh ∧ bp ≠ bo ∧ bp ≠ bd ∧ bp ≠ ba ∧ bh ≠ bo ∧ bh ≠ bd ∧ bh ≠ ba ∧ bo ≠ bd ∧ bo ≠ ba ∧ bd ≠ ba
  row : w.heap[kb]? = some (.cells #[.int .i64 K.b.most, .int .i64 K.b.hurt, .int .i64 K.b.adds, .int .i64 K.b.hold, .map (some bp), .map (some bh), .map (some bo), .map (some bd), .map (some ba)] 115 (0, 0))
  pl : ∃ P, MapS strC id w bp P ∧ Lists lo w P K.players ∧ P.map Prod.fst = K.teams
  hu : ∃ P, MapS strC id w bh P ∧ Lists lo w P K.hurt
  ow : ∃ M, MapS strC Value.string w bo M ∧ ∀ x, (getM M x).getD noStr = K.owner x
  dr : ∃ M, MapS strC (Value.int .i64) w bd M ∧ ∀ x, getM M x = K.dropped x
  ad : ∃ M, MapS weekC (Value.int .i64) w ba M ∧ ∀ x, (getM M x).getD 0 = K.adds x

theorem Lists.below {lo : Nat} {w w' : World} {P : List (ByteArray × Value)} {f : ByteArray → List ByteArray} (h : Lists lo w P f) (hb : Below w.heap.size w w') : Lists lo w' P f := fun t => (h t).below hb
theorem BookIn.below {lo : Nat} {w w' : World} {kb bp bh bo bd ba : Nat} {K : Book} (h : BookIn lo w kb bp bh bo bd ba K) (hb : Below w.heap.size w w') : BookIn lo w' kb bp bh bo bd ba K := by
  obtain ⟨h1, h2, h3, ⟨P, p1, p2, p3⟩, ⟨H, q1, q2⟩, ⟨O, o1, o2⟩, ⟨D, d1, d2⟩, ⟨A, a1, a2⟩⟩ := h
  exact ⟨h1, h2, (hb.block _ (Array.getElem?_eq_some_iff.1 h3).1).trans h3, ⟨P, p1.keep (hb.block _ p1.lt), p2.below hb, p3⟩, ⟨H, q1.keep (hb.block _ q1.lt), q2.below hb⟩, ⟨O, o1.keep (hb.block _ o1.lt), o2⟩, ⟨D, d1.keep (hb.block _ d1.lt), d2⟩, ⟨A, a1.keep (hb.block _ a1.lt), a2⟩⟩

def heldB (K : Book) (x : ByteArray) (t : Int) : Bool := match K.dropped x with | none => false | some m => decide (t - m < K.b.hold)
theorem zeroInt : ∀ w, (zeroValue 3).run Tryz.prog w = .ok (.int .i64 0) w := Tryz.zeroValue3
theorem lookIntOk {w : World} {b : Nat} {M : List (ByteArray × Int)} (h : MapS strC (Value.int .i64) w b M) {x : ByteArray} (hx : x.size ≤ 1000) :
    (Instr.lookup 112 (.map (some b)) (.string x) true).run Tryz.prog w = .ok (.tuple #[.int .i64 ((getM M x).getD 0), .bool (getM M x).isSome]) w := by
  have := h.lookup Tryz.underlying112 (zeroInt w) (strC_ok hx) true
  rw [if_pos rfl] at this
  refine this.trans ?_
  cases getM M x <;> rfl
theorem lookInt {w : World} {b : Nat} {M : List (ByteArray × Int)} (h : MapS strC (Value.int .i64) w b M) {x : ByteArray} (hx : x.size ≤ 1000) :
    (Instr.lookup 112 (.map (some b)) (.string x) false).run Tryz.prog w = .ok (.int .i64 ((getM M x).getD 0)) w := by
  have := h.lookup Tryz.underlying112 (zeroInt w) (strC_ok hx) false
  refine this.trans ?_
  cases getM M x <;> rfl
theorem lookStr {w : World} {b : Nat} {M : List (ByteArray × ByteArray)} (h : MapS strC Value.string w b M) {x : ByteArray} (hx : x.size ≤ 1000) :
    (Instr.lookup 111 (.map (some b)) (.string x) false).run Tryz.prog w = .ok (.string ((getM M x).getD noStr)) w := by
  have := h.lookup Tryz.underlying111 (zeroStr w) (strC_ok hx) false
  refine this.trans ?_
  cases getM M x <;> rfl
theorem zeroList : ∀ w, (zeroValue 52).run Tryz.prog w = .ok (.slice none 0 0) w := Tryz.zeroValue52
theorem lookList {w : World} {b : Nat} {M : List (ByteArray × Value)} (h : MapS strC id w b M) {x : ByteArray} (hx : x.size ≤ 1000) :
    (Instr.lookup 110 (.map (some b)) (.string x) false).run Tryz.prog w = .ok ((getM M x).getD (.slice none 0 0)) w := by
  have := h.lookup Tryz.underlying110 (zeroList w) (strC_ok hx) false
  refine this.trans ?_
  cases getM M x <;> rfl
theorem lookWeek {w : World} {b : Nat} {M : List ((ByteArray × Int) × Int)} (h : MapS weekC (Value.int .i64) w b M) {x : ByteArray} {n : Int} (hx : x.size ≤ 1000) (h1 : -9223372036854775808 ≤ n) (h2 : n ≤ 9223372036854775807) :
    (Instr.lookup 113 (.map (some b)) (.agg #[.string x, .int .i64 n]) false).run Tryz.prog w = .ok (.int .i64 ((getM M (x, n)).getD 0)) w := by
  have := h.lookup Tryz.underlying113 (zeroInt w) (weekC_ok hx h1 h2) false
  refine this.trans ?_
  cases getM M (x, n) <;> rfl
set_option maxHeartbeats 400000 in
theorem held_any {lo : Nat} {w : World} {kb bp bh bo bd ba : Nat} {K : Book} (h : BookIn lo w kb bp bh bo bd ba K) (hok : K.b.ok) (x : ByteArray) (t : Int) (hx : x.size ≤ 1000) (ht : small t) (hd : ∀ m, K.dropped x = some m → small m) :
    Calls Tryz.prog 178 #[.pointer (some ⟨kb, 0, none⟩), .string x, .int .i64 t] w fun e w' => e = .returned (.bool (heldB K x t)) ∧ w = w' := by
  obtain ⟨D, hD, hDx⟩ := h.dr
  have hlk := lookIntOk hD hx
  rw [hDx] at hlk
  obtain ⟨hc, hf⟩ := row_cells h.row
  unfold heldB
  have hho := hok.hold
  generalize hK : K.b.hold = hold at *
  clear h hD hDx
  cases hm : K.dropped x with
  | none =>
    rw [hm] at hlk
    simp only [Option.getD_none, Option.isSome_none] at hlk
    go_enter Tryz.func178, Tryz.ntmps178
    go_wp2
    go_ret
    exact ⟨rfl, rfl⟩
  | some m =>
    rw [hm] at hlk
    simp only [Option.getD_some, Option.isSome_some] at hlk
    have h1 := hd m hm
    obtain ⟨h2, h3⟩ := h1
    obtain ⟨h4, h5⟩ := ht
    go_enter Tryz.func178, Tryz.ntmps178
    go_wp2
    go_ret
    exact ⟨rfl, rfl⟩
end Go.Proofs.YtfmffobdkfgekaaGreat
/- Why a move is refused: (*book).why. -/
set_option linter.unusedVariables false
set_option linter.unusedSimpArgs false
namespace Go.Proofs.YtfmffobdkfgekaaGreat
open Go.RowKit Go.Maps

def weekOf (t : Int) : Int := t.tdiv 604800000
theorem weekOf_range {t : Int} (h : small t) : -9223372036854775808 ≤ weekOf t ∧ weekOf t ≤ 9223372036854775807 := by
  obtain ⟨h1, h2⟩ := h
  unfold weekOf
  rcases Int.le_total 0 t with h | h
  · rw [Int.tdiv_eq_ediv_of_nonneg h]; omega
  · have : t.tdiv 604800000 = - ((-t).tdiv 604800000) := by rw [Int.neg_tdiv, Int.neg_neg]
    rw [this, Int.tdiv_eq_ediv_of_nonneg (by omega)]; omega
def hasS (l : List ByteArray) (s : ByteArray) : Bool := l.any fun x => eqS x s
def whyB (K : Book) (x : Mv) : Int :=
  if x.kind = 1 then
    if eqS (K.owner x.player) x.team then 6 else if !eqS (K.owner x.player) noStr then 13 else if heldB K x.player x.time then 11
    else if K.b.adds ≤ K.adds (x.team, weekOf x.time) then 16 else if K.b.most ≤ (K.players x.team).length then 12 else 0
  else if x.kind = 2 then if !eqS (K.owner x.player) x.team then 8 else 0
  else if x.kind = 3 then if !hasS (K.players x.team) x.player then 8 else if K.b.hurt ≤ (K.hurt x.team).length then 12 else 0
  else if x.kind = 4 then if !hasS (K.hurt x.team) x.player then 8 else if K.b.most ≤ (K.players x.team).length then 12 else 0
  else 0

theorem hasS_iff {l : List ByteArray} {s : ByteArray} : hasS l s = true ↔ s ∈ l := by
  unfold hasS
  rw [List.any_eq_true]
  constructor
  · rintro ⟨x, hx, he⟩; rw [eqS_iff] at he; subst he; exact hx
  · intro h; exact ⟨s, h, eqS_iff.2 rfl⟩
theorem contains_spec (l : List ByteArray) (s : ByteArray) : Lib.containsS l s = hasS l s := by
  rw [Bool.eq_iff_iff, Lib.containsS_iff, hasS_iff]
theorem contains_any {lo : Nat} {w : World} {v : Value} {l : List ByteArray} (s : ByteArray) (h : Sl lo w v 1 l.length (l.map Value.string)) (hn : l.length ≤ 1099511627776) :
    Calls Tryz.prog 91 #[v, .string s] w fun e w' => e = .returned (.bool (hasS l s)) ∧ w = w' := by
  obtain ⟨A, c, rfl, hn2⟩ := h.shape
  rcases Nat.eq_zero_or_pos l.length with h0 | h0
  · obtain rfl : l = [] := List.eq_nil_of_length_eq_zero h0
    refine (Tryz.slices_Contains_string_empty A c s w).mono ?_
    rintro e w' ⟨rfl, rfl⟩
    exact ⟨rfl, rfl⟩
  · obtain ⟨x, hx⟩ : ∃ x, l[0]? = some x := ⟨_, List.getElem?_eq_getElem h0⟩
    obtain ⟨b, o, rfl, _, _, _⟩ := str_at h hx
    refine (Tryz.slices_Contains_string b o l.length c l s w (Nat.le_refl _) (by omega) fun j hj => ?_).mono ?_
    · obtain ⟨y, hy⟩ : ∃ y, l[j]? = some y := ⟨_, List.getElem?_eq_getElem hj⟩
      obtain ⟨b', o', hbo, _, _, hc⟩ := str_at h hy
      cases hbo
      rw [List.getD_eq_getElem?_getD, hy]
      exact hc
    · rintro e w' ⟨rfl, rfl⟩
      rw [List.take_length, contains_spec]
      exact ⟨rfl, rfl⟩
set_option maxHeartbeats 400000 in
set_option maxRecDepth 20000 in
theorem why_any {lo : Nat} {w : World} {kb bp bh bo bd ba : Nat} {K : Book} (h : BookIn lo w kb bp bh bo bd ba K) (hok : K.b.ok) (x : Mv) (hx : x.ok) (hdr : ∀ p m, K.dropped p = some m → small m) (had : ∀ k, 0 ≤ K.adds k ∧ K.adds k ≤ 100000) :
    Calls Tryz.prog 152 #[.pointer (some ⟨kb, 0, none⟩), .agg x.c.toArray] w fun e w' => e = .returned (.int .i64 (whyB K x)) ∧ Below w.heap.size w w' := by
  obtain ⟨xt, xk, xa, xp⟩ := x
  have hW := (Below.refl w.heap.size w).alloc (Nat.le_refl _) (.cells #[.int .i64 xt, .int .i64 xk, .string xa, .string xp] 45)
  have hxb := heap_alloc_new w (.cells #[.int .i64 xt, .int .i64 xk, .string xa, .string xp] 45)
  have h' := h.below hW
  dsimp only [Mv.c]
  go_enter Tryz.func152, Tryz.ntmps152
  go_wp2
  generalize w.alloc (.cells #[.int .i64 xt, .int .i64 xk, .string xa, .string xp] 45) = W at *
  obtain ⟨P, p1, p2, p3⟩ := h'.pl
  obtain ⟨H, q1, q2⟩ := h'.hu
  obtain ⟨O, o1, o2⟩ := h'.ow
  obtain ⟨M, m1, m2⟩ := h'.ad
  obtain ⟨A1, c1, e1, hn1⟩ := (p2 xa).sl.shape
  obtain ⟨A2, c2, e2, hn2⟩ := (q2 xa).sl.shape
  have S1 := Lib.hid (p2 xa).sl
  have S2 := Lib.hid (q2 xa).sl
  rw [e1] at S1
  rw [e2] at S2
  have l1 : ∀ q, (Instr.lookup 111 (.map (some bo)) (.string xp) false).run Tryz.prog (W.drewN q) = .ok (.string (K.owner xp)) (W.drewN q) := fun q => by rw [← o2 xp]; exact lookStr (w := W.drewN q) (x := xp) o1 hx.player
  have l2 : ∀ q, (Instr.lookup 110 (.map (some bp)) (.string xa) false).run Tryz.prog (W.drewN q) = .ok (.slice A1 (K.players xa).length c1) (W.drewN q) := fun q => by rw [← e1]; exact lookList (w := W.drewN q) (x := xa) p1 hx.team
  have l3 : ∀ q, (Instr.lookup 110 (.map (some bh)) (.string xa) false).run Tryz.prog (W.drewN q) = .ok (.slice A2 (K.hurt xa).length c2) (W.drewN q) := fun q => by rw [← e2]; exact lookList (w := W.drewN q) (x := xa) q1 hx.team
  have hwk : IntKind.i64.wrap (xt.tdiv 604800000) = xt.tdiv 604800000 := by have := weekOf_range hx.time; unfold weekOf at this; generalize xt.tdiv 604800000 = d at this ⊢; rw [IntKind.wrap_i64]; omega
  obtain ⟨ka, hka⟩ : ∃ ka, K.adds (xa, weekOf xt) = ka := ⟨_, rfl⟩
  have l4 : ∀ q, (Instr.lookup 113 (.map (some ba)) (.agg #[.string xa, .int .i64 (xt.tdiv 604800000)]) false).run Tryz.prog (W.drewN q) = .ok (.int .i64 ka) (W.drewN q) := fun q => by rw [← hka, ← m2]; exact lookWeek (w := W.drewN q) m1 hx.team (weekOf_range hx.time).1 (weekOf_range hx.time).2
  clear p1 p2 p3 q1 q2 o1 o2 m1 m2 e1 e2
  obtain ⟨hc, hf⟩ := row_cells h'.row
  obtain ⟨hcx, hfx⟩ := row_cells hxb
  have HX := Lib.hid hx
  have HW := Lib.hid hW
  have HB := Lib.hid h'
  clear hx hW h' hxb hf hfx
  generalize hn1e : (K.players xa).length = n1 at *
  generalize hn2e : (K.hurt xa).length = n2 at *
  generalize hoe : K.owner xp = ow at *
  go_quiet (fail)
  have et : (eqS ow xa) = (ow.toList == xa.toList) := rfl
  have ez : (eqS ow noStr) = ow.toList.isEmpty := by unfold eqS noStr; rw [toList_data, toList_data]; cases ow.data.toList <;> rfl
  by_cases k1 : xk = 1
  · subst k1
    cases a1 : eqS ow xa with
    | true =>
      have b1 := et.symm.trans a1
      have HV := Lib.hid (show (6 : Int) = whyB K ⟨xt, 1, xa, xp⟩ by simp [whyB, hoe, a1])
      go_wp2
      go_ret
      exact ⟨congrArg (fun b => Ending.returned (.int .i64 b)) HV.out, by first | exact below_drewN HW.out _ | exact below_drewN (below_drewN HW.out _) _⟩
    | false =>
    have b1 := et.symm.trans a1
    cases a2 : eqS ow noStr with
    | false =>
      have b2 := ez.symm.trans a2
      have HV := Lib.hid (show (13 : Int) = whyB K ⟨xt, 1, xa, xp⟩ by simp [whyB, hoe, a1, a2])
      go_wp2
      go_ret
      exact ⟨congrArg (fun b => Ending.returned (.int .i64 b)) HV.out, by first | exact below_drewN HW.out _ | exact below_drewN (below_drewN HW.out _) _⟩
    | true =>
    have b2 := ez.symm.trans a2
    go_wp2_with fail
    refine (held_any (HB.out.below (below_drewN (Below.refl _ W) _)) hok xp xt HX.out.player HX.out.time (hdr xp)).mono ?_
    rintro e w' ⟨rfl, rfl⟩
    cases a3 : heldB K xp xt with
    | true =>
      have HV := Lib.hid (show (11 : Int) = whyB K ⟨xt, 1, xa, xp⟩ by simp [whyB, hoe, a1, a2, a3])
      go_wp2
      go_ret
      exact ⟨congrArg (fun b => Ending.returned (.int .i64 b)) HV.out, by first | exact below_drewN HW.out _ | exact below_drewN (below_drewN HW.out _) _⟩
    | false =>
    go_wp2
    go_quiet (fail)
    by_cases a4 : K.b.adds ≤ ka
    · have HV := Lib.hid (show (16 : Int) = whyB K ⟨xt, 1, xa, xp⟩ by simp [whyB, hn1e, hn2e, hoe, hka, a1, a2, a3, a4])
      go_wp2
      go_ret
      exact ⟨congrArg (fun n => Ending.returned (.int .i64 n)) HV.out, by first | exact below_drewN HW.out _ | exact below_drewN (below_drewN HW.out _) _⟩
    · by_cases a5 : K.b.most ≤ (n1 : Int)
      · have HV := Lib.hid (show (12 : Int) = whyB K ⟨xt, 1, xa, xp⟩ by simp [whyB, hn1e, hn2e, hoe, hka, a1, a2, a3, a4, a5])
        go_wp2
        go_ret
        exact ⟨congrArg (fun n => Ending.returned (.int .i64 n)) HV.out, by first | exact below_drewN HW.out _ | exact below_drewN (below_drewN HW.out _) _⟩
      · have HV := Lib.hid (show (0 : Int) = whyB K ⟨xt, 1, xa, xp⟩ by simp [whyB, hn1e, hn2e, hoe, hka, a1, a2, a3, a4, a5])
        go_wp2
        go_ret
        exact ⟨congrArg (fun n => Ending.returned (.int .i64 n)) HV.out, by first | exact below_drewN HW.out _ | exact below_drewN (below_drewN HW.out _) _⟩
  by_cases k2 : xk = 2
  · subst k2
    clear k1
    cases a1 : eqS ow xa with
    | true =>
      have b1 := et.symm.trans a1
      have HV := Lib.hid (show (0 : Int) = whyB K ⟨xt, 2, xa, xp⟩ by simp [whyB, hn1e, hn2e, hoe, a1])
      go_wp2
      go_ret
      exact ⟨congrArg (fun n => Ending.returned (.int .i64 n)) HV.out, by first | exact below_drewN HW.out _ | exact below_drewN (below_drewN HW.out _) _⟩
    | false =>
      have b1 := et.symm.trans a1
      have HV := Lib.hid (show (8 : Int) = whyB K ⟨xt, 2, xa, xp⟩ by simp [whyB, hn1e, hn2e, hoe, a1])
      go_wp2
      go_ret
      exact ⟨congrArg (fun n => Ending.returned (.int .i64 n)) HV.out, by first | exact below_drewN HW.out _ | exact below_drewN (below_drewN HW.out _) _⟩
  by_cases k3 : xk = 3
  · subst k3
    clear k1 k2
    go_wp2_with fail
    refine (contains_any (w := W.drewN nq) (lo := lo) xp (by rw [hn1e]; exact S1.out) (by omega)).mono ?_
    rintro e w' ⟨rfl, rfl⟩
    cases a1 : hasS (K.players xa) xp with
    | false =>
      have HV := Lib.hid (show (8 : Int) = whyB K ⟨xt, 3, xa, xp⟩ by simp [whyB, hn1e, hn2e, hoe, a1])
      go_wp2
      go_ret
      exact ⟨congrArg (fun n => Ending.returned (.int .i64 n)) HV.out, by first | exact below_drewN HW.out _ | exact below_drewN (below_drewN HW.out _) _⟩
    | true =>
    by_cases a2 : K.b.hurt ≤ (n2 : Int)
    · have HV := Lib.hid (show (12 : Int) = whyB K ⟨xt, 3, xa, xp⟩ by simp [whyB, hn1e, hn2e, hoe, a1, a2])
      go_wp2
      go_ret
      exact ⟨congrArg (fun n => Ending.returned (.int .i64 n)) HV.out, by first | exact below_drewN HW.out _ | exact below_drewN (below_drewN HW.out _) _⟩
    · have HV := Lib.hid (show (0 : Int) = whyB K ⟨xt, 3, xa, xp⟩ by simp [whyB, hn1e, hn2e, hoe, a1, a2])
      go_wp2
      go_ret
      exact ⟨congrArg (fun n => Ending.returned (.int .i64 n)) HV.out, by first | exact below_drewN HW.out _ | exact below_drewN (below_drewN HW.out _) _⟩
  by_cases k4 : xk = 4
  · subst k4
    clear k1 k2 k3
    go_wp2_with fail
    refine (contains_any (w := W.drewN nq) (lo := lo) xp (by rw [hn2e]; exact S2.out) (by omega)).mono ?_
    rintro e w' ⟨rfl, rfl⟩
    cases a1 : hasS (K.hurt xa) xp with
    | false =>
      have HV := Lib.hid (show (8 : Int) = whyB K ⟨xt, 4, xa, xp⟩ by simp [whyB, hn1e, hn2e, hoe, a1])
      go_wp2
      go_ret
      exact ⟨congrArg (fun n => Ending.returned (.int .i64 n)) HV.out, by first | exact below_drewN HW.out _ | exact below_drewN (below_drewN HW.out _) _⟩
    | true =>
    by_cases a2 : K.b.most ≤ (n1 : Int)
    · have HV := Lib.hid (show (12 : Int) = whyB K ⟨xt, 4, xa, xp⟩ by simp [whyB, hn1e, hn2e, hoe, a1, a2])
      go_wp2
      go_ret
      exact ⟨congrArg (fun n => Ending.returned (.int .i64 n)) HV.out, by first | exact below_drewN HW.out _ | exact below_drewN (below_drewN HW.out _) _⟩
    · have HV := Lib.hid (show (0 : Int) = whyB K ⟨xt, 4, xa, xp⟩ by simp [whyB, hn1e, hn2e, hoe, a1, a2])
      go_wp2
      go_ret
      exact ⟨congrArg (fun n => Ending.returned (.int .i64 n)) HV.out, by first | exact below_drewN HW.out _ | exact below_drewN (below_drewN HW.out _) _⟩
  · have HV := Lib.hid (show (0 : Int) = whyB K ⟨xt, xk, xa, xp⟩ by simp [whyB, hn1e, hn2e, hoe, k1, k2, k3, k4])
    go_wp2
    go_ret
    exact ⟨congrArg (fun n => Ending.returned (.int .i64 n)) HV.out, by first | exact below_drewN HW.out _ | exact below_drewN (below_drewN HW.out _) _⟩
end Go.Proofs.YtfmffobdkfgekaaGreat
/- The book, when one of its maps turns. -/
set_option linter.unusedVariables false
set_option linter.unusedSimpArgs false
namespace Go.Proofs.YtfmffobdkfgekaaGreat
open Go.RowKit Go.Maps

def upd {α β : Type} [DecidableEq α] (f : α → β) (x : α) (v : β) : α → β := fun y => if y = x then v else f y
def isMap (w : World) (b : Nat) : Prop := ∃ es cl, w.heap[b]? = some (.map es cl)
theorem MapS.isMap {P : Program} {k : TypeId} {κ α : Type} {C : Codec P k κ} {vv : α → Value} {w : World} {b : Nat} {M : List (κ × α)} (h : MapS C vv w b M) : isMap w b := by
  obtain ⟨es, cl, h1, _⟩ := h; exact ⟨es, cl, h1⟩
theorem Sl.turn {lo b : Nat} {w w' : World} {v : Value} {sz n : Nat} {vs : List Value} (h : Sl lo w v sz n vs) (hm : isMap w b) (ht : Turn b w w') : Sl lo w' v sz n vs := by
  obtain ⟨h1, h2, A, c, h3, h4, h4', h5⟩ := h
  refine ⟨h1, h2, A, c, h3, h4, h4', fun hn => ?_⟩
  obtain ⟨b', o, e1, e2, e3, e4⟩ := h5 hn
  refine ⟨b', o, e1, e2, by rw [ht.size]; exact e3, fun j u hu => ?_⟩
  have hne : b' ≠ b := fun he => by
    subst he
    obtain ⟨es, cl, hb⟩ := hm
    have := e4 j u hu
    simp [World.cell?, hb] at this
  exact (World.cell?_of_block (w := w) (ht.block b' hne)).trans (e4 j u hu)
theorem SlT.turn {lo b : Nat} {w w' : World} {v : Value} {l : List ByteArray} (h : SlT lo w v l) (hm : isMap w b) (ht : Turn b w w') : SlT lo w' v l :=
  h.keep (by rw [ht.size]; exact Nat.le_refl _) fun i cs hc => (ht.block i fun e => by
    obtain ⟨es, cl, q⟩ := hm
    rw [← e, hc] at q; cases q).trans hc
theorem Lists.turn {lo b : Nat} {w w' : World} {P : List (ByteArray × Value)} {f : ByteArray → List ByteArray} (h : Lists lo w P f) (hm : isMap w b) (ht : Turn b w w') : Lists lo w' P f := fun t => (h t).turn hm ht
theorem Lists.put {lo : Nat} {w : World} {P : List (ByteArray × Value)} {f : ByteArray → List ByteArray} (h : Lists lo w P f) {x : ByteArray} {v : Value} {l : List ByteArray} (hv : SlT lo w v l) : Lists lo w (putM P x v) (upd f x l) := fun t => by
  rw [getM_put]
  unfold upd
  by_cases ht : t = x
  · rw [if_pos ht, if_pos ht]; exact hv
  · rw [if_neg ht, if_neg ht]; exact h t
section
variable {lo : Nat} {w w' : World} {kb bp bh bo bd ba : Nat} {K : Book}
theorem BookIn.row_ne (h : BookIn lo w kb bp bh bo bd ba K) {b : Nat} (hm : isMap w b) : kb ≠ b := fun he => by
  subst he
  obtain ⟨es, cl, hb⟩ := hm
  have := h.row
  rw [hb] at this; cases this
theorem BookIn.turnO (h : BookIn lo w kb bp bh bo bd ba K) (ht : Turn bo w w') {M : List (ByteArray × ByteArray)} (hm : MapS strC Value.string w' bo M) {f : ByteArray → ByteArray} (hf : ∀ x, (getM M x).getD noStr = f x) :
    BookIn lo w' kb bp bh bo bd ba { K with owner := f } := by
  have hi : isMap w bo := by obtain ⟨_, o1, _⟩ := h.ow; exact o1.isMap
  have hk := h.row_ne hi
  obtain ⟨h1, h2, h3, ⟨P, p1, p2, p3⟩, ⟨H, q1, q2⟩, ⟨O, o1, o2⟩, ⟨D, d1, d2⟩, ⟨A, a1, a2⟩⟩ := h
  obtain ⟨n1, n2, n3, n4, n5, n6, n7, n8, n9, n10⟩ := id h2
  exact ⟨h1, h2, (ht.block _ hk).trans h3, ⟨P, p1.keep (ht.block _ (by omega)), p2.turn hi ht, p3⟩, ⟨H, q1.keep (ht.block _ (by omega)), q2.turn hi ht⟩, ⟨M, hm, hf⟩, ⟨D, d1.keep (ht.block _ (by omega)), d2⟩, ⟨A, a1.keep (ht.block _ (by omega)), a2⟩⟩
theorem BookIn.turnD (h : BookIn lo w kb bp bh bo bd ba K) (ht : Turn bd w w') {M : List (ByteArray × Int)} (hm : MapS strC (Value.int .i64) w' bd M) {f : ByteArray → Option Int} (hf : ∀ x, getM M x = f x) :
    BookIn lo w' kb bp bh bo bd ba { K with dropped := f } := by
  have hi : isMap w bd := by obtain ⟨_, o1, _⟩ := h.dr; exact o1.isMap
  have hk := h.row_ne hi
  obtain ⟨h1, h2, h3, ⟨P, p1, p2, p3⟩, ⟨H, q1, q2⟩, ⟨O, o1, o2⟩, ⟨D, d1, d2⟩, ⟨A, a1, a2⟩⟩ := h
  obtain ⟨n1, n2, n3, n4, n5, n6, n7, n8, n9, n10⟩ := id h2
  exact ⟨h1, h2, (ht.block _ hk).trans h3, ⟨P, p1.keep (ht.block _ (by omega)), p2.turn hi ht, p3⟩, ⟨H, q1.keep (ht.block _ (by omega)), q2.turn hi ht⟩, ⟨O, o1.keep (ht.block _ (by omega)), o2⟩, ⟨M, hm, hf⟩, ⟨A, a1.keep (ht.block _ (by omega)), a2⟩⟩
theorem BookIn.turnA (h : BookIn lo w kb bp bh bo bd ba K) (ht : Turn ba w w') {M : List ((ByteArray × Int) × Int)} (hm : MapS weekC (Value.int .i64) w' ba M) {f : ByteArray × Int → Int} (hf : ∀ x, (getM M x).getD 0 = f x) :
    BookIn lo w' kb bp bh bo bd ba { K with adds := f } := by
  have hi : isMap w ba := by obtain ⟨_, o1, _⟩ := h.ad; exact o1.isMap
  have hk := h.row_ne hi
  obtain ⟨h1, h2, h3, ⟨P, p1, p2, p3⟩, ⟨H, q1, q2⟩, ⟨O, o1, o2⟩, ⟨D, d1, d2⟩, ⟨A, a1, a2⟩⟩ := h
  obtain ⟨n1, n2, n3, n4, n5, n6, n7, n8, n9, n10⟩ := id h2
  exact ⟨h1, h2, (ht.block _ hk).trans h3, ⟨P, p1.keep (ht.block _ (by omega)), p2.turn hi ht, p3⟩, ⟨H, q1.keep (ht.block _ (by omega)), q2.turn hi ht⟩, ⟨O, o1.keep (ht.block _ (by omega)), o2⟩, ⟨D, d1.keep (ht.block _ (by omega)), d2⟩, ⟨M, hm, hf⟩⟩
theorem BookIn.turnP (h : BookIn lo w kb bp bh bo bd ba K) (ht : Turn bp w w') {M : List (ByteArray × Value)} (hm : MapS strC id w' bp M) {f : ByteArray → List ByteArray} (hf : Lists lo w' M f) :
    BookIn lo w' kb bp bh bo bd ba { K with players := f, teams := M.map Prod.fst } := by
  have hi : isMap w bp := by obtain ⟨_, o1, _⟩ := h.pl; exact o1.isMap
  have hk := h.row_ne hi
  obtain ⟨h1, h2, h3, ⟨P, p1, p2, p3⟩, ⟨H, q1, q2⟩, ⟨O, o1, o2⟩, ⟨D, d1, d2⟩, ⟨A, a1, a2⟩⟩ := h
  obtain ⟨n1, n2, n3, n4, n5, n6, n7, n8, n9, n10⟩ := id h2
  exact ⟨h1, h2, (ht.block _ hk).trans h3, ⟨M, hm, hf, rfl⟩, ⟨H, q1.keep (ht.block _ (by omega)), q2.turn hi ht⟩, ⟨O, o1.keep (ht.block _ (by omega)), o2⟩, ⟨D, d1.keep (ht.block _ (by omega)), d2⟩, ⟨A, a1.keep (ht.block _ (by omega)), a2⟩⟩
theorem BookIn.turnH (h : BookIn lo w kb bp bh bo bd ba K) (ht : Turn bh w w') {M : List (ByteArray × Value)} (hm : MapS strC id w' bh M) {f : ByteArray → List ByteArray} (hf : Lists lo w' M f) :
    BookIn lo w' kb bp bh bo bd ba { K with hurt := f } := by
  have hi : isMap w bh := by obtain ⟨_, o1, _⟩ := h.hu; exact o1.isMap
  have hk := h.row_ne hi
  obtain ⟨h1, h2, h3, ⟨P, p1, p2, p3⟩, ⟨H, q1, q2⟩, ⟨O, o1, o2⟩, ⟨D, d1, d2⟩, ⟨A, a1, a2⟩⟩ := h
  obtain ⟨n1, n2, n3, n4, n5, n6, n7, n8, n9, n10⟩ := id h2
  exact ⟨h1, h2, (ht.block _ hk).trans h3, ⟨P, p1.keep (ht.block _ (by omega)), p2.turn hi ht, p3⟩, ⟨M, hm, hf⟩, ⟨O, o1.keep (ht.block _ (by omega)), o2⟩, ⟨D, d1.keep (ht.block _ (by omega)), d2⟩, ⟨A, a1.keep (ht.block _ (by omega)), a2⟩⟩
end
/-- Below block B nothing has turned; no block of cells has. -/
structure BlwM (B : Nat) (a w : World) : Prop where
  bel : Below B a w
  cells : ∀ (i : Nat) (cs : Array Value) (T : TypeId) (fz : Nat × Nat), a.heap[i]? = some (Obj.cells cs T fz) → w.heap[i]? = some (Obj.cells cs T fz)
theorem BlwM.refl (B : Nat) (w : World) : BlwM B w w := ⟨Below.refl B w, fun _ _ _ _ h => h⟩
theorem BlwM.then {B : Nat} {a w w' : World} (h : BlwM B a w) (hb : Below w.heap.size w w') (hB : B ≤ w.heap.size) : BlwM B a w' :=
  ⟨h.bel.trans (hb.mono hB), fun i cs T fz hc => (hb.block i (Array.getElem?_eq_some_iff.1 (h.cells i cs T fz hc)).1).trans (h.cells i cs T fz hc)⟩
theorem BlwM.drewN {B : Nat} {a w : World} (h : BlwM B a w) (q : Nat) : BlwM B a (w.drewN q) := ⟨below_drewN h.bel q, h.cells⟩
theorem turn_below {B b : Nat} {a w w' : World} (h : Below B a w) (ht : Turn b w w') (hb : B ≤ b) : Below B a w' :=
  ⟨ht.os.trans h.os, ht.tape.trans h.tape, ht.output.trans h.output, by rw [ht.size]; exact h.size, fun i hi => (ht.block i (by omega)).trans (h.block i hi)⟩
theorem turn_blw {B b : Nat} {a w w' : World} (h : BlwM B a w) (ht : Turn b w w') (hb : B ≤ b) (hm : isMap w b) : BlwM B a w' :=
  ⟨turn_below h.bel ht hb, fun i cs T fz hc => (ht.block i fun e => by
    obtain ⟨es, cl, q⟩ := hm
    rw [← e, h.cells i cs T fz hc] at q; cases q).trans (h.cells i cs T fz hc)⟩
end Go.Proofs.YtfmffobdkfgekaaGreat
/- The book, when an entry of one of its maps of lists is laid in two halves; operations on maps in a region that draws. -/
set_option linter.unusedVariables false
set_option linter.unusedSimpArgs false
namespace Go.Proofs.YtfmffobdkfgekaaGreat
open Go.RowKit Go.Maps

section
variable {P : Program} {o : Oper}
theorem ex_nil {ρ : Operand → Value} {x : Operand} {p : Addr} {w : World} (h : o.op = .nilCheck x) (hx : ρ x = .pointer (some p)) : (execOp ρ o).run P w = .ok (.value (.pointer (some p))) w := by simp [execOp, h, hx, go_sem]
theorem ex_extract {ρ : Operand → Value} {x : Operand} {k : Nat} {vs : Array Value} {v : Value} {w : World} (h : o.op = .extract x k) (hx : ρ x = .tuple vs) (hv : vs[k]? = some v) : (execOp ρ o).run P w = .ok (.value v) w := by simp [execOp, h, hx, Instr.extract, hv]
theorem ex_entry {ρ : Operand → Value} {t : TypeId} {x y : Operand} {u v r : Value} {w w' : World} (h : o.op = .mapEntry t x y) (hx : ρ x = u) (hy : ρ y = v) (hr : (Instr.mapEntry t u v).run P w = .ok r w') : (execOp ρ o).run P w = .ok (.value r) w' := by simp [execOp, h, hx, hy, hr, Result.andThen]
theorem ex_estore {ρ : Operand → Value} {t : TypeId} {x y z : Operand} {u v r : Value} {w w' : World} (h : o.op = .entryStore t x y z) (hx : ρ x = u) (hy : ρ y = v) (hz : ρ z = r) (hr : (Instr.entryStore t u v r).run P w = .ok () w') : (execOp ρ o).run P w = .ok .skip w' := by simp [execOp, h, hx, hy, hz, hr, Result.andThen]
theorem ex_build2 {ρ : Operand → Value} {t : TypeId} {x y : Operand} {u v r : Value} {w : World} (h : o.op = .build t #[(0, x), (1, y)]) (hx : ρ x = u) (hy : ρ y = v) (hr : (Instr.build t #[(0, u), (1, v)]).run P w = .ok r w) : (execOp ρ o).run P w = .ok (.value r) w := by simp [execOp, h, hx, hy, hr, Result.andThen]
theorem ex_lookup {ρ : Operand → Value} {t : TypeId} {x y : Operand} {c : Bool} {u v r : Value} {w w' : World} (h : o.op = .lookup t x y c) (hx : ρ x = u) (hy : ρ y = v) (hr : (Instr.lookup t u v c).run P w = .ok r w') : (execOp ρ o).run P w = .ok (.value r) w' := by simp [execOp, h, hx, hy, hr, Result.andThen]
theorem ex_bin {ρ : Operand → Value} {b : BinOp} {t t' : TypeId} {x y : Operand} {u v r : Value} {w : World} (h : o.op = .binOp b t x y t') (hx : ρ x = u) (hy : ρ y = v) (hg : (eqGuard b t x y u v).run P w = .ok () w) (hr : (binOp b t u v).run P w = .ok r w) : (execOp ρ o).run P w = .ok (.value r) w := by simp [execOp, h, hx, hy, hg, hr, Result.andThen]
end

def touch (l : List ByteArray) (x : ByteArray) : List ByteArray := if hasS l x then l else l ++ [x]
theorem touch_keys {α : Type} (M : List (ByteArray × α)) (x : ByteArray) (a : α) : (putM M x a).map Prod.fst = touch (M.map Prod.fst) x := by
  rw [put_keys]
  unfold touch
  by_cases h : x ∈ M.map Prod.fst
  · rw [if_pos (hasS_iff.2 h)]
    obtain ⟨p, hp, rfl⟩ := List.mem_map.1 h
    cases hg : getM M p.1 with
    | none => exact absurd rfl (getM_none.1 hg p hp)
    | some b => simp
  · rw [if_neg (fun c => h (hasS_iff.1 c))]
    have : getM M x = none := getM_none.2 fun p hp he => h (List.mem_map.2 ⟨p, hp, he⟩)
    rw [this]; simp
theorem touch_touch (l : List ByteArray) (x : ByteArray) : touch (touch l x) x = touch l x := by
  have : hasS (touch l x) x = true := by
    rw [hasS_iff]; unfold touch
    split
    · rename_i h; exact hasS_iff.1 h
    · simp
  rw [show touch (touch l x) x = if hasS (touch l x) x then touch l x else touch l x ++ [x] from rfl, if_pos this]
theorem upd_upd {α β : Type} [DecidableEq α] (f : α → β) (x : α) (a b : β) : upd (upd f x a) x b = upd f x b := by
  funext y; unfold upd; split <;> rfl
theorem upd_same {α β : Type} [DecidableEq α] (f : α → β) (x : α) : upd f x (f x) = f := by
  funext y; unfold upd; split
  · rename_i h; rw [h]
  · rfl

section
variable {lo : Nat} {w : World} {kb bp bh bo bd ba : Nat} {K : Book}
theorem entP (h : BookIn lo w kb bp bh bo bd ba K) {x : ByteArray} (hx : x.size ≤ 1000) :
    ∃ (s : Nat) (o : Value) (w' : World), (Instr.mapEntry 110 (.map (some bp)) (.string x)).run Tryz.prog w = .ok (.tuple #[o, .int .i64 s]) w' ∧ Stamp strC w' bp x s ∧ BookIn lo w' kb bp bh bo bd ba { K with teams := touch K.teams x } ∧ Turn bp w w' ∧ Kept1 w w' bp ∧ isMap w bp := by
  obtain ⟨P, p1, p2, p3⟩ := h.pl
  obtain ⟨s, W, r, m, e, t, k⟩ := p1.entry Tryz.underlying110 (a0 := (.slice none 0 0 : Value)) (zeroList w) (strC_ok hx)
  have hP := (p2.turn p1.isMap t).put (x := x) (l := K.players x) ((p2 x).turn p1.isMap t)
  rw [upd_same] at hP
  have B2 := h.turnP t m hP
  rw [touch_keys, p3] at B2
  exact ⟨s, _, W, r, e, B2, t, k, p1.isMap⟩
theorem stoP (h : BookIn lo w kb bp bh bo bd ba K) {x : ByteArray} (hx : x.size ≤ 1000) {s : Nat} (hs : Stamp strC w bp x s) {v : Value} {l : List ByteArray} (hv : SlT lo w v l) :
    ∃ (w' : World), (Instr.entryStore 110 (.map (some bp)) (.int .i64 s) v).run Tryz.prog w = .ok () w' ∧ BookIn lo w' kb bp bh bo bd ba { K with teams := touch K.teams x, players := upd K.players x l } ∧ Turn bp w w' ∧ Kept1 w w' bp ∧ isMap w bp := by
  obtain ⟨P, p1, p2, p3⟩ := h.pl
  obtain ⟨W, r, m, t, k⟩ := p1.stored (t := 110) (strC_ok hx) hs v
  have hP := (p2.turn p1.isMap t).put (x := x) (hv.turn p1.isMap t)
  have B2 := h.turnP t m hP
  rw [touch_keys, p3] at B2
  exact ⟨W, r, B2, t, k, p1.isMap⟩
theorem entH (h : BookIn lo w kb bp bh bo bd ba K) {x : ByteArray} (hx : x.size ≤ 1000) :
    ∃ (s : Nat) (o : Value) (w' : World), (Instr.mapEntry 110 (.map (some bh)) (.string x)).run Tryz.prog w = .ok (.tuple #[o, .int .i64 s]) w' ∧ Stamp strC w' bh x s ∧ BookIn lo w' kb bp bh bo bd ba K ∧ Turn bh w w' ∧ Kept1 w w' bh ∧ isMap w bh := by
  obtain ⟨P, p1, p2⟩ := h.hu
  obtain ⟨s, W, r, m, e, t, k⟩ := p1.entry Tryz.underlying110 (a0 := (.slice none 0 0 : Value)) (zeroList w) (strC_ok hx)
  have hP := (p2.turn p1.isMap t).put (x := x) (l := K.hurt x) ((p2 x).turn p1.isMap t)
  rw [upd_same] at hP
  exact ⟨s, _, W, r, e, h.turnH t m hP, t, k, p1.isMap⟩
theorem stoH (h : BookIn lo w kb bp bh bo bd ba K) {x : ByteArray} (hx : x.size ≤ 1000) {s : Nat} (hs : Stamp strC w bh x s) {v : Value} {l : List ByteArray} (hv : SlT lo w v l) :
    ∃ (w' : World), (Instr.entryStore 110 (.map (some bh)) (.int .i64 s) v).run Tryz.prog w = .ok () w' ∧ BookIn lo w' kb bp bh bo bd ba { K with hurt := upd K.hurt x l } ∧ Turn bh w w' ∧ Kept1 w w' bh ∧ isMap w bh := by
  obtain ⟨P, p1, p2⟩ := h.hu
  obtain ⟨W, r, m, t, k⟩ := p1.stored (t := 110) (strC_ok hx) hs v
  exact ⟨W, r, h.turnH t m ((p2.turn p1.isMap t).put (x := x) (hv.turn p1.isMap t)), t, k, p1.isMap⟩
theorem entA (h : BookIn lo w kb bp bh bo bd ba K) {x : ByteArray} {n : Int} (hx : x.size ≤ 1000) (h1 : -9223372036854775808 ≤ n) (h2 : n ≤ 9223372036854775807) :
    ∃ (s : Nat) (o : Value) (w' : World), (Instr.mapEntry 113 (.map (some ba)) (.agg #[.string x, .int .i64 n])).run Tryz.prog w = .ok (.tuple #[o, .int .i64 s]) w' ∧ Stamp weekC w' ba (x, n) s ∧ BookIn lo w' kb bp bh bo bd ba K ∧ Turn ba w w' ∧ Kept1 w w' ba ∧ isMap w ba := by
  obtain ⟨M, p1, p2⟩ := h.ad
  obtain ⟨s, W, r, m, e, t, k⟩ := p1.entry Tryz.underlying113 (a0 := 0) (zeroInt w) (weekC_ok hx h1 h2)
  have hf : ∀ y, (getM (putM M (x, n) ((getM M (x, n)).getD 0)) y).getD 0 = K.adds y := fun y => by
    rw [getM_put]
    split
    · rename_i hy; rw [hy, ← p2]; rfl
    · exact p2 y
  exact ⟨s, _, W, r, e, h.turnA t m hf, t, k, p1.isMap⟩
theorem stoA (h : BookIn lo w kb bp bh bo bd ba K) {x : ByteArray} {n : Int} (hx : x.size ≤ 1000) (h1 : -9223372036854775808 ≤ n) (h2 : n ≤ 9223372036854775807) {s : Nat} (hs : Stamp weekC w ba (x, n) s) (a : Int) :
    ∃ (w' : World), (Instr.entryStore 113 (.map (some ba)) (.int .i64 s) (.int .i64 a)).run Tryz.prog w = .ok () w' ∧ BookIn lo w' kb bp bh bo bd ba { K with adds := upd K.adds (x, n) a } ∧ Turn ba w w' ∧ Kept1 w w' ba ∧ isMap w ba := by
  obtain ⟨M, p1, p2⟩ := h.ad
  obtain ⟨W, r, m, t, k⟩ := p1.stored (t := 113) (weekC_ok hx h1 h2) hs a
  have hf : ∀ y, (getM (putM M (x, n) a) y).getD 0 = upd K.adds (x, n) a y := fun y => by
    rw [getM_put]
    unfold upd
    split
    · rfl
    · exact p2 y
  exact ⟨W, r, h.turnA t m hf, t, k, p1.isMap⟩
end
/-- One map alone turns, and no entry of it loses its key or its stamp. -/
structure G1 (ba : Nat) (w w' : World) : Prop where
  size : w.heap.size ≤ w'.heap.size
  block : ∀ i, i ≠ ba → i < w.heap.size → w'.heap[i]? = w.heap[i]?
  p : Kept1 w w' ba
theorem G1.refl (ba : Nat) (w w' : World) (h : w'.heap = w.heap) : G1 ba w w' := ⟨by rw [h]; exact Nat.le_refl _, fun i _ _ => by rw [h], .same (by rw [h])⟩
theorem G1.turn {ba : Nat} {w w' : World} (ht : Turn ba w w') (hk : Kept1 w w' ba) : G1 ba w w' := ⟨by rw [ht.size]; exact Nat.le_refl _, fun i h1 _ => ht.block i h1, hk⟩
/-- What a part of the region may do: the two maps alone turn, and no entry of theirs loses its key or its stamp. -/
structure G2 (bp bh : Nat) (w w' : World) : Prop where
  size : w.heap.size ≤ w'.heap.size
  block : ∀ i, i ≠ bp → i ≠ bh → i < w.heap.size → w'.heap[i]? = w.heap[i]?
  p : Kept1 w w' bp
  h : Kept1 w w' bh
theorem G2.refl (bp bh : Nat) (w w' : World) (h : w'.heap = w.heap) : G2 bp bh w w' := ⟨by rw [h]; exact Nat.le_refl _, fun i _ _ _ => by rw [h], .same (by rw [h]), .same (by rw [h])⟩
theorem G2.turnP {bp bh : Nat} {w w' : World} (ht : Turn bp w w') (hk : Kept1 w w' bp) (hne : bp ≠ bh) : G2 bp bh w w' := ⟨by rw [ht.size]; exact Nat.le_refl _, fun i h1 h2 _ => ht.block i h1, hk, .same (ht.block _ (fun e => hne e.symm))⟩
theorem G2.turnH {bp bh : Nat} {w w' : World} (ht : Turn bh w w') (hk : Kept1 w w' bh) (hne : bp ≠ bh) : G2 bp bh w w' := ⟨by rw [ht.size]; exact Nat.le_refl _, fun i h1 h2 _ => ht.block i h2, .same (ht.block _ hne), hk⟩
end Go.Proofs.YtfmffobdkfgekaaGreat
