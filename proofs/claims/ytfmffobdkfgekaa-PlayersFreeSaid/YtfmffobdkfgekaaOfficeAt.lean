/- The reference follows moves up to a moment: officeAt; what it says of players and teams then. -/
import Derived.Test.YtfmffobdkfgekaaOFollow
set_option linter.unusedVariables false
set_option linter.unusedSimpArgs false
namespace Go.Proofs.Ytfmffobdkfgekaa
open Go.RowKit Go.Maps

theorem put_len {κ α : Type} [DecidableEq κ] (M : List (κ × α)) (x : κ) (a : α) : (putM M x a).length ≤ M.length + 1 := by
  unfold putM
  split <;> simp
theorem OInv.mono {b : Bd} {n m : Nat} {O : Office} (h : OInv b n O) (hm : n ≤ m) : OInv b m O := ⟨h.b, Nat.le_trans h.len hm, h.dr, fun t => Nat.le_trans (h.al t) hm, h.am⟩
theorem oinv0 (b : Bd) : OInv b 0 (office0 b) := ⟨rfl, Nat.le_refl _, fun x => by
  show small (-1)
  exact ⟨by decide, by decide⟩, fun t => Nat.le_refl _, fun t x hx => by cases hx⟩
theorem oinv_step {b : Bd} {n : Nat} {O : Office} (h : OInv b n O) (x : Mv) (hx : x.ok) : OInv b (n + 1) (followO O x) := by
  have hlen : ∀ a, (putM O.pl x.player a).length ≤ n + 1 := fun a => Nat.le_trans (put_len _ _ _) (Nat.succ_le_succ h.len)
  have hdr : ∀ (f : ByteArray → List Int) (a : Whr), small a.dropped → ∀ y, small (ofO { O with adds := f, pl := putM O.pl x.player a } y).dropped := fun f a ha y => by
    rw [ofO_put]
    split
    · exact ha
    · exact h.dr y
  have hal : ∀ t, (O.adds t).length ≤ n + 1 := fun t => Nat.le_trans (h.al t) (Nat.le_succ n)
  unfold followO
  split
  · split
    · refine ⟨h.b, hlen _, hdr _ _ (h.dr _), fun t => ?_, fun t y hy => ?_⟩
      · show (upd O.adds x.team _ t).length ≤ _
        rw [upd_at]
        split
        · rw [List.length_append]
          exact Nat.succ_le_succ (h.al _)
        · exact hal t
      · have hy : y ∈ upd O.adds x.team (O.adds x.team ++ [x.time]) t := hy
        rw [upd_at] at hy
        split at hy
        · rcases List.mem_append.1 hy with hy | hy
          · exact h.am _ y hy
          · simp at hy; subst hy; exact hx.time
        · exact h.am t y hy
    · split
      · exact ⟨h.b, hlen _, hdr O.adds _ hx.time, hal, h.am⟩
      · exact ⟨h.b, hlen _, hdr O.adds _ (h.dr _), hal, h.am⟩
  · exact h.mono (Nat.le_succ n)
theorem OfficeIn.lower {lo lo' : Nat} {w : World} {ob bm ba : Nat} {O : Office} (h : OfficeIn lo w ob bm ba O) (hl : lo' ≤ lo) : OfficeIn lo' w ob bm ba O := by
  obtain ⟨h1, h2, h3, h4, A, a1, a2⟩ := h
  exact ⟨by omega, h2, h3, h4, A, a1, fun t => World.ownsRow.mono (a2.own t) hl, a2.apart⟩
set_option maxHeartbeats 800000 in
set_option maxRecDepth 20000 in
theorem officeAt_any {lo : Nat} {w : World} {v : Value} {n : Nat} {l : List Mv} (b : Bd) (u : Int) (h : Sl lo w v 4 n (l.flatMap Mv.c)) (hl : l.length = n) (hn : n ≤ 800) (hok : ∀ x ∈ l, x.ok) (hb : b.ok) :
    Calls Try.prog 46 #[b.v, v, .int .i64 u] w fun e w' => ∃ ob bm ba, e = .returned (.pointer (some ⟨ob, 0, none⟩)) ∧ OfficeIn w.heap.size w' ob bm ba (officeL b l u) ∧ OInv b n (officeL b l u) ∧ Below w.heap.size w w' := by
  obtain ⟨A, c, rfl, hn2⟩ := h.shape
  have hA := (Below.refl w.heap.size w).alloc (Nat.le_refl _) (.cells #[.int .i64 b.most, .int .i64 b.hurt, .int .i64 b.adds, .int .i64 b.hold] 27)
  have HN := Lib.hid (newOffice_any b (w.alloc (.cells #[.int .i64 b.most, .int .i64 b.hurt, .int .i64 b.adds, .int .i64 b.hold] 27)))
  have H := Lib.hid h
  have HA := Lib.hid hA
  obtain ⟨m1, m2, m3, m4⟩ := b
  clear h hA
  dsimp only [Bd.v] at *
  go_enter Try.func46, Try.ntmps46
  go_wp2_with fail
  refine HN.out.mono ?_
  rintro e W ⟨ob, bm, ba, rfl, hof, hbw⟩
  have hB0 := hof.lower (lo' := w.heap.size) (by simp)
  have hL0 := HA.out.trans (hbw.mono (by simp))
  clear hof hbw
  have E := Lib.hid (And.intro hB0 hL0)
  clear hB0 hL0
  go_wp2
  go_loopw [14] (fun i wr => ∃ k : Nat, k ≤ n ∧ i = .int .i64 k ∧ OfficeIn w.heap.size wr ob bm ba ((l.take k).foldl (stepO u) (office0 ⟨m1, m2, m3, m4⟩)) ∧ OInv ⟨m1, m2, m3, m4⟩ k ((l.take k).foldl (stepO u) (office0 ⟨m1, m2, m3, m4⟩)) ∧ Below w.heap.size w wr) (fun i _ => n - (intOf i).toNat)
  case atStart => exact ⟨0, by omega, rfl, E.out.1, oinv0 _, E.out.2⟩
  case round =>
    obtain ⟨k, hk, rfl, hbk, hinv, hbl⟩ := hrel
    by_cases hlt : k < n
    · obtain ⟨x, hx⟩ : ∃ x, l[k]? = some x := ⟨_, List.getElem?_eq_getElem (by omega)⟩
      have hxo := hok x (List.mem_of_getElem? hx)
      obtain ⟨bb, o, rfl, _, hbl2, h1, h2, h3, h4⟩ := mv_cells (H.out.below hbl) hx
      have htk : l.take (k + 1) = l.take k ++ [x] := by rw [List.take_add_one, hx]; rfl
      have hfo : (l.take (k + 1)).foldl (stepO u) (office0 ⟨m1, m2, m3, m4⟩) = stepO u ((l.take k).foldl (stepO u) (office0 ⟨m1, m2, m3, m4⟩)) x := by rw [htk, List.foldl_append]; rfl
      have HFO := Lib.hid hfo
      generalize (l.take k).foldl (stepO u) (office0 ⟨m1, m2, m3, m4⟩) = O at hbk hinv HFO
      have HBK := Lib.hid hbk
      have HINV := Lib.hid hinv
      have HBL := Lib.hid hbl
      clear hbk hinv hbl hfo htk hx
      obtain ⟨xt, xk, xa, xp⟩ := x
      dsimp only at h1 h2 h3 h4
      have ix : (0 : Int) ≤ (k : Int) ∧ (k : Int) < (n : Int) := ⟨by omega, by omega⟩
      by_cases hu : xt ≤ u
      · go_wp2_with fail
        have hkb := HBK.out.below (w' := wr.alloc (.cells #[.int .i64 xt, .int .i64 xk, .string xa, .string xp] 61)) ((Below.refl _ wr).alloc (Nat.le_refl _) _)
        refine (ofollow_any hkb (by rw [alloc_size]; have := HBL.out.size; omega) (HINV.out.mono (by omega)) hb ⟨xt, xk, xa, xp⟩ hxo).mono ?_
        rintro e w2 ⟨rfl, hb2, hl2⟩
        have E := Lib.hid (And.intro hb2 ((HBL.out.alloc HBL.out.size _).trans hl2))
        clear hkb hb2 hl2
        go_wp2
        go_roundw
        case rel => exact ⟨k + 1, by omega, by go_num, by
          rw [HFO.out]; unfold stepO; rw [if_pos hu]; exact E.out.1, by
          rw [HFO.out]; unfold stepO; rw [if_pos hu]; exact oinv_step HINV.out _ hxo, E.out.2⟩
        case measure => simp [intOf]; omega
      · go_wp2
        go_roundw
        case rel => exact ⟨k + 1, by omega, by go_num, by
          rw [HFO.out]; unfold stepO; rw [if_neg hu]; exact HBK.out.below ((Below.refl _ wr).alloc (Nat.le_refl _) _), by
          rw [HFO.out]; unfold stepO; rw [if_neg hu]; exact HINV.out.mono (Nat.le_succ k), HBL.out.alloc HBL.out.size _⟩
        case measure => simp [intOf]; omega
    · have hkn : k = n := by omega
      subst hkn
      rw [List.take_of_length_le (by omega)] at hbk hinv
      have HBK := Lib.hid hbk
      have HINV := Lib.hid hinv
      have HBL := Lib.hid hbl
      clear hbk hinv hbl hlt
      go_wp2
      go_ret
      exact ⟨_, _, _, rfl, HBK.out, HINV.out, HBL.out⟩
end Go.Proofs.Ytfmffobdkfgekaa
