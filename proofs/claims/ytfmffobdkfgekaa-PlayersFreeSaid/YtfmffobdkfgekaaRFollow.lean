/- Moves are followed up to a moment: roster.follow, roster.at. -/
import Derived.Test.YtfmffobdkfgekaaFollow
import Derived.Carry
set_option linter.unusedVariables false
set_option linter.unusedSimpArgs false
namespace Go.Proofs.Ytfmffobdkfgekaa
open Go.RowKit Go.Maps

def book0 (b : Bd) : Book := ⟨b, [], fun _ => [], fun _ => [], fun _ => noStr, fun _ => none, fun _ => 0⟩
/-- What the book holds stays within bounds. -/
structure BInv (b : Bd) (n : Nat) (K : Book) : Prop where
  b : K.b = b
  dr : ∀ p m, K.dropped p = some m → small m
  ad : ∀ k, 0 ≤ K.adds k ∧ K.adds k ≤ n
  le : ∀ t, (K.players t).length ≤ n ∧ (K.hurt t).length ≤ n
theorem BInv.mono {b : Bd} {n m : Nat} {K : Book} (h : BInv b n K) (hm : n ≤ m) : BInv b m K := ⟨h.b, h.dr, fun k => by have := h.ad k; omega, fun t => by have := h.le t; omega⟩
theorem inv0 (b : Bd) : BInv b 0 (book0 b) := ⟨rfl, by simp [book0], by simp [book0], by simp [book0]⟩
theorem lessS_len (l : List ByteArray) (s : ByteArray) : (lessS l s).length ≤ l.length := List.length_filter_le _ _
theorem upd_at {α β : Type} [DecidableEq α] (f : α → β) (x y : α) (v : β) : upd f x v y = if y = x then v else f y := rfl
theorem inv_step {b : Bd} {n : Nat} {K : Book} (h : BInv b n K) (x : Mv) (hx : x.ok) : BInv b (n + 1) (followB K x) := by
  obtain ⟨h1, h2, h3, h4⟩ := h
  have hl := fun t => h4 t
  have h3' : ∀ k, 0 ≤ K.adds k ∧ K.adds k ≤ ((n + 1 : Nat) : Int) := fun k => by have := h3 k; omega
  have len : ∀ (f g : List ByteArray), f.length ≤ n + 1 → g.length ≤ n + 1 → ∀ t, ((upd K.players x.team f) t).length ≤ n + 1 ∧ ((upd K.hurt x.team g) t).length ≤ n + 1 := fun f g hf hg t => by
    have := h4 t
    rw [upd_at, upd_at]
    split
    · exact ⟨hf, hg⟩
    · omega
  have e1 := addS_len (K.players x.team) x.player
  have e2 := addS_len (K.hurt x.team) x.player
  have e3 := lessS_len (K.players x.team) x.player
  have e4 := lessS_len (K.hurt x.team) x.player
  have e5 := h4 x.team
  unfold followB
  split
  · split
    · refine ⟨h1, h2, fun k => ?_, len _ _ (by omega) (by omega)⟩
      have := h3 k
      have := h3 (x.team, weekOf x.time)
      show 0 ≤ upd K.adds _ _ k ∧ upd K.adds _ _ k ≤ _
      rw [upd_at]
      split <;> omega
    · split
      · refine ⟨h1, fun p m hm => ?_, h3', len _ _ (by omega) (by omega)⟩
        have hm : upd K.dropped x.player (some x.time) p = some m := hm
        rw [upd_at] at hm
        split at hm
        · cases hm; exact hx.time
        · exact h2 p m hm
      · split
        · exact ⟨h1, h2, h3', len _ _ (by omega) (by omega)⟩
        · split
          · exact ⟨h1, h2, h3', len _ _ (by omega) (by omega)⟩
          · exact ⟨h1, h2, h3', len _ _ (by omega) (by omega)⟩
  · exact ⟨h1, h2, h3', len _ _ (by omega) (by omega)⟩
def stepB (u : Int) (K : Book) (x : Mv) : Book := if x.time ≤ u then followB K x else K
/-- The book after the moves up to a moment. -/
def bookAt (b : Bd) (l : List Mv) (u : Int) : Book := l.foldl (stepB u) (book0 b)
theorem book_made (w : World) (o : Obj) (b : Bd) : ∃ W, W = (((((((w.alloc o).alloc (.map #[] 0)).alloc (.map #[] 0)).alloc (.map #[] 0)).alloc (.map #[] 0)).alloc (.map #[] 0)).alloc (.cells #[.int .i64 b.most, .int .i64 b.hurt, .int .i64 b.adds, .int .i64 b.hold, .map (some (w.heap.size + 1)), .map (some (w.heap.size + 1 + 1)), .map (some (w.heap.size + 1 + 1 + 1)), .map (some (w.heap.size + 1 + 1 + 1 + 1)), .map (some (w.heap.size + 1 + 1 + 1 + 1 + 1))] 74)) ∧
    BookIn w.heap.size W (w.heap.size + 1 + 1 + 1 + 1 + 1 + 1) (w.heap.size + 1) (w.heap.size + 1 + 1) (w.heap.size + 1 + 1 + 1) (w.heap.size + 1 + 1 + 1 + 1) (w.heap.size + 1 + 1 + 1 + 1 + 1) (book0 b) ∧ Below w.heap.size w W := by
  refine ⟨_, rfl, ?_, ?_⟩
  · have hl : ∀ W : World, Lists w.heap.size W [] (fun _ => []) := fun W t => Sl.nil _ _ _
    have k : ∀ (w1 : World) (o2 o3 o4 o5 o6 : Obj) (i : Nat), i < w1.heap.size → (((((w1.alloc o2).alloc o3).alloc o4).alloc o5).alloc o6).heap[i]? = w1.heap[i]? := fun w1 o2 o3 o4 o5 o6 i hi => by
      rw [Below.heap_alloc _ _ _ (by simp only [alloc_size]; omega), Below.heap_alloc _ _ _ (by simp only [alloc_size]; omega), Below.heap_alloc _ _ _ (by simp only [alloc_size]; omega), Below.heap_alloc _ _ _ (by simp only [alloc_size]; omega), Below.heap_alloc _ _ _ hi]
    have k1 : ∀ (w1 : World) (o2 : Obj) (i : Nat), i < w1.heap.size → (w1.alloc o2).heap[i]? = w1.heap[i]? := fun w1 o2 i hi => Below.heap_alloc _ _ _ hi
    have z1 := MapS.made (k := 9) (κ := ByteArray) strC (id : Value → Value) (w.alloc o)
    have z2 := MapS.made (k := 9) (κ := ByteArray) strC (id : Value → Value) ((w.alloc o).alloc (.map #[] 0))
    have z3 := MapS.made (k := 9) (κ := ByteArray) strC Value.string (((w.alloc o).alloc (.map #[] 0)).alloc (.map #[] 0))
    have z4 := MapS.made (k := 9) (κ := ByteArray) strC (Value.int .i64) ((((w.alloc o).alloc (.map #[] 0)).alloc (.map #[] 0)).alloc (.map #[] 0))
    have z5 := MapS.made (k := 78) (κ := ByteArray × Int) weekC (Value.int .i64) (((((w.alloc o).alloc (.map #[] 0)).alloc (.map #[] 0)).alloc (.map #[] 0)).alloc (.map #[] 0))
    simp only [alloc_size] at z1 z2 z3 z4 z5
    refine ⟨by omega, by omega, ?_, ⟨[], z1.keep ?_, hl _, rfl⟩, ⟨[], z2.keep ?_, hl _⟩, ⟨[], z3.keep ?_, fun _ => rfl⟩, ⟨[], z4.keep ?_, fun _ => rfl⟩, ⟨[], z5.keep ?_, fun _ => rfl⟩⟩
    · have := heap_alloc_new ((((((w.alloc o).alloc (.map #[] 0)).alloc (.map #[] 0)).alloc (.map #[] 0)).alloc (.map #[] 0)).alloc (.map #[] 0)) (.cells #[.int .i64 b.most, .int .i64 b.hurt, .int .i64 b.adds, .int .i64 b.hold, .map (some (w.heap.size + 1)), .map (some (w.heap.size + 1 + 1)), .map (some (w.heap.size + 1 + 1 + 1)), .map (some (w.heap.size + 1 + 1 + 1 + 1)), .map (some (w.heap.size + 1 + 1 + 1 + 1 + 1))] 74)
      simp only [alloc_size] at this
      exact this
    · exact k _ _ _ _ _ _ _ (by simp only [alloc_size]; omega)
    · rw [k1 _ _ _ (by simp only [alloc_size]; omega), k1 _ _ _ (by simp only [alloc_size]; omega), k1 _ _ _ (by simp only [alloc_size]; omega), k1 _ _ _ (by simp only [alloc_size]; omega)]
    · rw [k1 _ _ _ (by simp only [alloc_size]; omega), k1 _ _ _ (by simp only [alloc_size]; omega), k1 _ _ _ (by simp only [alloc_size]; omega)]
    · rw [k1 _ _ _ (by simp only [alloc_size]; omega), k1 _ _ _ (by simp only [alloc_size]; omega)]
    · rw [k1 _ _ _ (by simp only [alloc_size]; omega)]
  · exact (((((((Below.refl w.heap.size w).alloc (Nat.le_refl _) _).alloc (by simp only [alloc_size]; omega) _).alloc (by simp only [alloc_size]; omega) _).alloc (by simp only [alloc_size]; omega) _).alloc (by simp only [alloc_size]; omega) _).alloc (by simp only [alloc_size]; omega) _).alloc (by simp only [alloc_size]; omega) _
theorem BookIn.lower {lo lo' : Nat} {w : World} {kb bp bh bo bd ba : Nat} {K : Book} (h : BookIn lo w kb bp bh bo bd ba K) (hl : lo' ≤ lo) : BookIn lo' w kb bp bh bo bd ba K := by
  obtain ⟨h1, h2, h3, ⟨P, p1, p2, p3⟩, ⟨H, q1, q2⟩, h6, h7, h8⟩ := h
  exact ⟨by omega, h2, h3, ⟨P, p1, fun t => (p2 t).mono hl, p3⟩, ⟨H, q1, fun t => (q2 t).mono hl⟩, h6, h7, h8⟩
theorem at1_any (i e : Int) (w : World) : Calls Try.prog 60 #[.int .i64 i, .int .i64 e] w fun x w' => x = .returned (.tuple #[]) ∧ w = w' := by
  go_enter Try.func60, Try.ntmps60
  go_wp2
  go_end0
  exact ⟨rfl, rfl⟩
set_option maxHeartbeats 800000 in
set_option maxRecDepth 20000 in
theorem rfollow_at {lo : Nat} {w : World} {v : Value} {n : Nat} {l : List Mv} (b : Bd) (u : Int) (h : Sl lo w v 4 n (l.flatMap Mv.c)) (hl : l.length = n) (hn : n ≤ 800) (hok : ∀ x ∈ l, x.ok) (hb : b.ok) :
    Calls Try.prog 59 #[b.v, v, .int .i64 u, .func (.func 60) #[] #[]] w fun e w' => ∃ kb bp bh bo bd ba, e = .returned (.pointer (some ⟨kb, 0, none⟩)) ∧ BookIn w.heap.size w' kb bp bh bo bd ba (bookAt b l u) ∧ BInv b n (bookAt b l u) ∧ Below w.heap.size w w' := by
  obtain ⟨A, c, rfl, hn2⟩ := h.shape
  have H := Lib.hid h
  obtain ⟨m1, m2, m3, m4⟩ := b
  have hmm := @run_makeMap Try.prog
  clear h
  dsimp only [Bd.v]
  go_enter Try.func59, Try.ntmps59
  go_wp2
  obtain ⟨W0, hW0, hB0, hL0⟩ := book_made w (.cells #[.int .i64 m1, .int .i64 m2, .int .i64 m3, .int .i64 m4] 27) ⟨m1, m2, m3, m4⟩
  dsimp only at hW0
  rw [← hW0]
  clear hmm hW0
  generalize w.heap.size + 1 + 1 + 1 + 1 + 1 + 1 = kb at hB0 ⊢
  generalize w.heap.size + 1 + 1 + 1 + 1 + 1 = ba at hB0 ⊢
  generalize w.heap.size + 1 + 1 + 1 + 1 = bd at hB0 ⊢
  generalize w.heap.size + 1 + 1 + 1 = bo at hB0 ⊢
  generalize w.heap.size + 1 + 1 = bh at hB0 ⊢
  generalize w.heap.size + 1 = bp at hB0 ⊢
  go_loopw [22] (fun i wr => ∃ k : Nat, k ≤ n ∧ i = .int .i64 k ∧ BookIn w.heap.size wr kb bp bh bo bd ba ((l.take k).foldl (stepB u) (book0 ⟨m1, m2, m3, m4⟩)) ∧ BInv ⟨m1, m2, m3, m4⟩ k ((l.take k).foldl (stepB u) (book0 ⟨m1, m2, m3, m4⟩)) ∧ Below w.heap.size w wr) (fun i _ => n - (intOf i).toNat)
  case atStart => exact ⟨0, by omega, rfl, hB0, inv0 _, hL0⟩
  case round =>
    clear hB0 hL0
    obtain ⟨k, hk, rfl, hbk, hinv, hbl⟩ := hrel
    by_cases hlt : k < n
    · obtain ⟨x, hx⟩ : ∃ x, l[k]? = some x := ⟨_, List.getElem?_eq_getElem (by omega)⟩
      have hxo := hok x (List.mem_of_getElem? hx)
      obtain ⟨bb, o, rfl, _, hbl2, h1, h2, h3, h4⟩ := mv_cells (H.out.below hbl) hx
      have htk : l.take (k + 1) = l.take k ++ [x] := by rw [List.take_add_one, hx]; rfl
      have hfo : (l.take (k + 1)).foldl (stepB u) (book0 ⟨m1, m2, m3, m4⟩) = stepB u ((l.take k).foldl (stepB u) (book0 ⟨m1, m2, m3, m4⟩)) x := by rw [htk, List.foldl_append]; rfl
      have HFO := Lib.hid hfo
      generalize (l.take k).foldl (stepB u) (book0 ⟨m1, m2, m3, m4⟩) = K at hbk hinv HFO
      have HBK := Lib.hid hbk
      have HINV := Lib.hid hinv
      have HBL := Lib.hid hbl
      clear hbk hinv hbl hfo htk hx
      obtain ⟨xt, xk, xa, xp⟩ := x
      dsimp only at h1 h2 h3 h4
      have ix : (0 : Int) ≤ (k : Int) ∧ (k : Int) < (n : Int) := ⟨by omega, by omega⟩
      by_cases hu : xt ≤ u
      · go_wp2_with fail
        have hkb := HBK.out.below (w' := wr.alloc (.cells #[.int .i64 xt, .int .i64 xk, .string xa, .string xp] 61)) ((Below.refl _ wr).alloc (Nat.le_refl _) _)
        refine (follow_any hkb (by rw [alloc_size]; have := HBL.out.size; omega) (by rw [HINV.out.b]; exact hb) ⟨xt, xk, xa, xp⟩ hxo HINV.out.dr (fun k2 => by have := HINV.out.ad k2; omega) (fun t => by have := HINV.out.le t; omega)).mono ?_
        rintro e w2 ⟨rfl, hb2, hl2⟩
        have E := Lib.hid (And.intro hb2 ((HBL.out.alloc HBL.out.size _).trans hl2))
        clear hkb hb2 hl2
        go_wp2_with fail
        refine (at1_any _ _ _).mono ?_
        rintro e w3 ⟨rfl, rfl⟩
        go_wp2
        go_roundw
        case rel => exact ⟨k + 1, by omega, by go_num, by
          rw [HFO.out]; unfold stepB; rw [if_pos hu]; exact E.out.1, by
          rw [HFO.out]; unfold stepB; rw [if_pos hu]; exact inv_step HINV.out _ hxo, E.out.2⟩
        case measure => simp [intOf]; omega
      · go_wp2
        go_roundw
        case rel => exact ⟨k + 1, by omega, by go_num, by
          rw [HFO.out]; unfold stepB; rw [if_neg hu]; exact HBK.out.below ((Below.refl _ wr).alloc (Nat.le_refl _) _), by
          rw [HFO.out]; unfold stepB; rw [if_neg hu]; exact HINV.out.mono (Nat.le_succ k), HBL.out.alloc HBL.out.size _⟩
        case measure => simp [intOf]; omega
    · have hkn : k = n := by omega
      subst hkn
      rw [List.take_of_length_le (by omega)] at hbk hinv
      have HBK := Lib.hid hbk
      have HINV := Lib.hid hinv
      have HBL := Lib.hid hbl
      clear hbk hinv hbl hlt
      go_wp2
      go_ret
      exact ⟨_, _, _, _, _, _, rfl, HBK.out, HINV.out, HBL.out⟩

set_option maxHeartbeats 400000 in
theorem rat_any {lo : Nat} {w : World} {v : Value} {n : Nat} {l : List Mv} (b : Bd) (u : Int) (h : Sl lo w v 4 n (l.flatMap Mv.c)) (hl : l.length = n) (hn : n ≤ 800) (hok : ∀ x ∈ l, x.ok) (hb : b.ok) :
    Calls Try.prog 39 #[b.v, v, .int .i64 u] w fun e w' => ∃ kb bp bh bo bd ba, e = .returned (.pointer (some ⟨kb, 0, none⟩)) ∧ BookIn w.heap.size w' kb bp bh bo bd ba (bookAt b l u) ∧ BInv b n (bookAt b l u) ∧ Below w.heap.size w w' := by
  have hA := (Below.refl w.heap.size w).alloc (Nat.le_refl _) (.cells #[.int .i64 b.most, .int .i64 b.hurt, .int .i64 b.adds, .int .i64 b.hold] 27)
  have HC := Lib.hid (rfollow_at (w := w.alloc (.cells #[.int .i64 b.most, .int .i64 b.hurt, .int .i64 b.adds, .int .i64 b.hold] 27)) b u (h.below hA) hl hn hok hb)
  have HA := Lib.hid hA
  obtain ⟨m1, m2, m3, m4⟩ := b
  clear h hA
  dsimp only [Bd.v] at *
  go_enter Try.func39, Try.ntmps39
  go_wp2_with fail
  refine HC.out.mono ?_
  rintro e w2 ⟨kb, bp, bh, bo, bd, ba, rfl, h1, h2, h3⟩
  have E := Lib.hid (And.intro h1 (And.intro h2 h3))
  clear h1 h2 h3
  go_wp2
  go_ret
  refine ⟨kb, bp, bh, bo, bd, ba, rfl, ?_, E.out.2.1, HA.out.trans (E.out.2.2.mono (by simp))⟩
  exact E.out.1.lower (by simp)
end Go.Proofs.Ytfmffobdkfgekaa
