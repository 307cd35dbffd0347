/- Contracts of the stream that hands out numbers: each hand-out is in its range, and turns the stream's own block alone. -/
import Derived.Test.YtfmffobdkfgekaaLeaf
set_option linter.unusedVariables false
set_option linter.unusedSimpArgs false
namespace Go.Proofs.Ytfmffobdkfgekaa
open Go.RowKit

/-- The stream in block b, good for n more numbers. -/
def SOk (w : World) (b n : Nat) : Prop := ∃ (k : Nat) (A : Option Addr) (len c : Nat), w.heap[b]? = some (.cells #[.slice A len c, .int .i64 k] 25 (0, 0)) ∧ k + n ≤ 1000000000000 ∧
  len ≤ 1000000000000000000 ∧ (∀ i, i < len → ∃ ab ao x, A = some ⟨ab, ao, none⟩ ∧ ab < b ∧ w.cell? ⟨ab, ao + i, none⟩ = some (.int .i64 x) ∧ -9223372036854775808 ≤ x ∧ x ≤ 9223372036854775807)
/-- Nothing but block b has turned. -/
def Gr (b : Nat) (w w' : World) : Prop := w.grownBy w' (some b)

theorem SOk.mono {w : World} {b n m : Nat} (h : SOk w b n) (hm : m ≤ n) : SOk w b m := by
  obtain ⟨k, A, len, c, h1, h2, h3⟩ := h
  exact ⟨k, A, len, c, h1, by omega, h3⟩
theorem SOk.lt {w : World} {b n : Nat} (h : SOk w b n) : b < w.heap.size := by
  obtain ⟨k, A, len, c, h1, _⟩ := h
  exact (Array.getElem?_eq_some_iff.1 h1).1
theorem SOk.keep {w w' : World} {b n : Nat} (h : SOk w b n) (hk : ∀ i, i ≤ b → w'.heap[i]? = w.heap[i]?) : SOk w' b n := by
  obtain ⟨k, A, len, c, h1, h2, h3, h4⟩ := h
  refine ⟨k, A, len, c, by rw [hk b (Nat.le_refl _)]; exact h1, h2, h3, fun i hi => ?_⟩
  obtain ⟨ab, ao, x, e1, e2, e3, e4⟩ := h4 i hi
  refine ⟨ab, ao, x, e1, e2, ?_, e4⟩
  rw [World.cell?_of_block (w := w) (hk ab (by omega))]; exact e3
theorem SOk.below {w w' : World} {b n B : Nat} (h : SOk w b n) (hb : Below B w w') (hB : b < B) : SOk w' b n := h.keep fun i hi => hb.block i (by omega)
theorem Gr.refl (b : Nat) (w : World) : Gr b w w := ⟨rfl, rfl, rfl, Nat.le_refl _, fun _ _ _ => rfl⟩
theorem Gr.trans {b : Nat} {w w1 w2 : World} (h : Gr b w w1) (k : Gr b w1 w2) : Gr b w w2 :=
  ⟨k.os.trans h.os, k.tape.trans h.tape, k.output.trans h.output, Nat.le_trans h.size k.size, fun i hi hne => (k.block i (by have := h.size; omega) hne).trans (h.block i hi hne)⟩
theorem Gr.of_below {b : Nat} {w w' : World} (h : Below w.heap.size w w') : Gr b w w' := ⟨h.os, h.tape, h.output, h.size, fun i hi _ => h.block i hi⟩
theorem Gr.below {b : Nat} {w w' : World} (h : Gr b w w') (hb : b ≤ w.heap.size) : Below b w w' := ⟨h.os, h.tape, h.output, h.size, fun i hi => h.block i (by omega) (by simp; omega)⟩

theorem below_ex (x n : Int) (w : World) (hx : -9223372036854775808 ≤ x) (hx2 : x ≤ 9223372036854775807) (hn2 : n ≤ 4611686018427387904) :
    Calls Try.prog 54 #[.int .i64 x, .int .i64 n] w fun e w' => (∃ m : Int, e = .returned (.int .i64 m) ∧ 0 ≤ m ∧ (m < n ∨ m = 0)) ∧ w = w' := by
  by_cases hn : n < 1
  · go_enter Try.func54, Try.ntmps54
    go_wp2
    go_ret
    exact ⟨⟨0, rfl, by omega, by omega⟩, rfl⟩
  have hb : x.tmod n < n := Int.tmod_lt_of_pos x (by omega)
  have hb2 : -n < x.tmod n := by have := Int.lt_tmod_of_pos x (show 0 < n by omega); omega
  go_enter Try.func54, Try.ntmps54
  go_wp2
  all_goals (go_ret; exact ⟨⟨_, rfl, by omega, by omega⟩, rfl⟩)

theorem w64_range (x : Int) : -9223372036854775808 ≤ wrap64 x ∧ wrap64 x ≤ 9223372036854775807 := by unfold wrap64; omega

theorem next_cells {w : World} {b : Nat} {k : Nat} {A : Option Addr} {len c : Nat} {T : TypeId} (h : w.heap[b]? = some (.cells #[.slice A len c, .int .i64 k] T (0, 0))) :
    w.cell? ⟨b, 0, none⟩ = some (.slice A len c) ∧ w.cell? ⟨b, 1, none⟩ = some (.int .i64 k) ∧ w.frozen? ⟨b, 1, none⟩ = false := by
  simp [World.cell?, World.frozen?, h]

theorem next_after {w : World} {b n : Nat} {q : Nat} {k : Nat} {A : Option Addr} {len c : Nat} (h1 : w.heap[b]? = some (.cells #[.slice A len c, .int .i64 k] 25 (0, 0))) (h2 : k + (n + 1) ≤ 1000000000000)
    (h3 : len ≤ 1000000000000000000) (h4 : ∀ i, i < len → ∃ ab ao x, A = some ⟨ab, ao, none⟩ ∧ ab < b ∧ w.cell? ⟨ab, ao + i, none⟩ = some (.int .i64 x) ∧ -9223372036854775808 ≤ x ∧ x ≤ 9223372036854775807) :
    SOk ((w.setCell ⟨b, 1, none⟩ (.int .i64 ((k : Int) + 1))).drewN q) b n ∧ Gr b w ((w.setCell ⟨b, 1, none⟩ (.int .i64 ((k : Int) + 1))).drewN q) := by
  refine ⟨⟨k + 1, A, len, c, ?_, by omega, h3, fun i hi => ?_⟩, ⟨rfl, rfl, rfl, by simp [World.setCell], fun i hi hne => ?_⟩⟩
  · show (w.setCell _ _).heap[b]? = _
    simp [World.setCell, Array.getElem?_modify, h1]
  · obtain ⟨ab, ao, x, e1, e2, e3, e4⟩ := h4 i hi
    refine ⟨ab, ao, x, e1, e2, ?_, e4⟩
    show (w.setCell _ _).cell? _ = _
    rw [World.cell?_of_block (w := w) (Below.heap_setCell _ _ _ _ (show ab ≠ b by omega))]; exact e3
  · exact Below.heap_setCell _ _ _ _ (by simpa using hne)

set_option maxHeartbeats 400000 in
theorem next_any (b n : Nat) (m : Int) (w : World) (hs : SOk w b (n + 1)) (hm : m ≤ 4611686018427387904) :
    Calls Try.prog 34 #[.pointer (some ⟨b, 0, none⟩), .int .i64 m] w fun e w' => (∃ r : Int, e = .returned (.int .i64 r) ∧ 0 ≤ r ∧ (r < m ∨ r = 0)) ∧ SOk w' b n ∧ Gr b w w' := by
  obtain ⟨k, A, len, c, h1, h2, h3, h4⟩ := hs
  obtain ⟨hc0, hc1, hf⟩ := next_cells h1
  have hk : k < 1000000000000 := by omega
  have hend := fun q => next_after (q := q) h1 h2 h3 h4
  have HE := Lib.hid hend
  have H1 := Lib.hid h1
  clear hend h1
  by_cases h0 : len = 0
  · subst h0
    clear h4
    go_enter Try.func34, Try.ntmps34
    go_wp2_with fail
    refine (below_ex _ _ _ (by omega) (by omega) hm).mono ?_
    rintro e w' ⟨⟨r, rfl, hr0, hr⟩, rfl⟩
    go_wp2
    go_ret
    exact ⟨⟨r, rfl, hr0, hr⟩, HE.out 0⟩
  · have e0 : ((len : Int) == 0) = false := by simpa using h0
    have hpos : 0 < len := by omega
    obtain ⟨ab, ao, x, rfl, e2, e3, e4, e5⟩ := h4 (k % len) (Nat.mod_lt _ hpos)
    clear h4
    have hix : 0 ≤ (k : Int) % (len : Int) ∧ (k : Int) % (len : Int) < (len : Int) := ⟨Int.emod_nonneg _ (by omega), Int.emod_lt_of_pos _ (by omega)⟩
    go_enter Try.func34, Try.ntmps34
    go_wp2
    go_quiet (fail)
    go_wp2
    go_quiet (fail)
    go_wp2_with fail
    refine (below_ex _ _ _ (by omega) (by omega) (by omega)).mono ?_
    rintro e w' ⟨⟨r1, rfl, hr1, hr2⟩, rfl⟩
    go_wp2_with fail
    refine (below_ex _ _ _ (w64_range _).1 (w64_range _).2 hm).mono ?_
    rintro e w' ⟨⟨r, rfl, hr0, hr⟩, rfl⟩
    go_wp2
    go_ret
    exact ⟨⟨r, rfl, hr0, hr⟩, HE.out _⟩

theorem Sl.gr {b lo : Nat} {w w' : World} {v : Value} {sz n : Nat} {vs : List Value} (h : Sl lo w v sz n vs) (hg : Gr b w w') (hl : b < lo) : Sl lo w' v sz n vs :=
  h.keep hg.size fun i hi hs => hg.block i hs (by simp; omega)

theorem range_any (b n : Nat) (lo hi : Int) (w : World) (hs : SOk w b (n + 1)) (h1 : -1152921504606846976 ≤ lo) (h2 : lo ≤ 1152921504606846976) (h3 : -1152921504606846976 ≤ hi) (h4 : hi ≤ 1152921504606846976) :
    Calls Try.prog 6 #[.pointer (some ⟨b, 0, none⟩), .int .i64 lo, .int .i64 hi] w fun e w' => (∃ r : Int, e = .returned (.int .i64 r) ∧ lo ≤ r ∧ (r ≤ hi ∨ r = lo)) ∧ SOk w' b n ∧ Gr b w w' := by
  by_cases h : hi < lo
  · go_enter Try.func6, Try.ntmps6
    go_wp2
    go_ret
    exact ⟨⟨_, rfl, by omega, by omega⟩, hs.mono (by omega), Gr.refl _ _⟩
  · go_enter Try.func6, Try.ntmps6
    go_wp2_with fail
    refine (next_any b n _ _ hs (by omega)).mono ?_
    rintro e w' ⟨⟨r, rfl, hr0, hr⟩, hs', hg⟩
    go_wp2
    go_ret
    exact ⟨⟨_, rfl, by omega, by omega⟩, hs', hg⟩
theorem flip_any (b n : Nat) (m : Int) (w : World) (hs : SOk w b (n + 1)) (hm : m ≤ 1152921504606846976) :
    Calls Try.prog 9 #[.pointer (some ⟨b, 0, none⟩), .int .i64 m] w fun e w' => (∃ r : Bool, e = .returned (.bool r)) ∧ SOk w' b n ∧ Gr b w w' := by
  go_enter Try.func9, Try.ntmps9
  go_wp2_with fail
  refine (next_any b n _ _ hs (by omega)).mono ?_
  rintro e w' ⟨⟨r, rfl, hr0, hr⟩, hs', hg⟩
  go_wp2
  go_ret
  exact ⟨⟨_, rfl⟩, hs', hg⟩
theorem pick_any (b n m : Nat) (v : Value) (xs : List Int) (w : World) (hs : SOk w b (n + 1)) (hx : Sl (b + 1) w v 1 m (xs.map (Value.int .i64))) (hm : 0 < m) :
    Calls Try.prog 30 #[.pointer (some ⟨b, 0, none⟩), v] w fun e w' => (∃ r : Int, e = .returned (.int .i64 r) ∧ r ∈ xs) ∧ SOk w' b n ∧ Gr b w w' := by
  obtain ⟨A, c, rfl⟩ : ∃ A c, v = .slice A m c := by obtain ⟨_, _, A, c, h, _⟩ := hx; exact ⟨A, c, h⟩
  have hm2 := hx.2.1
  have hlen := hx.1
  go_enter Try.func30, Try.ntmps30
  go_wp2_with fail
  refine (next_any b n _ _ hs (by omega)).mono ?_
  rintro e w' ⟨⟨r, rfl, hr0, hr⟩, hs', hg⟩
  have hx' := hx.gr hg (by omega)
  have hrl : r.toNat < xs.length := by simp at hlen; omega
  obtain ⟨bb, o, rfl, h1, h2, h3⟩ := hx'.cell (j := r.toNat) (u := .int .i64 xs[r.toNat]) (by simp [hrl])
  have hix : 0 ≤ r ∧ r < (m : Int) := ⟨hr0, by omega⟩
  obtain ⟨y, hy⟩ : ∃ y, y = xs[r.toNat] := ⟨_, rfl⟩
  rw [← hy] at h3
  have HY := Lib.hid hy
  clear hy
  go_wp2
  go_ret
  exact ⟨⟨_, rfl, by rw [HY.out]; exact List.getElem_mem _⟩, hs', hg⟩
theorem some_any (b n m : Nat) (v : Value) (xs : List ByteArray) (w : World) (hs : SOk w b (n + 1)) (hx : Sl (b + 1) w v 1 m (xs.map Value.string)) (hm : 0 < m) :
    Calls Try.prog 7 #[.pointer (some ⟨b, 0, none⟩), v] w fun e w' => (∃ r : ByteArray, e = .returned (.string r) ∧ r ∈ xs) ∧ SOk w' b n ∧ Gr b w w' := by
  obtain ⟨A, c, rfl⟩ : ∃ A c, v = .slice A m c := by obtain ⟨_, _, A, c, h, _⟩ := hx; exact ⟨A, c, h⟩
  have hm2 := hx.2.1
  have hlen := hx.1
  go_enter Try.func7, Try.ntmps7
  go_wp2_with fail
  refine (next_any b n _ _ hs (by omega)).mono ?_
  rintro e w' ⟨⟨r, rfl, hr0, hr⟩, hs', hg⟩
  have hx' := hx.gr hg (by omega)
  have hrl : r.toNat < xs.length := by simp at hlen; omega
  obtain ⟨bb, o, rfl, h1, h2, h3⟩ := hx'.cell (j := r.toNat) (u := .string xs[r.toNat]) (by simp [hrl])
  have hix : 0 ≤ r ∧ r < (m : Int) := ⟨hr0, by omega⟩
  obtain ⟨y, hy⟩ : ∃ y, y = xs[r.toNat] := ⟨_, rfl⟩
  rw [← hy] at h3
  have HY := Lib.hid hy
  clear hy
  go_wp2
  go_ret
  exact ⟨⟨_, rfl, by rw [HY.out]; exact List.getElem_mem _⟩, hs', hg⟩

theorem alloc_at {w : World} {m : Nat} (o : Obj) (hm : w.heap.size = m) : (w.alloc o).heap[m]? = some o := by subst hm; exact heap_alloc_new _ _
theorem alloc_size (w : World) (o : Obj) : (w.alloc o).heap.size = w.heap.size + 1 := by simp
theorem Sl.lit {w : World} {e : TypeId} {sz n m lo : Nat} {vs : List Value} {cs : Array Value} (hm : w.heap.size = m) (hlo : lo ≤ m) (hc : cs.toList = vs) (hl : vs.length = n * sz) (hn : n ≤ 1099511627776) :
    Sl lo (w.alloc (.cells cs e)) (.slice (some ⟨m, 0, none⟩) n n) sz n vs := (Sl.made hl hn m cs hc (alloc_at _ hm)).mono hlo

theorem own_gr {w w' : World} {base b : Nat} {e : TypeId} {sz n : Nat} {v : Value} {vs : List Value} (h : w.ownsRow base e sz v n vs) (hg : Gr b w w') (hb : b < base) : w'.ownsRow base e sz v n vs :=
  h.kept hg (by
    cases hv : v.ownBlock with
    | none => exact .inl rfl
    | some k => exact .inr (by have := (h.lt k hv).1; simp; omega))
/-! ### a walk of the stream: the world when it began, the world now -/
structure St (b n : Nat) (w0 w : World) : Prop where
  s : SOk w b n
  g : Gr b w0 w
theorem St.start {w : World} {b n : Nat} (h : SOk w b n) : St b n w w := ⟨h, Gr.refl _ _⟩
theorem St.mono {w0 w : World} {b n m : Nat} (h : St b n w0 w) (hm : m ≤ n) : St b m w0 w := ⟨h.s.mono hm, h.g⟩
theorem St.alloc {w0 w : World} {b n : Nat} (h : St b n w0 w) (o : Obj) : St b n w0 (w.alloc o) :=
  ⟨h.s.below ((Below.refl w.heap.size w).alloc (Nat.le_refl _) o) h.s.lt, h.g.trans (Gr.of_below ((Below.refl w.heap.size w).alloc (Nat.le_refl _) o))⟩
theorem St.setCell {w0 w : World} {b n : Nat} (h : St b n w0 w) {p : Addr} (hb : b < w0.heap.size) (hp : w0.heap.size ≤ p.block) (u : Value) : St b n w0 (w.setCell p u) :=
  ⟨h.s.keep fun i hi => Below.heap_setCell _ _ _ _ (by omega), ⟨h.g.os, h.g.tape, h.g.output, by simpa [World.setCell] using h.g.size, fun i hi hne => (Below.heap_setCell _ _ _ _ (by omega)).trans (h.g.block i hi hne)⟩⟩
theorem St.call {w0 w w' : World} {b n m : Nat} (h : St b n w0 w) (hs : SOk w' b m) (hg : Gr b w w') : St b m w0 w' := ⟨hs, h.g.trans hg⟩
theorem St.then {w0 w w' : World} {b n m : Nat} (h : St b n w0 w) (h' : St b m w w') : St b m w0 w' := ⟨h'.s, h.g.trans h'.g⟩
theorem St.below {w0 w w' : World} {b n : Nat} (h : St b n w0 w) (hb : Below w.heap.size w w') : St b n w0 w' := ⟨h.s.below hb h.s.lt, h.g.trans (Gr.of_below hb)⟩
theorem St.drewN {w0 w : World} {b n : Nat} (h : St b n w0 w) (q : Nat) : St b n w0 (w.drewN q) := ⟨h.s.keep fun _ _ => rfl, ⟨h.g.os, h.g.tape, h.g.output, h.g.size, h.g.block⟩⟩
theorem St.grown {w0 w w' : World} {b n : Nat} (h : St b n w0 w) {row : Option Nat} (hg : w.grownBy w' row) (hb : b < w0.heap.size) (hr : ∀ k, row = some k → w0.heap.size ≤ k) : St b n w0 w' :=
  ⟨h.s.keep fun i hi => hg.block i (by have := h.s.lt; omega) (fun e => by have := hr i e.symm; omega), ⟨hg.os.trans h.g.os, hg.tape.trans h.g.tape, hg.output.trans h.g.output, Nat.le_trans h.g.size hg.size, fun i hi hne => (hg.block i (by have := h.g.size; omega) (fun e => by have := hr i e.symm; omega)).trans (h.g.block i hi hne)⟩⟩
/-- A block beside the stream's stands. -/
theorem St.block {w0 w : World} {b n i : Nat} (h : St b n w0 w) {o : Obj} (hi : w0.heap[i]? = some o) (hne : i ≠ b) : w.heap[i]? = some o := by
  rw [h.g.block i (Array.getElem?_eq_some_iff.1 hi).1 (by simpa using hne)]; exact hi
theorem odd_any (b n : Nat) (lo hi : Int) (w : World) (hs : SOk w b (n + 2)) (h1 : -1099511627776 ≤ lo) (h2 : lo ≤ 1099511627776) (h3 : -1099511627776 ≤ hi) (h4 : hi ≤ 1099511627776) :
    Calls Try.prog 29 #[.pointer (some ⟨b, 0, none⟩), .int .i64 lo, .int .i64 hi] w fun e w' => (∃ r : Int, e = .returned (.int .i64 r) ∧ -1099511627777 ≤ r ∧ r ≤ 1099511627777) ∧ St b n w w' := by
  go_enter Try.func29, Try.ntmps29
  go_wp2_with fail
  refine (flip_any b (n + 1) _ _ hs (by omega)).mono ?_
  rintro e w1 ⟨⟨r, rfl⟩, hs1, hg1⟩
  have st1 := (St.start hs).call hs1 hg1
  cases r
  · go_wp2_with fail
    refine (range_any b n lo hi _ hs1 (by omega) (by omega) (by omega) (by omega)).mono ?_
    rintro e w2 ⟨⟨r, rfl, hr0, hr⟩, hs2, hg2⟩
    go_wp2
    go_ret
    exact ⟨⟨_, rfl, by omega, by omega⟩, st1.call hs2 hg2⟩
  · go_wp2_with fail
    have hlt := hs1.lt
    refine (pick_any b n 6 _ [lo - 1, hi + 1, lo, hi, -1099511627776, 1099511627776] _ (st1.alloc _).s (Sl.lit rfl (by have := st1.s.lt; omega) rfl (by simp) (by omega)) (by omega)).mono ?_
    rintro e w2 ⟨⟨r, rfl, hr⟩, hs2, hg2⟩
    go_wp2
    go_ret
    refine ⟨⟨_, rfl, ?_⟩, (st1.alloc _).call hs2 hg2⟩
    simp at hr
    omega

theorem moveTime_any (b n : Nat) (w : World) (hs : SOk w b (n + 1)) :
    Calls Try.prog 8 #[.pointer (some ⟨b, 0, none⟩)] w fun e w' => (∃ r : Int, e = .returned (.int .i64 r) ∧ -1 ≤ r ∧ r ≤ 604800050) ∧ St b n w w' := by
  have hlt := hs.lt
  go_enter Try.func8, Try.ntmps8
  go_wp2_with fail
  refine (pick_any b n 9 _ [0, 20, 50, 100, 300, 604799999, 604800000, 604800050, -1] _ ((St.start hs).alloc _).s (Sl.lit rfl (by omega) rfl (by simp) (by omega)) (by omega)).mono ?_
  rintro e w2 ⟨⟨r, rfl, hr⟩, hs2, hg2⟩
  go_wp2
  go_ret
  refine ⟨⟨_, rfl, ?_⟩, ((St.start hs).alloc _).call hs2 hg2⟩
  simp at hr
  omega
end Go.Proofs.Ytfmffobdkfgekaa
