/- slices.Compact of moves: of runs of equal ones the first one stays. -/
import Derived.Test.YtfmffobdkfgekaaMvSort
import Derived.Test.YtfmffobdkfgekaaEq
import Derived.Test.YtfmffobdkfgekaaRowCells
import Derived.Lib.SliceRun
import Derived.OwnWalk
set_option linter.unusedVariables false
set_option linter.unusedSimpArgs false
namespace Go.Proofs.Ytfmffobdkfgekaa
open Go.RowKit

theorem mv_at {w : World} {base g cap n : Nat} {l : List Mv} (h : w.ownsRow base 61 4 (.slice (some ⟨g, 0, none⟩) n cap) n (l.flatMap Mv.c)) {k : Nat} {x : Mv} (hx : l[k]? = some x) :
    w.cell? ⟨g, k * 4, none⟩ = some (.int .i64 x.time) ∧ w.cell? ⟨g, k * 4 + 1, none⟩ = some (.int .i64 x.kind) ∧ w.cell? ⟨g, k * 4 + 2, none⟩ = some (.string x.team) ∧ w.cell? ⟨g, k * 4 + 3, none⟩ = some (.string x.player) := by
  have key : ∀ j u, x.c[j]? = some u → w.cell? ⟨g, k * 4 + j, none⟩ = some u := fun j u hu => by
    have hj : j < 4 := by have := (List.getElem?_eq_some_iff.1 hu).1; simpa [Mv.c] using this
    have := h.cells (g := g) rfl (k * 4 + j) u ((flat_at Mv.c_len l k x j hx hj).trans hu)
    rw [add_off] at this
    simpa using this
  exact ⟨key 0 _ rfl, key 1 _ rfl, key 2 _ rfl, key 3 _ rfl⟩

/-- Equality of moves, as Go's. -/
def mvEq (x y : Mv) : Bool := x.time == y.time && (x.kind == y.kind && (x.team.toList == y.team.toList && x.player.toList == y.player.toList))
theorem eqMv_in (d : Nat) (w : World) (x y : Mv) : (Op.equalIn (d + 2) 61 (.agg #[.int .i64 x.time, .int .i64 x.kind, .string x.team, .string x.player]) (.agg #[.int .i64 y.time, .int .i64 y.kind, .string y.team, .string y.player])).run Try.prog w = .ok (mvEq x y) w := by
  refine eqs_of Try.underlying61 (by kernel_rfl) ?_
  refine eqf_cons (by rfl) (by go_simp; rfl) (by go_simp; rfl) (by go_simp) ?_
  refine eqf_cons (by rfl) (by go_simp; rfl) (by go_simp; rfl) (by go_simp) ?_
  refine eqf_cons (by rfl) (by go_simp; rfl) (by go_simp; rfl) (by go_simp) ?_
  exact eqf_last (by rfl) (by go_simp; rfl) (by go_simp; rfl) (by go_simp)
theorem eqMv (w : World) (x y : Mv) : (binOp .eql 61 (.agg #[.int .i64 x.time, .int .i64 x.kind, .string x.team, .string x.player]) (.agg #[.int .i64 y.time, .int .i64 y.kind, .string y.team, .string y.player])).run Try.prog w = .ok (.bool (mvEq x y)) w := by
  simp only [binOp]
  simp [Op.equal, Op.maxDepth, eqMv_in 9998]
theorem neMv (w : World) (x y : Mv) : (binOp .neq 61 (.agg #[.int .i64 x.time, .int .i64 x.kind, .string x.team, .string x.player]) (.agg #[.int .i64 y.time, .int .i64 y.kind, .string y.team, .string y.player])).run Try.prog w = .ok (.bool (!mvEq x y)) w := by
  simp only [binOp]
  simp [Op.equal, Op.maxDepth, eqMv_in 9998]

theorem infoMove : (Try.prog.info? 61).map (fun i => (i.zero, i.size, i.bytes)) = some (some (.agg #[.int .i64 0, .int .i64 0, .string ⟨#[]⟩, .string ⟨#[]⟩]), 4, 48) := by kernel_rfl
def zcs (n : Nat) : List Value := (Builtin.zeroCells #[.int .i64 0, .int .i64 0, .string ⟨#[]⟩, .string ⟨#[]⟩] n).toList
theorem zcs_len (n : Nat) : (zcs n).length = n * 4 := by simp [zcs, Builtin.zeroCells]
theorem zcs_one (n : Nat) : ∀ v ∈ zcs n, v.oneCell' = true := by
  intro v hv
  simp [zcs, Builtin.zeroCells] at hv
  obtain ⟨i, hi, rfl⟩ := hv
  have := Nat.mod_lt i (show 0 < 4 by omega)
  generalize i % 4 = j at *
  match j, this with
  | 0, _ => rfl
  | 1, _ => rfl
  | 2, _ => rfl
  | 3, _ => rfl
theorem zeroMv (w : World) : (zeroValue 61).run Try.prog w = .ok (.agg #[.int .i64 0, .int .i64 0, .string ⟨#[]⟩, .string ⟨#[]⟩]) w := by
  obtain ⟨i, hi, hz, _, _⟩ := info_parts infoMove
  simp [zeroValue, typeInfo, hi, hz]
theorem clear_mv (w : World) (ty : TypeId) (b o n c : Nat) (hn : 0 < n) (hc : ∀ j, j < n * 4 → (w.cell? ⟨b, o + j, none⟩).isSome = true) (hf : ∀ j, j < n * 4 → w.frozen? ⟨b, o + j, none⟩ = false) :
    (Builtin.clear_ #[29] ty #[.slice (some ⟨b, o, none⟩) n c]).run Try.prog w = .ok (.tuple #[]) (w.setCells b o (zcs n)) := by
  have hst := run_storeCells_cells (P := Try.prog) b o (zcs n) 0 w (by rw [zcs_len]; simpa using hc) (by rw [zcs_len]; simpa using hf) (zcs_one n)
  simp only [Nat.add_zero] at hst
  obtain ⟨m, rfl⟩ : ∃ m, n = m + 1 := ⟨n - 1, by omega⟩
  have hz : (Value.agg #[.int .i64 0, .int .i64 0, .string ⟨#[]⟩, .string ⟨#[]⟩]).cells = #[.int .i64 0, .int .i64 0, .string ⟨#[]⟩, .string ⟨#[]⟩] := by rfl
  simp [Builtin.clear_, run_underlying Try.underlying29, zeroMv, hz, zcs] at hst ⊢
  simp [hst]

theorem mv_frozen {w : World} {base g cap n : Nat} {vs : List Value} (h : w.ownsRow base 61 4 (.slice (some ⟨g, 0, none⟩) n cap) n vs) : ∀ o, w.frozen? ⟨g, o, none⟩ = false := by
  obtain ⟨h1, h2⟩ := h
  rcases h2 with ⟨h2, _⟩ | ⟨g', cap', cur, h2, hb, hg, hnc, hcm, hcs, ht⟩
  · cases h2
  · cases h2; exact (row_cells hg).2
theorem mv_cap {w : World} {base g cap n : Nat} {vs : List Value} (h : w.ownsRow base 61 4 (.slice (some ⟨g, 0, none⟩) n cap) n vs) : n ≤ cap ∧ cap ≤ 9223372036854775807 := by
  obtain ⟨h1, h2⟩ := h
  rcases h2 with ⟨h2, _⟩ | ⟨g', cap', cur, h2, hb, hg, hnc, hcm, hcs, ht⟩
  · cases h2
  · cases h2; unfold maxLen at hcm; omega
theorem set_ok {l : List Mv} (h : ∀ x ∈ l, x.ok) {y : Mv} (hy : y.ok) (k : Nat) : ∀ x ∈ l.set k y, x.ok := by
  intro x hx
  rcases List.mem_or_eq_of_mem_set hx with hx | rfl
  · exact h x hx
  · exact hy

theorem gr_drewN (g : Nat) (w : World) (q : Nat) : Gr g w (w.drewN q) := ⟨rfl, rfl, rfl, Nat.le_refl _, fun _ _ _ => rfl⟩
set_option maxHeartbeats 800000 in
theorem compact_some {w : World} {base g cap n : Nat} {l : List Mv} (h : w.ownsRow base 61 4 (.slice (some ⟨g, 0, none⟩) n cap) n (l.flatMap Mv.c)) (hn : n ≤ 1000) (hl : l.length = n) (hok : ∀ x ∈ l, x.ok) :
    Calls Try.prog 33 #[.slice (some ⟨g, 0, none⟩) n cap] w fun e w' =>
      ∃ (v' : Value) (l' : List Mv), e = .returned v' ∧ l'.length ≤ n ∧ (∀ x ∈ l', x.ok) ∧ w'.ownsRow base 61 4 v' l'.length (l'.flatMap Mv.c) ∧ Gr g w w' := by
  obtain ⟨hcap1, hcap2⟩ := mv_cap h
  have H := Lib.hid h
  go_enter Try.func33, Try.ntmps33
  by_cases h2 : n < 2
  · go_wp2
    go_ret
    exact ⟨_, l, rfl, by omega, hok, by rw [hl]; exact H.out, Gr.of_below (Below.refl _ _)⟩
  go_wp2
  go_loopw [3] (fun i wr => ∃ k : Nat, 1 ≤ k ∧ k ≤ n ∧ i = .int .i64 k ∧ ∃ q, wr = w.drewN q) (fun i _ => n - (intOf i).toNat)
  case atStart => exact ⟨1, by omega, by omega, rfl, 0, rfl⟩
  case round =>
    obtain ⟨k, hk1, hk, rfl, q, rfl⟩ := hrel
    by_cases hlt : k < n
    · obtain ⟨x, hx⟩ : ∃ x, l[k]? = some x := ⟨_, List.getElem?_eq_getElem (by omega)⟩
      obtain ⟨j, rfl⟩ : ∃ j, k = j + 1 := ⟨k - 1, by omega⟩
      obtain ⟨y, hy⟩ : ∃ y, l[j]? = some y := ⟨_, List.getElem?_eq_getElem (by omega)⟩
      obtain ⟨a1, a2, a3, a4⟩ := mv_at h hx
      obtain ⟨b1, b2, b3, b4⟩ := mv_at h hy
      have ix : (0 : Int) ≤ (j : Int) + 1 ∧ (j : Int) + 1 < (n : Int) := ⟨by omega, by omega⟩
      have iy : (0 : Int) ≤ (j : Int) ∧ (j : Int) < (n : Int) := ⟨by omega, by omega⟩
      have ez : ((j : Int) + 1).toNat = j + 1 := by omega
      have ew : IntKind.i64.wrap (j : Int) = (j : Int) := by rw [IntKind.wrap_i64]; omega
      have hcj : ¬ cap = j + 1 := by omega
      have heq := fun w => eqMv w x y
      generalize mvEq x y = r at heq
      clear h
      go_wp2
      go_quiet (fail)
      clear a1 a2 a3 a4 b1 b2 b3 b4 ix iy ew heq
      cases r
      · go_wp2
        go_roundw
        case rel => exact ⟨j + 2, by omega, by omega, by go_num, _, rfl⟩
        case measure => simp [intOf]; omega
      · go_wp2
        go_loopw [3, 5] (fun i i2 wr => ∃ (k k2 : Nat) (m : List Mv), i = .int .i64 k ∧ i2 = .int .i64 k2 ∧ j + 1 ≤ k ∧ k + 1 ≤ j + 1 + k2 ∧ j + 1 + k2 ≤ n ∧ m.length = n ∧ (∀ y ∈ m, y.ok) ∧ wr.ownsRow base 61 4 (.slice (some ⟨g, 0, none⟩) n cap) n (m.flatMap Mv.c) ∧ Gr g w wr) (fun _ i _ => n - (j + 1) - (intOf i).toNat)
        case atStart => exact ⟨j + 1, 1, l, rfl, rfl, by omega, by omega, by omega, hl, hok, H.out, ⟨rfl, rfl, rfl, Nat.le_refl _, fun _ _ _ => rfl⟩⟩
        case round =>
          clear hx hy ez hcj
          obtain ⟨k, k2, m, rfl, rfl, hk1, hk2, hk3, hm, hmok, hown, hgr⟩ := hrel
          by_cases hlt2 : j + 1 + k2 < n
          · obtain ⟨i, rfl⟩ : ∃ i, k2 = i + 1 := ⟨k2 - 1, by omega⟩
            obtain ⟨x, hx⟩ : ∃ x, m[j + 1 + (i + 1)]? = some x := ⟨_, List.getElem?_eq_getElem (by omega)⟩
            obtain ⟨y, hy⟩ : ∃ y, m[j + 1 + i]? = some y := ⟨_, List.getElem?_eq_getElem (by omega)⟩
            obtain ⟨z, hz⟩ : ∃ z, m[k]? = some z := ⟨_, List.getElem?_eq_getElem (by omega)⟩
            obtain ⟨a1, a2, a3, a4⟩ := mv_at hown hx
            obtain ⟨b1, b2, b3, b4⟩ := mv_at hown hy
            obtain ⟨c1, c2, c3, c4⟩ := mv_at hown hz
            have hfr := mv_frozen hown
            have ea : (j + 1 + (i + 1)) * 4 = (j + 1) * 4 + (i + 1) * 4 := by omega
            have eb : (j + 1 + i) * 4 = (j + 1) * 4 + i * 4 := by omega
            rw [ea] at a1 a2 a3 a4
            rw [eb] at b1 b2 b3 b4
            have ix : (0 : Int) ≤ (i : Int) + 1 ∧ (i : Int) + 1 < ((n - (j + 1) : Nat) : Int) := ⟨by omega, by omega⟩
            have iy : (0 : Int) ≤ (i : Int) ∧ (i : Int) < ((n - (j + 1) : Nat) : Int) := ⟨by omega, by omega⟩
            have iz : (0 : Int) ≤ (k : Int) ∧ (k : Int) < (n : Int) := ⟨by omega, by omega⟩
            have ez : ((i : Int) + 1).toNat = i + 1 := by omega
            have ew : IntKind.i64.wrap (i : Int) = (i : Int) := by rw [IntKind.wrap_i64]; omega
            have heq := fun w => neMv w x y
            generalize hr : mvEq x y = r at heq
            have OWN := Lib.hid hown
            clear hown ea eb
            go_wp2
            go_quiet (fail)
            clear b1 b2 b3 b4 ix iy ew heq
            cases r
            · go_wp2
              go_roundw
              case rel => exact ⟨k + 1, i + 2, m.set k x, by go_num, by go_num, by omega, by omega, by omega, by simpa using hm, set_ok hmok (hmok x (List.mem_of_getElem? hx)) k, own_setCells (w := wr.drewN nq) Mv.c_len (by decide) OWN.out (by omega) x, hgr.trans (Gr.trans (gr_drewN _ _ _) (gr_setCells (w := wr.drewN nq) g (k * 4) x.c))⟩
              case measure => simp [intOf]; omega
            · go_wp2
              go_roundw
              case rel => exact ⟨k, i + 2, m, rfl, by go_num, by omega, by omega, by omega, hm, hmok, OWN.out, hgr.trans (gr_drewN _ _ _)⟩
              case measure => simp [intOf]; omega
          · have hkn : j + 1 + k2 = n := by omega
            have hck : ¬ cap = k := by omega
            have ik : (0 : Int) ≤ (k : Int) ∧ (k : Int) ≤ (n : Int) := ⟨by omega, by omega⟩
            have ha := hown.cells (g := g) rfl
            have hfr := mv_frozen hown
            have hcl : ∀ ty, (Builtin.clear_ #[29] ty #[.slice (some ⟨g, k * 4, none⟩) (n - k) (cap - k)]).run Try.prog wr = .ok (.tuple #[]) (wr.setCells g (k * 4) (zcs (n - k))) := fun ty =>
              clear_mv wr ty g (k * 4) (n - k) (cap - k) (by omega) (fun t ht => by
                have hlt : k * 4 + t < (m.flatMap Mv.c).length := by rw [flat_len Mv.c_len, hm]; omega
                have := ha (k * 4 + t) _ (List.getElem?_eq_getElem hlt)
                rw [add_off, Nat.zero_add] at this
                rw [this]; rfl) (fun t _ => hfr _)
            have OWN := Lib.hid hown
            clear hown ha hfr
            go_wp2
            go_ret
            have hlk : (m.take k).length = k := by rw [List.length_take, hm]; omega
            refine ⟨_, m.take k, rfl, by omega, fun x hx => hmok x (List.mem_of_mem_take hx), ?_, hgr.trans (gr_setCells _ _ _)⟩
            rw [hlk, ← flat_take Mv.c_len]
            exact own_prefix OWN.out (by omega) _
    · have hkn : k = n := by omega
      subst hkn
      clear h
      go_wp2
      go_ret
      exact ⟨_, l, rfl, by omega, hok, by rw [hl]; exact H.out, ⟨rfl, rfl, rfl, Nat.le_refl _, fun _ _ _ => rfl⟩⟩
theorem compact_none (w : World) : Calls Try.prog 33 #[.slice none 0 0] w fun e w' => e = .returned (.slice none 0 0) ∧ w' = w := by
  go_enter Try.func33, Try.ntmps33
  go_wp2
  go_ret
  exact ⟨rfl, rfl⟩

/-- What Compact leaves of moves: moves, not more of them, in the same block. -/
theorem compactMv_any {w : World} {base : Nat} {v : Value} {l : List Mv} (h : w.ownsRow base 61 4 v l.length (l.flatMap Mv.c)) (hn : l.length ≤ 1000) (hok : ∀ x ∈ l, x.ok) :
    Calls Try.prog 33 #[v] w fun e w' =>
      ∃ (v' : Value) (l' : List Mv), e = .returned v' ∧ l'.length ≤ l.length ∧ (∀ x ∈ l', x.ok) ∧ w'.ownsRow base 61 4 v' l'.length (l'.flatMap Mv.c) ∧ w.grownBy w' v.ownBlock := by
  rcases h.2 with ⟨rfl, h0⟩ | ⟨g, cap, cur, rfl, _⟩
  · have hl : l = [] := List.eq_nil_of_length_eq_zero h0
    subst hl
    refine (compact_none w).mono ?_
    rintro e w' ⟨rfl, rfl⟩
    exact ⟨_, [], rfl, Nat.le_refl _, by simp, World.ownsRow_nil _ _ _ _, ⟨rfl, rfl, rfl, Nat.le_refl _, fun _ _ _ => rfl⟩⟩
  · exact compact_some h hn rfl hok
end Go.Proofs.Ytfmffobdkfgekaa
