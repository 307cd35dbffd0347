/- Why a move is refused: (*book).why. -/
import Derived.Test.YtfmffobdkfgekaaBook
set_option linter.unusedVariables false
set_option linter.unusedSimpArgs false
namespace Go.Proofs.Ytfmffobdkfgekaa
open Go.RowKit Go.Maps

def weekOf (t : Int) : Int := t.tdiv 604800000
theorem weekOf_range {t : Int} (h : small t) : -9223372036854775808 ≤ weekOf t ∧ weekOf t ≤ 9223372036854775807 := by
  obtain ⟨h1, h2⟩ := h
  unfold weekOf
  rcases Int.le_total 0 t with h | h
  · rw [Int.tdiv_eq_ediv_of_nonneg h]; omega
  · have : t.tdiv 604800000 = - ((-t).tdiv 604800000) := by rw [Int.neg_tdiv, Int.neg_neg]
    rw [this, Int.tdiv_eq_ediv_of_nonneg (by omega)]; omega
def hasS (l : List ByteArray) (s : ByteArray) : Bool := l.any fun x => eqS x s
def whyB (K : Book) (x : Mv) : Int :=
  if x.kind = 1 then
    if eqS (K.owner x.player) x.team then 6 else if !eqS (K.owner x.player) noStr then 13 else if heldB K x.player x.time then 11
    else if K.b.adds ≤ K.adds (x.team, weekOf x.time) then 16 else if K.b.most ≤ (K.players x.team).length then 12 else 0
  else if x.kind = 2 then if !eqS (K.owner x.player) x.team then 8 else 0
  else if x.kind = 3 then if !hasS (K.players x.team) x.player then 8 else if K.b.hurt ≤ (K.hurt x.team).length then 12 else 0
  else if x.kind = 4 then if !hasS (K.hurt x.team) x.player then 8 else if K.b.most ≤ (K.players x.team).length then 12 else 0
  else 0

theorem hasS_iff {l : List ByteArray} {s : ByteArray} : hasS l s = true ↔ s ∈ l := by
  unfold hasS
  rw [List.any_eq_true]
  constructor
  · rintro ⟨x, hx, he⟩; rw [eqS_iff] at he; subst he; exact hx
  · intro h; exact ⟨s, h, eqS_iff.2 rfl⟩
theorem contains_spec (l : List ByteArray) (s : ByteArray) : Lib.containsS l s = hasS l s := by
  rw [Bool.eq_iff_iff, Lib.containsS_iff, hasS_iff]
theorem contains_any {lo : Nat} {w : World} {v : Value} {l : List ByteArray} (s : ByteArray) (h : Sl lo w v 1 l.length (l.map Value.string)) (hn : l.length ≤ 1099511627776) :
    Calls Try.prog 81 #[v, .string s] w fun e w' => e = .returned (.bool (hasS l s)) ∧ w = w' := by
  obtain ⟨A, c, rfl, hn2⟩ := h.shape
  rcases Nat.eq_zero_or_pos l.length with h0 | h0
  · obtain rfl : l = [] := List.eq_nil_of_length_eq_zero h0
    refine (Try.slices_Contains_string_empty A c s w).mono ?_
    rintro e w' ⟨rfl, rfl⟩
    exact ⟨rfl, rfl⟩
  · obtain ⟨x, hx⟩ : ∃ x, l[0]? = some x := ⟨_, List.getElem?_eq_getElem h0⟩
    obtain ⟨b, o, rfl, _, _, _⟩ := str_at h hx
    refine (Try.slices_Contains_string b o l.length c l s w (Nat.le_refl _) (by omega) fun j hj => ?_).mono ?_
    · obtain ⟨y, hy⟩ : ∃ y, l[j]? = some y := ⟨_, List.getElem?_eq_getElem hj⟩
      obtain ⟨b', o', hbo, _, _, hc⟩ := str_at h hy
      cases hbo
      rw [List.getD_eq_getElem?_getD, hy]
      exact hc
    · rintro e w' ⟨rfl, rfl⟩
      rw [List.take_length, contains_spec]
      exact ⟨rfl, rfl⟩
set_option maxHeartbeats 400000 in
set_option maxRecDepth 20000 in
theorem why_any {lo : Nat} {w : World} {kb bp bh bo bd ba : Nat} {K : Book} (h : BookIn lo w kb bp bh bo bd ba K) (hok : K.b.ok) (x : Mv) (hx : x.ok) (hdr : ∀ p m, K.dropped p = some m → small m) (had : ∀ k, 0 ≤ K.adds k ∧ K.adds k ≤ 100000) :
    Calls Try.prog 75 #[.pointer (some ⟨kb, 0, none⟩), .agg x.c.toArray] w fun e w' => e = .returned (.int .i64 (whyB K x)) ∧ Below w.heap.size w w' := by
  obtain ⟨xt, xk, xa, xp⟩ := x
  have hW := (Below.refl w.heap.size w).alloc (Nat.le_refl _) (.cells #[.int .i64 xt, .int .i64 xk, .string xa, .string xp] 61)
  have hxb := heap_alloc_new w (.cells #[.int .i64 xt, .int .i64 xk, .string xa, .string xp] 61)
  have h' := h.below hW
  dsimp only [Mv.c]
  go_enter Try.func75, Try.ntmps75
  go_wp2
  generalize w.alloc (.cells #[.int .i64 xt, .int .i64 xk, .string xa, .string xp] 61) = W at *
  obtain ⟨P, p1, p2, p3⟩ := h'.pl
  obtain ⟨H, q1, q2⟩ := h'.hu
  obtain ⟨O, o1, o2⟩ := h'.ow
  obtain ⟨M, m1, m2⟩ := h'.ad
  obtain ⟨A1, c1, e1, hn1⟩ := (p2 xa).shape
  obtain ⟨A2, c2, e2, hn2⟩ := (q2 xa).shape
  have S1 := Lib.hid (p2 xa)
  have S2 := Lib.hid (q2 xa)
  rw [e1] at S1
  rw [e2] at S2
  have l1 : ∀ q, (Instr.lookup 70 (.map (some bo)) (.string xp) false).run Try.prog (W.drewN q) = .ok (.string (K.owner xp)) (W.drewN q) := fun q => by rw [← o2 xp]; exact lookStr (w := W.drewN q) (x := xp) o1 hx.player
  have l2 : ∀ q, (Instr.lookup 69 (.map (some bp)) (.string xa) false).run Try.prog (W.drewN q) = .ok (.slice A1 (K.players xa).length c1) (W.drewN q) := fun q => by rw [← e1]; exact lookList (w := W.drewN q) (x := xa) p1 hx.team
  have l3 : ∀ q, (Instr.lookup 69 (.map (some bh)) (.string xa) false).run Try.prog (W.drewN q) = .ok (.slice A2 (K.hurt xa).length c2) (W.drewN q) := fun q => by rw [← e2]; exact lookList (w := W.drewN q) (x := xa) q1 hx.team
  have hwk : IntKind.i64.wrap (xt.tdiv 604800000) = xt.tdiv 604800000 := by have := weekOf_range hx.time; unfold weekOf at this; generalize xt.tdiv 604800000 = d at this ⊢; rw [IntKind.wrap_i64]; omega
  obtain ⟨ka, hka⟩ : ∃ ka, K.adds (xa, weekOf xt) = ka := ⟨_, rfl⟩
  have l4 : ∀ q, (Instr.lookup 72 (.map (some ba)) (.agg #[.string xa, .int .i64 (xt.tdiv 604800000)]) false).run Try.prog (W.drewN q) = .ok (.int .i64 ka) (W.drewN q) := fun q => by rw [← hka, ← m2]; exact lookWeek (w := W.drewN q) m1 hx.team (weekOf_range hx.time).1 (weekOf_range hx.time).2
  clear p1 p2 p3 q1 q2 o1 o2 m1 m2 e1 e2
  obtain ⟨hc, hf⟩ := row_cells h'.row
  obtain ⟨hcx, hfx⟩ := row_cells hxb
  have HX := Lib.hid hx
  have HW := Lib.hid hW
  have HB := Lib.hid h'
  clear hx hW h' hxb hf hfx
  generalize hn1e : (K.players xa).length = n1 at *
  generalize hn2e : (K.hurt xa).length = n2 at *
  generalize hoe : K.owner xp = ow at *
  go_quiet (fail)
  have et : (eqS ow xa) = (ow.toList == xa.toList) := rfl
  have ez : (eqS ow noStr) = ow.toList.isEmpty := by unfold eqS noStr; rw [toList_data, toList_data]; cases ow.data.toList <;> rfl
  by_cases k1 : xk = 1
  · subst k1
    cases a1 : eqS ow xa with
    | true =>
      have b1 := et.symm.trans a1
      have HV := Lib.hid (show (6 : Int) = whyB K ⟨xt, 1, xa, xp⟩ by simp [whyB, hoe, a1])
      go_wp2
      go_ret
      exact ⟨congrArg (fun b => Ending.returned (.int .i64 b)) HV.out, by first | exact below_drewN HW.out _ | exact below_drewN (below_drewN HW.out _) _⟩
    | false =>
    have b1 := et.symm.trans a1
    cases a2 : eqS ow noStr with
    | false =>
      have b2 := ez.symm.trans a2
      have HV := Lib.hid (show (13 : Int) = whyB K ⟨xt, 1, xa, xp⟩ by simp [whyB, hoe, a1, a2])
      go_wp2
      go_ret
      exact ⟨congrArg (fun b => Ending.returned (.int .i64 b)) HV.out, by first | exact below_drewN HW.out _ | exact below_drewN (below_drewN HW.out _) _⟩
    | true =>
    have b2 := ez.symm.trans a2
    go_wp2_with fail
    refine (held_any (HB.out.below (below_drewN (Below.refl _ W) _)) hok xp xt HX.out.player HX.out.time (hdr xp)).mono ?_
    rintro e w' ⟨rfl, rfl⟩
    cases a3 : heldB K xp xt with
    | true =>
      have HV := Lib.hid (show (11 : Int) = whyB K ⟨xt, 1, xa, xp⟩ by simp [whyB, hoe, a1, a2, a3])
      go_wp2
      go_ret
      exact ⟨congrArg (fun b => Ending.returned (.int .i64 b)) HV.out, by first | exact below_drewN HW.out _ | exact below_drewN (below_drewN HW.out _) _⟩
    | false =>
    go_wp2
    go_quiet (fail)
    by_cases a4 : K.b.adds ≤ ka
    · have HV := Lib.hid (show (16 : Int) = whyB K ⟨xt, 1, xa, xp⟩ by simp [whyB, hn1e, hn2e, hoe, hka, a1, a2, a3, a4])
      go_wp2
      go_ret
      exact ⟨congrArg (fun n => Ending.returned (.int .i64 n)) HV.out, by first | exact below_drewN HW.out _ | exact below_drewN (below_drewN HW.out _) _⟩
    · by_cases a5 : K.b.most ≤ (n1 : Int)
      · have HV := Lib.hid (show (12 : Int) = whyB K ⟨xt, 1, xa, xp⟩ by simp [whyB, hn1e, hn2e, hoe, hka, a1, a2, a3, a4, a5])
        go_wp2
        go_ret
        exact ⟨congrArg (fun n => Ending.returned (.int .i64 n)) HV.out, by first | exact below_drewN HW.out _ | exact below_drewN (below_drewN HW.out _) _⟩
      · have HV := Lib.hid (show (0 : Int) = whyB K ⟨xt, 1, xa, xp⟩ by simp [whyB, hn1e, hn2e, hoe, hka, a1, a2, a3, a4, a5])
        go_wp2
        go_ret
        exact ⟨congrArg (fun n => Ending.returned (.int .i64 n)) HV.out, by first | exact below_drewN HW.out _ | exact below_drewN (below_drewN HW.out _) _⟩
  by_cases k2 : xk = 2
  · subst k2
    clear k1
    cases a1 : eqS ow xa with
    | true =>
      have b1 := et.symm.trans a1
      have HV := Lib.hid (show (0 : Int) = whyB K ⟨xt, 2, xa, xp⟩ by simp [whyB, hn1e, hn2e, hoe, a1])
      go_wp2
      go_ret
      exact ⟨congrArg (fun n => Ending.returned (.int .i64 n)) HV.out, by first | exact below_drewN HW.out _ | exact below_drewN (below_drewN HW.out _) _⟩
    | false =>
      have b1 := et.symm.trans a1
      have HV := Lib.hid (show (8 : Int) = whyB K ⟨xt, 2, xa, xp⟩ by simp [whyB, hn1e, hn2e, hoe, a1])
      go_wp2
      go_ret
      exact ⟨congrArg (fun n => Ending.returned (.int .i64 n)) HV.out, by first | exact below_drewN HW.out _ | exact below_drewN (below_drewN HW.out _) _⟩
  by_cases k3 : xk = 3
  · subst k3
    clear k1 k2
    go_wp2_with fail
    refine (contains_any (w := W.drewN nq) (lo := lo) xp (by rw [hn1e]; exact S1.out) (by omega)).mono ?_
    rintro e w' ⟨rfl, rfl⟩
    cases a1 : hasS (K.players xa) xp with
    | false =>
      have HV := Lib.hid (show (8 : Int) = whyB K ⟨xt, 3, xa, xp⟩ by simp [whyB, hn1e, hn2e, hoe, a1])
      go_wp2
      go_ret
      exact ⟨congrArg (fun n => Ending.returned (.int .i64 n)) HV.out, by first | exact below_drewN HW.out _ | exact below_drewN (below_drewN HW.out _) _⟩
    | true =>
    by_cases a2 : K.b.hurt ≤ (n2 : Int)
    · have HV := Lib.hid (show (12 : Int) = whyB K ⟨xt, 3, xa, xp⟩ by simp [whyB, hn1e, hn2e, hoe, a1, a2])
      go_wp2
      go_ret
      exact ⟨congrArg (fun n => Ending.returned (.int .i64 n)) HV.out, by first | exact below_drewN HW.out _ | exact below_drewN (below_drewN HW.out _) _⟩
    · have HV := Lib.hid (show (0 : Int) = whyB K ⟨xt, 3, xa, xp⟩ by simp [whyB, hn1e, hn2e, hoe, a1, a2])
      go_wp2
      go_ret
      exact ⟨congrArg (fun n => Ending.returned (.int .i64 n)) HV.out, by first | exact below_drewN HW.out _ | exact below_drewN (below_drewN HW.out _) _⟩
  by_cases k4 : xk = 4
  · subst k4
    clear k1 k2 k3
    go_wp2_with fail
    refine (contains_any (w := W.drewN nq) (lo := lo) xp (by rw [hn2e]; exact S2.out) (by omega)).mono ?_
    rintro e w' ⟨rfl, rfl⟩
    cases a1 : hasS (K.hurt xa) xp with
    | false =>
      have HV := Lib.hid (show (8 : Int) = whyB K ⟨xt, 4, xa, xp⟩ by simp [whyB, hn1e, hn2e, hoe, a1])
      go_wp2
      go_ret
      exact ⟨congrArg (fun n => Ending.returned (.int .i64 n)) HV.out, by first | exact below_drewN HW.out _ | exact below_drewN (below_drewN HW.out _) _⟩
    | true =>
    by_cases a2 : K.b.most ≤ (n1 : Int)
    · have HV := Lib.hid (show (12 : Int) = whyB K ⟨xt, 4, xa, xp⟩ by simp [whyB, hn1e, hn2e, hoe, a1, a2])
      go_wp2
      go_ret
      exact ⟨congrArg (fun n => Ending.returned (.int .i64 n)) HV.out, by first | exact below_drewN HW.out _ | exact below_drewN (below_drewN HW.out _) _⟩
    · have HV := Lib.hid (show (0 : Int) = whyB K ⟨xt, 4, xa, xp⟩ by simp [whyB, hn1e, hn2e, hoe, a1, a2])
      go_wp2
      go_ret
      exact ⟨congrArg (fun n => Ending.returned (.int .i64 n)) HV.out, by first | exact below_drewN HW.out _ | exact below_drewN (below_drewN HW.out _) _⟩
  · have HV := Lib.hid (show (0 : Int) = whyB K ⟨xt, xk, xa, xp⟩ by simp [whyB, hn1e, hn2e, hoe, k1, k2, k3, k4])
    go_wp2
    go_ret
    exact ⟨congrArg (fun n => Ending.returned (.int .i64 n)) HV.out, by first | exact below_drewN HW.out _ | exact below_drewN (below_drewN HW.out _) _⟩
end Go.Proofs.Ytfmffobdkfgekaa
