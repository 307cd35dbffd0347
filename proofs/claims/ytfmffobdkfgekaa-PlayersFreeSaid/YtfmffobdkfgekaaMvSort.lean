/- Moves in order: what orders them; the library's stable sort of at most 20 of them; what Compact leaves of them. -/
import Derived.Test.YtfmffobdkfgekaaGen
import Derived.Test.YtfmffobdkfgekaaSortBase
import Derived.Test.YtfmffobdkfgekaaShelf
set_option linter.unusedVariables false
set_option linter.unusedSimpArgs false
namespace Go.Proofs.Ytfmffobdkfgekaa
open Go.RowKit Go.Sort Go.Proofs

/-- The order of strings, as a number. -/
def cmpS (a b : ByteArray) : Int := Lib.compareBytes a.data.toList b.data.toList
theorem strCompare_any (a b : ByteArray) (w : World) : Calls Try.prog 53 #[.string a, .string b] w fun e w' => e = .returned (.int .i64 (cmpS a b)) ∧ w = w' :=
  (Try.strings_Compare a b w).mono fun _ _ ⟨h, hw⟩ => ⟨h, hw.symm⟩

def moveOrd (x y : Mv) : Int := if x.time ≠ y.time then sgn (x.time - y.time) else if x.team.toList ≠ y.team.toList then cmpS x.team y.team else if x.player.toList ≠ y.player.toList then cmpS x.player y.player else sgn (x.kind - y.kind)

set_option maxHeartbeats 400000 in
theorem moveOrder_any (x y : Mv) (w : World) (hx : small x.time) (hy : small y.time) (hx2 : small x.kind) (hy2 : small y.kind) :
    Calls Try.prog 32 #[.agg x.c.toArray, .agg y.c.toArray] w fun e w' => e = .returned (.int .i64 (moveOrd x y)) ∧ w' = (w.alloc (.cells x.c.toArray 61)).alloc (.cells y.c.toArray 61) := by
  obtain ⟨h1, h2⟩ := hx
  obtain ⟨h3, h4⟩ := hy
  obtain ⟨h5, h6⟩ := hx2
  obtain ⟨h7, h8⟩ := hy2
  obtain ⟨xt, xk, xa, xp⟩ := x
  obtain ⟨yt, yk, ya, yp⟩ := y
  dsimp only [Mv.c] at *
  go_enter Try.func32, Try.ntmps32
  go_wp2_with (first | (go_at_call 53; refine (strCompare_any _ _ _).mono ?_; rintro e w' ⟨rfl, rfl⟩) | (go_at_call 52; refine (sign_any _ _).mono ?_; rintro e w' ⟨rfl, rfl⟩))
  all_goals go_ret
  all_goals refine ⟨congrArg (fun n => Ending.returned (.int .i64 n)) ?_, rfl⟩
  all_goals (unfold moveOrd; dsimp only; simp_all)

abbrev SMv := { m : Mv // small m.time ∧ small m.kind }
instance : Inhabited SMv := ⟨⟨⟨0, 0, ⟨#[]⟩, ⟨#[]⟩⟩, ⟨by dsimp only; omega, by dsimp only; omega⟩, ⟨by dsimp only; omega, by dsimp only; omega⟩⟩⟩
def encMv (m : SMv) : List Value := m.1.c
theorem encMv_len (m : SMv) : (encMv m).length = 4 := rfl
theorem encMv_one (m : SMv) : ∀ v ∈ encMv m, v.oneCell' = true := fun v hv => by
  simp [encMv, Mv.c] at hv
  rcases hv with rfl | rfl | rfl | rfl <;> rfl
def ordMv (x y : SMv) : Int := moveOrd x.1 y.1
theorem entersMoveOrder : ∀ args w, (callFunc 32 args).run Try.prog w = .ok (.enter 32 args) w := enters_of Try.func32 (by kernel_rfl) rfl
theorem cmpMv (blk off size : Nat) (w : World) : CmpLays Try.prog 32 #[] encMv 4 ordMv blk off size w := by
  intro m os dk hs x y
  refine (moveOrder_any x.1 y.1 _ x.2.1 y.2.1 x.2.2 y.2.2).mono ?_
  rintro e w' ⟨he, rfl⟩
  exact ⟨he, 0, #[_, _], by rw [alloc_eq_grow, alloc_eq_grow, grow_grow]; rfl⟩

theorem insMv_any (g cap a b : Nat) (d : Array SMv) (w : World) (hH : HoldsK encMv 4 w g 0 d) (hg : g < w.heap.size) (hab : a ≤ b) (hb : b ≤ d.size) (hsz : d.size ≤ 1000000) :
    Calls Try.prog 64 #[.slice (some ⟨g, 0, none⟩) d.size cap, .int .i64 a, .int .i64 b, .func (.func 32) #[] #[]] w fun e w' =>
      e = .returned (.tuple #[]) ∧ ∃ n os, w' = sortWorldK encMv 4 w g 0 n (Sort.insertionSort (ltOf ordMv) d a b) os :=
  AnyQ.insertionSortCmpFunc Try.insMv 4 Try.isAgg61 Try.sizeOf61 encMv encMv_len encMv_one ordMv 32 #[] g 0 cap a b d w entersMoveOrder (cmpMv g 0 d.size w) hH hg hab hb (by omega)

theorem insMv_none (v f : Value) (w : World) : Calls Try.prog 64 #[v, .int .i64 0, .int .i64 0, f] w fun e w' => e = .returned (.tuple #[]) ∧ w' = w := by
  go_enter Try.func64, Try.ntmps64
  go_wp2
  go_loop [8] (fun i => i = .int .i64 1) (fun _ => 0)
  case atStart => rfl
  case round =>
    subst hrel
    go_wp2
    go_end0
    exact ⟨rfl, rfl⟩
theorem stableMv_none (v f : Value) (w : World) : Calls Try.prog 51 #[v, .int .i64 0, f] w fun e w' => e = .returned (.tuple #[]) ∧ w' = w := by
  go_enter Try.func51, Try.ntmps51
  go_wp2
  go_loop [7, 8] (fun i j => i = .int .i64 0 ∧ j = .int .i64 20) (fun _ _ => 0)
  case atStart => exact ⟨rfl, rfl⟩
  case round =>
    obtain ⟨rfl, rfl⟩ := hrel
    go_wp2_with (go_at_call 64; refine (insMv_none _ _ _).mono ?_; rintro e w' ⟨rfl, rfl⟩)
    go_loop [6] (fun i => i = .int .i64 20) (fun _ => 0)
    case atStart => rfl
    case round =>
      subst hrel
      go_wp2
      go_end0
      exact ⟨rfl, rfl⟩

theorem ins_same (d : Array SMv) (a : Nat) : Sort.insertionSort (ltOf ordMv) d a a = d := by
  unfold Sort.insertionSort
  rw [insOuter, if_neg (by omega)]

theorem insInner_size (d : Array SMv) (a j : Nat) : (insInner (ltOf ordMv) a j d).size = d.size := by
  induction j generalizing d with
  | zero => unfold insInner; rfl
  | succ j ih =>
    unfold insInner
    split
    · rw [ih, swp_size]
    · rfl
theorem insOuter_size (a b : Nat) : ∀ (n i : Nat) (d : Array SMv), b - i = n → (insOuter (ltOf ordMv) a b i d).size = d.size
  | 0, i, d, h => by rw [insOuter, if_neg (by omega)]
  | n + 1, i, d, h => by rw [insOuter, if_pos (by omega), insOuter_size a b n (i + 1) _ (by omega), insInner_size]
theorem insSort_size (d : Array SMv) (a b : Nat) : (Sort.insertionSort (ltOf ordMv) d a b).size = d.size := insOuter_size a b _ _ d rfl
theorem ins_own {w : World} {base g cap a b : Nat} {d : Array SMv} (hown : w.ownsRow base 61 4 (.slice (some ⟨g, 0, none⟩) d.size cap) d.size (d.toList.flatMap encMv)) (hab : a ≤ b) (hb : b ≤ d.size) (hsz : d.size ≤ 1000000) :
    Calls Try.prog 64 #[.slice (some ⟨g, 0, none⟩) d.size cap, .int .i64 a, .int .i64 b, .func (.func 32) #[] #[]] w fun e w' =>
      e = .returned (.tuple #[]) ∧ w'.ownsRow base 61 4 (.slice (some ⟨g, 0, none⟩) d.size cap) d.size ((Sort.insertionSort (ltOf ordMv) d a b).toList.flatMap encMv) ∧ Gr g w w' ∧ (Sort.insertionSort (ltOf ordMv) d a b).size = d.size := by
  obtain ⟨hH, hg⟩ := holdsK_of_own encMv_len hown
  refine (insMv_any g cap a b d w hH hg hab hb hsz).mono ?_
  rintro e w' ⟨he, n, os, rfl⟩
  have hs : (Sort.insertionSort (ltOf ordMv) d a b).size = d.size := insSort_size _ _ _
  obtain ⟨h1, h2⟩ := own_sortWorldK encMv_len hs n os hown
  exact ⟨he, h1, h2, hs⟩

set_option maxHeartbeats 400000 in
theorem stableMv_some {w : World} {base g cap : Nat} {d : Array SMv} (hown : w.ownsRow base 61 4 (.slice (some ⟨g, 0, none⟩) d.size cap) d.size (d.toList.flatMap encMv)) (hd : d.size ≤ 20) :
    Calls Try.prog 51 #[.slice (some ⟨g, 0, none⟩) d.size cap, .int .i64 d.size, .func (.func 32) #[] #[]] w fun e w' =>
      e = .returned (.tuple #[]) ∧ w'.ownsRow base 61 4 (.slice (some ⟨g, 0, none⟩) d.size cap) d.size ((Sort.insertionSort (ltOf ordMv) d 0 d.size).toList.flatMap encMv) ∧ Gr g w w' := by
  generalize hn : d.size = n at hd
  have HN := Lib.hid hn
  rw [hn] at hown
  clear hn
  go_enter Try.func51, Try.ntmps51
  go_wp2
  go_loopw [7, 8] (fun i j wr => ∃ dk : Array SMv, ((i = .int .i64 0 ∧ j = .int .i64 20 ∧ dk = d) ∨ (i = .int .i64 20 ∧ j = .int .i64 40 ∧ dk = Sort.insertionSort (ltOf ordMv) d 0 20 ∧ n = 20)) ∧ Hid (dk.size = n) ∧ wr.ownsRow base 61 4 (.slice (some ⟨g, 0, none⟩) n cap) n (dk.toList.flatMap encMv) ∧ Gr g w wr) (fun i _ _ => 20 - (intOf i).toNat)
  case atStart => exact ⟨d, .inl ⟨rfl, rfl, rfl⟩, HN, hown, Gr.refl _ _⟩
  case round =>
    obtain ⟨dk, hij, hs, how, hgr⟩ := hrel
    have call : ∀ a b : Nat, a ≤ b → b ≤ n → Calls Try.prog 64 #[.slice (some ⟨g, 0, none⟩) n cap, .int .i64 a, .int .i64 b, .func (.func 32) #[] #[]] wr fun e w' =>
      e = .returned (.tuple #[]) ∧ w'.ownsRow base 61 4 (.slice (some ⟨g, 0, none⟩) n cap) n ((Sort.insertionSort (ltOf ordMv) dk a b).toList.flatMap encMv) ∧ Gr g wr w' ∧ (Sort.insertionSort (ltOf ordMv) dk a b).size = n := fun a b hab hb => by
      have := hs.out
      subst this
      exact ins_own how hab hb (by omega)
    have CALL := Lib.hid call
    clear call
    rcases hij with ⟨rfl, rfl, rfl⟩ | ⟨rfl, rfl, hdk, hn20⟩
    · by_cases h20 : n = 20
      · have hge : 20 ≤ n := by omega
        have HN20 := Lib.hid h20
        clear h20
        go_wp2_with fail
        refine (CALL.out 0 20 (by omega) (by omega)).mono ?_
        rintro e w' ⟨rfl, h1, h2, h3⟩
        have H3 := Lib.hid h3
        clear h3
        go_wp2
        go_roundw
        case rel => exact ⟨_, .inr ⟨rfl, rfl, rfl, HN20.out⟩, H3, h1, hgr.trans h2⟩
        case measure => simp [intOf]
      · have h20' : n < 20 := by omega
        go_wp2_with fail
        refine (CALL.out 0 n (by omega) (by omega)).mono ?_
        rintro e w' ⟨rfl, h1, h2, h3⟩
        have H3 := Lib.hid h3
        clear h3
        go_wp2
        go_loop [6] (fun i => i = .int .i64 20) (fun _ => 0)
        case atStart => rfl
        case round =>
          subst hrel
          go_wp2
          go_end0
          exact ⟨rfl, h1, hgr.trans h2⟩
    · have hge : 20 ≤ n := by omega
      have HN20 := Lib.hid hn20
      have HD := Lib.hid hdk
      clear hdk hn20
      go_wp2_with fail
      refine (CALL.out 20 n hge (Nat.le_refl _)).mono ?_
      rintro e w' ⟨rfl, h1, h2, h3⟩
      have H3 := Lib.hid h3
      clear h3
      go_wp2
      go_loop [6] (fun i => i = .int .i64 20) (fun _ => 0)
      case atStart => rfl
      case round =>
        subst hrel
        go_wp2
        go_end0
        rw [show Sort.insertionSort (ltOf ordMv) dk 20 n = dk from by rw [HN20.out, ins_same], HD.out] at h1
        rw [show Sort.insertionSort (ltOf ordMv) d 0 n = Sort.insertionSort (ltOf ordMv) d 0 20 from by rw [HN20.out]]
        exact ⟨rfl, h1, hgr.trans h2⟩

theorem insInner_perm (a j : Nat) : ∀ (d : Array SMv), j < d.size → (insInner (ltOf ordMv) a j d).toList.Perm d.toList := by
  induction j with
  | zero => intro d _; unfold insInner; exact List.Perm.refl _
  | succ j ih =>
    intro d hj
    unfold insInner
    split
    · refine (ih _ (by rw [swp_size]; omega)).trans (permIn_all (swp_permIn d 0 d.size (j + 1) j (by omega) hj (by omega) (by omega) (Nat.le_refl _)))
    · exact List.Perm.refl _
theorem insOuter_perm (a b : Nat) : ∀ (n i : Nat) (d : Array SMv), b - i = n → b ≤ d.size → (insOuter (ltOf ordMv) a b i d).toList.Perm d.toList
  | 0, i, d, h, hb => by rw [insOuter, if_neg (by omega)]
  | n + 1, i, d, h, hb => by
    rw [insOuter, if_pos (by omega)]
    exact (insOuter_perm a b n (i + 1) _ (by omega) (by rw [insInner_size]; exact hb)).trans (insInner_perm a i d (by omega))
theorem insSort_perm (d : Array SMv) (a b : Nat) (hb : b ≤ d.size) : (Sort.insertionSort (ltOf ordMv) d a b).toList.Perm d.toList := insOuter_perm a b _ _ d rfl hb

theorem mv_flat (l : List SMv) : l.flatMap encMv = (l.map (·.1)).flatMap Mv.c := by
  induction l with
  | nil => rfl
  | cons x l ih => simp only [List.flatMap_cons, List.map_cons, ih]; rfl
theorem mv_lift : ∀ l : List Mv, (∀ x ∈ l, x.ok) → ∃ l' : List SMv, l'.map (·.1) = l
  | [], _ => ⟨[], rfl⟩
  | x :: l, h => by
    obtain ⟨l', hl'⟩ := mv_lift l fun y hy => h y (by simp [hy])
    have hx := h x (by simp)
    exact ⟨⟨x, hx.time, hx.kind⟩ :: l', by simp [hl']⟩

/-- The stable sort of at most 20 moves: the same moves, in some order. -/
theorem sortStableMv_any {w : World} {base : Nat} {v : Value} {l : List Mv} (hown : w.ownsRow base 61 4 v l.length (l.flatMap Mv.c)) (hl : ∀ x ∈ l, x.ok) (hn : l.length ≤ 20) :
    Calls Try.prog 31 #[v, .func (.func 32) #[] #[]] w fun e w' =>
      e = .returned (.tuple #[]) ∧ ∃ l' : List Mv, l'.length = l.length ∧ (∀ x ∈ l', x.ok) ∧ w'.ownsRow base 61 4 v l.length (l'.flatMap Mv.c) ∧ w.grownBy w' v.ownBlock := by
  obtain ⟨ls, hls⟩ := mv_lift l hl
  rcases hown.2 with ⟨rfl, h0⟩ | ⟨g, cap, cur, rfl, hrest⟩
  · have hl0 : l = [] := List.eq_nil_of_length_eq_zero h0
    subst hl0
    clear hls
    go_enter Try.func31, Try.ntmps31
    go_wp2_with (go_at_call 51; refine (stableMv_none _ _ _).mono ?_; rintro e w' ⟨rfl, rfl⟩)
    go_end0
    exact ⟨rfl, [], rfl, by simp, hown, ⟨rfl, rfl, rfl, Nat.le_refl _, fun _ _ _ => rfl⟩⟩
  · clear hrest
    have hsz : (⟨ls⟩ : Array SMv).size = l.length := by rw [← hls]; simp
    have hown' : w.ownsRow base 61 4 (.slice (some ⟨g, 0, none⟩) (⟨ls⟩ : Array SMv).size cap) (⟨ls⟩ : Array SMv).size ((⟨ls⟩ : Array SMv).toList.flatMap encMv) := by
      rw [hsz, mv_flat, hls]; exact hown
    have hcon := stableMv_some hown' (by rw [hsz]; exact hn)
    rw [hsz] at hcon
    have HC := Lib.hid hcon
    have HS := Lib.hid hsz
    have HL := Lib.hid hls
    clear hcon hown' hsz hls
    go_enter Try.func31, Try.ntmps31
    go_wp2_with fail
    refine HC.out.mono ?_
    rintro e w' ⟨rfl, h1, h2⟩
    go_wp2
    go_end0
    have hp := insSort_perm (⟨ls⟩ : Array SMv) 0 l.length (by rw [HS.out]; exact Nat.le_refl _)
    rw [mv_flat] at h1
    refine ⟨rfl, _, ?_, fun x hx => ?_, h1, h2⟩
    · have := hp.length_eq
      have h3 := HS.out
      simp at this h3
      simp [this, h3]
    · obtain ⟨y, hy, rfl⟩ := List.mem_map.1 hx
      have : y ∈ ls := hp.mem_iff.1 hy
      exact hl _ (by rw [← HL.out]; exact List.mem_map.2 ⟨y, this, rfl⟩)
end Go.Proofs.Ytfmffobdkfgekaa
