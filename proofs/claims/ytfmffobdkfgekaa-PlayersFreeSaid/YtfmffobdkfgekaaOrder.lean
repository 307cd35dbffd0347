/- The program's order of moves, and the reference's: they agree. -/
import Derived.Test.YtfmffobdkfgekaaFirst
import Derived.Test.YtfmffobdkfgekaaMvSort
set_option linter.unusedVariables false
set_option linter.unusedSimpArgs false
namespace Go.Proofs.Ytfmffobdkfgekaa
open Go.RowKit

def byMom (x y : Mv) : Int := firstI [cmpI x.time y.time, cmpS x.team y.team, cmpS x.player y.player, cmpI x.kind y.kind]
/-- Two values are boxed, and a number is drawn. -/
theorem two_boxes (w : World) (c1 c2 : Array Value) (t1 t2 : TypeId) : ∃ W, W = ((w.alloc (.cells c1 t1)).alloc (.cells c2 t2)).drew ∧
    W.heap[w.heap.size]? = some (.cells c1 t1 (0, 0)) ∧ W.heap[w.heap.size + 1]? = some (.cells c2 t2 (0, 0)) ∧ Below w.heap.size w W := by
  refine ⟨_, rfl, ?_, ?_, below_drewN (((Below.refl w.heap.size w).alloc (Nat.le_refl _) _).alloc (by simp) _) 1⟩
  · show ((w.alloc _).alloc _).heap[w.heap.size]? = _
    rw [Below.heap_alloc _ _ _ (by simp)]
    exact heap_alloc_new _ _
  · have := heap_alloc_new (w.alloc (.cells c1 t1)) (.cells c2 t2)
    rw [alloc_size] at this
    exact this
set_option maxHeartbeats 800000 in
set_option maxRecDepth 20000 in
theorem byMoment_any (x y : Mv) (w : World) :
    Calls Try.prog 67 #[.agg x.c.toArray, .agg y.c.toArray] w fun e w' => e = .returned (.int .i64 (byMom x y)) ∧ Below w.heap.size w w' := by
  obtain ⟨xt, xk, xa, xp⟩ := x
  obtain ⟨yt, yk, ya, yp⟩ := y
  dsimp only [Mv.c] at *
  go_enter Try.func67, Try.ntmps67
  go_wp2
  obtain ⟨W, hW, hb1, hb2, hb3⟩ := two_boxes w #[.int .i64 xt, .int .i64 xk, .string xa, .string xp] #[.int .i64 yt, .int .i64 yk, .string ya, .string yp] 61 61
  refine wp_region_still_tail 20 (by kernel_rfl) (by kernel_rfl) ?_
  change wpStill _ _ (World.drew (World.alloc (World.alloc w (.cells #[.int .i64 xt, .int .i64 xk, .string xa, .string xp] 61)) (.cells #[.int .i64 yt, .int .i64 yk, .string ya, .string yp] 61))) _ _ _
  rw [← hW]
  have HW := Lib.hid hW
  clear hW
  obtain ⟨hc1, hf1⟩ := row_cells hb1
  obtain ⟨hc2, hf2⟩ := row_cells hb2
  have HB := Lib.hid hb3
  clear hb1 hb2 hb3 hf1 hf2
  simp only [List.take_succ_cons, List.take_zero, List.drop_succ_cons, List.drop_zero]
  repeat (first | still_step | still_call ((strCompare_any _ _ _).mono fun _ _ h => ⟨h.1, h.2.symm⟩) | still_call ((compareInt_any _ _ _).mono fun _ _ h => ⟨h.1, h.2.symm⟩))
  refine wpStill_nil ?_
  change wpList _ _ _ _ _ (World.drew (World.alloc (World.alloc w (.cells #[.int .i64 xt, .int .i64 xk, .string xa, .string xp] 61)) (.cells #[.int .i64 yt, .int .i64 yk, .string ya, .string yp] 61)))
  rw [← HW.out]
  have hlit : Sl 0 (W.alloc (.cells #[.int .i64 (cmpI xt yt), .int .i64 (cmpS xa ya), .int .i64 (cmpS xp yp), .int .i64 (cmpI xk yk)] 3)) (.slice (some ⟨W.heap.size, 0, none⟩) 4 4) 1 4 ([cmpI xt yt, cmpS xa ya, cmpS xp yp, cmpI xk yk].map (.int .i64)) :=
    Sl.lit rfl (Nat.zero_le _) rfl (by simp) (by omega)
  have HS := Lib.hid hlit
  clear hlit
  have hb4 := HB.out.alloc HB.out.size (.cells #[.int .i64 (cmpI xt yt), .int .i64 (cmpS xa ya), .int .i64 (cmpS xp yp), .int .i64 (cmpI xk yk)] 3)
  have HB4 := Lib.hid hb4
  clear hb4
  go_wp2_with fail
  refine (cmpOr_any HS.out rfl).mono ?_
  rintro e w' ⟨rfl, q, rfl⟩
  go_wp2
  go_ret
  exact ⟨rfl, below_drewN HB4.out _⟩

theorem sgn_sub (a b : Int) : sgn (a - b) = cmpI a b := by unfold sgn cmpI; split <;> split <;> (try split) <;> omega
theorem cmpI_zero {a b : Int} : cmpI a b = 0 ↔ a = b := by unfold cmpI; split <;> (try split) <;> constructor <;> intro h <;> omega
theorem cmpI_anti (a b : Int) : cmpI b a = - cmpI a b := by unfold cmpI; split <;> split <;> (try split) <;> omega
theorem u8_tri (a b : UInt8) : a < b ∨ a = b ∨ b < a := by
  rcases Nat.lt_trichotomy a.toNat b.toNat with h | h | h
  · exact .inl (UInt8.lt_iff_toNat_lt.2 h)
  · exact .inr (.inl (UInt8.toNat_inj.1 h))
  · exact .inr (.inr (UInt8.lt_iff_toNat_lt.2 h))
theorem bytes_zero : ∀ (a b : List UInt8), Lib.compareBytes a b = 0 ↔ a = b
  | [], [] => by simp [Lib.compareBytes]
  | [], _ :: _ => by simp [Lib.compareBytes]
  | _ :: _, [] => by simp [Lib.compareBytes]
  | a :: l, b :: m => by
    unfold Lib.compareBytes
    rcases u8_tri a b with h | h | h
    · rw [if_pos h]; simp; intro e; subst e; exact absurd h (UInt8.lt_irrefl _)
    · subst h; simp [UInt8.lt_irrefl, bytes_zero l m]
    · rw [if_neg (UInt8.lt_asymm h), if_pos h]; simp; intro e; subst e; exact absurd h (UInt8.lt_irrefl _)
theorem bytes_anti : ∀ (a b : List UInt8), Lib.compareBytes b a = - Lib.compareBytes a b
  | [], [] => by simp [Lib.compareBytes]
  | [], _ :: _ => by simp [Lib.compareBytes]
  | _ :: _, [] => by simp [Lib.compareBytes]
  | a :: l, b :: m => by
    unfold Lib.compareBytes
    rcases u8_tri a b with h | h | h
    · rw [if_neg (UInt8.lt_asymm h), if_pos h, if_pos h]; rfl
    · subst h; simp [UInt8.lt_irrefl, bytes_anti l m]
    · rw [if_pos h, if_neg (UInt8.lt_asymm h), if_pos h]
theorem cmpS_zero {a b : ByteArray} : cmpS a b = 0 ↔ a.toList = b.toList := by rw [toList_data, toList_data]; exact bytes_zero _ _
theorem cmpS_anti (a b : ByteArray) : cmpS b a = - cmpS a b := bytes_anti _ _
/-- The two orders say the same, the other way round. -/
theorem orders_agree (x y : Mv) : byMom x y = - moveOrd y x := by
  unfold byMom moveOrd
  rw [sgn_sub, sgn_sub]
  have e1 : y.time = x.time ↔ cmpI x.time y.time = 0 := by rw [cmpI_zero]; exact eq_comm
  have e2 : y.team.toList = x.team.toList ↔ cmpS x.team y.team = 0 := by rw [cmpS_zero]; exact eq_comm
  have e3 : y.player.toList = x.player.toList ↔ cmpS x.player y.player = 0 := by rw [cmpS_zero]; exact eq_comm
  simp only [ne_eq, e1, e2, e3, cmpI_anti x.time y.time, cmpS_anti x.team y.team, cmpS_anti x.player y.player, cmpI_anti x.kind y.kind, firstI, Int.neg_neg]
  repeat' split
  all_goals omega
end Go.Proofs.Ytfmffobdkfgekaa
