/- The reference's office: where players are, and when teams added. -/
import Derived.Test.YtfmffobdkfgekaaFollow
set_option linter.unusedVariables false
set_option linter.unusedSimpArgs false
namespace Go.Proofs.Ytfmffobdkfgekaa
open Go.RowKit Go.Maps

structure Whr where
  team : ByteArray
  hurt : Bool
  dropped : Int
def Whr.v (x : Whr) : Value := .agg #[.string x.team, .bool x.hurt, .int .i64 x.dropped]
structure Office where
  b : Bd
  pl : List (ByteArray × Whr)
  adds : ByteArray → List Int
/-- Rows of numbers in a map, each in a block of its own. -/
structure Rows (lo : Nat) (w : World) (A : List (ByteArray × Value)) (f : ByteArray → List Int) : Prop where
  own : ∀ t, w.ownsRow lo 3 1 ((getM A t).getD (.slice none 0 0)) (f t).length ((f t).map (.int .i64))
  apart : ∀ t u g, ((getM A t).getD (.slice none 0 0)).ownBlock = some g → ((getM A u).getD (.slice none 0 0)).ownBlock = some g → t = u
structure OfficeIn (lo : Nat) (w : World) (ob bm ba : Nat) (O : Office) : Prop where
  low : lo ≤ ob ∧ lo ≤ bm ∧ lo ≤ ba
  diff : bm ≠ ba
  row : w.heap[ob]? = some (.cells #[.int .i64 O.b.most, .int .i64 O.b.hurt, .int .i64 O.b.adds, .int .i64 O.b.hold, .map (some bm), .map (some ba)] 102 (0, 0))
  pl : MapS strC Whr.v w bm O.pl
  ad : ∃ A, MapS strC id w ba A ∧ Rows lo w A O.adds
def ofO (O : Office) (x : ByteArray) : Whr := (getM O.pl x).getD ⟨noStr, false, -1⟩
theorem zeroWhr : ∀ w, (zeroValue 86).run Try.prog w = .ok (.agg #[.string ⟨#[]⟩, .bool false, .int .i64 0]) w := Try.zeroValue86
theorem lookWhr {w : World} {b : Nat} {M : List (ByteArray × Whr)} (h : MapS strC Whr.v w b M) {x : ByteArray} (hx : x.size ≤ 1000) :
    (Instr.lookup 99 (.map (some b)) (.string x) true).run Try.prog w = .ok (.tuple #[(((getM M x).map Whr.v).getD (.agg #[.string ⟨#[]⟩, .bool false, .int .i64 0])), .bool (getM M x).isSome]) w := by
  have := h.lookup Try.underlying99 (zeroWhr w) (strC_ok hx) true
  rw [if_pos rfl] at this
  exact this
set_option maxHeartbeats 400000 in
theorem of_any {lo : Nat} {w : World} {ob bm ba : Nat} {O : Office} (h : OfficeIn lo w ob bm ba O) (x : ByteArray) (hx : x.size ≤ 1000) :
    Calls Try.prog 47 #[.pointer (some ⟨ob, 0, none⟩), .string x] w fun e w' => e = .returned (ofO O x).v ∧ Below w.heap.size w w' := by
  have hA := (Below.refl w.heap.size w).alloc (Nat.le_refl _) (.cells #[.string ⟨#[]⟩, .bool false, .int .i64 0] 86)
  have hrow : (w.alloc (.cells #[.string ⟨#[]⟩, .bool false, .int .i64 0] 86)).heap[ob]? = _ := (hA.block _ (Array.getElem?_eq_some_iff.1 h.row).1).trans h.row
  have hm := lookWhr (w := w.alloc (.cells #[.string ⟨#[]⟩, .bool false, .int .i64 0] 86)) (h.pl.keep (hA.block _ h.pl.lt)) hx
  obtain ⟨hc, hf⟩ := row_cells hrow
  unfold ofO
  have HA := Lib.hid hA
  clear hA hrow h hf
  cases hg : getM O.pl x with
  | none =>
    rw [hg] at hm
    simp only [Option.map_none, Option.getD_none, Option.isSome_none] at hm
    go_enter Try.func47, Try.ntmps47
    go_wp2
    refine bodyPost_ret (v := .agg #[.string noStr, .bool false, .int .i64 (-1)]) (by simp [results, Try.results47, go_sem, noStr]) rfl ⟨rfl, ?_⟩
    exact ((Below.refl w.heap.size w).alloc (Nat.le_refl _) _).alloc (by simp) _
  | some y =>
    obtain ⟨y1, y2, y3⟩ := y
    rw [hg] at hm
    simp only [Option.map_some, Option.getD_some, Option.isSome_some, Whr.v] at hm
    go_enter Try.func47, Try.ntmps47
    go_wp2
    refine bodyPost_ret (v := .agg #[.string y1, .bool y2, .int .i64 y3]) (by simp [results, Try.results47, go_sem]) rfl ⟨rfl, ?_⟩
    exact ((Below.refl w.heap.size w).alloc (Nat.le_refl _) _).alloc (by simp) _
end Go.Proofs.Ytfmffobdkfgekaa
