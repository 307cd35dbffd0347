/- Keys of this program's maps: strings; a team in a week. -/
import Derived.Test.YtfmffobdkfgekaaMaps
import Derived.Test.YtfmffobdkfgekaaLeaf
import Derived.DeepKeys4
import Derived.StringKeys
set_option linter.unusedVariables false
set_option linter.unusedSimpArgs false
namespace Go.Proofs.Ytfmffobdkfgekaa
open Go.RowKit Go.Maps

def strC : Codec Try.prog 9 ByteArray := ⟨Value.string, string_keyed Try.underlying9, fun h => by cases h; rfl⟩
theorem strC_ok {s : ByteArray} (h : s.size ≤ 1000) : strC.ok s := ⟨_, Go.WideMaps.keyOf_string_mk Try.underlying9 (by unfold maxLen; omega)⟩
theorem laidOut : laidOutB Try.prog = true := by kernel_rfl
def weekC : Codec Try.prog 78 (ByteArray × Int) := ⟨fun p => .agg #[.string p.1, .int .i64 p.2], Keyed.of_law (deep_law_laid laidOut (m := 2) (by omega) (Nat.le_of_ble_eq_true (by kernel_rfl)) (by kernel_rfl) (by kernel_rfl)), fun {a b} h => by
  obtain ⟨a1, a2⟩ := a; obtain ⟨b1, b2⟩ := b; simp at h; simp [h]⟩
theorem weekT : Try.prog.keyType 78 = true := by kernel_rfl
theorem weekCells : Try.prog.cellsOf 78 = 2 := by kernel_rfl
theorem strCells : Try.prog.cellsOf 9 = 1 := by kernel_rfl
theorem intCells : Try.prog.cellsOf 3 = 1 := by kernel_rfl
theorem someTypes : ∃ d, Try.prog.types.size + 1 = d + 2 := by
  have : 1 ≤ Try.prog.types.size := Nat.le_of_ble_eq_true (by kernel_rfl)
  exact ⟨Try.prog.types.size - 1, by omega⟩
theorem weekC_ok {s : ByteArray} {n : Int} (h : s.size ≤ 1000) (h1 : -9223372036854775808 ≤ n) (h2 : n ≤ 9223372036854775807) : weekC.ok (s, n) := by
  obtain ⟨d, hd⟩ := someTypes
  have hs : s.size ≤ maxLen := by unfold maxLen; omega
  have hw : (Lit.int IntKind.i64 n).wf = true := WalkArith.wf_i64 (by omega)
  have hl : Try.prog.keyLits (d + 2) 78 [.string s, .int .i64 n] = some [.string s.data.toList, .int .i64 n] := by
    unfold Program.keyLits
    simp [Try.underlying78, weekCells]
    unfold Program.keyLits
    simp [Try.underlying9, Try.underlying3, strCells, intCells, hs, hw]
  refine ⟨.string (keyBytes [.string s.data.toList, .int .i64 n]), ?_⟩
  show keyOf Try.prog 78 (.agg #[.string s, .int .i64 n]) = some _
  unfold keyOf
  rw [Try.underlying78, hd]
  simp [weekT, Value.formed, Try.underlying78, weekCells, Value.cells, hl]
end Go.Proofs.Ytfmffobdkfgekaa
