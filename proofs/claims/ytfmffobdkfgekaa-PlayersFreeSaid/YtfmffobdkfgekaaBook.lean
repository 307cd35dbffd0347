/- The roster book: what it holds, and how it lies in memory. -/
import Derived.Test.YtfmffobdkfgekaaCodecs
import Derived.Test.YtfmffobdkfgekaaLess
set_option linter.unusedVariables false
set_option linter.unusedSimpArgs false
namespace Go.Proofs.Ytfmffobdkfgekaa
open Go.RowKit Go.Maps

/-- Who has whom. -/
structure Book where
  b : Bd
  teams : List ByteArray
  players : ByteArray → List ByteArray
  hurt : ByteArray → List ByteArray
  owner : ByteArray → ByteArray
  dropped : ByteArray → Option Int
  adds : ByteArray × Int → Int
def noStr : ByteArray := ⟨#[]⟩
def eqS (a b : ByteArray) : Bool := a.toList == b.toList
theorem eqS_iff {a b : ByteArray} : eqS a b = true ↔ a = b := by
  unfold eqS
  rw [beq_iff_eq, toList_data, toList_data]
  constructor
  · intro h; exact Go.WideShapes.bytes_inj h
  · rintro rfl; rfl

/-- Lists of strings in a map. -/
def Lists (lo : Nat) (w : World) (P : List (ByteArray × Value)) (f : ByteArray → List ByteArray) : Prop := ∀ t, Sl lo w ((getM P t).getD (.slice none 0 0)) 1 (f t).length ((f t).map Value.string)
structure BookIn (lo : Nat) (w : World) (kb bp bh bo bd ba : Nat) (K : Book) : Prop where
  low : lo ≤ kb ∧ lo ≤ bp ∧ lo ≤ bh ∧ lo ≤ bo ∧ lo ≤ bd ∧ lo ≤ ba
  diff : bp ≠ bh ∧ bp ≠ bo ∧ bp ≠ bd ∧ bp ≠ ba ∧ bh ≠ bo ∧ bh ≠ bd ∧ bh ≠ ba ∧ bo ≠ bd ∧ bo ≠ ba ∧ bd ≠ ba
  row : w.heap[kb]? = some (.cells #[.int .i64 K.b.most, .int .i64 K.b.hurt, .int .i64 K.b.adds, .int .i64 K.b.hold, .map (some bp), .map (some bh), .map (some bo), .map (some bd), .map (some ba)] 74 (0, 0))
  pl : ∃ P, MapS strC id w bp P ∧ Lists lo w P K.players ∧ P.map Prod.fst = K.teams
  hu : ∃ P, MapS strC id w bh P ∧ Lists lo w P K.hurt
  ow : ∃ M, MapS strC Value.string w bo M ∧ ∀ x, (getM M x).getD noStr = K.owner x
  dr : ∃ M, MapS strC (Value.int .i64) w bd M ∧ ∀ x, getM M x = K.dropped x
  ad : ∃ M, MapS weekC (Value.int .i64) w ba M ∧ ∀ x, (getM M x).getD 0 = K.adds x

theorem Lists.below {lo : Nat} {w w' : World} {P : List (ByteArray × Value)} {f : ByteArray → List ByteArray} (h : Lists lo w P f) (hb : Below w.heap.size w w') : Lists lo w' P f := fun t => (h t).below hb
theorem BookIn.below {lo : Nat} {w w' : World} {kb bp bh bo bd ba : Nat} {K : Book} (h : BookIn lo w kb bp bh bo bd ba K) (hb : Below w.heap.size w w') : BookIn lo w' kb bp bh bo bd ba K := by
  obtain ⟨h1, h2, h3, ⟨P, p1, p2, p3⟩, ⟨H, q1, q2⟩, ⟨O, o1, o2⟩, ⟨D, d1, d2⟩, ⟨A, a1, a2⟩⟩ := h
  exact ⟨h1, h2, (hb.block _ (Array.getElem?_eq_some_iff.1 h3).1).trans h3, ⟨P, p1.keep (hb.block _ p1.lt), p2.below hb, p3⟩, ⟨H, q1.keep (hb.block _ q1.lt), q2.below hb⟩, ⟨O, o1.keep (hb.block _ o1.lt), o2⟩, ⟨D, d1.keep (hb.block _ d1.lt), d2⟩, ⟨A, a1.keep (hb.block _ a1.lt), a2⟩⟩

def heldB (K : Book) (x : ByteArray) (t : Int) : Bool := match K.dropped x with | none => false | some m => decide (t - m < K.b.hold)
theorem zeroInt : ∀ w, (zeroValue 3).run Try.prog w = .ok (.int .i64 0) w := Try.zeroValue3
theorem lookIntOk {w : World} {b : Nat} {M : List (ByteArray × Int)} (h : MapS strC (Value.int .i64) w b M) {x : ByteArray} (hx : x.size ≤ 1000) :
    (Instr.lookup 71 (.map (some b)) (.string x) true).run Try.prog w = .ok (.tuple #[.int .i64 ((getM M x).getD 0), .bool (getM M x).isSome]) w := by
  have := h.lookup Try.underlying71 (zeroInt w) (strC_ok hx) true
  rw [if_pos rfl] at this
  refine this.trans ?_
  cases getM M x <;> rfl
theorem lookInt {w : World} {b : Nat} {M : List (ByteArray × Int)} (h : MapS strC (Value.int .i64) w b M) {x : ByteArray} (hx : x.size ≤ 1000) :
    (Instr.lookup 71 (.map (some b)) (.string x) false).run Try.prog w = .ok (.int .i64 ((getM M x).getD 0)) w := by
  have := h.lookup Try.underlying71 (zeroInt w) (strC_ok hx) false
  refine this.trans ?_
  cases getM M x <;> rfl
theorem lookStr {w : World} {b : Nat} {M : List (ByteArray × ByteArray)} (h : MapS strC Value.string w b M) {x : ByteArray} (hx : x.size ≤ 1000) :
    (Instr.lookup 70 (.map (some b)) (.string x) false).run Try.prog w = .ok (.string ((getM M x).getD noStr)) w := by
  have := h.lookup Try.underlying70 (zeroStr w) (strC_ok hx) false
  refine this.trans ?_
  cases getM M x <;> rfl
theorem zeroList : ∀ w, (zeroValue 34).run Try.prog w = .ok (.slice none 0 0) w := Try.zeroValue34
theorem lookList {w : World} {b : Nat} {M : List (ByteArray × Value)} (h : MapS strC id w b M) {x : ByteArray} (hx : x.size ≤ 1000) :
    (Instr.lookup 69 (.map (some b)) (.string x) false).run Try.prog w = .ok ((getM M x).getD (.slice none 0 0)) w := by
  have := h.lookup Try.underlying69 (zeroList w) (strC_ok hx) false
  refine this.trans ?_
  cases getM M x <;> rfl
theorem lookWeek {w : World} {b : Nat} {M : List ((ByteArray × Int) × Int)} (h : MapS weekC (Value.int .i64) w b M) {x : ByteArray} {n : Int} (hx : x.size ≤ 1000) (h1 : -9223372036854775808 ≤ n) (h2 : n ≤ 9223372036854775807) :
    (Instr.lookup 72 (.map (some b)) (.agg #[.string x, .int .i64 n]) false).run Try.prog w = .ok (.int .i64 ((getM M (x, n)).getD 0)) w := by
  have := h.lookup Try.underlying72 (zeroInt w) (weekC_ok hx h1 h2) false
  refine this.trans ?_
  cases getM M (x, n) <;> rfl
set_option maxHeartbeats 400000 in
theorem held_any {lo : Nat} {w : World} {kb bp bh bo bd ba : Nat} {K : Book} (h : BookIn lo w kb bp bh bo bd ba K) (hok : K.b.ok) (x : ByteArray) (t : Int) (hx : x.size ≤ 1000) (ht : small t) (hd : ∀ m, K.dropped x = some m → small m) :
    Calls Try.prog 40 #[.pointer (some ⟨kb, 0, none⟩), .string x, .int .i64 t] w fun e w' => e = .returned (.bool (heldB K x t)) ∧ w = w' := by
  obtain ⟨D, hD, hDx⟩ := h.dr
  have hlk := lookIntOk hD hx
  rw [hDx] at hlk
  obtain ⟨hc, hf⟩ := row_cells h.row
  unfold heldB
  have hho := hok.hold
  generalize hK : K.b.hold = hold at *
  clear h hD hDx
  cases hm : K.dropped x with
  | none =>
    rw [hm] at hlk
    simp only [Option.getD_none, Option.isSome_none] at hlk
    go_enter Try.func40, Try.ntmps40
    go_wp2
    go_ret
    exact ⟨rfl, rfl⟩
  | some m =>
    rw [hm] at hlk
    simp only [Option.getD_some, Option.isSome_some] at hlk
    have h1 := hd m hm
    obtain ⟨h2, h3⟩ := h1
    obtain ⟨h4, h5⟩ := ht
    go_enter Try.func40, Try.ntmps40
    go_wp2
    go_ret
    exact ⟨rfl, rfl⟩
end Go.Proofs.Ytfmffobdkfgekaa
