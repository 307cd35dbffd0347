import Derived.Test.YtfmffobdkfgekaaGreatJm1
import Derived.Lib.IndexAny
import Derived.Shelf.SlSortCmp.InsertionK
import Derived.Test.YtfmffobdkfgekaaGreatShelf
/- Keys, the reference's test: a string is one just where it passes base.Key. -/
set_option linter.unusedVariables false
set_option linter.unusedSimpArgs false
namespace Go.Proofs.YtfmffobdkfgekaaGreat
open Go.RowKit

def onlyB (s some : ByteArray) : Bool := s.data.toList.all fun c => some.data.toList.contains c
theorem onlyB_no {s some : ByteArray} {k : Nat} {x : UInt8} (hk : s.data.toList[k]? = .some x) (hx : some.data.toList.contains x = false) : onlyB s some = false := by
  cases h : onlyB s some with
  | false => rfl
  | true =>
    have := List.all_eq_true.1 h x (List.mem_of_getElem? hk)
    rw [hx] at this; cases this
/-- Only the tape has moved. -/
def Drew (w w' : World) : Prop := ∃ q, w' = w.drewN q
theorem Drew.refl (w : World) : Drew w w := ⟨0, rfl⟩
theorem Drew.trans {w w1 w2 : World} (h : Drew w w1) (k : Drew w1 w2) : Drew w w2 := by
  obtain ⟨q, rfl⟩ := h
  obtain ⟨r, rfl⟩ := k
  exact ⟨q + r, World.drewN_drewN _ _ _⟩
set_option maxHeartbeats 400000 in
theorem only_any (s some : ByteArray) (w : World) (hs : s.size ≤ 4611686018427387904) : Calls Tryz.prog 111 #[.string s, .string some] w fun e w' => e = .returned (.bool (onlyB s some)) ∧ Drew w w' := by
  go_enter Tryz.func111, Tryz.ntmps111
  go_wp2
  go_loopw [8] (fun i wr => ∃ k : Nat, k ≤ s.size ∧ i = .int .i64 k ∧ (∀ j c, j < k → s.data.toList[j]? = .some c → some.data.toList.contains c = true) ∧ ∃ q, wr = w.drewN q) (fun i _ => s.size - (intOf i).toNat)
  case atStart => exact ⟨0, by omega, rfl, fun j c h => absurd h (by omega), 0, rfl⟩
  case round =>
    obtain ⟨k, hk, rfl, hall, q, rfl⟩ := hrel
    by_cases hlt : k < s.size
    · have hbk := at_byte s k hlt
      have HK := Lib.hid hbk
      have HA := Lib.hid hall
      clear hbk hall
      generalize hx : s[k] = x at *
      have hcl := Lib.contains_iff_indexByte some.data.toList x
      by_cases hc : Lib.indexByte some.data.toList x < 0
      · have HC := Lib.hid (show onlyB s some = false from onlyB_no HK.out (by rw [hcl]; simp; omega))
        clear hcl
        go_wp2_with (go_at_call 153; refine (Tryz.strings_IndexByte _ _ _).mono ?_; rintro e w' ⟨rfl, rfl⟩)
        go_ret
        exact ⟨congrArg (fun b => Ending.returned (.bool b)) HC.out.symm, _, rfl⟩
      · have HC := Lib.hid hcl
        clear hcl
        go_wp2_with (go_at_call 153; refine (Tryz.strings_IndexByte _ _ _).mono ?_; rintro e w' ⟨rfl, rfl⟩)
        go_roundw
        case rel =>
          refine ⟨k + 1, by omega, by go_num, fun j c hj hc2 => ?_, _, rfl⟩
          rcases Nat.lt_succ_iff_lt_or_eq.1 hj with hj | rfl
          · exact HA.out j c hj hc2
          · rw [HK.out] at hc2; cases hc2; rw [HC.out]; simp; omega
        case measure => simp [intOf]; omega
    · have hks : k = s.size := by omega
      subst hks
      have HC := Lib.hid (show onlyB s some = true from List.all_eq_true.2 fun c hc => by
        obtain ⟨j, hj⟩ := List.getElem?_of_mem hc
        have hl : s.data.toList.length = s.size := Array.length_toList
        exact hall j c (by have := (List.getElem?_eq_some_iff.1 hj).1; omega) hj)
      clear hall hlt
      go_wp2
      go_ret
      exact ⟨congrArg (fun b => Ending.returned (.bool b)) HC.out.symm, _, rfl⟩

def smallsB : ByteArray := ⟨#[97, 98, 99, 100, 101, 102, 103, 104, 105, 106, 107, 108, 109, 110, 111, 112, 113, 114, 115, 116, 117, 118, 119, 120, 121, 122]⟩
def wordB : ByteArray := ⟨#[97, 98, 99, 100, 101, 102, 103, 104, 105, 106, 107, 108, 109, 110, 111, 112, 113, 114, 115, 116, 117, 118, 119, 120, 121, 122, 48, 49, 50, 51, 52, 53, 54, 55, 56, 57, 45, 95]⟩
set_option maxRecDepth 10000 in
theorem word_ok : ∀ n, n < 256 → wordB.data.toList.contains (UInt8.ofNat n) = okI n := by decide
set_option maxRecDepth 10000 in
theorem small_ok : ∀ n, n < 256 → smallsB.data.toList.contains (UInt8.ofNat n) = (decide (97 ≤ (n : Int)) && decide ((n : Int) ≤ 122)) := by decide
theorem word_okc (c : UInt8) : wordB.data.toList.contains c = okI c.toNat := by
  have := word_ok c.toNat c.toNat_lt
  rwa [UInt8.ofNat_toNat] at this
theorem small_okc (c : UInt8) : smallsB.data.toList.contains c = (decide (97 ≤ (c.toNat : Int)) && decide ((c.toNat : Int) ≤ 122)) := by
  have := small_ok c.toNat c.toNat_lt
  rwa [UInt8.ofNat_toNat] at this
theorem keyB_only (s : ByteArray) (h : inB s.size 1 40 = true) : keyB s = (onlyB (s.extract 0 1) smallsB && onlyB s wordB) := by
  obtain ⟨h1, h2⟩ := inB_iff.1 h
  have e1 : (s.extract 0 1).data.toList = [s.data.toList.getD 0 0] := by
    have hl : s.data.toList.length = s.size := Array.length_toList
    rw [byte0 s (by omega)]
    simp only [ByteArray.data_extract, Array.toList_extract]
    rw [List.extract_eq_take_drop, List.drop_zero]
    cases hd : s.data.toList with
    | nil => rw [hd] at hl; simp at hl; omega
    | cons a l =>
      have := at_byte s 0 (by omega)
      rw [hd] at this
      simp at this ⊢
      exact this
  unfold keyB onlyB
  rw [e1, decide_eq_true (by omega : 0 < s.size), decide_eq_true (by omega : s.size ≤ 40)]
  simp only [Bool.true_and, List.all_cons, List.all_nil, Bool.and_true, small_okc, word_okc]
theorem keyB_size (s : ByteArray) (h : inB s.size 1 40 = false) : keyB s = false := keyB_no fun ⟨h1, h2, _⟩ => by
  have := inB_iff.2 (⟨by omega, by omega⟩ : (1 : Int) ≤ s.size ∧ (s.size : Int) ≤ 40)
  rw [h] at this; cases this

set_option maxHeartbeats 400000 in
theorem qkey_any (s : ByteArray) (w : World) (hs : s.size ≤ 4611686018427387904) : Calls Tryz.prog 62 #[.string s] w fun e w' => e = .returned (.bool (keyB s)) ∧ Drew w w' := by
  cases hin : inB s.size 1 40 with
  | false =>
    have HC := Lib.hid (keyB_size s hin)
    go_enter Tryz.func62, Tryz.ntmps62
    go_wp2_with (go_at_call 61; refine (in_any _ _ _ _).mono ?_; rintro e w' ⟨rfl, rfl⟩)
    go_ret
    exact ⟨congrArg (fun b => Ending.returned (.bool b)) HC.out.symm, Drew.refl _⟩
  | true =>
    have HC := Lib.hid (keyB_only s hin)
    obtain ⟨h1, h2⟩ := inB_iff.1 hin
    have hsz : (s.extract 0 1).size ≤ 4611686018427387904 := by rw [ByteArray.size_extract]; omega
    have HS := Lib.hid hsz
    clear hsz
    go_enter Tryz.func62, Tryz.ntmps62
    go_wp2_with (go_at_call 61; refine (in_any _ _ _ _).mono ?_; rintro e w' ⟨rfl, rfl⟩)
    refine (only_any (s.extract 0 1) smallsB _ HS.out).mono ?_
    rintro e w' ⟨rfl, q, rfl⟩
    cases ho : onlyB (s.extract 0 1) smallsB
    · go_wp2
      go_ret
      exact ⟨congrArg (fun b => Ending.returned (.bool b)) (by rw [HC.out, ho]; rfl), _, rfl⟩
    · go_wp2_with fail
      refine (only_any s wordB _ hs).mono ?_
      rintro e w' ⟨rfl, q2, rfl⟩
      go_wp2
      go_ret
      exact ⟨congrArg (fun b => Ending.returned (.bool b)) (by rw [HC.out, ho]; rfl), q + q2, rfl⟩
end Go.Proofs.YtfmffobdkfgekaaGreat
/- The first number that is not 0: cmp.Or, base.First, the law's errs. -/
set_option linter.unusedVariables false
set_option linter.unusedSimpArgs false
namespace Go.Proofs.YtfmffobdkfgekaaGreat
open Go.RowKit

def firstI : List Int → Int
  | [] => 0
  | x :: l => if x ≠ 0 then x else firstI l
theorem firstI_stop {l : List Int} {k : Nat} {x : Int} (hk : l[k]? = some x) (h : firstI (l.drop k) = firstI l) (hx : ¬ x = 0) : firstI l = x := by
  have hlt : k < l.length := (List.getElem?_eq_some_iff.1 hk).1
  rw [← h, List.drop_eq_getElem_cons hlt, (List.getElem?_eq_some_iff.1 hk).2]
  simp [firstI, hx]
theorem firstI_step {l : List Int} {k : Nat} (hk : l[k]? = some 0) (h : firstI (l.drop k) = firstI l) : firstI (l.drop (k + 1)) = firstI l := by
  have hlt : k < l.length := (List.getElem?_eq_some_iff.1 hk).1
  rw [← h, List.drop_eq_getElem_cons hlt, (List.getElem?_eq_some_iff.1 hk).2]
  simp [firstI]
theorem firstI_end {l : List Int} {k : Nat} (hk : ¬ k < l.length) (h : firstI (l.drop k) = firstI l) : firstI l = 0 := by
  rw [← h, List.drop_eq_nil_of_le (by omega)]; rfl
theorem int_at {lo : Nat} {w : World} {A : Option Addr} {c n : Nat} {l : List Int} (h : Sl lo w (.slice A n c) 1 n (l.map (.int .i64))) {k : Nat} {x : Int} (hk : l[k]? = some x) :
    ∃ b o, A = some ⟨b, o, none⟩ ∧ lo ≤ b ∧ b < w.heap.size ∧ w.cell? ⟨b, o + k, none⟩ = some (.int .i64 x) :=
  h.cell (j := k) (by rw [List.getElem?_map, hk]; rfl)
theorem Sl.shape {lo : Nat} {w : World} {v : Value} {sz n : Nat} {vs : List Value} (h : Sl lo w v sz n vs) : ∃ A c, v = .slice A n c ∧ n ≤ 1099511627776 := by
  obtain ⟨h1, h2, A, c, rfl, _⟩ := h
  exact ⟨A, c, rfl, h2⟩
set_option maxHeartbeats 400000 in
theorem first_any {lo : Nat} {w : World} {v : Value} {n : Nat} {l : List Int} (h : Sl lo w v 1 n (l.map (.int .i64))) (hn : l.length = n) :
    Calls Tryz.prog 53 #[v] w fun e w' => e = .returned (.int .i64 (firstI l)) ∧ Drew w w' := by
  obtain ⟨A, c, rfl, hn2⟩ := h.shape
  have H := Lib.hid h
  clear h
  go_enter Tryz.func53, Tryz.ntmps53
  go_wp2
  go_loopw [7] (fun i wr => ∃ k : Nat, k ≤ n ∧ i = .int .i64 k ∧ firstI (l.drop k) = firstI l ∧ ∃ q, wr = w.drewN q) (fun i _ => n - (intOf i).toNat)
  case atStart => exact ⟨0, by omega, rfl, rfl, 0, rfl⟩
  case round =>
    obtain ⟨k, hk, rfl, hf, q, rfl⟩ := hrel
    have HF := Lib.hid hf
    clear hf
    by_cases hlt : k < n
    · obtain ⟨x, hx⟩ : ∃ x, l[k]? = some x := ⟨_, List.getElem?_eq_getElem (by omega)⟩
      obtain ⟨b, o, rfl, _, _, hc⟩ := int_at H.out hx
      have HX := Lib.hid hx
      clear hx
      by_cases h0 : x = 0
      · subst h0
        go_wp2
        go_roundw
        case rel => exact ⟨k + 1, by omega, by go_num, firstI_step HX.out HF.out, _, rfl⟩
        case measure => simp [intOf]; omega
      · have HC := Lib.hid (firstI_stop HX.out HF.out h0)
        go_wp2
        go_ret
        exact ⟨congrArg (fun b => Ending.returned (.int .i64 b)) HC.out.symm, _, rfl⟩
    · have HC := Lib.hid (firstI_end (by rw [hn]; exact hlt) HF.out)
      go_wp2
      go_ret
      exact ⟨congrArg (fun b => Ending.returned (.int .i64 b)) HC.out.symm, _, rfl⟩
set_option maxHeartbeats 400000 in
theorem cmpOr_any {lo : Nat} {w : World} {v : Value} {n : Nat} {l : List Int} (h : Sl lo w v 1 n (l.map (.int .i64))) (hn : l.length = n) :
    Calls Tryz.prog 96 #[v] w fun e w' => e = .returned (.int .i64 (firstI l)) ∧ Drew w w' := by
  obtain ⟨A, c, rfl, hn2⟩ := h.shape
  have H := Lib.hid h
  clear h
  go_enter Tryz.func96, Tryz.ntmps96
  go_wp2
  go_loopw [8] (fun i wr => ∃ k : Nat, k ≤ n ∧ i = .int .i64 k ∧ firstI (l.drop k) = firstI l ∧ ∃ q, wr = w.drewN q) (fun i _ => n - (intOf i).toNat)
  case atStart => exact ⟨0, by omega, rfl, rfl, 0, rfl⟩
  case round =>
    obtain ⟨k, hk, rfl, hf, q, rfl⟩ := hrel
    have HF := Lib.hid hf
    clear hf
    by_cases hlt : k < n
    · obtain ⟨x, hx⟩ : ∃ x, l[k]? = some x := ⟨_, List.getElem?_eq_getElem (by omega)⟩
      obtain ⟨b, o, rfl, _, _, hc⟩ := int_at H.out hx
      have HX := Lib.hid hx
      clear hx
      by_cases h0 : x = 0
      · subst h0
        go_wp2
        go_roundw
        case rel => exact ⟨k + 1, by omega, by go_num, firstI_step HX.out HF.out, _, rfl⟩
        case measure => simp [intOf]; omega
      · have HC := Lib.hid (firstI_stop HX.out HF.out h0)
        go_wp2
        go_ret
        exact ⟨congrArg (fun b => Ending.returned (.int .i64 b)) HC.out.symm, _, rfl⟩
    · have HC := Lib.hid (firstI_end (by rw [hn]; exact hlt) HF.out)
      go_wp2
      go_ret
      exact ⟨congrArg (fun b => Ending.returned (.int .i64 b)) HC.out.symm, _, rfl⟩
set_option maxHeartbeats 400000 in
theorem errs_any {lo : Nat} {w : World} {v : Value} {n : Nat} {l : List Int} (h : Sl lo w v 1 n (l.map (.int .i64))) (hn : l.length = n) :
    Calls Tryz.prog 11 #[v] w fun e w' => e = .returned (.int .i64 (firstI l)) ∧ Drew w w' := by
  obtain ⟨A, c, rfl, hn2⟩ := h.shape
  have H := Lib.hid h
  clear h
  go_enter Tryz.func11, Tryz.ntmps11
  go_wp2
  go_loopw [7] (fun i wr => ∃ k : Nat, k ≤ n ∧ i = .int .i64 k ∧ firstI (l.drop k) = firstI l ∧ ∃ q, wr = w.drewN q) (fun i _ => n - (intOf i).toNat)
  case atStart => exact ⟨0, by omega, rfl, rfl, 0, rfl⟩
  case round =>
    obtain ⟨k, hk, rfl, hf, q, rfl⟩ := hrel
    have HF := Lib.hid hf
    clear hf
    by_cases hlt : k < n
    · obtain ⟨x, hx⟩ : ∃ x, l[k]? = some x := ⟨_, List.getElem?_eq_getElem (by omega)⟩
      obtain ⟨b, o, rfl, _, _, hc⟩ := int_at H.out hx
      have HX := Lib.hid hx
      clear hx
      by_cases h0 : x = 0
      · subst h0
        go_wp2
        go_roundw
        case rel => exact ⟨k + 1, by omega, by go_num, firstI_step HX.out HF.out, _, rfl⟩
        case measure => simp [intOf]; omega
      · have HC := Lib.hid (firstI_stop HX.out HF.out h0)
        go_wp2
        go_ret
        exact ⟨congrArg (fun b => Ending.returned (.int .i64 b)) HC.out.symm, _, rfl⟩
    · have HC := Lib.hid (firstI_end (by rw [hn]; exact hlt) HF.out)
      go_wp2
      go_ret
      exact ⟨congrArg (fun b => Ending.returned (.int .i64 b)) HC.out.symm, _, rfl⟩
end Go.Proofs.YtfmffobdkfgekaaGreat
/- A region that draws its order: what each operation leaves is said by a predicate that every other operation keeps; then it holds of all of them at the end, whatever the order. -/
set_option linter.unusedVariables false
set_option linter.unusedSimpArgs false
namespace Go.Proofs.YtfmffobdkfgekaaGreat
open Go.RowKit

def preds (o : Oper) : List Nat := (o.after.toList.filter (Region.binds .any)).map (·.on)
def slotOf (a : Act) (o : Oper) : Value := match o.dst with | some d => a.tmps.getD d undef | none => undef
/-- Edges lead backwards; no two operations write one slot. -/
def rgB (ops : Array Oper) : Bool :=
  (List.range ops.size).all fun i => match ops[i]? with
    | none => true
    | some o => (preds o).all (· < i) && (List.range ops.size).all fun k => k == i || (match ops[k]? with | some p => p.dst == none || !(p.dst == o.dst) | none => true)
/-- Slot t has not been written yet when operation i comes up: each operation that writes it waits for i. -/
def freshB (ops : Array Oper) (i t : Nat) : Bool := ops.toList.all fun o => !(o.dst == some t) || (preds o).contains i
/-- Slot t is written by no operation at all. -/
def neverB (ops : Array Oper) (t : Nat) : Bool := ops.toList.all fun o => !(o.dst == some t)

structure RgAt (ops : Array Oper) (a0 : Act) (R : Nat → Value → World → Prop) (listed : Array Bool) (a : Act) (w : World) : Prop where
  lsize : listed.size = ops.size
  closed : ∀ (i : Nat) (o : Oper), ops[i]? = some o → listed.getD i false = true → ∀ j ∈ preds o, listed.getD j false = true
  done : ∀ (i : Nat) (o : Oper), ops[i]? = some o → listed.getD i false = true → R i (slotOf a o) w
  old : ∀ t, (∀ (k : Nat) (o : Oper), ops[k]? = some o → o.dst = some t → listed.getD k false = false) → a.tmps.getD t undef = a0.tmps.getD t undef
  size : a.tmps.size = a0.tmps.size
  defers : a.defers = a0.defers

/-- What operation i may lean on. -/
structure RgPre0 (ops : Array Oper) (a0 : Act) (R : Nat → Value → World → Prop) (i : Nat) (o : Oper) (a : Act) (w : World) : Prop where
  pre : ∀ j ∈ preds o, ∀ p, ops[j]? = some p → R j (slotOf a p) w
  old : ∀ t, freshB ops i t = true → a.tmps.getD t undef = a0.tmps.getD t undef

def costs (cost : Nat → Nat) (listed : Array Bool) : List Nat → Nat
  | [] => 0
  | i :: l => (if listed.getD i false then 0 else cost i) + costs cost listed l

theorem costs_set {cost : Nat → Nat} {listed : Array Bool} {i : Nat} (hi : i < listed.size) (hl : listed.getD i false = false) : ∀ l : List Nat, l.Nodup → costs cost listed l = (if i ∈ l then cost i else 0) + costs cost (listed.setIfInBounds i true) l
  | [], _ => by simp [costs]
  | j :: l, hn => by
    obtain ⟨hj, hn'⟩ := List.nodup_cons.1 hn
    simp only [costs]
    rw [costs_set hi hl l hn']
    by_cases hij : i = j
    · subst hij
      rw [hl, if_neg (by simp), if_neg hj, if_pos (by simp)]
      have : (listed.setIfInBounds i true).getD i false = true := by simp [hi]
      rw [this]; simp
    · have : (listed.setIfInBounds i true).getD j false = listed.getD j false := by simp [Array.getElem?_setIfInBounds, hij]
      rw [this]
      simp only [List.mem_cons, hij, false_or]
      omega

def wsum (cost : Nat → Nat) (p : Nat → Bool) : List Nat → Nat
  | [] => 0
  | i :: l => (if p i then cost i else 0) + wsum cost p l
theorem wsum_mono {cost : Nat → Nat} {p q : Nat → Bool} (l : List Nat) (h : ∀ i ∈ l, p i = true → q i = true) : wsum cost p l ≤ wsum cost q l := by
  induction l with
  | nil => simp [wsum]
  | cons i l ih =>
    simp only [wsum]
    have h1 := ih fun j hj => h j (by simp [hj])
    have h2 := h i (by simp)
    cases hp : p i
    · simp; omega
    · rw [h2 hp]; simp; omega
theorem wsum_costs {cost : Nat → Nat} {listed : Array Bool} (l : List Nat) : wsum cost (fun k => !listed.getD k false) l = costs cost listed l := by
  induction l with
  | nil => rfl
  | cons i l ih =>
    simp only [wsum, costs, ih]
    by_cases h : listed.getD i false = true
    · rw [if_pos h, if_neg (by rw [h]; simp)]
    · rw [if_neg h, if_pos (by simp at h; simp [h])]
theorem wsum_split {cost : Nat → Nat} {p : Nat → Bool} (l : List Nat) : wsum cost p l + wsum cost (fun k => !p k) l = wsum cost (fun _ => true) l := by
  induction l with
  | nil => rfl
  | cons i l ih =>
    simp only [wsum]
    by_cases h : p i = true
    · rw [if_pos h, if_neg (by rw [h]; simp), if_pos trivial]; omega
    · rw [if_neg h, if_pos (by simp at h; simp [h]), if_pos trivial]; omega
/-- What is still to be paid by those that wait for operation i; what has been paid by those that it waits for; all. -/
def waits (ops : Array Oper) (cost : Nat → Nat) (i : Nat) : Nat := wsum cost (fun k => match ops[k]? with | some o => (preds o).contains i | none => false) (List.range ops.size)
def paid (ops : Array Oper) (cost : Nat → Nat) (o : Oper) : Nat := wsum cost (fun k => (preds o).contains k) (List.range ops.size)
def total (ops : Array Oper) (cost : Nat → Nat) : Nat := wsum cost (fun _ => true) (List.range ops.size)

structure RgPre (ops : Array Oper) (a0 : Act) (R : Nat → Value → World → Prop) (cost : Nat → Nat) (n m : Nat) (i : Nat) (o : Oper) (a : Act) (w : World) : Prop extends RgPre0 ops a0 R i o a w where
  low : n + waits ops cost i ≤ m
  high : m + cost i + paid ops cost o ≤ n + total ops cost

theorem slotOf_put_other {a : Act} {o p : Oper} {v : Value} (h : p.dst = none ∨ p.dst ≠ o.dst) : slotOf (a.put o.dst v) p = slotOf a p := by
  unfold slotOf
  cases hp : p.dst with
  | none => rfl
  | some d =>
    cases ho : o.dst with
    | none => rfl
    | some e =>
      have hne : e ≠ d := by rintro rfl; rcases h with h | h <;> simp_all
      simp [Act.put, Array.getElem?_setIfInBounds, hne]

theorem costs_all {cost : Nat → Nat} {listed : Array Bool} : ∀ l : List Nat, (∀ i ∈ l, listed.getD i false = true) → costs cost listed l = 0
  | [], _ => rfl
  | i :: l, h => by simp only [costs]; rw [h i (by simp), costs_all l (fun j hj => h j (by simp [hj]))]; simp
theorem costs_zero {listed : Array Bool} : ∀ l : List Nat, costs (fun _ => 1) listed l = 0 → ∀ i ∈ l, listed.getD i false = true
  | [], _, i, hi => by simp at hi
  | j :: l, h, i, hi => by
    simp only [costs] at h
    rcases List.mem_cons.1 hi with rfl | hi
    · cases hl : listed.getD i false with
      | true => rfl
      | false => rw [hl] at h; simp at h
    · exact costs_zero l (by omega) i hi

theorem rgB_lt {ops : Array Oper} (h : rgB ops = true) {i : Nat} {o : Oper} (ho : ops[i]? = some o) : ∀ j ∈ preds o, j < i := by
  have hi := (Array.getElem?_eq_some_iff.1 ho).1
  have := List.all_eq_true.1 h i (List.mem_range.2 hi)
  rw [ho] at this
  simp only [Bool.and_eq_true] at this
  intro j hj
  simpa using List.all_eq_true.1 this.1 j hj
theorem rgB_ne {ops : Array Oper} (h : rgB ops = true) {i k : Nat} {o p : Oper} (ho : ops[i]? = some o) (hp : ops[k]? = some p) (hki : k ≠ i) : p.dst = none ∨ p.dst ≠ o.dst := by
  have hi := (Array.getElem?_eq_some_iff.1 ho).1
  have hk := (Array.getElem?_eq_some_iff.1 hp).1
  have := List.all_eq_true.1 h i (List.mem_range.2 hi)
  rw [ho] at this
  simp only [Bool.and_eq_true] at this
  have h2 := List.all_eq_true.1 this.2 k (List.mem_range.2 hk)
  rw [hp] at h2
  simp only [Bool.or_eq_true, beq_iff_eq, Bool.not_eq_true', beq_eq_false_iff_ne] at h2
  rcases h2 with h2 | h2 | h2
  · exact absurd h2 hki
  · exact .inl h2
  · exact .inr h2
theorem getD_true_of {l : Array Bool} {i : Nat} (h : l.getD i false = true) : l.getD i true = true := by
  rcases Nat.lt_or_ge i l.size with h' | h'
  · simp [h'] at h ⊢; exact h
  · simp [Array.getElem?_eq_none h']

theorem rg_any {P : Program} {ops : Array Oper} {Q : Exit → Act → World → Prop} {a0 : Act} {n : Nat} {Inv : Nat → World → Prop} {G : Nat → World → World → Prop} {R : Nat → Value → World → Prop} {cost : Nat → Nat}
    (hB : rgB ops = true) (hsz : ∀ (i : Nat) (o : Oper) (d : Nat), ops[i]? = some o → o.dst = some d → d < a0.tmps.size)
    (stable : ∀ i k v w w', i ≠ k → R k v w → G i w w' → R k v w')
    (step : ∀ (i : Nat) (o : Oper), ops[i]? = some o → ∀ (a : Act) (w : World) (m : Nat), a.tmps.size = a0.tmps.size → a.defers = a0.defers → Inv (m + cost i) w → RgPre ops a0 R cost n m i o a w →
      wpOp P ops Q i (fun a' w' => ∃ v, a' = a.put o.dst v ∧ (o.dst = none → v = undef) ∧ R i v w' ∧ G i w w' ∧ Inv m w') a w)
    (fin : ∀ (a : Act) (w : World), a.tmps.size = a0.tmps.size → a.defers = a0.defers → Inv n w → (∀ (i : Nat) (o : Oper), ops[i]? = some o → R i (slotOf a o) w) → (∀ t, neverB ops t = true → a.tmps.getD t undef = a0.tmps.getD t undef) → Q .normal a w) :
    ∀ (fuel : Nat) (listed : Array Bool) (a : Act) (w : World), RgAt ops a0 R listed a w → Inv (n + costs cost listed (List.range ops.size)) w →
      costs (fun _ => 1) listed (List.range ops.size) ≤ fuel → wpAny P .any ops Q fuel listed a w := by
  have last : ∀ (listed : Array Bool) (a : Act) (w : World), RgAt ops a0 R listed a w → Inv (n + costs cost listed (List.range ops.size)) w → (∀ i, i < ops.size → listed.getD i false = true) → Q .normal a w := by
    intro listed a w h hI hall
    rw [costs_all _ (fun i hi => hall i (List.mem_range.1 hi)), Nat.add_zero] at hI
    refine fin a w h.size h.defers hI (fun i o ho => h.done i o ho (hall i (Array.getElem?_eq_some_iff.1 ho).1)) (fun t ht => h.old t (fun k o ho hd => ?_))
    have hk := List.all_eq_true.1 ht o (by have := (Array.getElem?_eq_some_iff.1 ho); rw [← this.2]; simp)
    simp [hd] at hk
  have ready_of : ∀ (listed : Array Bool) (a : Act) (w : World), RgAt ops a0 R listed a w → ∀ i, i < ops.size → listed.getD i false = false → ∃ j, j ∈ Region.ready .any ops listed := by
    intro listed a w h i
    induction i using Nat.strongRecOn with
    | _ i ih =>
      intro hi hl
      obtain ⟨o, ho⟩ : ∃ o, ops[i]? = some o := ⟨_, Array.getElem?_eq_getElem hi⟩
      by_cases hp : ∀ j ∈ preds o, listed.getD j false = true
      · refine ⟨i, mem_ready.2 ⟨getD_in (by rw [h.lsize]; exact hi) hl, o, ho, fun e he hb => hp e.on ?_⟩⟩
        exact List.mem_map.2 ⟨e, List.mem_filter.2 ⟨by simpa using he, hb⟩, rfl⟩
      · have ⟨j, hj, hjl⟩ : ∃ j, j ∈ preds o ∧ listed.getD j false = false := by
          apply Classical.byContradiction
          intro hc
          refine hp fun j hj => ?_
          cases hx : listed.getD j false with
          | true => rfl
          | false => exact absurd ⟨j, hj, hx⟩ hc
        have hlt := rgB_lt hB ho j hj
        exact ih j hlt (by omega) hjl
  have notready : ∀ (listed : Array Bool), (∀ i, i < ops.size → listed.getD i false = true) → Region.ready .any ops listed = [] := by
    intro listed hall
    refine List.eq_nil_iff_forall_not_mem.2 fun i hi => ?_
    obtain ⟨h1, o, ho, _⟩ := mem_ready.1 hi
    rw [getD_true_of (hall i (Array.getElem?_eq_some_iff.1 ho).1)] at h1
    cases h1
  intro fuel
  induction fuel with
  | zero =>
    intro listed a w h hI hc
    have hall := costs_zero _ (Nat.le_zero.1 hc)
    have hall' : ∀ i, i < ops.size → listed.getD i false = true := fun i hi => hall i (List.mem_range.2 hi)
    exact ⟨notready listed hall', last listed a w h hI hall'⟩
  | succ fuel ih =>
    intro listed a w h hI hc
    refine ⟨fun h0 => last listed a w h hI fun i hi => ?_, fun i hi => ?_⟩
    · cases hl : listed.getD i false with
      | true => rfl
      | false =>
        obtain ⟨j, hj⟩ := ready_of listed a w h i hi hl
        rw [h0] at hj; cases hj
    · obtain ⟨hun, o, ho, hall⟩ := mem_ready.1 hi
      have his := (Array.getElem?_eq_some_iff.1 ho).1
      have hun' := getD_both hun
      have hil : i < listed.size := by rw [h.lsize]; exact his
      have hpl : ∀ j ∈ preds o, listed.getD j false = true := fun j hj => by
        obtain ⟨e, he, rfl⟩ := List.mem_map.1 hj
        obtain ⟨he1, he2⟩ := List.mem_filter.1 he
        exact hall e (by simpa using he1) he2
      have hcs := costs_set (cost := cost) hil hun' (List.range ops.size) List.nodup_range
      have hcs1 := costs_set (cost := fun _ => 1) hil hun' (List.range ops.size) List.nodup_range
      rw [if_pos (List.mem_range.2 his)] at hcs hcs1
      refine wpOp_mono (fun a' w' => ?_) (step i o ho a w (n + costs cost (listed.setIfInBounds i true) (List.range ops.size)) h.size h.defers (by rw [hcs] at hI; rw [show n + costs cost (listed.setIfInBounds i true) (List.range ops.size) + cost i = n + (cost i + costs cost (listed.setIfInBounds i true) (List.range ops.size)) by omega]; exact hI)
        ⟨⟨fun j hj p hp => h.done j p hp (hpl j hj), fun t ht => h.old t fun k p hp hd => ?_⟩, ?_, ?_⟩)
      · rintro ⟨v, rfl, hv, hR, hG, hI'⟩
        refine ih _ _ _ ⟨by simp [h.lsize], fun k p hp hk j hj => ?_, fun k p hp hk => ?_, fun t ht => ?_, ?_, ?_⟩ hI' (by omega)
        · by_cases hki : i = k
          · subst hki
            have : p = o := Option.some.inj (hp.symm.trans ho)
            subst this
            exact getD_set_true (hpl j hj)
          · rw [getD_set_ne false hki] at hk
            exact getD_set_true (h.closed k p hp hk j hj)
        · by_cases hki : i = k
          · subst hki
            have : p = o := Option.some.inj (hp.symm.trans ho)
            subst this
            have hsl : slotOf (a.put p.dst v) p = v := by
              unfold slotOf
              cases hd : p.dst with
              | none => exact (hv hd).symm
              | some d =>
                have := hsz i p d ho hd
                simp [Act.put, h.size, this]
            rw [hsl]; exact hR
          · rw [getD_set_ne false hki] at hk
            rw [slotOf_put_other (rgB_ne hB ho hp (fun e => hki e.symm))]
            exact stable i k _ _ _ hki (h.done k p hp hk) hG
        · have hne : ∀ d, o.dst = some d → d ≠ t := fun d hd e => by
            subst e
            have := ht i o ho hd
            simp [hil] at this
          have : (a.put o.dst v).tmps.getD t undef = a.tmps.getD t undef := by
            cases hd : o.dst with
            | none => rfl
            | some d => simp [Act.put, Array.getElem?_setIfInBounds, hne d hd]
          rw [this]
          refine h.old t fun k p hp hd => ?_
          have := ht k p hp hd
          by_cases hki : i = k
          · subst hki; exact hun'
          · rwa [getD_set_ne false hki] at this
        · cases hd : o.dst with
          | none => exact h.size
          | some d => simpa [Act.put] using h.size
        · cases hd : o.dst with
          | none => exact h.defers
          | some d => exact h.defers
      · have := List.all_eq_true.1 ht p (by have := (Array.getElem?_eq_some_iff.1 hp); rw [← this.2]; simp)
        simp only [hd, beq_self_eq_true, Bool.not_true, Bool.false_or] at this
        cases hl : listed.getD k false with
        | false => rfl
        | true =>
          have := h.closed k p hp hl i (by simpa using this)
          rw [hun'] at this; cases this
      · rw [← wsum_costs]
        refine Nat.add_le_add_left (wsum_mono _ fun k hk hw => ?_) n
        cases hp : ops[k]? with
        | none => rw [hp] at hw; cases hw
        | some p =>
          rw [hp] at hw
          have hik : i ∈ preds p := by simpa using hw
          have hlt := rgB_lt hB hp i hik
          rw [getD_set_ne false (show i ≠ k by omega)]
          cases hl : listed.getD k false with
          | false => rfl
          | true => have := h.closed k p hp hl i hik; rw [hun'] at this; cases this
      · have e1 := wsum_split (cost := cost) (p := fun k => !listed.getD k false) (List.range ops.size)
        rw [wsum_costs] at e1
        have e2 : paid ops cost o ≤ wsum cost (fun k => !!listed.getD k false) (List.range ops.size) := wsum_mono _ fun k hk hw => by
          have : k ∈ preds o := by simpa using hw
          rw [hpl k this]; rfl
        unfold total
        omega

/-- One operation's step. -/
def StepAt (P : Program) (ops : Array Oper) (Q : Exit → Act → World → Prop) (a0 : Act) (n : Nat) (Inv : Nat → World → Prop) (G : World → World → Prop) (R : Nat → Value → World → Prop) (cost : Nat → Nat) (i : Nat) (o : Oper) : Prop :=
  ∀ (a : Act) (w : World) (m : Nat), a.tmps.size = a0.tmps.size → a.defers = a0.defers → Inv (m + cost i) w → RgPre ops a0 R cost n m i o a w →
      wpOp P ops Q i (fun a' w' => ∃ v, a' = a.put o.dst v ∧ (o.dst = none → v = undef) ∧ R i v w' ∧ G w w' ∧ Inv m w') a w
def Steps (S : Nat → Oper → Prop) : Nat → List Oper → Prop
  | _, [] => True
  | i, o :: l => S i o ∧ Steps S (i + 1) l
theorem Steps.get {S : Nat → Oper → Prop} (l : List Oper) : ∀ (k : Nat), Steps S k l → ∀ (i : Nat) (o : Oper), l[i]? = some o → S (k + i) o := by
  induction l with
  | nil => intro k _ i o h; simp at h
  | cons p l ih =>
    intro k h i o hi
    unfold Steps at h
    cases i with
    | zero =>
      rw [List.getElem?_cons_zero] at hi
      cases hi
      exact h.1
    | succ i =>
      rw [List.getElem?_cons_succ] at hi
      have h2 := ih (k + 1) h.2 i o hi
      rw [show k + (i + 1) = k + 1 + i by omega]
      exact h2
def Alls (R : Nat → Value → World → Prop) (a : Act) (w : World) : Nat → List Oper → Prop
  | _, [] => True
  | i, o :: l => R i (slotOf a o) w ∧ Alls R a w (i + 1) l
theorem alls_of {R : Nat → Value → World → Prop} {a : Act} {w : World} (l : List Oper) : ∀ (k : Nat), (∀ (i : Nat) (o : Oper), l[i]? = some o → R (k + i) (slotOf a o) w) → Alls R a w k l := by
  induction l with
  | nil => intro k _; trivial
  | cons o l ih =>
    intro k h
    unfold Alls
    refine ⟨h 0 o rfl, ih (k + 1) fun i p hp => ?_⟩
    have := h (i + 1) p (by rw [List.getElem?_cons_succ]; exact hp)
    rwa [show k + (i + 1) = k + 1 + i by omega] at this

theorem wpOp_plain {P : Program} {l : List Oper} {Q : Exit → Act → World → Prop} {i : Nat} {o : Oper} {K : Act → World → Prop} {a : Act} {w : World} (ho : l[i]? = some o) (hg : o.guard = none) (h : o.wp P a w K Q) : wpOp P l.toArray Q i K a w := by
  unfold wpOp
  simp only [List.getElem?_toArray, ho]
  rw [if_pos (by simp [Region.wanted, hg])]
  exact .inl h

theorem wp_region_rg {P : Program} {l : List Oper} {Q : Exit → Act → World → Prop} {a0 : Act} {w0 : World} {id n : Nat} (Inv : Nat → World → Prop) (G : Nat → World → World → Prop) (R : Nat → Value → World → Prop) (cost : Nat → Nat)
    (hm : P.follows .mixedOrders = true) (hB : rgB l.toArray = true) (hsz : (l.all fun o => match o.dst with | some d => decide (d < a0.tmps.size) | none => true) = true)
    (start : Inv (n + costs cost (Array.replicate l.length false) (List.range l.length)) w0.drew)
    (stable : ∀ i k v w w', i ≠ k → R k v w → G i w w' → R k v w')
    (step : ∀ (i : Nat) (o : Oper), l[i]? = some o → ∀ (a : Act) (w : World) (m : Nat), a.tmps.size = a0.tmps.size → a.defers = a0.defers → Inv (m + cost i) w → RgPre l.toArray a0 R cost n m i o a w →
      wpOp P l.toArray Q i (fun a' w' => ∃ v, a' = a.put o.dst v ∧ (o.dst = none → v = undef) ∧ R i v w' ∧ G i w w' ∧ Inv m w') a w)
    (fin : ∀ (a : Act) (w : World), a.tmps.size = a0.tmps.size → a.defers = a0.defers → Inv n w → (∀ (i : Nat) (o : Oper), l[i]? = some o → R i (slotOf a o) w) → (∀ t, neverB l.toArray t = true → a.tmps.getD t undef = a0.tmps.getD t undef) → Q .normal a w) :
    (Code.region id l.toArray true).wp P Q a0 w0 := by
  refine wp_region_any hm (rg_any (Inv := Inv) (G := G) (R := R) (cost := cost) (n := n) hB (fun i o d ho hd => ?_) stable (fun i o ho => step i o (by simpa using ho)) (fun a w h1 h2 h3 h4 h5 => fin a w h1 h2 h3 (fun i o ho => h4 i o (by simpa using ho)) h5) _ _ _ _ ?_ ?_ ?_)
  · have := List.all_eq_true.1 hsz o (List.mem_of_getElem? (by simpa using ho))
    rw [hd] at this
    simpa using this
  · exact ⟨by simp, fun i o _ h => (by rw [getD_replicate_false] at h; cases h), fun i o _ h => (by rw [getD_replicate_false] at h; cases h), fun t _ => rfl, rfl, rfl⟩
  · simpa using start
  · have : ∀ l' : List Nat, costs (fun _ => 1) (Array.replicate l.toArray.size false) l' ≤ l'.length := fun l' => by
      induction l' with
      | nil => simp [costs]
      | cons x l' ih => simp only [costs, List.length_cons]; split <;> omega
    simpa using this (List.range l.toArray.size)
section
variable {P : Program} {l : List Oper} {Q : Exit → Act → World → Prop} {a0 : Act} {n : Nat} {Inv : Nat → World → Prop} {G : World → World → Prop} {R : Nat → Value → World → Prop} {cost : Nat → Nat} {i : Nat} {o : Oper}
theorem ex_move {ρ : Operand → Value} {x : Operand} {v : Value} {w : World} (h : o.op = .move x) (hx : ρ x = v) : (execOp ρ o).run P w = .ok (.value v) w := by simp [execOp, h, hx]
theorem ex_assign {ρ : Operand → Value} {x : Operand} {v : Value} {w : World} (h : o.op = .assign x) (hx : ρ x = v) : (execOp ρ o).run P w = .ok (.value v) w := by simp [execOp, h, hx]
theorem ex_load {ρ : Operand → Value} {t : TypeId} {x : Operand} {p : Addr} {v : Value} {w : World} (h : o.op = .load t x) (hx : ρ x = .pointer (some p)) (ha : ∀ w, (isAgg t).run P w = .ok false w) (hc : w.cell? p = some v) : (execOp ρ o).run P w = .ok (.value v) w := by
  simp [execOp, h, hx, Instr.loadAt, Instr.sureAddr, loadVar, ha, load, hc, Sem.run, go_sem]
theorem ex_store_int {ρ : Operand → Value} {t : TypeId} {x y : Operand} {p : Addr} {u : Int} {v : Value} {w : World} (h : o.op = .store t x y) (hx : ρ x = .pointer (some p)) (hy : ρ y = .int .i64 u) (hs : ∀ w, (sizeOf t).run P w = .ok 1 w) (hc : w.cell? p = some v) (hf : w.frozen? p = false) : (execOp ρ o).run P w = .ok .skip (w.setCell p (.int .i64 u)) := by
  simp [execOp, h, hx, hy, Instr.storeAt, Instr.sureAddr, storeVar, hs, go_sem, hc, hf]
theorem ex_store_str {ρ : Operand → Value} {t : TypeId} {x y : Operand} {p : Addr} {u : ByteArray} {v : Value} {w : World} (h : o.op = .store t x y) (hx : ρ x = .pointer (some p)) (hy : ρ y = .string u) (hs : ∀ w, (sizeOf t).run P w = .ok 1 w) (hc : w.cell? p = some v) (hf : w.frozen? p = false) : (execOp ρ o).run P w = .ok .skip (w.setCell p (.string u)) := by
  simp [execOp, h, hx, hy, Instr.storeAt, Instr.sureAddr, storeVar, hs, go_sem, hc, hf]
theorem ex_store_bool {ρ : Operand → Value} {t : TypeId} {x y : Operand} {p : Addr} {u : Bool} {v : Value} {w : World} (h : o.op = .store t x y) (hx : ρ x = .pointer (some p)) (hy : ρ y = .bool u) (hs : ∀ w, (sizeOf t).run P w = .ok 1 w) (hc : w.cell? p = some v) (hf : w.frozen? p = false) : (execOp ρ o).run P w = .ok .skip (w.setCell p (.bool u)) := by
  simp [execOp, h, hx, hy, Instr.storeAt, Instr.sureAddr, storeVar, hs, go_sem, hc, hf]
theorem ex_field {ρ : Operand → Value} {t : TypeId} {x : Operand} {k off : Nat} {b o' : Nat} {w : World} (h : o.op = .fieldAddr t x k) (hx : ρ x = .pointer (some ⟨b, o', none⟩)) (hs : ∀ w, (Instr.fieldAt t (.pointer (some ⟨b, o', none⟩)) k).run P w = .ok (.pointer (some ⟨b, o' + off, none⟩)) w) : (execOp ρ o).run P w = .ok (.value (.pointer (some ⟨b, o' + off, none⟩))) w := by
  simp [execOp, h, hx, hs]
theorem ex_slice2 {ρ : Operand → Value} {t e : TypeId} {x y : Operand} {u v : Value} {w : World} (h : o.op = .buildSlice t 2 #[(0, x), (1, y)]) (hx : ρ x = u) (hy : ρ y = v) (hs : ∀ w, (Instr.buildSlice t 2 #[(0, u), (1, v)]).run P w = .ok (.slice (some ⟨w.heap.size, 0, none⟩) 2 2) (w.alloc (.cells #[u, v] e))) : (execOp ρ o).run P w = .ok (.value (.slice (some ⟨w.heap.size, 0, none⟩) 2 2)) (w.alloc (.cells #[u, v] e)) := by
  simp [execOp, h, hx, hy, hs]
/-- An operation that yields a value. -/
theorem step_run (ho : l[i]? = some o) (hg : o.guard = none) (hd : o.dst.isSome = true)
    (h : ∀ (a : Act) (w : World) (m : Nat), RgPre l.toArray a0 R cost n m i o a w → Inv (m + cost i) w → ∃ v w', (execOp a.eval o).run P w = .ok (.value v) w' ∧ R i v w' ∧ G w w' ∧ Inv m w') : StepAt P l.toArray Q a0 n Inv G R cost i o := by
  intro a w m hsz hdf hI hp
  refine wpOp_plain ho hg ?_
  obtain ⟨v, w', hr, hR, hG, hI'⟩ := h a w m hp hI
  unfold Oper.wp
  rw [hr]
  exact ⟨v, rfl, fun h0 => (by rw [h0] at hd; cases hd), hR, hG, hI'⟩
/-- A store. -/
theorem step_skip (ho : l[i]? = some o) (hg : o.guard = none) (hd : o.dst = none)
    (h : ∀ (a : Act) (w : World) (m : Nat), RgPre l.toArray a0 R cost n m i o a w → Inv (m + cost i) w → ∃ w', (execOp a.eval o).run P w = .ok .skip w' ∧ R i undef w' ∧ G w w' ∧ Inv m w') : StepAt P l.toArray Q a0 n Inv G R cost i o := by
  intro a w m hsz hdf hI hp
  refine wpOp_plain ho hg ?_
  obtain ⟨w', hr, hR, hG, hI'⟩ := h a w m hp hI
  unfold Oper.wp
  rw [hr]
  exact ⟨undef, rfl, fun _ => rfl, hR, hG, hI'⟩
/-- A call of a Go function. -/
theorem step_call {f : FuncId} (ar : Act → Array Value) (ho : l[i]? = some o) (hg : o.guard = none) (hd : o.dst.isSome = true)
    (he : ∀ (a : Act) (w : World), (execOp a.eval o).run P w = .ok (.enter f (ar a)) w)
    (h : ∀ (a : Act) (w : World) (m : Nat), RgPre l.toArray a0 R cost n m i o a w → Inv (m + cost i) w → Calls P f (ar a) w fun e w' => ∃ v, e = .returned v ∧ R i v w' ∧ G w w' ∧ Inv m w') : StepAt P l.toArray Q a0 n Inv G R cost i o := by
  intro a w m hsz hdf hI hp
  refine wpOp_plain ho hg ?_
  unfold Oper.wp
  rw [he]
  rw [Oper.upon_enter]
  refine (h a w m hp hI).mono ?_
  rintro e w' ⟨v, rfl, hR, hG, hI'⟩
  exact ⟨v, rfl, fun h0 => (by rw [h0] at hd; cases hd), hR, hG, hI'⟩
end

/-- The frame in which each operation has left its value. -/
def putAll (a : Act) : List Oper → List Value → Act
  | o :: l, v :: vs => putAll (a.put o.dst v) l vs
  | _, _ => a
theorem putAll_eq {a : Act} (l : List Oper) : ∀ (c : Act), c.tmps.size = a.tmps.size → c.defers = a.defers → (∀ t, (∀ o ∈ l, o.dst ≠ some t) → c.tmps.getD t undef = a.tmps.getD t undef) → putAll c l (l.map (slotOf a)) = a := by
  induction l with
  | nil =>
    intro c hs hd h
    obtain ⟨ct, cd⟩ := c
    obtain ⟨at_, ad⟩ := a
    dsimp only at hs hd
    subst hd
    have : ct = at_ := by
      refine Array.ext hs fun i h1 h2 => ?_
      have := h i (by simp)
      simpa [h1, h2] using this
    subst this
    rfl
  | cons o l ih =>
    intro c hs hd h
    refine ih (c.put o.dst (slotOf a o)) ?_ ?_ fun t ht => ?_
    · cases ho : o.dst <;> simp [Act.put, hs]
    · cases ho : o.dst <;> simp [Act.put, hd]
    · by_cases ho : o.dst = some t
      · unfold slotOf
        rw [ho]
        simp only [Act.put]
        rcases Nat.lt_or_ge t c.tmps.size with h' | h'
        · simp [h']
        · simp [Array.getElem?_eq_none h', Array.getElem?_eq_none (show a.tmps.size ≤ t by omega)]
      · have : (c.put o.dst (slotOf a o)).tmps.getD t undef = c.tmps.getD t undef := by
          cases hd' : o.dst with
          | none => rfl
          | some d =>
            have hne : d ≠ t := fun e => ho (by rw [hd', e])
            simp [Act.put, Array.getElem?_setIfInBounds, hne]
        rw [this]
        exact h t fun p hp => by
          rcases List.mem_cons.1 hp with rfl | hp
          · exact ho
          · exact ht p hp
def AllV (R : Nat → Value → World → Prop) (w : World) : Nat → List Value → Prop
  | _, [] => True
  | i, v :: l => R i v w ∧ AllV R w (i + 1) l
theorem allv_of {R : Nat → Value → World → Prop} {a : Act} {w : World} (l : List Oper) : ∀ k, Alls R a w k l → AllV R w k (l.map (slotOf a)) := by
  induction l with
  | nil => intro k _; trivial
  | cons o l ih => intro k h; exact ⟨h.1, ih (k + 1) h.2⟩

/-- Each operation with a guarantee of its own. -/
theorem wp_region_rgi {P : Program} {l : List Oper} {Q : Exit → Act → World → Prop} {a0 : Act} {w0 : World} {id : Nat} (n : Nat) (Inv : Nat → World → Prop) (G : Nat → World → World → Prop) (R : Nat → Value → World → Prop) (cost : Nat → Nat)
    (hm : P.follows .mixedOrders = true) (hB : rgB l.toArray = true) (hsz : (l.all fun o => match o.dst with | some d => decide (d < a0.tmps.size) | none => true) = true)
    (start : Inv (n + costs cost (Array.replicate l.length false) (List.range l.length)) w0.drew)
    (stable : ∀ i k v w w', i ≠ k → R k v w → G i w w' → R k v w')
    (step : Steps (fun i o => StepAt P l.toArray Q a0 n Inv (G i) R cost i o) 0 l)
    (fin : ∀ (vs : List Value) (w : World), vs.length = l.length → Inv n w → AllV R w 0 vs → Q .normal (putAll a0 l vs) w) :
    (Code.region id l.toArray true).wp P Q a0 w0 := by
  refine wp_region_rg (n := n) Inv G R cost hm hB hsz start stable (fun i o ho => by have := Steps.get l 0 step i o ho; rwa [Nat.zero_add] at this) (fun a w h1 h2 h3 h4 h5 => ?_)
  have := fin (l.map (slotOf a)) w (by simp) h3 (allv_of l 0 (alls_of l 0 fun i o ho => by rw [Nat.zero_add]; exact h4 i o ho))
  rwa [putAll_eq l a0 h1.symm h2.symm (fun t ht => (h5 t (List.all_eq_true.2 fun o ho => by simpa using ht o (by simpa using ho))).symm)] at this
theorem wp_region_rgs {P : Program} {l : List Oper} {Q : Exit → Act → World → Prop} {a0 : Act} {w0 : World} {id : Nat} (n : Nat) (Inv : Nat → World → Prop) (G : World → World → Prop) (R : Nat → Value → World → Prop) (cost : Nat → Nat)
    (hm : P.follows .mixedOrders = true) (hB : rgB l.toArray = true) (hsz : (l.all fun o => match o.dst with | some d => decide (d < a0.tmps.size) | none => true) = true)
    (start : Inv (n + costs cost (Array.replicate l.length false) (List.range l.length)) w0.drew)
    (stable : ∀ i v w w', R i v w → G w w' → R i v w')
    (step : Steps (StepAt P l.toArray Q a0 n Inv G R cost) 0 l)
    (fin : ∀ (vs : List Value) (w : World), vs.length = l.length → Inv n w → AllV R w 0 vs → Q .normal (putAll a0 l vs) w) :
    (Code.region id l.toArray true).wp P Q a0 w0 :=
  wp_region_rgi n Inv (fun _ => G) R cost hm hB hsz start (fun i k v w w' _ => stable k v w w') step fin
end Go.Proofs.YtfmffobdkfgekaaGreat
/- Contracts of the makers of bounds, moves and rosters: they return values of their types, and turn the stream's own block alone. -/
set_option linter.unusedVariables false
set_option linter.unusedSimpArgs false
namespace Go.Proofs.YtfmffobdkfgekaaGreat
open Go.RowKit

/-- A move. -/
structure Mv where
  time : Int
  kind : Int
  team : ByteArray
  player : ByteArray
def Mv.c (m : Mv) : List Value := [.int .i64 m.time, .int .i64 m.kind, .string m.team, .string m.player]
theorem Mv.c_len (m : Mv) : m.c.length = 4 := rfl

/-- Bounds of rosters, as a value. -/
structure Bd where
  most : Int
  hurt : Int
  adds : Int
  hold : Int
def Bd.v (b : Bd) : Value := .agg #[.int .i64 b.most, .int .i64 b.hurt, .int .i64 b.adds, .int .i64 b.hold]
def small (n : Int) : Prop := -1099511627777 ≤ n ∧ n ≤ 1099511627777
structure Mv.ok (m : Mv) : Prop where
  time : small m.time
  kind : small m.kind
  team : m.team.size ≤ 1000
  player : m.player.size ≤ 1000
structure Bd.ok (b : Bd) : Prop where
  most : small b.most
  hurt : small b.hurt
  adds : small b.adds
  hold : small b.hold

set_option maxHeartbeats 800000 in
theorem rightBounds_any (b n : Nat) (w : World) (hs : SOk w b (n + 4)) :
    Calls Tryz.prog 45 #[.pointer (some ⟨b, 0, none⟩)] w fun e w' => (∃ m1 m2 m3 m4 : Int, e = .returned (.agg #[.int .i64 m1, .int .i64 m2, .int .i64 m3, .int .i64 m4]) ∧ Bd.ok ⟨m1, m2, m3, m4⟩) ∧ St b n w w' := by
  have hlt := hs.lt
  go_enter Tryz.func45, Tryz.ntmps45
  go_wp2_with fail
  have st0 := (St.start ((St.start hs).alloc (.cells #[.int .i64 0, .int .i64 0, .int .i64 0, .int .i64 0] 27)).s)
  refine (pick_any b (n + 3) 4 _ [1, 2, 3, 3] _ (st0.alloc _).s (Sl.lit (alloc_size _ _) (by omega) rfl (by simp) (by omega)) (by omega)).mono ?_
  rintro e w1 ⟨⟨r1, rfl, hr1⟩, hs1, hg1⟩
  have st1 := (st0.alloc _).call hs1 hg1
  go_wp2_with fail
  refine (pick_any b (n + 2) 3 _ [0, 1, 2] _ (st1.alloc _).s (Sl.lit rfl (by have := st1.s.lt; omega) rfl (by simp) (by omega)) (by omega)).mono ?_
  rintro e w2 ⟨⟨r2, rfl, hr2⟩, hs2, hg2⟩
  have st2 := (st1.alloc _).call hs2 hg2
  go_wp2_with fail
  refine (pick_any b (n + 1) 4 _ [1, 2, 4, 9] _ (st2.alloc _).s (Sl.lit rfl (by have := st2.s.lt; omega) rfl (by simp) (by omega)) (by omega)).mono ?_
  rintro e w3 ⟨⟨r3, rfl, hr3⟩, hs3, hg3⟩
  have st3 := (st2.alloc _).call hs3 hg3
  go_wp2_with fail
  refine (pick_any b n 4 _ [0, 10, 50, 1000] _ (st3.alloc _).s (Sl.lit rfl (by have := st3.s.lt; omega) rfl (by simp) (by omega)) (by omega)).mono ?_
  rintro e w4 ⟨⟨r4, rfl, hr4⟩, hs4, hg4⟩
  have st4 := (st3.alloc _).call hs4 hg4
  obtain ⟨hc, hf⟩ := row_cells (st4.block (alloc_at _ rfl) (by omega))
  go_wp2
  refine bodyPost_ret (v := .agg #[.int .i64 r1, .int .i64 r2, .int .i64 r3, .int .i64 r4]) (by simp [results, Tryz.results45, go_sem, hc, hf]) rfl ⟨⟨r1, r2, r3, r4, rfl, ?_⟩, ?_⟩
  · simp at hr1 hr2 hr3 hr4
    exact ⟨⟨by dsimp only; omega, by dsimp only; omega⟩, ⟨by dsimp only; omega, by dsimp only; omega⟩, ⟨by dsimp only; omega, by dsimp only; omega⟩, ⟨by dsimp only; omega, by dsimp only; omega⟩⟩
  · exact (((((((St.start hs).alloc _).then st4).setCell hlt (Nat.le_refl _) _).setCell hlt (Nat.le_refl _) _).setCell hlt (Nat.le_refl _) _).setCell hlt (Nat.le_refl _) _)

set_option maxHeartbeats 800000 in
theorem bounds_any (b n : Nat) (w : World) (hs : SOk w b (n + 13)) :
    Calls Tryz.prog 6 #[.pointer (some ⟨b, 0, none⟩)] w fun e w' => (∃ m1 m2 m3 m4 : Int, e = .returned (.agg #[.int .i64 m1, .int .i64 m2, .int .i64 m3, .int .i64 m4]) ∧ Bd.ok ⟨m1, m2, m3, m4⟩) ∧ St b n w w' := by
  have hlt := hs.lt
  go_enter Tryz.func6, Tryz.ntmps6
  go_wp2_with fail
  have st0 := (St.start ((St.start hs).alloc (.cells #[.int .i64 0, .int .i64 0, .int .i64 0, .int .i64 0] 27)).s)
  refine (rightBounds_any b (n + 9) _ st0.s).mono ?_
  rintro e w1 ⟨⟨m1, m2, m3, m4, rfl, hok⟩, st1⟩
  have hB1 := st1.block (alloc_at _ rfl) (by omega)
  go_wp2_with fail
  have st2 := st1.alloc (.cells #[.int .i64 m1, .int .i64 m2, .int .i64 m3, .int .i64 m4] 27)
  refine (flip_any b (n + 8) _ _ st2.s (by omega)).mono ?_
  rintro e w2 ⟨⟨r, rfl⟩, hs2, hg2⟩
  have st3 := st2.call hs2 hg2
  have hR2 := (st1.alloc (.cells #[.int .i64 m1, .int .i64 m2, .int .i64 m3, .int .i64 m4] 27)).call hs2 hg2 |>.block (alloc_at _ rfl) (by omega)
  have stL := (St.start st2.s).call hs2 hg2
  have hL2 := stL.block (alloc_at _ rfl) (by have := st1.s.lt; omega)
  have hsz := st1.g.size
  simp only [alloc_size] at hsz
  cases r
  · obtain ⟨hcR, hfR⟩ := row_cells hR2
    obtain ⟨hcL, hfL⟩ := row_cells hL2
    go_wp2
    refine bodyPost_ret (v := .agg #[.int .i64 m1, .int .i64 m2, .int .i64 m3, .int .i64 m4]) (by simp [results, Tryz.results6, go_sem, hcR, hfR]) rfl ⟨⟨_, _, _, _, rfl, hok⟩, ?_⟩
    exact (((((((St.start hs).alloc _).then st3).mono (by omega)).setCell hlt (Nat.le_refl _) _).setCell hlt (Nat.le_refl _) _).setCell hlt (Nat.le_refl _) _).setCell hlt (Nat.le_refl _) _
  · go_wp2_with fail
    refine (odd_any b (n + 6) _ _ _ st3.s (by omega) (by omega) (by omega) (by omega)).mono ?_
    rintro e w3 ⟨⟨r1, rfl, hr1⟩, st4⟩
    go_wp2_with fail
    refine (odd_any b (n + 4) _ _ _ st4.s (by omega) (by omega) (by omega) (by omega)).mono ?_
    rintro e w4 ⟨⟨r2, rfl, hr2⟩, st5⟩
    go_wp2_with fail
    refine (odd_any b (n + 2) _ _ _ st5.s (by omega) (by omega) (by omega) (by omega)).mono ?_
    rintro e w5 ⟨⟨r3, rfl, hr3⟩, st6⟩
    go_wp2_with fail
    refine (odd_any b n _ _ _ st6.s (by omega) (by omega) (by omega) (by omega)).mono ?_
    rintro e w6 ⟨⟨r4, rfl, hr4⟩, st7⟩
    have st8 := ((st4.then st5).then st6).then st7
    have hR6 := st8.block hR2 (by omega)
    have hL6 := st8.block hL2 (by have := st1.s.lt; omega)
    obtain ⟨hcR, hfR⟩ := row_cells hR6
    obtain ⟨hcL, hfL⟩ := row_cells hL6
    clear hR2 hL2 hR6 hL6 hB1
    go_wp2
    refine bodyPost_ret (v := .agg #[.int .i64 r1, .int .i64 r2, .int .i64 r3, .int .i64 r4]) (by simp [results, Tryz.results6, go_sem, hcR, hfR]) rfl ⟨⟨_, _, _, _, rfl, ⟨hr1, hr2, hr3, hr4⟩⟩, ?_⟩
    have fin := ((((St.start hs).alloc _).then st3).then st8)
    repeat (with_reducible refine St.setCell ?_ hlt (by dsimp only; omega) _)
    with_reducible exact fin
end Go.Proofs.YtfmffobdkfgekaaGreat
/- Between the library's words for a sorted row of structs and this claim's. -/
set_option linter.unusedVariables false
set_option linter.unusedSimpArgs false
namespace Go.Proofs.YtfmffobdkfgekaaGreat
open Go.RowKit Go.Sort Go.Proofs

theorem flatK_list {α : Type} [Inhabited α] {enc : α → List Value} {k : Nat} (hk : ∀ x, (enc x).length = k) (d : Array α) : (flatK enc k d).toList = d.toList.flatMap enc := by
  refine List.ext_getElem? fun t => ?_
  by_cases ht : t < d.size * k
  · have hk0 : 0 < k := by
      rcases Nat.eq_zero_or_pos k with h | h
      · rw [h] at ht; simp at ht
      · exact h
    have hq : t / k < d.size := (Nat.div_lt_iff_lt_mul hk0).2 ht
    have hx : d.toList[t / k]? = some d[t / k]! := by rw [getElem!_pos d _ hq]; simp [hq]
    have h1 := flat_at hk d.toList (t / k) _ (t % k) hx (Nat.mod_lt _ hk0)
    rw [Nat.mul_comm, Nat.div_add_mod] at h1
    rw [h1]
    have hm : t % k < (enc d[t / k]!).length := by rw [hk]; exact Nat.mod_lt _ hk0
    have hf : t < (flatK enc k d).size := by simpa using ht
    have := get_flatK enc k d t ht
    rw [getElem!_pos (flatK enc k d) t hf, getElem!_pos (enc d[t / k]!) (t % k) hm] at this
    rw [List.getElem?_eq_getElem hm, ← this, Array.getElem?_toList, Array.getElem?_eq_getElem hf]
  · rw [List.getElem?_eq_none (by simpa using ht), List.getElem?_eq_none (by rw [flat_len hk]; simpa using ht)]

theorem holdsK_of_own {α : Type} [Inhabited α] {enc : α → List Value} {k : Nat} (hk : ∀ x, (enc x).length = k) {w : World} {base : Nat} {e : TypeId} {g cap : Nat} {d : Array α}
    (h : w.ownsRow base e k (.slice (some ⟨g, 0, none⟩) d.size cap) d.size (d.toList.flatMap enc)) : HoldsK enc k w g 0 d ∧ g < w.heap.size := by
  have hlt := (h.lt g rfl).2
  refine ⟨fun j hj => ?_, hlt⟩
  obtain ⟨h1, h2⟩ := h
  rcases h2 with ⟨h2, _⟩ | ⟨g', cap', cur, h2, hb, hg, hnc, hcm, hcs, ht⟩
  · cases h2
  · cases h2
    obtain ⟨hc, hf⟩ := row_cells hg
    refine ⟨?_, hf _⟩
    rw [hc, Nat.zero_add, getElem!_pos _ j hj]
    have h3 : (flatK enc k d).toList[j]? = some (flatK enc k d)[j] := by rw [Array.getElem?_toList, Array.getElem?_eq_getElem hj]
    rw [flatK_list hk, ← ht, List.getElem?_take] at h3
    split at h3
    · simpa using h3
    · cases h3

theorem own_sortWorldK {α : Type} [Inhabited α] {enc : α → List Value} {k : Nat} (hk : ∀ x, (enc x).length = k) {w : World} {base : Nat} {e : TypeId} {g cap : Nat} {d dk : Array α} (hs : dk.size = d.size) (m : Nat) (os : Array Obj)
    (h : w.ownsRow base e k (.slice (some ⟨g, 0, none⟩) d.size cap) d.size (d.toList.flatMap enc)) :
    (sortWorldK enc k w g 0 m dk os).ownsRow base e k (.slice (some ⟨g, 0, none⟩) d.size cap) d.size (dk.toList.flatMap enc) ∧ w.grownBy (sortWorldK enc k w g 0 m dk os) (some g) := by
  obtain ⟨h1, h2⟩ := h
  rcases h2 with ⟨h2, _⟩ | ⟨g', cap', cur, h2, hb, hg, hnc, hcm, hcs, ht⟩
  · cases h2
  · cases h2
    have hlt : g < w.heap.size := (Array.getElem?_eq_some_iff.1 hg).1
    have hheap : ∀ i, i < w.heap.size → (sortWorldK enc k w g 0 m dk os).heap[i]? = (mapBlock w g (putCells id 0 (flatK enc k dk))).heap[i]? := fun i hi => by
      show (grow (putRow id (Sort.ahead w m) g 0 (flatK enc k dk)) os).heap[i]? = _
      unfold grow putRow mapBlock Sort.ahead
      dsimp only
      rw [Array.getElem?_append_left (by simpa using hi)]
    have hgk : (sortWorldK enc k w g 0 m dk os).heap[g]? = some (.cells (putCells id 0 (flatK enc k dk) cur) e (0, 0)) := by
      rw [hheap g hlt]
      simp [mapBlock, Array.getElem?_modify, hg, onCells]
    refine ⟨⟨by rw [flat_len hk]; simp [hs], .inr ⟨g, cap, _, rfl, hb, hgk, hnc, hcm, by simp [putCells, hcs], ?_⟩⟩, ⟨rfl, rfl, rfl, ?_, fun i hi hne => ?_⟩⟩
    · refine List.ext_getElem? fun t => ?_
      rw [List.getElem?_take]
      by_cases ht' : t < d.size * k
      · have hf : t < (flatK enc k dk).size := by simpa [hs] using ht'
        have hc : t < cur.size := by rw [hcs]; exact Nat.lt_of_lt_of_le ht' (Nat.mul_le_mul_right _ hnc)
        rw [if_pos ht', ← flatK_list hk]
        simp [putCells, hc, hf]
        rw [if_pos (by rw [hs]; exact ht'), getElem!_pos (flatK enc k dk) t hf, Array.getElem?_eq_getElem hf]
      · rw [if_neg ht', List.getElem?_eq_none (by rw [flat_len hk]; simpa [hs] using ht')]
    · show _ ≤ (grow (putRow id (Sort.ahead w m) g 0 (flatK enc k dk)) os).heap.size
      unfold grow putRow mapBlock Sort.ahead
      simp
    · rw [hheap i hi]
      simp only [mapBlock, Array.getElem?_modify]
      rw [if_neg (by simpa using fun e => hne (by rw [e]))]
theorem permIn_all {α : Type} [Inhabited α] {d d' : Array α} (h : PermIn 0 d.size d d') : d'.toList.Perm d.toList := by
  have h3 := h.2.2
  have e : List.take d.size d'.toList = d'.toList := List.take_of_length_le (by simp [h.1])
  simpa [e] using h3
end Go.Proofs.YtfmffobdkfgekaaGreat
/- Moves in order: what orders them; the library's stable sort of at most 20 of them; what Compact leaves of them. -/
set_option linter.unusedVariables false
set_option linter.unusedSimpArgs false
namespace Go.Proofs.YtfmffobdkfgekaaGreat
open Go.RowKit Go.Sort Go.Proofs

/-- The order of strings, as a number. -/
def cmpS (a b : ByteArray) : Int := Lib.compareBytes a.data.toList b.data.toList
theorem strCompare_any (a b : ByteArray) (w : World) : Calls Tryz.prog 97 #[.string a, .string b] w fun e w' => e = .returned (.int .i64 (cmpS a b)) ∧ w = w' :=
  (Tryz.strings_Compare a b w).mono fun _ _ ⟨h, hw⟩ => ⟨h, hw.symm⟩

def moveOrd (x y : Mv) : Int := if x.time ≠ y.time then sgn (x.time - y.time) else if x.team.toList ≠ y.team.toList then cmpS x.team y.team else if x.player.toList ≠ y.player.toList then cmpS x.player y.player else sgn (x.kind - y.kind)

set_option maxHeartbeats 400000 in
theorem moveOrder_any (x y : Mv) (w : World) (hx : small x.time) (hy : small y.time) (hx2 : small x.kind) (hy2 : small y.kind) :
    Calls Tryz.prog 50 #[.agg x.c.toArray, .agg y.c.toArray] w fun e w' => e = .returned (.int .i64 (moveOrd x y)) ∧ w' = (w.alloc (.cells x.c.toArray 45)).alloc (.cells y.c.toArray 45) := by
  obtain ⟨h1, h2⟩ := hx
  obtain ⟨h3, h4⟩ := hy
  obtain ⟨h5, h6⟩ := hx2
  obtain ⟨h7, h8⟩ := hy2
  obtain ⟨xt, xk, xa, xp⟩ := x
  obtain ⟨yt, yk, ya, yp⟩ := y
  dsimp only [Mv.c] at *
  go_enter Tryz.func50, Tryz.ntmps50
  go_wp2_with (first | (go_at_call 97; refine (strCompare_any _ _ _).mono ?_; rintro e w' ⟨rfl, rfl⟩) | (go_at_call 105; refine (sign_any _ _).mono ?_; rintro e w' ⟨rfl, rfl⟩))
  all_goals go_ret
  all_goals refine ⟨congrArg (fun n => Ending.returned (.int .i64 n)) ?_, rfl⟩
  all_goals (unfold moveOrd; dsimp only; simp_all)

abbrev SMv := { m : Mv // small m.time ∧ small m.kind }
instance : Inhabited SMv := ⟨⟨⟨0, 0, ⟨#[]⟩, ⟨#[]⟩⟩, ⟨by dsimp only; omega, by dsimp only; omega⟩, ⟨by dsimp only; omega, by dsimp only; omega⟩⟩⟩
def encMv (m : SMv) : List Value := m.1.c
theorem encMv_len (m : SMv) : (encMv m).length = 4 := rfl
theorem encMv_one (m : SMv) : ∀ v ∈ encMv m, v.oneCell' = true := fun v hv => by
  simp [encMv, Mv.c] at hv
  rcases hv with rfl | rfl | rfl | rfl <;> rfl
def ordMv (x y : SMv) : Int := moveOrd x.1 y.1
theorem entersMoveOrder : ∀ args w, (callFunc 50 args).run Tryz.prog w = .ok (.enter 50 args) w := enters_of Tryz.func50 (by kernel_rfl) rfl
theorem cmpMv (blk off size : Nat) (w : World) : CmpLays Tryz.prog 50 #[] encMv 4 ordMv blk off size w := by
  intro m os dk hs x y
  refine (moveOrder_any x.1 y.1 _ x.2.1 y.2.1 x.2.2 y.2.2).mono ?_
  rintro e w' ⟨he, rfl⟩
  exact ⟨he, 0, #[_, _], by rw [alloc_eq_grow, alloc_eq_grow, grow_grow]; rfl⟩

theorem insMv_any (g cap a b : Nat) (d : Array SMv) (w : World) (hH : HoldsK encMv 4 w g 0 d) (hg : g < w.heap.size) (hab : a ≤ b) (hb : b ≤ d.size) (hsz : d.size ≤ 1000000) :
    Calls Tryz.prog 141 #[.slice (some ⟨g, 0, none⟩) d.size cap, .int .i64 a, .int .i64 b, .func (.func 50) #[] #[]] w fun e w' =>
      e = .returned (.tuple #[]) ∧ ∃ n os, w' = sortWorldK encMv 4 w g 0 n (Sort.insertionSort (ltOf ordMv) d a b) os :=
  AnyQ.insertionSortCmpFunc Tryz.insMv 4 Tryz.isAgg45 Tryz.sizeOf45 encMv encMv_len encMv_one ordMv 50 #[] g 0 cap a b d w entersMoveOrder (cmpMv g 0 d.size w) hH hg hab hb (by omega)

theorem insMv_none (v f : Value) (w : World) : Calls Tryz.prog 141 #[v, .int .i64 0, .int .i64 0, f] w fun e w' => e = .returned (.tuple #[]) ∧ w' = w := by
  go_enter Tryz.func141, Tryz.ntmps141
  go_wp2
  go_loop [8] (fun i => i = .int .i64 1) (fun _ => 0)
  case atStart => rfl
  case round =>
    subst hrel
    go_wp2
    go_end0
    exact ⟨rfl, rfl⟩
theorem stableMv_none (v f : Value) (w : World) : Calls Tryz.prog 104 #[v, .int .i64 0, f] w fun e w' => e = .returned (.tuple #[]) ∧ w' = w := by
  go_enter Tryz.func104, Tryz.ntmps104
  go_wp2
  go_loop [7, 8] (fun i j => i = .int .i64 0 ∧ j = .int .i64 20) (fun _ _ => 0)
  case atStart => exact ⟨rfl, rfl⟩
  case round =>
    obtain ⟨rfl, rfl⟩ := hrel
    go_wp2_with (go_at_call 141; refine (insMv_none _ _ _).mono ?_; rintro e w' ⟨rfl, rfl⟩)
    go_loop [6] (fun i => i = .int .i64 20) (fun _ => 0)
    case atStart => rfl
    case round =>
      subst hrel
      go_wp2
      go_end0
      exact ⟨rfl, rfl⟩

theorem ins_same (d : Array SMv) (a : Nat) : Sort.insertionSort (ltOf ordMv) d a a = d := by
  unfold Sort.insertionSort
  rw [insOuter, if_neg (by omega)]

theorem insInner_size (d : Array SMv) (a j : Nat) : (insInner (ltOf ordMv) a j d).size = d.size := by
  induction j generalizing d with
  | zero => unfold insInner; rfl
  | succ j ih =>
    unfold insInner
    split
    · rw [ih, swp_size]
    · rfl
theorem insOuter_size (a b : Nat) : ∀ (n i : Nat) (d : Array SMv), b - i = n → (insOuter (ltOf ordMv) a b i d).size = d.size
  | 0, i, d, h => by rw [insOuter, if_neg (by omega)]
  | n + 1, i, d, h => by rw [insOuter, if_pos (by omega), insOuter_size a b n (i + 1) _ (by omega), insInner_size]
theorem insSort_size (d : Array SMv) (a b : Nat) : (Sort.insertionSort (ltOf ordMv) d a b).size = d.size := insOuter_size a b _ _ d rfl
theorem ins_own {w : World} {base g cap a b : Nat} {d : Array SMv} (hown : w.ownsRow base 45 4 (.slice (some ⟨g, 0, none⟩) d.size cap) d.size (d.toList.flatMap encMv)) (hab : a ≤ b) (hb : b ≤ d.size) (hsz : d.size ≤ 1000000) :
    Calls Tryz.prog 141 #[.slice (some ⟨g, 0, none⟩) d.size cap, .int .i64 a, .int .i64 b, .func (.func 50) #[] #[]] w fun e w' =>
      e = .returned (.tuple #[]) ∧ w'.ownsRow base 45 4 (.slice (some ⟨g, 0, none⟩) d.size cap) d.size ((Sort.insertionSort (ltOf ordMv) d a b).toList.flatMap encMv) ∧ Gr g w w' ∧ (Sort.insertionSort (ltOf ordMv) d a b).size = d.size := by
  obtain ⟨hH, hg⟩ := holdsK_of_own encMv_len hown
  refine (insMv_any g cap a b d w hH hg hab hb hsz).mono ?_
  rintro e w' ⟨he, n, os, rfl⟩
  have hs : (Sort.insertionSort (ltOf ordMv) d a b).size = d.size := insSort_size _ _ _
  obtain ⟨h1, h2⟩ := own_sortWorldK encMv_len hs n os hown
  exact ⟨he, h1, h2, hs⟩

set_option maxHeartbeats 400000 in
theorem stableMv_some {w : World} {base g cap : Nat} {d : Array SMv} (hown : w.ownsRow base 45 4 (.slice (some ⟨g, 0, none⟩) d.size cap) d.size (d.toList.flatMap encMv)) (hd : d.size ≤ 20) :
    Calls Tryz.prog 104 #[.slice (some ⟨g, 0, none⟩) d.size cap, .int .i64 d.size, .func (.func 50) #[] #[]] w fun e w' =>
      e = .returned (.tuple #[]) ∧ w'.ownsRow base 45 4 (.slice (some ⟨g, 0, none⟩) d.size cap) d.size ((Sort.insertionSort (ltOf ordMv) d 0 d.size).toList.flatMap encMv) ∧ Gr g w w' := by
  generalize hn : d.size = n at hd
  have HN := Lib.hid hn
  rw [hn] at hown
  clear hn
  go_enter Tryz.func104, Tryz.ntmps104
  go_wp2
  go_loopw [7, 8] (fun i j wr => ∃ dk : Array SMv, ((i = .int .i64 0 ∧ j = .int .i64 20 ∧ dk = d) ∨ (i = .int .i64 20 ∧ j = .int .i64 40 ∧ dk = Sort.insertionSort (ltOf ordMv) d 0 20 ∧ n = 20)) ∧ Hid (dk.size = n) ∧ wr.ownsRow base 45 4 (.slice (some ⟨g, 0, none⟩) n cap) n (dk.toList.flatMap encMv) ∧ Gr g w wr) (fun i _ _ => 20 - (intOf i).toNat)
  case atStart => exact ⟨d, .inl ⟨rfl, rfl, rfl⟩, HN, hown, Gr.refl _ _⟩
  case round =>
    obtain ⟨dk, hij, hs, how, hgr⟩ := hrel
    have call : ∀ a b : Nat, a ≤ b → b ≤ n → Calls Tryz.prog 141 #[.slice (some ⟨g, 0, none⟩) n cap, .int .i64 a, .int .i64 b, .func (.func 50) #[] #[]] wr fun e w' =>
      e = .returned (.tuple #[]) ∧ w'.ownsRow base 45 4 (.slice (some ⟨g, 0, none⟩) n cap) n ((Sort.insertionSort (ltOf ordMv) dk a b).toList.flatMap encMv) ∧ Gr g wr w' ∧ (Sort.insertionSort (ltOf ordMv) dk a b).size = n := fun a b hab hb => by
      have := hs.out
      subst this
      exact ins_own how hab hb (by omega)
    have CALL := Lib.hid call
    clear call
    rcases hij with ⟨rfl, rfl, rfl⟩ | ⟨rfl, rfl, hdk, hn20⟩
    · by_cases h20 : n = 20
      · have hge : 20 ≤ n := by omega
        have HN20 := Lib.hid h20
        clear h20
        go_wp2_with fail
        refine (CALL.out 0 20 (by omega) (by omega)).mono ?_
        rintro e w' ⟨rfl, h1, h2, h3⟩
        have H3 := Lib.hid h3
        clear h3
        go_wp2
        go_roundw
        case rel => exact ⟨_, .inr ⟨rfl, rfl, rfl, HN20.out⟩, H3, h1, hgr.trans h2⟩
        case measure => simp [intOf]
      · have h20' : n < 20 := by omega
        go_wp2_with fail
        refine (CALL.out 0 n (by omega) (by omega)).mono ?_
        rintro e w' ⟨rfl, h1, h2, h3⟩
        have H3 := Lib.hid h3
        clear h3
        go_wp2
        go_loop [6] (fun i => i = .int .i64 20) (fun _ => 0)
        case atStart => rfl
        case round =>
          subst hrel
          go_wp2
          go_end0
          exact ⟨rfl, h1, hgr.trans h2⟩
    · have hge : 20 ≤ n := by omega
      have HN20 := Lib.hid hn20
      have HD := Lib.hid hdk
      clear hdk hn20
      go_wp2_with fail
      refine (CALL.out 20 n hge (Nat.le_refl _)).mono ?_
      rintro e w' ⟨rfl, h1, h2, h3⟩
      have H3 := Lib.hid h3
      clear h3
      go_wp2
      go_loop [6] (fun i => i = .int .i64 20) (fun _ => 0)
      case atStart => rfl
      case round =>
        subst hrel
        go_wp2
        go_end0
        rw [show Sort.insertionSort (ltOf ordMv) dk 20 n = dk from by rw [HN20.out, ins_same], HD.out] at h1
        rw [show Sort.insertionSort (ltOf ordMv) d 0 n = Sort.insertionSort (ltOf ordMv) d 0 20 from by rw [HN20.out]]
        exact ⟨rfl, h1, hgr.trans h2⟩

theorem insInner_perm (a j : Nat) : ∀ (d : Array SMv), j < d.size → (insInner (ltOf ordMv) a j d).toList.Perm d.toList := by
  induction j with
  | zero => intro d _; unfold insInner; exact List.Perm.refl _
  | succ j ih =>
    intro d hj
    unfold insInner
    split
    · refine (ih _ (by rw [swp_size]; omega)).trans (permIn_all (swp_permIn d 0 d.size (j + 1) j (by omega) hj (by omega) (by omega) (Nat.le_refl _)))
    · exact List.Perm.refl _
theorem insOuter_perm (a b : Nat) : ∀ (n i : Nat) (d : Array SMv), b - i = n → b ≤ d.size → (insOuter (ltOf ordMv) a b i d).toList.Perm d.toList
  | 0, i, d, h, hb => by rw [insOuter, if_neg (by omega)]
  | n + 1, i, d, h, hb => by
    rw [insOuter, if_pos (by omega)]
    exact (insOuter_perm a b n (i + 1) _ (by omega) (by rw [insInner_size]; exact hb)).trans (insInner_perm a i d (by omega))
theorem insSort_perm (d : Array SMv) (a b : Nat) (hb : b ≤ d.size) : (Sort.insertionSort (ltOf ordMv) d a b).toList.Perm d.toList := insOuter_perm a b _ _ d rfl hb

theorem mv_flat (l : List SMv) : l.flatMap encMv = (l.map (·.1)).flatMap Mv.c := by
  induction l with
  | nil => rfl
  | cons x l ih => simp only [List.flatMap_cons, List.map_cons, ih]; rfl
theorem mv_lift : ∀ l : List Mv, (∀ x ∈ l, x.ok) → ∃ l' : List SMv, l'.map (·.1) = l
  | [], _ => ⟨[], rfl⟩
  | x :: l, h => by
    obtain ⟨l', hl'⟩ := mv_lift l fun y hy => h y (by simp [hy])
    have hx := h x (by simp)
    exact ⟨⟨x, hx.time, hx.kind⟩ :: l', by simp [hl']⟩

/-- The stable sort of at most 20 moves: the same moves, in some order. -/
theorem sortStableMv_any {w : World} {base : Nat} {v : Value} {l : List Mv} (hown : w.ownsRow base 45 4 v l.length (l.flatMap Mv.c)) (hl : ∀ x ∈ l, x.ok) (hn : l.length ≤ 20) :
    Calls Tryz.prog 49 #[v, .func (.func 50) #[] #[]] w fun e w' =>
      e = .returned (.tuple #[]) ∧ ∃ l' : List Mv, l'.length = l.length ∧ (∀ x ∈ l', x.ok) ∧ w'.ownsRow base 45 4 v l.length (l'.flatMap Mv.c) ∧ w.grownBy w' v.ownBlock := by
  obtain ⟨ls, hls⟩ := mv_lift l hl
  rcases hown.2 with ⟨rfl, h0⟩ | ⟨g, cap, cur, rfl, hrest⟩
  · have hl0 : l = [] := List.eq_nil_of_length_eq_zero h0
    subst hl0
    clear hls
    go_enter Tryz.func49, Tryz.ntmps49
    go_wp2_with (go_at_call 104; refine (stableMv_none _ _ _).mono ?_; rintro e w' ⟨rfl, rfl⟩)
    go_end0
    exact ⟨rfl, [], rfl, by simp, hown, ⟨rfl, rfl, rfl, Nat.le_refl _, fun _ _ _ => rfl⟩⟩
  · clear hrest
    have hsz : (⟨ls⟩ : Array SMv).size = l.length := by rw [← hls]; simp
    have hown' : w.ownsRow base 45 4 (.slice (some ⟨g, 0, none⟩) (⟨ls⟩ : Array SMv).size cap) (⟨ls⟩ : Array SMv).size ((⟨ls⟩ : Array SMv).toList.flatMap encMv) := by
      rw [hsz, mv_flat, hls]; exact hown
    have hcon := stableMv_some hown' (by rw [hsz]; exact hn)
    rw [hsz] at hcon
    have HC := Lib.hid hcon
    have HS := Lib.hid hsz
    have HL := Lib.hid hls
    clear hcon hown' hsz hls
    go_enter Tryz.func49, Tryz.ntmps49
    go_wp2_with fail
    refine HC.out.mono ?_
    rintro e w' ⟨rfl, h1, h2⟩
    go_wp2
    go_end0
    have hp := insSort_perm (⟨ls⟩ : Array SMv) 0 l.length (by rw [HS.out]; exact Nat.le_refl _)
    rw [mv_flat] at h1
    refine ⟨rfl, _, ?_, fun x hx => ?_, h1, h2⟩
    · have := hp.length_eq
      have h3 := HS.out
      simp at this h3
      simp [this, h3]
    · obtain ⟨y, hy, rfl⟩ := List.mem_map.1 hx
      have : y ∈ ls := hp.mem_iff.1 hy
      exact hl _ (by rw [← HL.out]; exact List.mem_map.2 ⟨y, this, rfl⟩)
end Go.Proofs.YtfmffobdkfgekaaGreat
/- The program's order of moves, and the reference's: they agree. -/
set_option linter.unusedVariables false
set_option linter.unusedSimpArgs false
namespace Go.Proofs.YtfmffobdkfgekaaGreat
open Go.RowKit

def byMom (x y : Mv) : Int := firstI [cmpI x.time y.time, cmpS x.team y.team, cmpS x.player y.player, cmpI x.kind y.kind]
/-- Two values are boxed, and a number is drawn. -/
theorem two_boxes (w : World) (c1 c2 : Array Value) (t1 t2 : TypeId) : ∃ W, W = ((w.alloc (.cells c1 t1)).alloc (.cells c2 t2)).drew ∧
    W.heap[w.heap.size]? = some (.cells c1 t1 (0, 0)) ∧ W.heap[w.heap.size + 1]? = some (.cells c2 t2 (0, 0)) ∧ Below w.heap.size w W := by
  refine ⟨_, rfl, ?_, ?_, below_drewN (((Below.refl w.heap.size w).alloc (Nat.le_refl _) _).alloc (by simp) _) 1⟩
  · show ((w.alloc _).alloc _).heap[w.heap.size]? = _
    rw [Below.heap_alloc _ _ _ (by simp)]
    exact heap_alloc_new _ _
  · have := heap_alloc_new (w.alloc (.cells c1 t1)) (.cells c2 t2)
    rw [alloc_size] at this
    exact this
set_option maxHeartbeats 800000 in
set_option maxRecDepth 20000 in
theorem byMoment_grow (x y : Mv) (w : World) :
    Calls Tryz.prog 56 #[.agg x.c.toArray, .agg y.c.toArray] w fun e w' => e = .returned (.int .i64 (byMom x y)) ∧ ∃ q os, w' = Sort.grow (w.drewN q) os := by
  obtain ⟨xt, xk, xa, xp⟩ := x
  obtain ⟨yt, yk, ya, yp⟩ := y
  dsimp only [Mv.c] at *
  go_enter Tryz.func56, Tryz.ntmps56
  go_wp2
  obtain ⟨W, hW, hb1, hb2, hb3⟩ := two_boxes w #[.int .i64 xt, .int .i64 xk, .string xa, .string xp] #[.int .i64 yt, .int .i64 yk, .string ya, .string yp] 45 45
  refine wp_region_still_tail 20 (by kernel_rfl) (by kernel_rfl) ?_
  change wpStill _ _ (World.drew (World.alloc (World.alloc w (.cells #[.int .i64 xt, .int .i64 xk, .string xa, .string xp] 45)) (.cells #[.int .i64 yt, .int .i64 yk, .string ya, .string yp] 45))) _ _ _
  rw [← hW]
  have HW := Lib.hid hW
  clear hW
  obtain ⟨hc1, hf1⟩ := row_cells hb1
  obtain ⟨hc2, hf2⟩ := row_cells hb2
  have HB := Lib.hid hb3
  clear hb1 hb2 hb3 hf1 hf2
  simp only [List.take_succ_cons, List.take_zero, List.drop_succ_cons, List.drop_zero]
  repeat (first | still_step | still_call ((strCompare_any _ _ _).mono fun _ _ h => ⟨h.1, h.2.symm⟩) | still_call ((compareInt_any _ _ _).mono fun _ _ h => ⟨h.1, h.2.symm⟩))
  refine wpStill_nil ?_
  change wpList _ _ _ _ _ (World.drew (World.alloc (World.alloc w (.cells #[.int .i64 xt, .int .i64 xk, .string xa, .string xp] 45)) (.cells #[.int .i64 yt, .int .i64 yk, .string ya, .string yp] 45)))
  rw [← HW.out]
  have hlit : Sl 0 (W.alloc (.cells #[.int .i64 (cmpI xt yt), .int .i64 (cmpS xa ya), .int .i64 (cmpS xp yp), .int .i64 (cmpI xk yk)] 3)) (.slice (some ⟨W.heap.size, 0, none⟩) 4 4) 1 4 ([cmpI xt yt, cmpS xa ya, cmpS xp yp, cmpI xk yk].map (.int .i64)) :=
    Sl.lit rfl (Nat.zero_le _) rfl (by simp) (by omega)
  have HS := Lib.hid hlit
  clear hlit
  have hb4 := HB.out.alloc HB.out.size (.cells #[.int .i64 (cmpI xt yt), .int .i64 (cmpS xa ya), .int .i64 (cmpS xp yp), .int .i64 (cmpI xk yk)] 3)
  have HB4 := Lib.hid hb4
  clear hb4
  go_wp2_with fail
  refine (cmpOr_any HS.out rfl).mono ?_
  rintro e w' ⟨rfl, q, rfl⟩
  go_wp2
  go_ret
  refine ⟨rfl, 1 + q, #[.cells #[.int .i64 xt, .int .i64 xk, .string xa, .string xp] 45, .cells #[.int .i64 yt, .int .i64 yk, .string ya, .string yp] 45, .cells #[.int .i64 (cmpI xt yt), .int .i64 (cmpS xa ya), .int .i64 (cmpS xp yp), .int .i64 (cmpI xk yk)] 3], ?_⟩
  have hg : W = Sort.grow (w.drewN 1) #[.cells #[.int .i64 xt, .int .i64 xk, .string xa, .string xp] 45, .cells #[.int .i64 yt, .int .i64 yk, .string ya, .string yp] 45] := by
    rw [HW.out, Sort.alloc_eq_grow, Sort.alloc_eq_grow, Sort.grow_grow]; rfl
  rw [Sort.alloc_eq_grow]
  conv => lhs; rw [hg]
  rw [Sort.grow_grow]
  show Sort.grow ((w.drewN 1).drewN q) _ = _
  rw [World.drewN_drewN]
  rfl
theorem below_grow (w : World) (q : Nat) (os : Array Obj) : Below w.heap.size w (Sort.grow (w.drewN q) os) := by
  refine ⟨rfl, rfl, rfl, by simp [Sort.grow], fun i hi => ?_⟩
  show (w.heap ++ os)[i]? = _
  rw [Array.getElem?_append_left hi]
theorem byMoment_any (x y : Mv) (w : World) :
    Calls Tryz.prog 56 #[.agg x.c.toArray, .agg y.c.toArray] w fun e w' => e = .returned (.int .i64 (byMom x y)) ∧ Below w.heap.size w w' := by
  refine (byMoment_grow x y w).mono ?_
  rintro e w' ⟨he, q, os, rfl⟩
  exact ⟨he, below_grow _ _ _⟩

theorem sgn_sub (a b : Int) : sgn (a - b) = cmpI a b := by unfold sgn cmpI; split <;> split <;> (try split) <;> omega
theorem cmpI_zero {a b : Int} : cmpI a b = 0 ↔ a = b := by unfold cmpI; split <;> (try split) <;> constructor <;> intro h <;> omega
theorem cmpI_anti (a b : Int) : cmpI b a = - cmpI a b := by unfold cmpI; split <;> split <;> (try split) <;> omega
theorem u8_tri (a b : UInt8) : a < b ∨ a = b ∨ b < a := by
  rcases Nat.lt_trichotomy a.toNat b.toNat with h | h | h
  · exact .inl (UInt8.lt_iff_toNat_lt.2 h)
  · exact .inr (.inl (UInt8.toNat_inj.1 h))
  · exact .inr (.inr (UInt8.lt_iff_toNat_lt.2 h))
theorem bytes_zero : ∀ (a b : List UInt8), Lib.compareBytes a b = 0 ↔ a = b
  | [], [] => by simp [Lib.compareBytes]
  | [], _ :: _ => by simp [Lib.compareBytes]
  | _ :: _, [] => by simp [Lib.compareBytes]
  | a :: l, b :: m => by
    unfold Lib.compareBytes
    rcases u8_tri a b with h | h | h
    · rw [if_pos h]; simp; intro e; subst e; exact absurd h (UInt8.lt_irrefl _)
    · subst h; simp [UInt8.lt_irrefl, bytes_zero l m]
    · rw [if_neg (UInt8.lt_asymm h), if_pos h]; simp; intro e; subst e; exact absurd h (UInt8.lt_irrefl _)
theorem bytes_anti : ∀ (a b : List UInt8), Lib.compareBytes b a = - Lib.compareBytes a b
  | [], [] => by simp [Lib.compareBytes]
  | [], _ :: _ => by simp [Lib.compareBytes]
  | _ :: _, [] => by simp [Lib.compareBytes]
  | a :: l, b :: m => by
    unfold Lib.compareBytes
    rcases u8_tri a b with h | h | h
    · rw [if_neg (UInt8.lt_asymm h), if_pos h, if_pos h]; rfl
    · subst h; simp [UInt8.lt_irrefl, bytes_anti l m]
    · rw [if_pos h, if_neg (UInt8.lt_asymm h), if_pos h]
theorem cmpS_zero {a b : ByteArray} : cmpS a b = 0 ↔ a.toList = b.toList := by rw [toList_data, toList_data]; exact bytes_zero _ _
theorem cmpS_anti (a b : ByteArray) : cmpS b a = - cmpS a b := bytes_anti _ _
/-- The two orders say the same, the other way round. -/
theorem orders_agree (x y : Mv) : byMom x y = - moveOrd y x := by
  unfold byMom moveOrd
  rw [sgn_sub, sgn_sub]
  have e1 : y.time = x.time ↔ cmpI x.time y.time = 0 := by rw [cmpI_zero]; exact eq_comm
  have e2 : y.team.toList = x.team.toList ↔ cmpS x.team y.team = 0 := by rw [cmpS_zero]; exact eq_comm
  have e3 : y.player.toList = x.player.toList ↔ cmpS x.player y.player = 0 := by rw [cmpS_zero]; exact eq_comm
  simp only [ne_eq, e1, e2, e3, cmpI_anti x.time y.time, cmpS_anti x.team y.team, cmpS_anti x.player y.player, cmpI_anti x.kind y.kind, firstI, Int.neg_neg]
  repeat' split
  all_goals omega
end Go.Proofs.YtfmffobdkfgekaaGreat
/- What is wrong with bounds, moments, names: the program's tests and the reference's. -/
set_option linter.unusedVariables false
set_option linter.unusedSimpArgs false
namespace Go.Proofs.YtfmffobdkfgekaaGreat
open Go.RowKit

def bfault (b : Bd) : Int := if inB b.most 1 20 then if inB b.hurt 0 20 then if inB b.adds 0 2000 then if inB b.hold 0 1209600000 then 0 else 1 else 1 else 1 else 1
set_option maxHeartbeats 400000 in
theorem checkBounds_any (b : Bd) (w : World) : Calls Tryz.prog 16 #[b.v] w fun e w' => e = .returned (.int .i64 (bfault b)) ∧ Below w.heap.size w w' := by
  obtain ⟨m1, m2, m3, m4⟩ := b
  unfold bfault
  dsimp only [Bd.v]
  cases h1 : inB m1 1 20 <;> (try cases h2 : inB m2 0 20) <;> (try cases h3 : inB m3 0 2000) <;> (try cases h4 : inB m4 0 1209600000)
  all_goals
    go_enter Tryz.func16, Tryz.ntmps16
    go_wp2_with (go_at_call 65; refine (out_any _ _ _ _).mono ?_; rintro e w' ⟨rfl, rfl⟩)
    go_ret
    exact ⟨rfl, (Below.refl w.heap.size w).alloc (Nat.le_refl _) _⟩
set_option maxHeartbeats 400000 in
theorem boundsFault_any (b : Bd) (w : World) : Calls Tryz.prog 13 #[b.v] w fun e w' => e = .returned (.int .i64 (bfault b)) ∧ Below w.heap.size w w' := by
  obtain ⟨m1, m2, m3, m4⟩ := b
  unfold bfault
  dsimp only [Bd.v]
  cases h1 : inB m1 1 20 <;> (try cases h2 : inB m2 0 20) <;> (try cases h3 : inB m3 0 2000) <;> (try cases h4 : inB m4 0 1209600000)
  all_goals
    go_enter Tryz.func13, Tryz.ntmps13
    go_wp2_with (go_at_call 61; refine (in_any _ _ _ _).mono ?_; rintro e w' ⟨rfl, rfl⟩)
    go_ret
    exact ⟨rfl, (Below.refl w.heap.size w).alloc (Nat.le_refl _) _⟩
def tfault (t : Int) : Int := if inB t 0 maxMoment then 0 else 1
theorem momentFault_any (t : Int) (w : World) : Calls Tryz.prog 28 #[.int .i64 t] w fun e w' => e = .returned (.int .i64 (tfault t)) ∧ w = w' := by
  unfold tfault
  cases h : inB t 0 maxMoment
  all_goals
    go_enter Tryz.func28, Tryz.ntmps28
    go_wp2_with (go_at_call 60; refine (qmoment_any _ _).mono ?_; rintro e w' ⟨rfl, rfl⟩)
    go_ret
    exact ⟨rfl, rfl⟩
def whenE (b : Bool) (e : Int) : Int := if b then e else 0
theorem when_any (b : Bool) (e : Int) (w : World) : Calls Tryz.prog 73 #[.bool b, .int .i64 e] w fun x w' => x = .returned (.int .i64 (whenE b e)) ∧ w = w' := by
  cases b
  all_goals
    go_enter Tryz.func73, Tryz.ntmps73
    go_wp2
    go_ret
    exact ⟨rfl, rfl⟩
def nfault (s : ByteArray) : Int := whenE (!keyB s) 5
theorem nameFault_any (s : ByteArray) (w : World) (hs : s.size ≤ 1000) : Calls Tryz.prog 27 #[.string s] w fun e w' => e = .returned (.int .i64 (nfault s)) ∧ Drew w w' := by
  go_enter Tryz.func27, Tryz.ntmps27
  go_wp2_with fail
  refine (qkey_any s _ (by omega)).mono ?_
  rintro e w' ⟨rfl, q, rfl⟩
  go_wp2_with fail
  refine (when_any _ _ _).mono ?_
  rintro e w' ⟨rfl, rfl⟩
  go_wp2
  go_ret
  exact ⟨rfl, _, rfl⟩
end Go.Proofs.YtfmffobdkfgekaaGreat
/- What is wrong with a list of moves: roster.CheckMoves. -/
set_option linter.unusedVariables false
set_option linter.unusedSimpArgs false
namespace Go.Proofs.YtfmffobdkfgekaaGreat
open Go.RowKit

def mvBad (p : Option Mv) (x : Mv) : Int :=
  if inB x.time 0 maxMoment then if inB x.kind 1 4 then if keyB x.team then if keyB x.player then (match p with | none => 0 | some y => if byMom x y ≤ 0 then 7 else 0) else 5 else 5 else 4 else 1
def mfGo : Option Mv → List Mv → Int
  | _, [] => 0
  | p, x :: l => if mvBad p x ≠ 0 then mvBad p x else mfGo (some x) l
/-- What is wrong with moves. -/
def mfault (l : List Mv) : Int := mfGo none l
def before {α : Type} (l : List α) : Nat → Option α
  | 0 => none
  | k + 1 => l[k]?
theorem mfGo_stop {l : List Mv} {k : Nat} {x : Mv} (hk : l[k]? = some x) (h : mfGo (before l k) (l.drop k) = mfault l) (hb : mvBad (before l k) x ≠ 0) : mfault l = mvBad (before l k) x := by
  have hlt : k < l.length := (List.getElem?_eq_some_iff.1 hk).1
  rw [← h, List.drop_eq_getElem_cons hlt, (List.getElem?_eq_some_iff.1 hk).2, mfGo, if_pos hb]
theorem mfGo_step {l : List Mv} {k : Nat} {x : Mv} (hk : l[k]? = some x) (h : mfGo (before l k) (l.drop k) = mfault l) (hb : mvBad (before l k) x = 0) : mfGo (before l (k + 1)) (l.drop (k + 1)) = mfault l := by
  have hlt : k < l.length := (List.getElem?_eq_some_iff.1 hk).1
  rw [← h, List.drop_eq_getElem_cons hlt, (List.getElem?_eq_some_iff.1 hk).2, mfGo, if_neg (by rw [hb]; simp)]
  simp only [before, hk]
theorem mfGo_end {l : List Mv} {k : Nat} (hk : ¬ k < l.length) (h : mfGo (before l k) (l.drop k) = mfault l) : mfault l = 0 := by
  rw [← h, List.drop_eq_nil_of_le (by omega)]; rfl
theorem mv_cells {lo : Nat} {w : World} {A : Option Addr} {c n : Nat} {l : List Mv} (h : Sl lo w (.slice A n c) 4 n (l.flatMap Mv.c)) {k : Nat} {x : Mv} (hx : l[k]? = some x) :
    ∃ b o, A = some ⟨b, o, none⟩ ∧ lo ≤ b ∧ b < w.heap.size ∧ w.cell? ⟨b, o + k * 4, none⟩ = some (.int .i64 x.time) ∧ w.cell? ⟨b, o + k * 4 + 1, none⟩ = some (.int .i64 x.kind) ∧ w.cell? ⟨b, o + k * 4 + 2, none⟩ = some (.string x.team) ∧ w.cell? ⟨b, o + k * 4 + 3, none⟩ = some (.string x.player) := by
  obtain ⟨b, o, e1, e2, e3, e4⟩ := h.recd Mv.c_len hx (by omega)
  exact ⟨b, o, e1, e2, e3, e4 0 _ rfl, e4 1 _ rfl, e4 2 _ rfl, e4 3 _ rfl⟩

/-- A value is laid in a block, and a number is drawn. -/
theorem one_box (w : World) (c1 : Array Value) (t1 : TypeId) : ∃ W, W = (w.alloc (.cells c1 t1)).drew ∧
    W.heap[w.heap.size]? = some (.cells c1 t1 (0, 0)) ∧ Below w.heap.size w W :=
  ⟨_, rfl, heap_alloc_new _ _, below_drewN ((Below.refl w.heap.size w).alloc (Nat.le_refl _) _) 1⟩
set_option maxHeartbeats 800000 in
set_option maxRecDepth 20000 in
theorem checkMoves_any {lo : Nat} {w : World} {v : Value} {n : Nat} {l : List Mv} (h : Sl lo w v 4 n (l.flatMap Mv.c)) (hl : l.length = n) (hn : n ≤ 2000) (hok : ∀ x ∈ l, x.ok) :
    Calls Tryz.prog 17 #[v] w fun e w' => e = .returned (.int .i64 (mfault l)) ∧ Below w.heap.size w w' := by
  obtain ⟨A, c, rfl, hn2⟩ := h.shape
  have H := Lib.hid h
  clear h
  go_enter Tryz.func17, Tryz.ntmps17
  go_wp2
  go_loopw [10, 3] (fun i j wr => ∃ k : Nat, k ≤ n ∧ i = .int .i64 k ∧ mfGo (before l k) (l.drop k) = mfault l ∧ Below w.heap.size w wr) (fun i _ _ => n - (intOf i).toNat)
  case atStart => exact ⟨0, by omega, rfl, rfl, Below.refl _ _⟩
  case round =>
    obtain ⟨k, hk, rfl, hf, hbw⟩ := hrel
    have HF := Lib.hid hf
    have HB := Lib.hid hbw
    clear hf hbw
    by_cases hlt : k < n
    · obtain ⟨x, hx⟩ : ∃ x, l[k]? = some x := ⟨_, List.getElem?_eq_getElem (by omega)⟩
      have hxo := hok x (List.mem_of_getElem? hx)
      obtain ⟨b, o, rfl, _, hbl, h1, h2, h3, h4⟩ := mv_cells (H.out.below HB.out) hx
      have HX := Lib.hid hx
      clear hx
      obtain ⟨xt, xk, xa, xp⟩ := x
      dsimp only at h1 h2 h3 h4
      have hs1 : xa.size ≤ 1000 := hxo.team
      have hs2 : xp.size ≤ 1000 := hxo.player
      have ix : (0 : Int) ≤ (k : Int) ∧ (k : Int) < (n : Int) := ⟨by omega, by omega⟩
      cases e1 : inB xt 0 maxMoment with
      | false =>
        have hv : mvBad (before l k) ⟨xt, xk, xa, xp⟩ = 1 := by simp [mvBad, e1]
        have HE := Lib.hid ((mfGo_stop HX.out HF.out (by rw [hv]; decide)).trans hv)
        clear hv
        go_wp2_with (first | (go_at_call 66; refine (moment_any _ _).mono ?_; rintro e w' ⟨rfl, rfl⟩) | (go_at_call 65; refine (out_any _ _ _ _).mono ?_; rintro e w' ⟨rfl, rfl⟩) | (go_at_call 67; refine (key_any _ _ (by omega)).mono ?_; rintro e w' ⟨rfl, rfl⟩))
        go_ret
        exact ⟨congrArg (fun b => Ending.returned (.int .i64 b)) HE.out.symm, HB.out.alloc HB.out.size _⟩
      | true =>
      cases e2 : inB xk 1 4 with
      | false =>
        have hv : mvBad (before l k) ⟨xt, xk, xa, xp⟩ = 4 := by simp [mvBad, e1, e2]
        have HE := Lib.hid ((mfGo_stop HX.out HF.out (by rw [hv]; decide)).trans hv)
        clear hv
        go_wp2_with (first | (go_at_call 66; refine (moment_any _ _).mono ?_; rintro e w' ⟨rfl, rfl⟩) | (go_at_call 65; refine (out_any _ _ _ _).mono ?_; rintro e w' ⟨rfl, rfl⟩) | (go_at_call 67; refine (key_any _ _ (by omega)).mono ?_; rintro e w' ⟨rfl, rfl⟩))
        go_ret
        exact ⟨congrArg (fun b => Ending.returned (.int .i64 b)) HE.out.symm, HB.out.alloc HB.out.size _⟩
      | true =>
      cases e3 : keyB xa with
      | false =>
        have hv : mvBad (before l k) ⟨xt, xk, xa, xp⟩ = 5 := by simp [mvBad, e1, e2, e3]
        have HE := Lib.hid ((mfGo_stop HX.out HF.out (by rw [hv]; decide)).trans hv)
        clear hv
        go_wp2_with (first | (go_at_call 66; refine (moment_any _ _).mono ?_; rintro e w' ⟨rfl, rfl⟩) | (go_at_call 65; refine (out_any _ _ _ _).mono ?_; rintro e w' ⟨rfl, rfl⟩) | (go_at_call 67; refine (key_any _ _ (by omega)).mono ?_; rintro e w' ⟨rfl, rfl⟩))
        go_ret
        exact ⟨congrArg (fun b => Ending.returned (.int .i64 b)) HE.out.symm, HB.out.alloc HB.out.size _⟩
      | true =>
      cases e4 : keyB xp with
      | false =>
        have hv : mvBad (before l k) ⟨xt, xk, xa, xp⟩ = 5 := by simp [mvBad, e1, e2, e3, e4]
        have HE := Lib.hid ((mfGo_stop HX.out HF.out (by rw [hv]; decide)).trans hv)
        clear hv
        go_wp2_with (first | (go_at_call 66; refine (moment_any _ _).mono ?_; rintro e w' ⟨rfl, rfl⟩) | (go_at_call 65; refine (out_any _ _ _ _).mono ?_; rintro e w' ⟨rfl, rfl⟩) | (go_at_call 67; refine (key_any _ _ (by omega)).mono ?_; rintro e w' ⟨rfl, rfl⟩))
        go_ret
        exact ⟨congrArg (fun b => Ending.returned (.int .i64 b)) HE.out.symm, HB.out.alloc HB.out.size _⟩
      | true =>
        rcases k with _ | j
        · have hv : mvBad (before l 0) ⟨xt, xk, xa, xp⟩ = 0 := by simp [mvBad, before, e1, e2, e3, e4]
          have HE := Lib.hid (mfGo_step HX.out HF.out hv)
          clear hv
          simp only [Nat.zero_mul, Nat.add_zero] at h1 h2 h3 h4
          go_wp2_with (first | (go_at_call 66; refine (moment_any _ _).mono ?_; rintro e w' ⟨rfl, rfl⟩) | (go_at_call 65; refine (out_any _ _ _ _).mono ?_; rintro e w' ⟨rfl, rfl⟩) | (go_at_call 67; refine (key_any _ _ (by omega)).mono ?_; rintro e w' ⟨rfl, rfl⟩))
          go_quiet (fail)
          go_wp2
          go_roundw
          case rel => exact ⟨1, by omega, by go_num, HE.out, below_drewN (HB.out.alloc HB.out.size _) _⟩
          case measure => simp [intOf]; omega
        · go_wp2_with (first | (go_at_call 66; refine (moment_any _ _).mono ?_; rintro e w' ⟨rfl, rfl⟩) | (go_at_call 65; refine (out_any _ _ _ _).mono ?_; rintro e w' ⟨rfl, rfl⟩) | (go_at_call 67; refine (key_any _ _ (by omega)).mono ?_; rintro e w' ⟨rfl, rfl⟩))
          obtain ⟨y, hy⟩ : ∃ y, l[j]? = some y := ⟨_, List.getElem?_eq_getElem (by omega)⟩
          have hbef : before l (j + 1) = some y := hy
          obtain ⟨W, hW, hb1, hb2⟩ := one_box wr #[.int .i64 xt, .int .i64 xk, .string xa, .string xp] 45
          have hbW := HB.out.trans (hb2.mono HB.out.size)
          obtain ⟨b', o', hbo, _, _, g1, g2, g3, g4⟩ := mv_cells (H.out.below hbW) hy
          cases hbo
          obtain ⟨yt, yk, ya, yp⟩ := y
          dsimp only at g1 g2 g3 g4
          obtain ⟨r1, r2⟩ := row_cells hb1
          have iy : (0 : Int) ≤ (j : Int) ∧ (j : Int) < (n : Int) := ⟨by omega, by omega⟩
          have ew : IntKind.i64.wrap (j : Int) = (j : Int) := by rw [IntKind.wrap_i64]; omega
          refine wp_region_still_tail 9 (by kernel_rfl) (by kernel_rfl) ?_
          change wpStill _ _ (World.drew (World.alloc wr (.cells #[.int .i64 xt, .int .i64 xk, .string xa, .string xp] 45))) _ _ _
          rw [← hW]
          have HW := Lib.hid hW
          have HBW := Lib.hid hbW
          have HR := Lib.hid hbef
          clear hW hb1 hb2 h1 h2 h3 h4 hbW hy hbef r2
          simp only [List.take_succ_cons, List.take_zero, List.drop_succ_cons, List.drop_zero]
          repeat still_step
          refine wpStill_nil ?_
          change wpList _ _ _ _ _ (World.drew (World.alloc wr (.cells #[.int .i64 xt, .int .i64 xk, .string xa, .string xp] 45)))
          rw [← HW.out]
          go_wp2_with fail
          refine (byMoment_any ⟨xt, xk, xa, xp⟩ ⟨yt, yk, ya, yp⟩ W).mono ?_
          rintro e w' ⟨rfl, hbw'⟩
          have hbe : Below w.heap.size w w' := HBW.out.trans (hbw'.mono HBW.out.size)
          have HBE := Lib.hid hbe
          clear hbw' hbe g1 g2 g3 g4 r1
          have hbv : mvBad (before l (j + 1)) ⟨xt, xk, xa, xp⟩ = if byMom ⟨xt, xk, xa, xp⟩ ⟨yt, yk, ya, yp⟩ ≤ 0 then 7 else 0 := by rw [HR.out]; simp [mvBad, e1, e2, e3, e4]
          generalize byMom ⟨xt, xk, xa, xp⟩ ⟨yt, yk, ya, yp⟩ = m at hbv ⊢
          by_cases hm : m ≤ 0
          · rw [if_pos hm] at hbv
            have HE := Lib.hid ((mfGo_stop HX.out HF.out (by rw [hbv]; decide)).trans hbv)
            clear hbv
            go_wp2
            go_ret
            exact ⟨congrArg (fun b => Ending.returned (.int .i64 b)) HE.out.symm, HBE.out⟩
          · rw [if_neg hm] at hbv
            have HE := Lib.hid (mfGo_step HX.out HF.out hbv)
            clear hbv
            go_wp2
            go_roundw
            case rel => exact ⟨j + 2, by omega, by go_num, HE.out, HBE.out⟩
            case measure => simp [intOf]; omega
    · have HC := Lib.hid (mfGo_end (by rw [hl]; exact hlt) HF.out)
      go_wp2
      go_ret
      exact ⟨congrArg (fun b => Ending.returned (.int .i64 b)) HC.out.symm, HB.out⟩
end Go.Proofs.YtfmffobdkfgekaaGreat
