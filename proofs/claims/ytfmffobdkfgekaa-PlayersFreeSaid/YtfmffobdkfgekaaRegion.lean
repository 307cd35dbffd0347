/- A region that draws its order: what each operation leaves is said by a predicate that every other operation keeps; then it holds of all of them at the end, whatever the order. -/
import Derived.Test.YtfmffobdkfgekaaBase
set_option linter.unusedVariables false
set_option linter.unusedSimpArgs false
namespace Go.Proofs.Ytfmffobdkfgekaa
open Go.RowKit

def preds (o : Oper) : List Nat := (o.after.toList.filter (Region.binds .any)).map (·.on)
def slotOf (a : Act) (o : Oper) : Value := match o.dst with | some d => a.tmps.getD d undef | none => undef
/-- Edges lead backwards; no two operations write one slot. -/
def rgB (ops : Array Oper) : Bool :=
  (List.range ops.size).all fun i => match ops[i]? with
    | none => true
    | some o => (preds o).all (· < i) && (List.range ops.size).all fun k => k == i || (match ops[k]? with | some p => p.dst == none || !(p.dst == o.dst) | none => true)
/-- Slot t has not been written yet when operation i comes up: each operation that writes it waits for i. -/
def freshB (ops : Array Oper) (i t : Nat) : Bool := ops.toList.all fun o => !(o.dst == some t) || (preds o).contains i
/-- Slot t is written by no operation at all. -/
def neverB (ops : Array Oper) (t : Nat) : Bool := ops.toList.all fun o => !(o.dst == some t)

structure RgAt (ops : Array Oper) (a0 : Act) (R : Nat → Value → World → Prop) (listed : Array Bool) (a : Act) (w : World) : Prop where
  lsize : listed.size = ops.size
  closed : ∀ (i : Nat) (o : Oper), ops[i]? = some o → listed.getD i false = true → ∀ j ∈ preds o, listed.getD j false = true
  done : ∀ (i : Nat) (o : Oper), ops[i]? = some o → listed.getD i false = true → R i (slotOf a o) w
  old : ∀ t, (∀ (k : Nat) (o : Oper), ops[k]? = some o → o.dst = some t → listed.getD k false = false) → a.tmps.getD t undef = a0.tmps.getD t undef
  size : a.tmps.size = a0.tmps.size
  defers : a.defers = a0.defers

/-- What operation i may lean on. -/
structure RgPre0 (ops : Array Oper) (a0 : Act) (R : Nat → Value → World → Prop) (i : Nat) (o : Oper) (a : Act) (w : World) : Prop where
  pre : ∀ j ∈ preds o, ∀ p, ops[j]? = some p → R j (slotOf a p) w
  old : ∀ t, freshB ops i t = true → a.tmps.getD t undef = a0.tmps.getD t undef

def costs (cost : Nat → Nat) (listed : Array Bool) : List Nat → Nat
  | [] => 0
  | i :: l => (if listed.getD i false then 0 else cost i) + costs cost listed l

theorem costs_set {cost : Nat → Nat} {listed : Array Bool} {i : Nat} (hi : i < listed.size) (hl : listed.getD i false = false) : ∀ l : List Nat, l.Nodup → costs cost listed l = (if i ∈ l then cost i else 0) + costs cost (listed.setIfInBounds i true) l
  | [], _ => by simp [costs]
  | j :: l, hn => by
    obtain ⟨hj, hn'⟩ := List.nodup_cons.1 hn
    simp only [costs]
    rw [costs_set hi hl l hn']
    by_cases hij : i = j
    · subst hij
      rw [hl, if_neg (by simp), if_neg hj, if_pos (by simp)]
      have : (listed.setIfInBounds i true).getD i false = true := by simp [hi]
      rw [this]; simp
    · have : (listed.setIfInBounds i true).getD j false = listed.getD j false := by simp [Array.getElem?_setIfInBounds, hij]
      rw [this]
      simp only [List.mem_cons, hij, false_or]
      omega

def wsum (cost : Nat → Nat) (p : Nat → Bool) : List Nat → Nat
  | [] => 0
  | i :: l => (if p i then cost i else 0) + wsum cost p l
theorem wsum_mono {cost : Nat → Nat} {p q : Nat → Bool} (l : List Nat) (h : ∀ i ∈ l, p i = true → q i = true) : wsum cost p l ≤ wsum cost q l := by
  induction l with
  | nil => simp [wsum]
  | cons i l ih =>
    simp only [wsum]
    have h1 := ih fun j hj => h j (by simp [hj])
    have h2 := h i (by simp)
    cases hp : p i
    · simp; omega
    · rw [h2 hp]; simp; omega
theorem wsum_costs {cost : Nat → Nat} {listed : Array Bool} (l : List Nat) : wsum cost (fun k => !listed.getD k false) l = costs cost listed l := by
  induction l with
  | nil => rfl
  | cons i l ih =>
    simp only [wsum, costs, ih]
    by_cases h : listed.getD i false = true
    · rw [if_pos h, if_neg (by rw [h]; simp)]
    · rw [if_neg h, if_pos (by simp at h; simp [h])]
theorem wsum_split {cost : Nat → Nat} {p : Nat → Bool} (l : List Nat) : wsum cost p l + wsum cost (fun k => !p k) l = wsum cost (fun _ => true) l := by
  induction l with
  | nil => rfl
  | cons i l ih =>
    simp only [wsum]
    by_cases h : p i = true
    · rw [if_pos h, if_neg (by rw [h]; simp), if_pos trivial]; omega
    · rw [if_neg h, if_pos (by simp at h; simp [h]), if_pos trivial]; omega
/-- What is still to be paid by those that wait for operation i; what has been paid by those that it waits for; all. -/
def waits (ops : Array Oper) (cost : Nat → Nat) (i : Nat) : Nat := wsum cost (fun k => match ops[k]? with | some o => (preds o).contains i | none => false) (List.range ops.size)
def paid (ops : Array Oper) (cost : Nat → Nat) (o : Oper) : Nat := wsum cost (fun k => (preds o).contains k) (List.range ops.size)
def total (ops : Array Oper) (cost : Nat → Nat) : Nat := wsum cost (fun _ => true) (List.range ops.size)

structure RgPre (ops : Array Oper) (a0 : Act) (R : Nat → Value → World → Prop) (cost : Nat → Nat) (n m : Nat) (i : Nat) (o : Oper) (a : Act) (w : World) : Prop extends RgPre0 ops a0 R i o a w where
  low : n + waits ops cost i ≤ m
  high : m + cost i + paid ops cost o ≤ n + total ops cost

theorem slotOf_put_other {a : Act} {o p : Oper} {v : Value} (h : p.dst = none ∨ p.dst ≠ o.dst) : slotOf (a.put o.dst v) p = slotOf a p := by
  unfold slotOf
  cases hp : p.dst with
  | none => rfl
  | some d =>
    cases ho : o.dst with
    | none => rfl
    | some e =>
      have hne : e ≠ d := by rintro rfl; rcases h with h | h <;> simp_all
      simp [Act.put, Array.getElem?_setIfInBounds, hne]

theorem costs_all {cost : Nat → Nat} {listed : Array Bool} : ∀ l : List Nat, (∀ i ∈ l, listed.getD i false = true) → costs cost listed l = 0
  | [], _ => rfl
  | i :: l, h => by simp only [costs]; rw [h i (by simp), costs_all l (fun j hj => h j (by simp [hj]))]; simp
theorem costs_zero {listed : Array Bool} : ∀ l : List Nat, costs (fun _ => 1) listed l = 0 → ∀ i ∈ l, listed.getD i false = true
  | [], _, i, hi => by simp at hi
  | j :: l, h, i, hi => by
    simp only [costs] at h
    rcases List.mem_cons.1 hi with rfl | hi
    · cases hl : listed.getD i false with
      | true => rfl
      | false => rw [hl] at h; simp at h
    · exact costs_zero l (by omega) i hi

theorem rgB_lt {ops : Array Oper} (h : rgB ops = true) {i : Nat} {o : Oper} (ho : ops[i]? = some o) : ∀ j ∈ preds o, j < i := by
  have hi := (Array.getElem?_eq_some_iff.1 ho).1
  have := List.all_eq_true.1 h i (List.mem_range.2 hi)
  rw [ho] at this
  simp only [Bool.and_eq_true] at this
  intro j hj
  simpa using List.all_eq_true.1 this.1 j hj
theorem rgB_ne {ops : Array Oper} (h : rgB ops = true) {i k : Nat} {o p : Oper} (ho : ops[i]? = some o) (hp : ops[k]? = some p) (hki : k ≠ i) : p.dst = none ∨ p.dst ≠ o.dst := by
  have hi := (Array.getElem?_eq_some_iff.1 ho).1
  have hk := (Array.getElem?_eq_some_iff.1 hp).1
  have := List.all_eq_true.1 h i (List.mem_range.2 hi)
  rw [ho] at this
  simp only [Bool.and_eq_true] at this
  have h2 := List.all_eq_true.1 this.2 k (List.mem_range.2 hk)
  rw [hp] at h2
  simp only [Bool.or_eq_true, beq_iff_eq, Bool.not_eq_true', beq_eq_false_iff_ne] at h2
  rcases h2 with h2 | h2 | h2
  · exact absurd h2 hki
  · exact .inl h2
  · exact .inr h2
theorem getD_true_of {l : Array Bool} {i : Nat} (h : l.getD i false = true) : l.getD i true = true := by
  rcases Nat.lt_or_ge i l.size with h' | h'
  · simp [h'] at h ⊢; exact h
  · simp [Array.getElem?_eq_none h']

theorem rg_any {P : Program} {ops : Array Oper} {Q : Exit → Act → World → Prop} {a0 : Act} {n : Nat} {Inv : Nat → World → Prop} {G : Nat → World → World → Prop} {R : Nat → Value → World → Prop} {cost : Nat → Nat}
    (hB : rgB ops = true) (hsz : ∀ (i : Nat) (o : Oper) (d : Nat), ops[i]? = some o → o.dst = some d → d < a0.tmps.size)
    (stable : ∀ i k v w w', i ≠ k → R k v w → G i w w' → R k v w')
    (step : ∀ (i : Nat) (o : Oper), ops[i]? = some o → ∀ (a : Act) (w : World) (m : Nat), a.tmps.size = a0.tmps.size → a.defers = a0.defers → Inv (m + cost i) w → RgPre ops a0 R cost n m i o a w →
      wpOp P ops Q i (fun a' w' => ∃ v, a' = a.put o.dst v ∧ (o.dst = none → v = undef) ∧ R i v w' ∧ G i w w' ∧ Inv m w') a w)
    (fin : ∀ (a : Act) (w : World), a.tmps.size = a0.tmps.size → a.defers = a0.defers → Inv n w → (∀ (i : Nat) (o : Oper), ops[i]? = some o → R i (slotOf a o) w) → (∀ t, neverB ops t = true → a.tmps.getD t undef = a0.tmps.getD t undef) → Q .normal a w) :
    ∀ (fuel : Nat) (listed : Array Bool) (a : Act) (w : World), RgAt ops a0 R listed a w → Inv (n + costs cost listed (List.range ops.size)) w →
      costs (fun _ => 1) listed (List.range ops.size) ≤ fuel → wpAny P .any ops Q fuel listed a w := by
  have last : ∀ (listed : Array Bool) (a : Act) (w : World), RgAt ops a0 R listed a w → Inv (n + costs cost listed (List.range ops.size)) w → (∀ i, i < ops.size → listed.getD i false = true) → Q .normal a w := by
    intro listed a w h hI hall
    rw [costs_all _ (fun i hi => hall i (List.mem_range.1 hi)), Nat.add_zero] at hI
    refine fin a w h.size h.defers hI (fun i o ho => h.done i o ho (hall i (Array.getElem?_eq_some_iff.1 ho).1)) (fun t ht => h.old t (fun k o ho hd => ?_))
    have hk := List.all_eq_true.1 ht o (by have := (Array.getElem?_eq_some_iff.1 ho); rw [← this.2]; simp)
    simp [hd] at hk
  have ready_of : ∀ (listed : Array Bool) (a : Act) (w : World), RgAt ops a0 R listed a w → ∀ i, i < ops.size → listed.getD i false = false → ∃ j, j ∈ Region.ready .any ops listed := by
    intro listed a w h i
    induction i using Nat.strongRecOn with
    | _ i ih =>
      intro hi hl
      obtain ⟨o, ho⟩ : ∃ o, ops[i]? = some o := ⟨_, Array.getElem?_eq_getElem hi⟩
      by_cases hp : ∀ j ∈ preds o, listed.getD j false = true
      · refine ⟨i, mem_ready.2 ⟨getD_in (by rw [h.lsize]; exact hi) hl, o, ho, fun e he hb => hp e.on ?_⟩⟩
        exact List.mem_map.2 ⟨e, List.mem_filter.2 ⟨by simpa using he, hb⟩, rfl⟩
      · have ⟨j, hj, hjl⟩ : ∃ j, j ∈ preds o ∧ listed.getD j false = false := by
          apply Classical.byContradiction
          intro hc
          refine hp fun j hj => ?_
          cases hx : listed.getD j false with
          | true => rfl
          | false => exact absurd ⟨j, hj, hx⟩ hc
        have hlt := rgB_lt hB ho j hj
        exact ih j hlt (by omega) hjl
  have notready : ∀ (listed : Array Bool), (∀ i, i < ops.size → listed.getD i false = true) → Region.ready .any ops listed = [] := by
    intro listed hall
    refine List.eq_nil_iff_forall_not_mem.2 fun i hi => ?_
    obtain ⟨h1, o, ho, _⟩ := mem_ready.1 hi
    rw [getD_true_of (hall i (Array.getElem?_eq_some_iff.1 ho).1)] at h1
    cases h1
  intro fuel
  induction fuel with
  | zero =>
    intro listed a w h hI hc
    have hall := costs_zero _ (Nat.le_zero.1 hc)
    have hall' : ∀ i, i < ops.size → listed.getD i false = true := fun i hi => hall i (List.mem_range.2 hi)
    exact ⟨notready listed hall', last listed a w h hI hall'⟩
  | succ fuel ih =>
    intro listed a w h hI hc
    refine ⟨fun h0 => last listed a w h hI fun i hi => ?_, fun i hi => ?_⟩
    · cases hl : listed.getD i false with
      | true => rfl
      | false =>
        obtain ⟨j, hj⟩ := ready_of listed a w h i hi hl
        rw [h0] at hj; cases hj
    · obtain ⟨hun, o, ho, hall⟩ := mem_ready.1 hi
      have his := (Array.getElem?_eq_some_iff.1 ho).1
      have hun' := getD_both hun
      have hil : i < listed.size := by rw [h.lsize]; exact his
      have hpl : ∀ j ∈ preds o, listed.getD j false = true := fun j hj => by
        obtain ⟨e, he, rfl⟩ := List.mem_map.1 hj
        obtain ⟨he1, he2⟩ := List.mem_filter.1 he
        exact hall e (by simpa using he1) he2
      have hcs := costs_set (cost := cost) hil hun' (List.range ops.size) List.nodup_range
      have hcs1 := costs_set (cost := fun _ => 1) hil hun' (List.range ops.size) List.nodup_range
      rw [if_pos (List.mem_range.2 his)] at hcs hcs1
      refine wpOp_mono (fun a' w' => ?_) (step i o ho a w (n + costs cost (listed.setIfInBounds i true) (List.range ops.size)) h.size h.defers (by rw [hcs] at hI; rw [show n + costs cost (listed.setIfInBounds i true) (List.range ops.size) + cost i = n + (cost i + costs cost (listed.setIfInBounds i true) (List.range ops.size)) by omega]; exact hI)
        ⟨⟨fun j hj p hp => h.done j p hp (hpl j hj), fun t ht => h.old t fun k p hp hd => ?_⟩, ?_, ?_⟩)
      · rintro ⟨v, rfl, hv, hR, hG, hI'⟩
        refine ih _ _ _ ⟨by simp [h.lsize], fun k p hp hk j hj => ?_, fun k p hp hk => ?_, fun t ht => ?_, ?_, ?_⟩ hI' (by omega)
        · by_cases hki : i = k
          · subst hki
            have : p = o := Option.some.inj (hp.symm.trans ho)
            subst this
            exact getD_set_true (hpl j hj)
          · rw [getD_set_ne false hki] at hk
            exact getD_set_true (h.closed k p hp hk j hj)
        · by_cases hki : i = k
          · subst hki
            have : p = o := Option.some.inj (hp.symm.trans ho)
            subst this
            have hsl : slotOf (a.put p.dst v) p = v := by
              unfold slotOf
              cases hd : p.dst with
              | none => exact (hv hd).symm
              | some d =>
                have := hsz i p d ho hd
                simp [Act.put, h.size, this]
            rw [hsl]; exact hR
          · rw [getD_set_ne false hki] at hk
            rw [slotOf_put_other (rgB_ne hB ho hp (fun e => hki e.symm))]
            exact stable i k _ _ _ hki (h.done k p hp hk) hG
        · have hne : ∀ d, o.dst = some d → d ≠ t := fun d hd e => by
            subst e
            have := ht i o ho hd
            simp [hil] at this
          have : (a.put o.dst v).tmps.getD t undef = a.tmps.getD t undef := by
            cases hd : o.dst with
            | none => rfl
            | some d => simp [Act.put, Array.getElem?_setIfInBounds, hne d hd]
          rw [this]
          refine h.old t fun k p hp hd => ?_
          have := ht k p hp hd
          by_cases hki : i = k
          · subst hki; exact hun'
          · rwa [getD_set_ne false hki] at this
        · cases hd : o.dst with
          | none => exact h.size
          | some d => simpa [Act.put] using h.size
        · cases hd : o.dst with
          | none => exact h.defers
          | some d => exact h.defers
      · have := List.all_eq_true.1 ht p (by have := (Array.getElem?_eq_some_iff.1 hp); rw [← this.2]; simp)
        simp only [hd, beq_self_eq_true, Bool.not_true, Bool.false_or] at this
        cases hl : listed.getD k false with
        | false => rfl
        | true =>
          have := h.closed k p hp hl i (by simpa using this)
          rw [hun'] at this; cases this
      · rw [← wsum_costs]
        refine Nat.add_le_add_left (wsum_mono _ fun k hk hw => ?_) n
        cases hp : ops[k]? with
        | none => rw [hp] at hw; cases hw
        | some p =>
          rw [hp] at hw
          have hik : i ∈ preds p := by simpa using hw
          have hlt := rgB_lt hB hp i hik
          rw [getD_set_ne false (show i ≠ k by omega)]
          cases hl : listed.getD k false with
          | false => rfl
          | true => have := h.closed k p hp hl i hik; rw [hun'] at this; cases this
      · have e1 := wsum_split (cost := cost) (p := fun k => !listed.getD k false) (List.range ops.size)
        rw [wsum_costs] at e1
        have e2 : paid ops cost o ≤ wsum cost (fun k => !!listed.getD k false) (List.range ops.size) := wsum_mono _ fun k hk hw => by
          have : k ∈ preds o := by simpa using hw
          rw [hpl k this]; rfl
        unfold total
        omega

/-- One operation's step. -/
def StepAt (P : Program) (ops : Array Oper) (Q : Exit → Act → World → Prop) (a0 : Act) (n : Nat) (Inv : Nat → World → Prop) (G : World → World → Prop) (R : Nat → Value → World → Prop) (cost : Nat → Nat) (i : Nat) (o : Oper) : Prop :=
  ∀ (a : Act) (w : World) (m : Nat), a.tmps.size = a0.tmps.size → a.defers = a0.defers → Inv (m + cost i) w → RgPre ops a0 R cost n m i o a w →
      wpOp P ops Q i (fun a' w' => ∃ v, a' = a.put o.dst v ∧ (o.dst = none → v = undef) ∧ R i v w' ∧ G w w' ∧ Inv m w') a w
def Steps (S : Nat → Oper → Prop) : Nat → List Oper → Prop
  | _, [] => True
  | i, o :: l => S i o ∧ Steps S (i + 1) l
theorem Steps.get {S : Nat → Oper → Prop} (l : List Oper) : ∀ (k : Nat), Steps S k l → ∀ (i : Nat) (o : Oper), l[i]? = some o → S (k + i) o := by
  induction l with
  | nil => intro k _ i o h; simp at h
  | cons p l ih =>
    intro k h i o hi
    unfold Steps at h
    cases i with
    | zero =>
      rw [List.getElem?_cons_zero] at hi
      cases hi
      exact h.1
    | succ i =>
      rw [List.getElem?_cons_succ] at hi
      have h2 := ih (k + 1) h.2 i o hi
      rw [show k + (i + 1) = k + 1 + i by omega]
      exact h2
def Alls (R : Nat → Value → World → Prop) (a : Act) (w : World) : Nat → List Oper → Prop
  | _, [] => True
  | i, o :: l => R i (slotOf a o) w ∧ Alls R a w (i + 1) l
theorem alls_of {R : Nat → Value → World → Prop} {a : Act} {w : World} (l : List Oper) : ∀ (k : Nat), (∀ (i : Nat) (o : Oper), l[i]? = some o → R (k + i) (slotOf a o) w) → Alls R a w k l := by
  induction l with
  | nil => intro k _; trivial
  | cons o l ih =>
    intro k h
    unfold Alls
    refine ⟨h 0 o rfl, ih (k + 1) fun i p hp => ?_⟩
    have := h (i + 1) p (by rw [List.getElem?_cons_succ]; exact hp)
    rwa [show k + (i + 1) = k + 1 + i by omega] at this

theorem wpOp_plain {P : Program} {l : List Oper} {Q : Exit → Act → World → Prop} {i : Nat} {o : Oper} {K : Act → World → Prop} {a : Act} {w : World} (ho : l[i]? = some o) (hg : o.guard = none) (h : o.wp P a w K Q) : wpOp P l.toArray Q i K a w := by
  unfold wpOp
  simp only [List.getElem?_toArray, ho]
  rw [if_pos (by simp [Region.wanted, hg])]
  exact .inl h

theorem wp_region_rg {P : Program} {l : List Oper} {Q : Exit → Act → World → Prop} {a0 : Act} {w0 : World} {id n : Nat} (Inv : Nat → World → Prop) (G : Nat → World → World → Prop) (R : Nat → Value → World → Prop) (cost : Nat → Nat)
    (hm : P.follows .mixedOrders = true) (hB : rgB l.toArray = true) (hsz : (l.all fun o => match o.dst with | some d => decide (d < a0.tmps.size) | none => true) = true)
    (start : Inv (n + costs cost (Array.replicate l.length false) (List.range l.length)) w0.drew)
    (stable : ∀ i k v w w', i ≠ k → R k v w → G i w w' → R k v w')
    (step : ∀ (i : Nat) (o : Oper), l[i]? = some o → ∀ (a : Act) (w : World) (m : Nat), a.tmps.size = a0.tmps.size → a.defers = a0.defers → Inv (m + cost i) w → RgPre l.toArray a0 R cost n m i o a w →
      wpOp P l.toArray Q i (fun a' w' => ∃ v, a' = a.put o.dst v ∧ (o.dst = none → v = undef) ∧ R i v w' ∧ G i w w' ∧ Inv m w') a w)
    (fin : ∀ (a : Act) (w : World), a.tmps.size = a0.tmps.size → a.defers = a0.defers → Inv n w → (∀ (i : Nat) (o : Oper), l[i]? = some o → R i (slotOf a o) w) → (∀ t, neverB l.toArray t = true → a.tmps.getD t undef = a0.tmps.getD t undef) → Q .normal a w) :
    (Code.region id l.toArray true).wp P Q a0 w0 := by
  refine wp_region_any hm (rg_any (Inv := Inv) (G := G) (R := R) (cost := cost) (n := n) hB (fun i o d ho hd => ?_) stable (fun i o ho => step i o (by simpa using ho)) (fun a w h1 h2 h3 h4 h5 => fin a w h1 h2 h3 (fun i o ho => h4 i o (by simpa using ho)) h5) _ _ _ _ ?_ ?_ ?_)
  · have := List.all_eq_true.1 hsz o (List.mem_of_getElem? (by simpa using ho))
    rw [hd] at this
    simpa using this
  · exact ⟨by simp, fun i o _ h => (by rw [getD_replicate_false] at h; cases h), fun i o _ h => (by rw [getD_replicate_false] at h; cases h), fun t _ => rfl, rfl, rfl⟩
  · simpa using start
  · have : ∀ l' : List Nat, costs (fun _ => 1) (Array.replicate l.toArray.size false) l' ≤ l'.length := fun l' => by
      induction l' with
      | nil => simp [costs]
      | cons x l' ih => simp only [costs, List.length_cons]; split <;> omega
    simpa using this (List.range l.toArray.size)
section
variable {P : Program} {l : List Oper} {Q : Exit → Act → World → Prop} {a0 : Act} {n : Nat} {Inv : Nat → World → Prop} {G : World → World → Prop} {R : Nat → Value → World → Prop} {cost : Nat → Nat} {i : Nat} {o : Oper}
theorem ex_move {ρ : Operand → Value} {x : Operand} {v : Value} {w : World} (h : o.op = .move x) (hx : ρ x = v) : (execOp ρ o).run P w = .ok (.value v) w := by simp [execOp, h, hx]
theorem ex_assign {ρ : Operand → Value} {x : Operand} {v : Value} {w : World} (h : o.op = .assign x) (hx : ρ x = v) : (execOp ρ o).run P w = .ok (.value v) w := by simp [execOp, h, hx]
theorem ex_load {ρ : Operand → Value} {t : TypeId} {x : Operand} {p : Addr} {v : Value} {w : World} (h : o.op = .load t x) (hx : ρ x = .pointer (some p)) (ha : ∀ w, (isAgg t).run P w = .ok false w) (hc : w.cell? p = some v) : (execOp ρ o).run P w = .ok (.value v) w := by
  simp [execOp, h, hx, Instr.loadAt, Instr.sureAddr, loadVar, ha, load, hc, Sem.run, go_sem]
theorem ex_store_int {ρ : Operand → Value} {t : TypeId} {x y : Operand} {p : Addr} {u : Int} {v : Value} {w : World} (h : o.op = .store t x y) (hx : ρ x = .pointer (some p)) (hy : ρ y = .int .i64 u) (hs : ∀ w, (sizeOf t).run P w = .ok 1 w) (hc : w.cell? p = some v) (hf : w.frozen? p = false) : (execOp ρ o).run P w = .ok .skip (w.setCell p (.int .i64 u)) := by
  simp [execOp, h, hx, hy, Instr.storeAt, Instr.sureAddr, storeVar, hs, go_sem, hc, hf]
theorem ex_store_str {ρ : Operand → Value} {t : TypeId} {x y : Operand} {p : Addr} {u : ByteArray} {v : Value} {w : World} (h : o.op = .store t x y) (hx : ρ x = .pointer (some p)) (hy : ρ y = .string u) (hs : ∀ w, (sizeOf t).run P w = .ok 1 w) (hc : w.cell? p = some v) (hf : w.frozen? p = false) : (execOp ρ o).run P w = .ok .skip (w.setCell p (.string u)) := by
  simp [execOp, h, hx, hy, Instr.storeAt, Instr.sureAddr, storeVar, hs, go_sem, hc, hf]
theorem ex_store_bool {ρ : Operand → Value} {t : TypeId} {x y : Operand} {p : Addr} {u : Bool} {v : Value} {w : World} (h : o.op = .store t x y) (hx : ρ x = .pointer (some p)) (hy : ρ y = .bool u) (hs : ∀ w, (sizeOf t).run P w = .ok 1 w) (hc : w.cell? p = some v) (hf : w.frozen? p = false) : (execOp ρ o).run P w = .ok .skip (w.setCell p (.bool u)) := by
  simp [execOp, h, hx, hy, Instr.storeAt, Instr.sureAddr, storeVar, hs, go_sem, hc, hf]
theorem ex_field {ρ : Operand → Value} {t : TypeId} {x : Operand} {k off : Nat} {b o' : Nat} {w : World} (h : o.op = .fieldAddr t x k) (hx : ρ x = .pointer (some ⟨b, o', none⟩)) (hs : ∀ w, (Instr.fieldAt t (.pointer (some ⟨b, o', none⟩)) k).run P w = .ok (.pointer (some ⟨b, o' + off, none⟩)) w) : (execOp ρ o).run P w = .ok (.value (.pointer (some ⟨b, o' + off, none⟩))) w := by
  simp [execOp, h, hx, hs]
theorem ex_slice2 {ρ : Operand → Value} {t e : TypeId} {x y : Operand} {u v : Value} {w : World} (h : o.op = .buildSlice t 2 #[(0, x), (1, y)]) (hx : ρ x = u) (hy : ρ y = v) (hs : ∀ w, (Instr.buildSlice t 2 #[(0, u), (1, v)]).run P w = .ok (.slice (some ⟨w.heap.size, 0, none⟩) 2 2) (w.alloc (.cells #[u, v] e))) : (execOp ρ o).run P w = .ok (.value (.slice (some ⟨w.heap.size, 0, none⟩) 2 2)) (w.alloc (.cells #[u, v] e)) := by
  simp [execOp, h, hx, hy, hs]
/-- An operation that yields a value. -/
theorem step_run (ho : l[i]? = some o) (hg : o.guard = none) (hd : o.dst.isSome = true)
    (h : ∀ (a : Act) (w : World) (m : Nat), RgPre l.toArray a0 R cost n m i o a w → Inv (m + cost i) w → ∃ v w', (execOp a.eval o).run P w = .ok (.value v) w' ∧ R i v w' ∧ G w w' ∧ Inv m w') : StepAt P l.toArray Q a0 n Inv G R cost i o := by
  intro a w m hsz hdf hI hp
  refine wpOp_plain ho hg ?_
  obtain ⟨v, w', hr, hR, hG, hI'⟩ := h a w m hp hI
  unfold Oper.wp
  rw [hr]
  exact ⟨v, rfl, fun h0 => (by rw [h0] at hd; cases hd), hR, hG, hI'⟩
/-- A store. -/
theorem step_skip (ho : l[i]? = some o) (hg : o.guard = none) (hd : o.dst = none)
    (h : ∀ (a : Act) (w : World) (m : Nat), RgPre l.toArray a0 R cost n m i o a w → Inv (m + cost i) w → ∃ w', (execOp a.eval o).run P w = .ok .skip w' ∧ R i undef w' ∧ G w w' ∧ Inv m w') : StepAt P l.toArray Q a0 n Inv G R cost i o := by
  intro a w m hsz hdf hI hp
  refine wpOp_plain ho hg ?_
  obtain ⟨w', hr, hR, hG, hI'⟩ := h a w m hp hI
  unfold Oper.wp
  rw [hr]
  exact ⟨undef, rfl, fun _ => rfl, hR, hG, hI'⟩
/-- A call of a Go function. -/
theorem step_call {f : FuncId} (as : Act → Array Value) (ho : l[i]? = some o) (hg : o.guard = none) (hd : o.dst.isSome = true)
    (he : ∀ (a : Act) (w : World), (execOp a.eval o).run P w = .ok (.enter f (as a)) w)
    (h : ∀ (a : Act) (w : World) (m : Nat), RgPre l.toArray a0 R cost n m i o a w → Inv (m + cost i) w → Calls P f (as a) w fun e w' => ∃ v, e = .returned v ∧ R i v w' ∧ G w w' ∧ Inv m w') : StepAt P l.toArray Q a0 n Inv G R cost i o := by
  intro a w m hsz hdf hI hp
  refine wpOp_plain ho hg ?_
  unfold Oper.wp
  rw [he]
  rw [Oper.upon_enter]
  refine (h a w m hp hI).mono ?_
  rintro e w' ⟨v, rfl, hR, hG, hI'⟩
  exact ⟨v, rfl, fun h0 => (by rw [h0] at hd; cases hd), hR, hG, hI'⟩
end

/-- The frame in which each operation has left its value. -/
def putAll (a : Act) : List Oper → List Value → Act
  | o :: l, v :: vs => putAll (a.put o.dst v) l vs
  | _, _ => a
theorem putAll_eq {a : Act} (l : List Oper) : ∀ (c : Act), c.tmps.size = a.tmps.size → c.defers = a.defers → (∀ t, (∀ o ∈ l, o.dst ≠ some t) → c.tmps.getD t undef = a.tmps.getD t undef) → putAll c l (l.map (slotOf a)) = a := by
  induction l with
  | nil =>
    intro c hs hd h
    obtain ⟨ct, cd⟩ := c
    obtain ⟨at_, ad⟩ := a
    dsimp only at hs hd
    subst hd
    have : ct = at_ := by
      refine Array.ext hs fun i h1 h2 => ?_
      have := h i (by simp)
      simpa [h1, h2] using this
    subst this
    rfl
  | cons o l ih =>
    intro c hs hd h
    refine ih (c.put o.dst (slotOf a o)) ?_ ?_ fun t ht => ?_
    · cases ho : o.dst <;> simp [Act.put, hs]
    · cases ho : o.dst <;> simp [Act.put, hd]
    · by_cases ho : o.dst = some t
      · unfold slotOf
        rw [ho]
        simp only [Act.put]
        rcases Nat.lt_or_ge t c.tmps.size with h' | h'
        · simp [h']
        · simp [Array.getElem?_eq_none h', Array.getElem?_eq_none (show a.tmps.size ≤ t by omega)]
      · have : (c.put o.dst (slotOf a o)).tmps.getD t undef = c.tmps.getD t undef := by
          cases hd' : o.dst with
          | none => rfl
          | some d =>
            have hne : d ≠ t := fun e => ho (by rw [hd', e])
            simp [Act.put, Array.getElem?_setIfInBounds, hne]
        rw [this]
        exact h t fun p hp => by
          rcases List.mem_cons.1 hp with rfl | hp
          · exact ho
          · exact ht p hp
def AllV (R : Nat → Value → World → Prop) (w : World) : Nat → List Value → Prop
  | _, [] => True
  | i, v :: l => R i v w ∧ AllV R w (i + 1) l
theorem allv_of {R : Nat → Value → World → Prop} {a : Act} {w : World} (l : List Oper) : ∀ k, Alls R a w k l → AllV R w k (l.map (slotOf a)) := by
  induction l with
  | nil => intro k _; trivial
  | cons o l ih => intro k h; exact ⟨h.1, ih (k + 1) h.2⟩

/-- Each operation with a guarantee of its own. -/
theorem wp_region_rgi {P : Program} {l : List Oper} {Q : Exit → Act → World → Prop} {a0 : Act} {w0 : World} {id : Nat} (n : Nat) (Inv : Nat → World → Prop) (G : Nat → World → World → Prop) (R : Nat → Value → World → Prop) (cost : Nat → Nat)
    (hm : P.follows .mixedOrders = true) (hB : rgB l.toArray = true) (hsz : (l.all fun o => match o.dst with | some d => decide (d < a0.tmps.size) | none => true) = true)
    (start : Inv (n + costs cost (Array.replicate l.length false) (List.range l.length)) w0.drew)
    (stable : ∀ i k v w w', i ≠ k → R k v w → G i w w' → R k v w')
    (step : Steps (fun i o => StepAt P l.toArray Q a0 n Inv (G i) R cost i o) 0 l)
    (fin : ∀ (vs : List Value) (w : World), vs.length = l.length → Inv n w → AllV R w 0 vs → Q .normal (putAll a0 l vs) w) :
    (Code.region id l.toArray true).wp P Q a0 w0 := by
  refine wp_region_rg (n := n) Inv G R cost hm hB hsz start stable (fun i o ho => by have := Steps.get l 0 step i o ho; rwa [Nat.zero_add] at this) (fun a w h1 h2 h3 h4 h5 => ?_)
  have := fin (l.map (slotOf a)) w (by simp) h3 (allv_of l 0 (alls_of l 0 fun i o ho => by rw [Nat.zero_add]; exact h4 i o ho))
  rwa [putAll_eq l a0 h1.symm h2.symm (fun t ht => (h5 t (List.all_eq_true.2 fun o ho => by simpa using ht o (by simpa using ho))).symm)] at this
theorem wp_region_rgs {P : Program} {l : List Oper} {Q : Exit → Act → World → Prop} {a0 : Act} {w0 : World} {id : Nat} (n : Nat) (Inv : Nat → World → Prop) (G : World → World → Prop) (R : Nat → Value → World → Prop) (cost : Nat → Nat)
    (hm : P.follows .mixedOrders = true) (hB : rgB l.toArray = true) (hsz : (l.all fun o => match o.dst with | some d => decide (d < a0.tmps.size) | none => true) = true)
    (start : Inv (n + costs cost (Array.replicate l.length false) (List.range l.length)) w0.drew)
    (stable : ∀ i v w w', R i v w → G w w' → R i v w')
    (step : Steps (StepAt P l.toArray Q a0 n Inv G R cost) 0 l)
    (fin : ∀ (vs : List Value) (w : World), vs.length = l.length → Inv n w → AllV R w 0 vs → Q .normal (putAll a0 l vs) w) :
    (Code.region id l.toArray true).wp P Q a0 w0 :=
  wp_region_rgi n Inv (fun _ => G) R cost hm hB hsz start (fun i k v w w' _ => stable k v w w') step fin
end Go.Proofs.Ytfmffobdkfgekaa
