import Derived.Test.YtfmffobdkfgekaaGreatJm4
import Derived.Test.YtfmffobdkfgekaaGreatJm1
import Derived.Maps.Range
import Derived.Maps.AppendAt
/- The book and the office, move by move, say the same. -/
set_option linter.unusedVariables false
set_option linter.unusedSimpArgs false
namespace Go.Proofs.YtfmffobdkfgekaaGreat
open Go.RowKit Go.Maps

/-! ### what the reference computes -/
def heldO (O : Office) (x : ByteArray) (t : Int) : Bool := decide (0 ≤ (ofO O x).dropped) && decide (t - (ofO O x).dropped < O.b.hold)
def isAt (t : ByteArray) (h : Bool) (p : ByteArray × Whr) : Bool := eqS p.2.team t && (p.2.hurt == h)
def manyO (O : Office) (t : ByteArray) (h : Bool) : Nat := (O.pl.filter (isAt t h)).length
def inWeek (u : Int) (x : Int) : Bool := weekOf x == weekOf u
def addedO (O : Office) (t : ByteArray) (u : Int) : Nat := ((O.adds t).filter (inWeek u)).length
def errO (O : Office) (m : Mv) : Int :=
  if m.kind = 1 then
    if eqS (ofO O m.player).team m.team then 6 else if !eqS (ofO O m.player).team noStr then 13 else if heldO O m.player m.time then 11
    else if O.b.adds ≤ (addedO O m.team m.time : Nat) then 16 else if O.b.most ≤ (manyO O m.team false : Nat) then 12 else 0
  else if m.kind = 2 then if !eqS (ofO O m.player).team m.team then 8 else 0
  else if !eqS (ofO O m.player).team m.team then 8 else if (ofO O m.player).hurt == (m.kind == 3) then 8
  else if (if m.kind == 3 then O.b.hurt else O.b.most) ≤ (manyO O m.team (m.kind == 3) : Nat) then 12 else 0
def followO (O : Office) (m : Mv) : Office :=
  if errO O m = 0 then
    if m.kind = 1 then { O with adds := upd O.adds m.team (O.adds m.team ++ [m.time]), pl := putM O.pl m.player ⟨m.team, false, (ofO O m.player).dropped⟩ }
    else if m.kind = 2 then { O with pl := putM O.pl m.player ⟨noStr, false, m.time⟩ }
    else { O with pl := putM O.pl m.player ⟨(ofO O m.player).team, m.kind == 3, (ofO O m.player).dropped⟩ }
  else O
def office0 (b : Bd) : Office := ⟨b, [], fun _ => []⟩
def stepO (u : Int) (O : Office) (x : Mv) : Office := if x.time ≤ u then followO O x else O
def officeL (b : Bd) (l : List Mv) (u : Int) : Office := l.foldl (stepO u) (office0 b)

/-! ### the two side by side -/
structure Sim (K : Book) (O : Office) : Prop where
  b : K.b = O.b
  nd : (O.pl.map Prod.fst).Nodup
  ow : ∀ p, K.owner p = (ofO O p).team
  dr : ∀ p, K.dropped p = if 0 ≤ (ofO O p).dropped then some (ofO O p).dropped else none
  ad : ∀ t u, K.adds (t, weekOf u) = (addedO O t u : Nat)
  pn : ∀ t, t ≠ noStr → (K.players t).Nodup
  hn : ∀ t, t ≠ noStr → (K.hurt t).Nodup
  pl : ∀ t, t ≠ noStr → ∀ s, s ∈ K.players t ↔ ((ofO O s).team = t ∧ (ofO O s).hurt = false)
  hu : ∀ t, t ≠ noStr → ∀ s, s ∈ K.hurt t ↔ ((ofO O s).team = t ∧ (ofO O s).hurt = true)
theorem sim0 (b : Bd) : Sim (book0 b) (office0 b) := by
  have h : ∀ p, ofO (office0 b) p = ⟨noStr, false, -1⟩ := fun p => rfl
  refine ⟨rfl, by simp [office0], fun p => by rw [h]; rfl, fun p => by rw [h]; rfl, fun t u => rfl, fun t _ => List.nodup_nil, fun t _ => List.nodup_nil, fun t ht s => ?_, fun t ht s => ?_⟩
  · rw [h]
    constructor
    · intro hm; simp [book0] at hm
    · rintro ⟨h1, _⟩; exact absurd h1.symm ht
  · rw [h]
    constructor
    · intro hm; simp [book0] at hm
    · rintro ⟨_, h2⟩; cases h2
theorem ofO_put (O : Office) (f : ByteArray → List Int) (x y : ByteArray) (a : Whr) : ofO { O with adds := f, pl := putM O.pl x a } y = if y = x then a else ofO O y := by
  unfold ofO
  show (getM (putM O.pl x a) y).getD _ = _
  rw [getM_put]
  split <;> rfl
theorem ofO_put' (O : Office) (x y : ByteArray) (a : Whr) : ofO { O with pl := putM O.pl x a } y = if y = x then a else ofO O y := ofO_put O O.adds x y a
theorem many_mem (O : Office) (hn : (O.pl.map Prod.fst).Nodup) {t : ByteArray} (ht : t ≠ noStr) (h : Bool) (s : ByteArray) : s ∈ (O.pl.filter (isAt t h)).map Prod.fst ↔ ((ofO O s).team = t ∧ (ofO O s).hurt = h) := by
  constructor
  · intro hm
    obtain ⟨p, hp, rfl⟩ := List.mem_map.1 hm
    obtain ⟨hp1, hp2⟩ := List.mem_filter.1 hp
    have hg : getM O.pl p.1 = some p.2 := getM_mem hn hp1
    unfold isAt at hp2
    rw [Bool.and_eq_true, eqS_iff, beq_iff_eq] at hp2
    unfold ofO
    rw [hg]
    exact hp2
  · rintro ⟨h1, h2⟩
    cases hg : getM O.pl s with
    | none =>
      unfold ofO at h1
      rw [hg] at h1
      exact absurd h1.symm ht
    | some a =>
      have ha : ofO O s = a := by unfold ofO; rw [hg]; rfl
      rw [ha] at h1 h2
      refine List.mem_map.2 ⟨(s, a), List.mem_filter.2 ⟨getM_some hg, ?_⟩, rfl⟩
      unfold isAt
      rw [Bool.and_eq_true, eqS_iff, beq_iff_eq]
      exact ⟨h1, h2⟩
theorem many_len {O : Office} (hn : (O.pl.map Prod.fst).Nodup) {t : ByteArray} (ht : t ≠ noStr) (h : Bool) {l : List ByteArray} (hl : l.Nodup) (hm : ∀ s, s ∈ l ↔ ((ofO O s).team = t ∧ (ofO O s).hurt = h)) : l.Perm ((O.pl.filter (isAt t h)).map Prod.fst) :=
  (List.perm_ext_iff_of_nodup hl (List.Nodup.sublist (List.filter_sublist.map _) hn)).2 fun s => by rw [hm, many_mem O hn ht h s]
theorem Sim.many {K : Book} {O : Office} (h : Sim K O) {t : ByteArray} (ht : t ≠ noStr) : (K.players t).length = manyO O t false ∧ (K.hurt t).length = manyO O t true := by
  have h1 := (many_len h.nd ht false (h.pn t ht) (h.pl t ht)).length_eq
  have h2 := (many_len h.nd ht true (h.hn t ht) (h.hu t ht)).length_eq
  rw [List.length_map] at h1 h2
  exact ⟨h1, h2⟩
theorem Sim.held {K : Book} {O : Office} (h : Sim K O) (x : ByteArray) (t : Int) : heldB K x t = heldO O x t := by
  unfold heldB heldO
  rw [h.dr, h.b]
  by_cases h0 : 0 ≤ (ofO O x).dropped
  · rw [if_pos h0]; simp [h0]
  · rw [if_neg h0]; simp [h0]
/-- What is known of a move of a right list. -/
structure Right (x : Mv) : Prop where
  time : 0 ≤ x.time
  kind : x.kind = 1 ∨ x.kind = 2 ∨ x.kind = 3 ∨ x.kind = 4
  team : x.team ≠ noStr
theorem bool_iff {a b : Bool} (h : a = true ↔ b = true) : a = b := Bool.eq_iff_iff.2 h
theorem Sim.has {K : Book} {O : Office} (h : Sim K O) {t : ByteArray} (ht : t ≠ noStr) (s : ByteArray) :
    hasS (K.players t) s = (eqS (ofO O s).team t && ((ofO O s).hurt == false)) ∧ hasS (K.hurt t) s = (eqS (ofO O s).team t && ((ofO O s).hurt == true)) := by
  constructor
  · refine bool_iff ?_
    rw [hasS_iff, h.pl t ht s, Bool.and_eq_true, eqS_iff, beq_iff_eq]
  · refine bool_iff ?_
    rw [hasS_iff, h.hu t ht s, Bool.and_eq_true, eqS_iff, beq_iff_eq]
theorem Sim.why {K : Book} {O : Office} (h : Sim K O) {x : Mv} (hx : Right x) : whyB K x = errO O x := by
  obtain ⟨hm1, hm2⟩ := h.many hx.team
  obtain ⟨hh1, hh2⟩ := h.has hx.team x.player
  unfold whyB errO
  rw [h.ow, h.held, h.ad, hm1, hm2, hh1, hh2, h.b]
  rcases hx.kind with hk | hk | hk | hk
  · rw [if_pos hk, if_pos hk]
  · have n1 : ¬ x.kind = 1 := by omega
    rw [if_neg n1, if_neg n1, if_pos hk, if_pos hk]
  · have n1 : ¬ x.kind = 1 := by omega
    have n2 : ¬ x.kind = 2 := by omega
    rw [if_neg n1, if_neg n2, if_pos hk, if_neg n1, if_neg n2, hk]
    cases eqS (ofO O x.player).team x.team <;> cases (ofO O x.player).hurt <;> simp
  · have n1 : ¬ x.kind = 1 := by omega
    have n2 : ¬ x.kind = 2 := by omega
    have n3 : ¬ x.kind = 3 := by omega
    rw [if_neg n1, if_neg n2, if_neg n3, if_pos hk, if_neg n1, if_neg n2, hk]
    cases eqS (ofO O x.player).team x.team <;> cases (ofO O x.player).hurt <;> simp
theorem addS_nodup {l : List ByteArray} {s : ByteArray} (h : l.Nodup) (hs : s ∉ l) : (addS l s).Nodup := by
  have hp : (addS l s).Perm (s :: l) := by
    unfold addS
    refine List.perm_middle.trans ?_
    rw [List.take_append_drop]
  exact hp.nodup_iff.2 (List.nodup_cons.2 ⟨hs, h⟩)
theorem lessS_mem {l : List ByteArray} {s x : ByteArray} : x ∈ lessS l s ↔ x ∈ l ∧ x ≠ s := by
  unfold lessS
  rw [List.mem_filter]
  refine and_congr_right fun _ => ?_
  show (!eqS x s) = true ↔ _
  rw [Bool.not_eq_true', ← Bool.not_eq_true, eqS_iff]
theorem lessS_nodup {l : List ByteArray} {s : ByteArray} (h : l.Nodup) : (lessS l s).Nodup := List.Nodup.sublist List.filter_sublist h
theorem inWeek_eq (u v : Int) : inWeek u v = decide (weekOf v = weekOf u) := by unfold inWeek; exact bool_iff (by simp)
theorem upd_eq {α β : Type} [DecidableEq α] (f : α → β) (x : α) (v : β) : upd f x v x = v := by unfold upd; rw [if_pos rfl]
theorem upd_ne {α β : Type} [DecidableEq α] (f : α → β) {x y : α} (v : β) (h : y ≠ x) : upd f x v y = f y := by unfold upd; rw [if_neg h]
theorem Sim.touch {K : Book} {O : Office} (h : Sim K O) (l : List ByteArray) (x : ByteArray) : Sim { K with teams := l, players := upd K.players x (K.players x), hurt := upd K.hurt x (K.hurt x) } O := by
  rw [upd_same, upd_same]
  exact ⟨h.b, h.nd, h.ow, h.dr, h.ad, h.pn, h.hn, h.pl, h.hu⟩
set_option maxHeartbeats 1000000 in
theorem Sim.step {K : Book} {O : Office} (h : Sim K O) {x : Mv} (hx : Right x) : Sim (followB K x) (followO O x) := by
  have hw := h.why hx
  unfold followB followO
  by_cases h0 : errO O x = 0
  · rw [if_pos (hw.trans h0), if_pos h0]
    have hk := hx.kind
    have ht := hx.team
    by_cases k1 : x.kind = 1
    · rw [if_pos k1, if_pos k1]
      -- the player is with nobody
      have hno : (ofO O x.player).team = noStr := by
        unfold errO at h0
        rw [if_pos k1] at h0
        cases e1 : eqS (ofO O x.player).team noStr with
        | true => exact eqS_iff.1 e1
        | false => rw [e1] at h0; split at h0 <;> simp at h0
      have hnp : x.player ∉ K.players x.team := fun hm => ht (((h.pl _ ht _).1 hm).1.symm.trans hno)
      have hnh : x.player ∉ K.hurt x.team := fun hm => ht (((h.hu _ ht _).1 hm).1.symm.trans hno)
      refine ⟨h.b, put_nodup h.nd _ _, fun p => ?_, fun p => ?_, fun t u => ?_, fun t ht' => ?_, fun t ht' => ?_, fun t ht' s => ?_, fun t ht' s => ?_⟩
      · rw [ofO_put]
        show upd K.owner x.player x.team p = _
        rw [upd_at]
        split
        · rfl
        · exact h.ow p
      · rw [ofO_put]
        show K.dropped p = _
        rw [h.dr]
        by_cases hp : p = x.player
        · rw [if_pos hp, hp]
        · rw [if_neg hp]
      · show upd K.adds (x.team, weekOf x.time) _ (t, weekOf u) = ((((upd O.adds x.team (O.adds x.team ++ [x.time])) t).filter (inWeek u)).length : Nat)
        rw [upd_at, upd_at]
        by_cases e1 : t = x.team
        · subst e1
          rw [if_pos rfl, List.filter_append, List.length_append, List.filter_cons, List.filter_nil, inWeek_eq]
          have ha := h.ad x.team u
          unfold addedO at ha
          by_cases e2 : weekOf x.time = weekOf u
          · rw [if_pos (by rw [e2]), if_pos (by simp [e2]), e2, ha]; simp
          · rw [if_neg (fun c => e2 (congrArg Prod.snd c).symm), if_neg (by simp [e2]), ha]; simp
        · rw [if_neg (fun c => e1 (congrArg Prod.fst c)), if_neg e1]
          exact h.ad t u
      · show (upd K.players x.team _ t).Nodup
        rw [upd_at]
        split
        · exact addS_nodup (h.pn _ ht) hnp
        · exact h.pn t ht'
      · show (upd K.hurt x.team _ t).Nodup
        rw [upd_same]
        exact h.hn t ht'
      · rw [ofO_put]
        show s ∈ upd K.players x.team _ t ↔ _
        rw [upd_at]
        by_cases e1 : s = x.player
        · subst e1
          rw [if_pos rfl]
          by_cases e2 : t = x.team
          · subst e2
            rw [if_pos rfl, addS_mem]
            simp
          · rw [if_neg e2, h.pl t ht', hno]
            constructor
            · rintro ⟨h1, _⟩; exact absurd h1.symm ht'
            · rintro ⟨h1, _⟩; exact absurd h1.symm e2
        · rw [if_neg e1, ← h.pl t ht']
          split
          · rename_i e2; subst e2
            rw [addS_mem]
            simp [e1]
          · exact Iff.rfl
      · rw [ofO_put]
        show s ∈ upd K.hurt x.team _ t ↔ _
        rw [upd_same, h.hu t ht']
        split
        · rename_i e1; subst e1
          rw [hno]
          constructor
          · rintro ⟨h1, _⟩; exact absurd h1.symm ht'
          · rintro ⟨_, h1⟩; cases h1
        · exact Iff.rfl
    · rw [if_neg k1, if_neg k1]
      have hown : (ofO O x.player).team = x.team := by
        unfold errO at h0
        rw [if_neg k1] at h0
        cases e1 : eqS (ofO O x.player).team x.team with
        | true => exact eqS_iff.1 e1
        | false => rw [e1] at h0; split at h0 <;> simp at h0
      by_cases k2 : x.kind = 2
      · rw [if_pos k2, if_pos k2]
        refine ⟨h.b, put_nodup h.nd _ _, fun p => ?_, fun p => ?_, fun t u => h.ad t u, fun t ht' => ?_, fun t ht' => ?_, fun t ht' s => ?_, fun t ht' s => ?_⟩
        · rw [ofO_put']
          show upd K.owner x.player noStr p = _
          rw [upd_at]
          split
          · rfl
          · exact h.ow p
        · rw [ofO_put']
          show upd K.dropped x.player (some x.time) p = _
          rw [upd_at]
          split
          · show _ = if 0 ≤ x.time then _ else _
            rw [if_pos hx.time]
          · exact h.dr p
        · show (upd K.players x.team _ t).Nodup
          rw [upd_at]
          split
          · exact lessS_nodup (h.pn _ ht)
          · exact h.pn t ht'
        · show (upd K.hurt x.team _ t).Nodup
          rw [upd_at]
          split
          · exact lessS_nodup (h.hn _ ht)
          · exact h.hn t ht'
        · rw [ofO_put']
          show s ∈ upd K.players x.team _ t ↔ _
          rw [upd_at]
          by_cases e1 : s = x.player
          · subst e1
            rw [if_pos rfl]
            by_cases e2 : t = x.team
            · subst e2
              rw [if_pos rfl, lessS_mem]
              constructor
              · rintro ⟨_, h1⟩; exact absurd rfl h1
              · rintro ⟨h1, _⟩; exact absurd h1.symm ht'
            · rw [if_neg e2, h.pl t ht', hown]
              constructor
              · rintro ⟨h1, _⟩; exact absurd h1.symm e2
              · rintro ⟨h1, _⟩; exact absurd h1.symm ht'
          · rw [if_neg e1, ← h.pl t ht']
            split
            · rename_i e2; subst e2
              rw [lessS_mem]
              simp [e1]
            · exact Iff.rfl
        · rw [ofO_put']
          show s ∈ upd K.hurt x.team _ t ↔ _
          rw [upd_at]
          by_cases e1 : s = x.player
          · subst e1
            rw [if_pos rfl]
            by_cases e2 : t = x.team
            · subst e2
              rw [if_pos rfl, lessS_mem]
              constructor
              · rintro ⟨_, h1⟩; exact absurd rfl h1
              · rintro ⟨_, h1⟩; cases h1
            · rw [if_neg e2, h.hu t ht', hown]
              constructor
              · rintro ⟨h1, _⟩; exact absurd h1.symm e2
              · rintro ⟨_, h1⟩; cases h1
          · rw [if_neg e1, ← h.hu t ht']
            split
            · rename_i e2; subst e2
              rw [lessS_mem]
              simp [e1]
            · exact Iff.rfl
      · rw [if_neg k2, if_neg k2]
        have hhurt : (ofO O x.player).hurt ≠ (x.kind == 3) := by
          intro hc
          unfold errO at h0
          rw [if_neg k1, if_neg k2, eqS_iff.2 hown, hc] at h0
          simp at h0
        by_cases k3 : x.kind = 3
        · rw [if_pos k3]
          rw [k3] at hhurt ⊢
          have hhf : (ofO O x.player).hurt = false := by cases hq : (ofO O x.player).hurt <;> simp [hq] at hhurt ⊢
          have hnh : x.player ∉ K.hurt x.team := fun hm => by have := ((h.hu _ ht _).1 hm).2; rw [hhf] at this; cases this
          refine ⟨h.b, put_nodup h.nd _ _, fun p => ?_, fun p => ?_, fun t u => h.ad t u, fun t ht' => ?_, fun t ht' => ?_, fun t ht' s => ?_, fun t ht' s => ?_⟩
          · rw [ofO_put']
            show K.owner p = _
            rw [h.ow]
            split
            · rename_i hp; rw [hp]
            · rfl
          · rw [ofO_put']
            show K.dropped p = _
            rw [h.dr]
            by_cases hp : p = x.player
            · rw [if_pos hp, hp]
            · rw [if_neg hp]
          · show (upd K.players x.team _ t).Nodup
            rw [upd_at]
            split
            · exact lessS_nodup (h.pn _ ht)
            · exact h.pn t ht'
          · show (upd K.hurt x.team _ t).Nodup
            rw [upd_at]
            split
            · exact addS_nodup (h.hn _ ht) hnh
            · exact h.hn t ht'
          · rw [ofO_put']
            show s ∈ upd K.players x.team _ t ↔ _
            rw [upd_at]
            by_cases e1 : s = x.player
            · subst e1
              rw [if_pos rfl]
              by_cases e2 : t = x.team
              · subst e2
                rw [if_pos rfl, lessS_mem]
                constructor
                · rintro ⟨_, h1⟩; exact absurd rfl h1
                · rintro ⟨_, h1⟩; cases h1
              · rw [if_neg e2, h.pl t ht', hown]
                constructor
                · rintro ⟨h1, _⟩; exact absurd h1.symm e2
                · rintro ⟨_, h1⟩; cases h1
            · rw [if_neg e1, ← h.pl t ht']
              split
              · rename_i e2; subst e2
                rw [lessS_mem]
                simp [e1]
              · exact Iff.rfl
          · rw [ofO_put']
            show s ∈ upd K.hurt x.team _ t ↔ _
            rw [upd_at]
            by_cases e1 : s = x.player
            · subst e1
              rw [if_pos rfl]
              by_cases e2 : t = x.team
              · subst e2
                rw [if_pos rfl, addS_mem, hown]
                simp
              · rw [if_neg e2, h.hu t ht', hown, hhf]
                constructor
                · rintro ⟨_, h1⟩; cases h1
                · rintro ⟨h1, _⟩; exact absurd h1.symm e2
            · rw [if_neg e1, ← h.hu t ht']
              split
              · rename_i e2; subst e2
                rw [addS_mem]
                simp [e1]
              · exact Iff.rfl
        · have k4 : x.kind = 4 := by omega
          rw [if_neg k3, if_pos k4]
          rw [k4] at hhurt ⊢
          have hht : (ofO O x.player).hurt = true := by cases hq : (ofO O x.player).hurt <;> simp [hq] at hhurt ⊢
          have hnp : x.player ∉ K.players x.team := fun hm => by have := ((h.pl _ ht _).1 hm).2; rw [hht] at this; cases this
          refine ⟨h.b, put_nodup h.nd _ _, fun p => ?_, fun p => ?_, fun t u => h.ad t u, fun t ht' => ?_, fun t ht' => ?_, fun t ht' s => ?_, fun t ht' s => ?_⟩
          · rw [ofO_put']
            show K.owner p = _
            rw [h.ow]
            split
            · rename_i hp; rw [hp]
            · rfl
          · rw [ofO_put']
            show K.dropped p = _
            rw [h.dr]
            by_cases hp : p = x.player
            · rw [if_pos hp, hp]
            · rw [if_neg hp]
          · show (upd K.players x.team _ t).Nodup
            rw [upd_at]
            split
            · exact addS_nodup (h.pn _ ht) hnp
            · exact h.pn t ht'
          · show (upd K.hurt x.team _ t).Nodup
            rw [upd_at]
            split
            · exact lessS_nodup (h.hn _ ht)
            · exact h.hn t ht'
          · rw [ofO_put']
            show s ∈ upd K.players x.team _ t ↔ _
            rw [upd_at]
            by_cases e1 : s = x.player
            · subst e1
              rw [if_pos rfl]
              by_cases e2 : t = x.team
              · subst e2
                rw [if_pos rfl, addS_mem, hown]
                simp
              · rw [if_neg e2, h.pl t ht', hown, hht]
                constructor
                · rintro ⟨_, h1⟩; cases h1
                · rintro ⟨h1, _⟩; exact absurd h1.symm e2
            · rw [if_neg e1, ← h.pl t ht']
              split
              · rename_i e2; subst e2
                rw [addS_mem]
                simp [e1]
              · exact Iff.rfl
          · rw [ofO_put']
            show s ∈ upd K.hurt x.team _ t ↔ _
            rw [upd_at]
            by_cases e1 : s = x.player
            · subst e1
              rw [if_pos rfl]
              by_cases e2 : t = x.team
              · subst e2
                rw [if_pos rfl, lessS_mem]
                constructor
                · rintro ⟨_, h1⟩; exact absurd rfl h1
                · rintro ⟨_, h1⟩; cases h1
              · rw [if_neg e2, h.hu t ht', hown]
                constructor
                · rintro ⟨h1, _⟩; exact absurd h1.symm e2
                · rintro ⟨_, h1⟩; cases h1
            · rw [if_neg e1, ← h.hu t ht']
              split
              · rename_i e2; subst e2
                rw [lessS_mem]
                simp [e1]
              · exact Iff.rfl
  · rw [if_neg (fun c => h0 (hw.symm.trans c)), if_neg h0]
    exact h.touch _ _
theorem Sim.fold {u : Int} : ∀ (l : List Mv) {K : Book} {O : Office}, Sim K O → (∀ x ∈ l, Right x) → Sim (l.foldl (stepB u) K) (l.foldl (stepO u) O)
  | [], K, O, h, _ => h
  | x :: l, K, O, h, hx => by
    refine Sim.fold l ?_ fun y hy => hx y (by simp [hy])
    unfold stepB stepO
    split
    · exact h.step (hx x (by simp))
    · exact h
theorem sim_at (b : Bd) (l : List Mv) (u : Int) (h : ∀ x ∈ l, Right x) : Sim (bookAt b l u) (officeL b l u) := Sim.fold l (sim0 b) h

/-! ### right lists -/
theorem keyB_none : keyB noStr = false := by decide
theorem mvBad_right {p : Option Mv} {x : Mv} (h : mvBad p x = 0) : Right x := by
  unfold mvBad at h
  split at h
  · rename_i h1
    split at h
    · rename_i h2
      split at h
      · rename_i h3
        rw [inB_iff] at h1 h2
        exact ⟨h1.1, by omega, fun c => by rw [c, keyB_none] at h3; exact absurd h3 (by simp)⟩
      · cases h
    · cases h
  · cases h
theorem mfGo_right : ∀ (l : List Mv) (p : Option Mv), mfGo p l = 0 → ∀ x ∈ l, Right x
  | [], _, _, x, hx => by cases hx
  | y :: l, p, h, x, hx => by
    unfold mfGo at h
    split at h
    · rename_i h0; exact absurd h h0
    · rename_i h0
      rcases List.mem_cons.1 hx with rfl | hx
      · exact mvBad_right (Decidable.not_not.1 h0)
      · exact mfGo_right l _ h x hx
theorem fault_right {b : Bd} {l : List Mv} (h : faultE b l = 0) : ∀ x ∈ l, Right x := by
  refine mfGo_right l none ?_
  unfold faultE firstI at h
  split at h
  · rename_i h1
    exact absurd h h1
  · unfold firstI at h
    split at h
    · rename_i h1; exact absurd h h1
    · rename_i h1
      exact Decidable.not_not.1 h1
end Go.Proofs.YtfmffobdkfgekaaGreat
/- A range over a map that nobody writes meanwhile: each entry comes once, in whatever order. -/
set_option linter.unusedVariables false
set_option linter.unusedSimpArgs false
namespace Go.Proofs.YtfmffobdkfgekaaGreat
open Go.RowKit Go.Maps Go.MapKept Go.ChangeMaps Go.WideMaps

theorem filter_push {β : Type} (f : β → Nat) (seen : Array Nat) {z : β} : ∀ (Z : List β), (Z.map f).Nodup → z ∈ Z → seen.contains (f z) = false →
    (Z.filter fun x => !seen.contains (f x)).Perm (z :: Z.filter fun x => !(seen.push (f z)).contains (f x))
  | [], _, h, _ => by simp at h
  | y :: Z, hn, h, hs => by
    rw [List.map_cons, List.nodup_cons] at hn
    by_cases hy : f y = f z
    · have hyz : y = z := by
        rcases List.mem_cons.1 h with h | h
        · exact h.symm
        · exact absurd (List.mem_map.2 ⟨z, h, hy.symm⟩) hn.1
      subst hyz
      have e : Z.filter (fun x => !(seen.push (f y)).contains (f x)) = Z.filter (fun x => !seen.contains (f x)) := by
        refine List.filter_congr fun x hx => ?_
        rw [contains_push]
        have : (f x == f y) = false := by
          rw [beq_eq_false_iff_ne]
          exact fun e => hn.1 (by rw [← e]; exact List.mem_map.2 ⟨x, hx, rfl⟩)
        rw [this]; simp
      rw [List.filter_cons, List.filter_cons, if_pos (by rw [hs]; rfl), if_neg (by rw [contains_push]; simp), e]
    · have hz : z ∈ Z := by
        rcases List.mem_cons.1 h with h | h
        · exact absurd (congrArg f h.symm) hy
        · exact h
      have ih := filter_push f seen Z hn.2 hz hs
      have e : (seen.push (f z)).contains (f y) = seen.contains (f y) := by
        rw [contains_push]
        have : (f y == f z) = false := by rw [beq_eq_false_iff_ne]; exact hy
        rw [this]; simp
      rw [List.filter_cons, List.filter_cons, e]
      split
      · exact (ih.cons y).trans (List.Perm.swap _ _ _)
      · exact ih

variable {P : Program} {k t e : TypeId} {κ α : Type}
def leftM (es : Array MapEntry) (M : List (κ × α)) (seen : Array Nat) : List (κ × α) := ((es.toList.zip M).filter fun x => !seen.contains x.1.born).map (·.2)
/-- The iterator in block r over the map in block b, which holds M; 'left' is still to come. -/
def RangeS (C : Codec P k κ) (vv : α → Value) (w : World) (b r : Nat) (M left : List (κ × α)) : Prop :=
  ∃ es clock since seen c0, w.heap[b]? = some (.map es clock) ∧ es.toList.map (fun e => (e.key, e.val)) = M.map (fun p => (C.kv p.1, vv p.2)) ∧ (es.toList.map (·.born)).Nodup ∧ (∀ x ∈ es.toList, x.born < since) ∧ since ≤ c0 ∧ since ≤ clock ∧
    w.heap[r]? = some (.mapIter (some b) since seen c0) ∧ left.Perm (leftM es M seen)

theorem RangeS.keep {C : Codec P k κ} {vv : α → Value} {w w' : World} {b r : Nat} {M left : List (κ × α)} (h : RangeS C vv w b r M left) (hb : w'.heap[b]? = w.heap[b]?) (hr : w'.heap[r]? = w.heap[r]?) : RangeS C vv w' b r M left := by
  obtain ⟨es, cl, si, se, c0, h1, h2, h3, h4, h5, h6, h7, h8⟩ := h
  exact ⟨es, cl, si, se, c0, hb.trans h1, h2, h3, h4, h5, h6, hr.trans h7, h8⟩
theorem RangeS.lt {C : Codec P k κ} {vv : α → Value} {w : World} {b r : Nat} {M left : List (κ × α)} (h : RangeS C vv w b r M left) : b < w.heap.size ∧ r < w.heap.size ∧ b ≠ r := by
  obtain ⟨es, cl, si, se, c0, h1, _, _, _, _, _, h7, _⟩ := h
  refine ⟨(Array.getElem?_eq_some_iff.1 h1).1, (Array.getElem?_eq_some_iff.1 h7).1, fun e => ?_⟩
  subst e; rw [h1] at h7; cases h7
theorem zip_len {C : Codec P k κ} {vv : α → Value} {es : Array MapEntry} {M : List (κ × α)} (h2 : es.toList.map (fun e => (e.key, e.val)) = M.map (fun p => (C.kv p.1, vv p.2))) : es.toList.length = M.length := by
  have := congrArg List.length h2
  simpa using this
/-- 'range m'. -/
theorem MapS.range {C : Codec P k κ} {vv : α → Value} {w : World} {b : Nat} {M : List (κ × α)} (h : MapS C vv w b M) (ht : P.underlying t = some (.map k e)) :
    ∃ cl, (Instr.range t (.map (some b))).run P w = .ok (.pointer (some ⟨w.heap.size, 0, none⟩)) (w.alloc (.mapIter (some b) cl #[] cl)) ∧ RangeS C vv (w.alloc (.mapIter (some b) cl #[] cl)) b w.heap.size M M := by
  have hlt := h.lt
  obtain ⟨es, cl, h1, h2, h3, h4, h5, h6⟩ := h
  refine ⟨cl, run_range_map w t k e b es cl ht h1, es, cl, cl, #[], cl, (heap_alloc_old w _ hlt).trans h1, h2, h5, h6, Nat.le_refl _, Nat.le_refl _, heap_alloc_new _ _, ?_⟩
  unfold leftM
  rw [List.filter_eq_self.2 (by simp), List.map_snd_zip]
  have := zip_len h2
  omega
/-- The step: nothing is left, or some pair that is left comes. -/
theorem RangeS.next {C : Codec P k κ} {vv : α → Value} {w : World} {b r : Nat} {M left : List (κ × α)} (h : RangeS C vv w b r M left) :
    (left = [] ∧ ∀ ty, (Instr.next (.pointer (some ⟨r, 0, none⟩)) false ty).run P w = .ok (.tuple #[.bool false]) w) ∨
    ∃ p left' w', left.Perm (p :: left') ∧ p ∈ M ∧ (∀ ty, (Instr.next (.pointer (some ⟨r, 0, none⟩)) false ty).run P w = .ok (.tuple #[.bool true, C.kv p.1, vv p.2]) w') ∧ RangeS C vv w' b r M left' ∧
      w.grownBy w' (some r) ∧ w'.heap.size = w.heap.size ∧ (Instr.entry (.pointer (some ⟨r, 0, none⟩))).run P w' = .ok (.tuple #[C.kv p.1, vv p.2]) w' := by
  obtain ⟨hb, hr, hne⟩ := h.lt
  obtain ⟨es, cl, si, se, c0, h1, h2, h3, h4, h5, h6, h7, h8⟩ := h
  by_cases h0 : (leftOf es se).size = 0
  · refine .inl ⟨?_, fun ty => ?_⟩
    · have hall := all_seen es se h0
      have : leftM es M se = [] := by
        unfold leftM
        rw [List.filter_eq_nil_iff.2 (fun x hx => by
          have := hall x.1 (List.of_mem_zip hx).1
          rw [this]; simp)]
        rfl
      rw [this] at h8
      exact h8.eq_nil
    · rcases run_next_at (P := P) w ty r b si c0 se es cl h7 h1 h4 h5 with ⟨_, hrun⟩ | ⟨e, he, _⟩
      · exact hrun
      · have : leftOf es se = #[] := Array.eq_empty_of_size_eq_zero h0
        rw [this] at he; simp at he
  · rcases run_next_at (P := P) w 0 r b si c0 se es cl h7 h1 h4 h5 with ⟨hc, _⟩ | ⟨e, he, w1, hw1, hrun⟩
    · exact absurd hc h0
    · obtain ⟨hem, hes⟩ := mem_left he
      obtain ⟨j, hj⟩ := List.getElem?_of_mem hem
      obtain ⟨p, hp, e1, e2⟩ := (map_entry h2).1 hj
      have hz : (e, p) ∈ es.toList.zip M := by
        refine List.mem_of_getElem? (i := j) ?_
        rw [List.getElem?_zip_eq_some]
        exact ⟨hj, hp⟩
      have hn : ((es.toList.zip M).map fun x => x.1.born).Nodup := by
        have : (es.toList.zip M).map (fun x => x.1.born) = es.toList.map (·.born) := by
          rw [show (fun x : MapEntry × (κ × α) => x.1.born) = (fun e : MapEntry => e.born) ∘ Prod.fst from rfl, ← List.map_map, List.map_fst_zip (by have := zip_len h2; omega)]
        rw [this]; exact h3
      have hperm := (filter_push (fun x : MapEntry × (κ × α) => x.1.born) se (es.toList.zip M) hn hz hes).map (·.2)
      have hr1 : w1.heap[r]? = some (.mapIter (some b) si se c0) := by rcases hw1 with rfl | rfl <;> exact h7
      have hb1 : w1.heap[b]? = some (.map es cl) := by rcases hw1 with rfl | rfl <;> exact h1
      have hset := heap_set (o' := .mapIter (some b) si (se.push e.born) cl) hr1
      have hb' : (setBlock w1 r (.mapIter (some b) si (se.push e.born) cl)).heap[b]? = some (.map es cl) := (hset.2 b hne).trans hb1
      refine .inr ⟨p, leftM es M (se.push e.born), _, h8.trans hperm, List.mem_of_getElem? hp, ?_, ⟨es, cl, si, se.push e.born, cl, hb', h2, h3, h4, h6, h6, hset.1, List.Perm.refl _⟩, ?_, ?_, by rw [← e1, ← e2]; exact run_entry_at _ r b si se es cl e hset.1 hb' hem h3⟩
      · intro ty; rw [← e1, ← e2]; exact hrun
      · rcases hw1 with rfl | rfl <;> exact ⟨rfl, rfl, rfl, by simp [setBlock], fun i _ hi => hset.2 i (fun e1 => hi (by rw [e1]))⟩
      · rcases hw1 with rfl | rfl <;> simp [setBlock]
theorem RangeS.left_eq {C : Codec P k κ} {vv : α → Value} {w : World} {b r : Nat} {M left : List (κ × α)} (h : RangeS C vv w b r M left) : w.rangeLeft b r = left.length := by
  obtain ⟨es, cl, si, se, c0, h1, h2, h3, h4, h5, h6, h7, h8⟩ := h
  simp only [World.rangeLeft, h1, h7]
  rw [h8.length_eq]
  have e1 : (es.toList.zip M).map Prod.fst = es.toList := List.map_fst_zip (by have := zip_len h2; omega)
  have e2 : (leftOf es se).size = (es.toList.filter fun x => !se.contains x.born).length := by
    unfold leftOf
    rw [← Array.toList_filter, Array.length_toList]
  rw [e2]
  unfold leftM
  rw [List.length_map]
  conv => lhs; rw [← e1, List.filter_map, List.length_map]
  rfl
end Go.Proofs.YtfmffobdkfgekaaGreat
/- The office's small methods: how many players a team has. -/
set_option linter.unusedVariables false
set_option linter.unusedSimpArgs false
namespace Go.Proofs.YtfmffobdkfgekaaGreat
open Go.RowKit Go.Maps

section
variable {lo : Nat} {w : World} {ob bm ba : Nat} {O : Office}
theorem OfficeIn.gb {w' : World} (h : OfficeIn lo w ob bm ba O) (hb : GB w w') : OfficeIn lo w' ob bm ba O := by
  obtain ⟨h1, h2, h3, h4, A, a1, a2⟩ := h
  refine ⟨h1, h2, (hb.block _ (Array.getElem?_eq_some_iff.1 h3).1).trans h3, h4.keep (hb.block _ h4.lt), A, a1.keep (hb.block _ a1.lt), fun t => ?_, a2.apart⟩
  have h5 := a2.own t
  obtain ⟨g1, g2⟩ := h5
  refine ⟨g1, ?_⟩
  rcases g2 with g2 | ⟨g, cap, cur, e1, e2, e3, e4⟩
  · exact .inl g2
  · exact .inr ⟨g, cap, cur, e1, e2, (hb.block _ (Array.getElem?_eq_some_iff.1 e3).1).trans e3, e4⟩
theorem OfficeIn.below {w' : World} (h : OfficeIn lo w ob bm ba O) (hb : Below w.heap.size w w') : OfficeIn lo w' ob bm ba O := h.gb (GB.of_below hb)
end
set_option maxHeartbeats 400000 in
set_option maxRecDepth 20000 in
theorem many_any {lo : Nat} {w : World} {ob bm ba : Nat} {O : Office} (h : OfficeIn lo w ob bm ba O) (t : ByteArray) (q : Bool) (hn : O.pl.length ≤ 1000) :
    Calls Tryz.prog 114 #[.pointer (some ⟨ob, 0, none⟩), .string t, .bool q] w fun e w' => e = .returned (.int .i64 (manyO O t q : Nat)) ∧ Below w.heap.size w w' := by
  obtain ⟨hc, hf⟩ := row_cells h.row
  obtain ⟨cl, hrun, hR⟩ := h.pl.range Tryz.underlying158
  have hle : manyO O t q ≤ 1000 := Nat.le_trans (List.length_filter_le _ _) hn
  have HR := Lib.hid hR
  have HM := Lib.hid (show (O.pl.filter (isAt t q)).length = manyO O t q from rfl)
  clear hR h hf
  go_enter Tryz.func114, Tryz.ntmps114
  go_wp2
  go_loopw [7] (fun n wr => ∃ (k : Nat) (left : List (ByteArray × Whr)), n = .int .i64 k ∧ RangeS strC Whr.v wr bm w.heap.size O.pl left ∧ k + (left.filter (isAt t q)).length = manyO O t q ∧ Below w.heap.size w wr) (fun _ wr => wr.rangeLeft bm w.heap.size)
  case atStart => exact ⟨0, O.pl, rfl, HR.out, by rw [HM.out]; omega, (Below.refl _ _).alloc (Nat.le_refl _) _⟩
  case round =>
    obtain ⟨k, left, rfl, hrg, hk, hbl⟩ := hrel
    have hkn : k ≤ 1000 := by omega
    have hme := hrg.left_eq
    have HK := Lib.hid hk
    have HBL := Lib.hid hbl
    have HME := Lib.hid hme
    have hnext := hrg.next (P := Tryz.prog)
    clear hk hbl hrg hme
    rcases hnext with ⟨hl0, hnx⟩ | ⟨p, left', w1, hperm, hpm, hnx, hrg1, hgr, hsz, hen⟩
    · have HL := Lib.hid hl0
      clear hl0
      go_wp2
      go_ret
      have hk := HK.out
      rw [HL.out] at hk
      exact ⟨by rw [← hk]; rfl, HBL.out⟩
    · obtain ⟨px, pt, ph, pd⟩ := p
      simp only [Whr.v, strC] at hnx hen
      have hB1 : Below w.heap.size w w1 := ⟨hgr.os.trans HBL.out.os, hgr.tape.trans HBL.out.tape, hgr.output.trans HBL.out.output, by rw [hsz]; exact HBL.out.size, fun i hi => (hgr.block i (by have := HBL.out.size; omega) (by simp; omega)).trans (HBL.out.block i hi)⟩
      have hB2 := hB1.alloc hB1.size (.cells #[.string pt, .bool ph, .int .i64 pd] 121)
      have hR2 : RangeS strC Whr.v (w1.alloc (.cells #[.string pt, .bool ph, .int .i64 pd] 121)) bm w.heap.size O.pl left' := hrg1.keep (Below.heap_alloc _ _ _ hrg1.lt.1) (Below.heap_alloc _ _ _ hrg1.lt.2.1)
      have hm : (w1.alloc (.cells #[.string pt, .bool ph, .int .i64 pd] 121)).rangeLeft bm w.heap.size < wr.rangeLeft bm w.heap.size := by
        rw [hR2.left_eq, HME.out, hperm.length_eq]; simp
      have hcount : (left.filter (isAt t q)).length = (if eqS pt t && (ph == q) then 1 else 0) + (left'.filter (isAt t q)).length := by
        rw [(hperm.filter _).length_eq, List.filter_cons]
        show (if (eqS pt t && (ph == q)) = true then _ else _ : List _).length = _
        split <;> simp <;> omega
      have HE := Lib.hid (And.intro hB2 (And.intro hR2 (And.intro hm hcount)))
      have et : eqS pt t = (pt.toList == t.toList) := rfl
      clear hrg1 hperm hgr hsz hpm hB1 hB2 hR2 hm hcount
      cases e1 : eqS pt t with
      | false =>
        have b1 := et.symm.trans e1
        have hcc : (left.filter (isAt t q)).length = (left'.filter (isAt t q)).length := by rw [HE.out.2.2.2, e1]; simp
        have HC := Lib.hid hcc
        clear et hcc
        go_wp2
        go_roundw
        case rel => exact ⟨k, left', rfl, HE.out.2.1, by rw [← HC.out]; exact HK.out, HE.out.1⟩
        case measure => exact HE.out.2.2.1
      | true =>
        have b1 := et.symm.trans e1
        cases e2 : ph == q with
        | false =>
          have hcc : (left.filter (isAt t q)).length = (left'.filter (isAt t q)).length := by rw [HE.out.2.2.2, e1, e2]; simp
          have HC := Lib.hid hcc
          clear et hcc
          go_wp2
          go_roundw
          case rel => exact ⟨k, left', rfl, HE.out.2.1, by rw [← HC.out]; exact HK.out, HE.out.1⟩
          case measure => exact HE.out.2.2.1
        | true =>
          have hcc : (left.filter (isAt t q)).length = 1 + (left'.filter (isAt t q)).length := by rw [HE.out.2.2.2, e1, e2]; simp
          have HC := Lib.hid hcc
          clear et hcc
          go_wp2
          go_roundw
          case rel => exact ⟨k + 1, left', by go_num, HE.out.2.1, by have h1 := HK.out; have h2 := HC.out; omega, HE.out.1⟩
          case measure => exact HE.out.2.2.1
end Go.Proofs.YtfmffobdkfgekaaGreat
/- The office's small methods: a new office; whether a player is held; how many adds there were in a week. -/
set_option linter.unusedVariables false
set_option linter.unusedSimpArgs false
namespace Go.Proofs.YtfmffobdkfgekaaGreat
open Go.RowKit Go.Maps

theorem office_made (w : World) (o : Obj) (b : Bd) : ∃ W, W = ((((w.alloc o).alloc (.map #[] 0)).alloc (.map #[] 0)).alloc (.cells #[.int .i64 b.most, .int .i64 b.hurt, .int .i64 b.adds, .int .i64 b.hold, .map (some (w.heap.size + 1)), .map (some (w.heap.size + 1 + 1))] 161)) ∧
    OfficeIn w.heap.size W (w.heap.size + 1 + 1 + 1) (w.heap.size + 1) (w.heap.size + 1 + 1) (office0 b) ∧ Below w.heap.size w W := by
  refine ⟨_, rfl, ?_, ?_⟩
  · have k1 : ∀ (w1 : World) (o2 : Obj) (i : Nat), i < w1.heap.size → (w1.alloc o2).heap[i]? = w1.heap[i]? := fun w1 o2 i hi => Below.heap_alloc _ _ _ hi
    have z1 := MapS.made (k := 9) (κ := ByteArray) strC Whr.v (w.alloc o)
    have z2 := MapS.made (k := 9) (κ := ByteArray) strC (id : Value → Value) ((w.alloc o).alloc (.map #[] 0))
    simp only [alloc_size] at z1 z2
    refine ⟨by omega, by omega, ?_, z1.keep ?_, [], z2.keep ?_, fun t => World.ownsRow_nil _ _ _ _, fun t u g hg => ?_⟩
    · have := heap_alloc_new (((w.alloc o).alloc (.map #[] 0)).alloc (.map #[] 0)) (.cells #[.int .i64 b.most, .int .i64 b.hurt, .int .i64 b.adds, .int .i64 b.hold, .map (some (w.heap.size + 1)), .map (some (w.heap.size + 1 + 1))] 161)
      simp only [alloc_size] at this
      exact this
    · rw [k1 _ _ _ (by simp only [alloc_size]; omega), k1 _ _ _ (by simp only [alloc_size]; omega)]
    · rw [k1 _ _ _ (by simp only [alloc_size]; omega)]
    · cases hg
  · exact ((((Below.refl w.heap.size w).alloc (Nat.le_refl _) _).alloc (by simp only [alloc_size]; omega) _).alloc (by simp only [alloc_size]; omega) _).alloc (by simp only [alloc_size]; omega) _
theorem newOffice_any (b : Bd) (w : World) : Calls Tryz.prog 63 #[b.v] w fun e w' => ∃ ob bm ba, e = .returned (.pointer (some ⟨ob, 0, none⟩)) ∧ OfficeIn w.heap.size w' ob bm ba (office0 b) ∧ Below w.heap.size w w' := by
  obtain ⟨m1, m2, m3, m4⟩ := b
  have hmm := @run_makeMap Tryz.prog
  dsimp only [Bd.v]
  go_enter Tryz.func63, Tryz.ntmps63
  go_wp2
  obtain ⟨W0, hW0, hB0, hL0⟩ := office_made w (.cells #[.int .i64 m1, .int .i64 m2, .int .i64 m3, .int .i64 m4] 27) ⟨m1, m2, m3, m4⟩
  have E := Lib.hid (And.intro hW0 (And.intro hB0 hL0))
  clear hW0 hB0 hL0 hmm
  go_ret
  have hw := E.out.1
  dsimp only at hw
  rw [← hw]
  exact ⟨_, _, _, rfl, E.out.2.1, E.out.2.2⟩
theorem fieldWhr (a : ByteArray) (b : Bool) (c : Int) (w : World) : (Instr.field 121 (.agg #[.string a, .bool b, .int .i64 c]) 0).run Tryz.prog w = .ok (.string a) w ∧ (Instr.field 121 (.agg #[.string a, .bool b, .int .i64 c]) 1).run Tryz.prog w = .ok (.bool b) w ∧ (Instr.field 121 (.agg #[.string a, .bool b, .int .i64 c]) 2).run Tryz.prog w = .ok (.int .i64 c) w :=
  ⟨by kernel_rfl, by kernel_rfl, by kernel_rfl⟩
set_option maxHeartbeats 400000 in
set_option maxRecDepth 20000 in
theorem heldO_any {lo : Nat} {w : World} {ob bm ba : Nat} {O : Office} (h : OfficeIn lo w ob bm ba O) (hok : O.b.ok) (x : ByteArray) (t : Int) (hx : x.size ≤ 1000) (ht : small t) (hd : small (ofO O x).dropped) :
    Calls Tryz.prog 112 #[.pointer (some ⟨ob, 0, none⟩), .string x, .int .i64 t] w fun e w' => e = .returned (.bool (heldO O x t)) ∧ Below w.heap.size w w' := by
  have HO := Lib.hid (of_any h x hx)
  have HIN := Lib.hid h
  have hho := hok.hold
  unfold heldO
  obtain ⟨d1, d2⟩ := hd
  obtain ⟨t1, t2⟩ := ht
  generalize hy : ofO O x = y at *
  obtain ⟨yt, yh, yd⟩ := y
  dsimp only [Whr.v] at *
  obtain ⟨H1, H2⟩ := hho
  have HHY := Lib.hid hy
  have hfd := (fieldWhr yt yh yd · |>.2.2)
  clear h hok hy
  go_enter Tryz.func112, Tryz.ntmps112
  go_wp2_with fail
  refine HO.out.mono ?_
  rintro e w1 ⟨rfl, hb1⟩
  have hin := HIN.out.below hb1
  obtain ⟨hc, hf⟩ := row_cells hin.row
  have HB := Lib.hid hb1
  clear hb1 hin hf
  by_cases h0 : 0 ≤ yd
  · go_wp2
    go_ret
    exact ⟨by simp [h0], HB.out⟩
  · have h0' : decide (0 ≤ yd) = false := by simpa using h0
    go_wp2
    go_ret
    exact ⟨by simp; omega, HB.out⟩
theorem zeroInts : ∀ w, (zeroValue 22).run Tryz.prog w = .ok (.slice none 0 0) w := Tryz.zeroValue22
theorem lookInts {w : World} {b : Nat} {M : List (ByteArray × Value)} (h : MapS strC id w b M) {x : ByteArray} (hx : x.size ≤ 1000) :
    (Instr.lookup 159 (.map (some b)) (.string x) false).run Tryz.prog w = .ok ((getM M x).getD (.slice none 0 0)) w := by
  have := h.lookup Tryz.underlying159 (zeroInts w) (strC_ok hx) false
  refine this.trans ?_
  cases getM M x <;> rfl
set_option maxHeartbeats 400000 in
set_option maxRecDepth 20000 in
theorem added_any {lo : Nat} {w : World} {ob bm ba : Nat} {O : Office} (h : OfficeIn lo w ob bm ba O) (t : ByteArray) (u : Int) (ht : t.size ≤ 1000) (hu : small u) (hn : (O.adds t).length ≤ 1000) (hs : ∀ x ∈ O.adds t, small x) :
    Calls Tryz.prog 113 #[.pointer (some ⟨ob, 0, none⟩), .string t, .int .i64 u] w fun e w' => e = .returned (.int .i64 (addedO O t u : Nat)) ∧ w = w' := by
  obtain ⟨hc, hf⟩ := row_cells h.row
  obtain ⟨A, a1, a2⟩ := h.ad
  have hl := lookInts (w := w) (x := t) a1 ht
  have hS := Sl.of_own (a2.own t) (by omega)
  obtain ⟨P, c, hP, hn2⟩ := hS.shape
  rw [hP] at hl hS
  have HS := Lib.hid hS
  unfold addedO
  have hle : ∀ k, ((O.adds t).take k).filter (inWeek u) = ((O.adds t).take k).filter (inWeek u) := fun _ => rfl
  clear h hf a1 a2 hP hS hle
  have wr : ∀ x : Int, small x → IntKind.i64.wrap (x.tdiv 604800000) = x.tdiv 604800000 := fun x hx => by have := weekOf_range hx; unfold weekOf at this; generalize x.tdiv 604800000 = d at this ⊢; rw [IntKind.wrap_i64]; omega
  have WR := Lib.hid wr
  have hwu := wr u hu
  have HSM := Lib.hid hs
  generalize hL : O.adds t = L at *
  generalize hN : L.length = N at *
  have HL := Lib.hid hN
  clear hs wr hL hN
  go_enter Tryz.func113, Tryz.ntmps113
  go_wp2
  go_loop [7, 17] (fun n i => ∃ k : Nat, k ≤ N ∧ i = .int .i64 k ∧ n = .int .i64 ((((L.take k).filter (inWeek u)).length : Nat) : Int)) (fun _ i => N - (intOf i).toNat)
  case atStart => exact ⟨0, by omega, rfl, rfl⟩
  case round =>
    obtain ⟨k, hk, rfl, rfl⟩ := hrel
    by_cases hlt : k < N
    · obtain ⟨x, hx⟩ : ∃ x, L[k]? = some x := ⟨_, List.getElem?_eq_getElem (by rw [HL.out]; exact hlt)⟩
      have hxs := HSM.out x (List.mem_of_getElem? hx)
      obtain ⟨b, o, rfl, _, _, hcx⟩ := int_at HS.out hx
      have hfi : (L.take (k + 1)).filter (inWeek u) = (L.take k).filter (inWeek u) ++ (if inWeek u x then [x] else []) := by
        rw [List.take_add_one, hx, Option.toList_some, List.filter_append, List.filter_cons, List.filter_nil]
      have HFI := Lib.hid hfi
      have hlen : ((L.take k).filter (inWeek u)).length ≤ k := Nat.le_trans (List.length_filter_le _ _) (by rw [List.length_take]; omega)
      have hwx := WR.out x hxs
      have hix : (0 : Int) ≤ (k : Int) ∧ (k : Int) < (N : Int) := ⟨by omega, by omega⟩
      clear hx hfi hxs
      cases e1 : inWeek u x with
      | true =>
        have b1 : (x.tdiv 604800000 == u.tdiv 604800000) = true := e1
        have hfc : (L.take (k + 1)).filter (inWeek u) = (L.take k).filter (inWeek u) ++ [x] := by rw [HFI.out, e1]; simp
        have HFC := Lib.hid hfc
        clear hfc
        go_wp2
        go_round
        case rel => exact ⟨k + 1, by omega, by go_num, by rw [HFC.out, List.length_append]; go_num⟩
        case measure => simp [intOf]; omega
      | false =>
        have b1 : (x.tdiv 604800000 == u.tdiv 604800000) = false := e1
        have hfc : (L.take (k + 1)).filter (inWeek u) = (L.take k).filter (inWeek u) := by rw [HFI.out, e1]; simp
        have HFC := Lib.hid hfc
        clear hfc
        go_wp2
        go_round
        case rel => exact ⟨k + 1, by omega, by go_num, by rw [HFC.out]⟩
        case measure => simp [intOf]; omega
    · have hkn : k = N := by omega
      subst hkn
      clear hlt
      go_wp2
      go_ret
      exact ⟨by rw [List.take_of_length_le (by rw [HL.out]; exact Nat.le_refl _)]; rfl, rfl⟩
end Go.Proofs.YtfmffobdkfgekaaGreat
/- The office, when one of its maps turns. -/
set_option linter.unusedVariables false
set_option linter.unusedSimpArgs false
namespace Go.Proofs.YtfmffobdkfgekaaGreat
open Go.RowKit Go.Maps

section
variable {P : Program} {o : Oper}
theorem ex_update {ρ : Operand → Value} {t : TypeId} {x y z : Operand} {u v r : Value} {w w' : World} (h : o.op = .mapUpdate t x y z) (hx : ρ x = u) (hy : ρ y = v) (hz : ρ z = r) (hr : (Instr.mapUpdate t u v r).run P w = .ok () w') : (execOp ρ o).run P w = .ok .skip w' := by simp [execOp, h, hx, hy, hz, hr, Result.andThen]
theorem ex_build02 {ρ : Operand → Value} {t : TypeId} {x y : Operand} {u v r : Value} {w : World} (h : o.op = .build t #[(0, x), (2, y)]) (hx : ρ x = u) (hy : ρ y = v) (hr : (Instr.build t #[(0, u), (2, v)]).run P w = .ok r w) : (execOp ρ o).run P w = .ok (.value r) w := by simp [execOp, h, hx, hy, hr, Result.andThen]
theorem ex_build1 {ρ : Operand → Value} {t : TypeId} {x : Operand} {u r : Value} {w : World} (h : o.op = .build t #[(2, x)]) (hx : ρ x = u) (hr : (Instr.build t #[(2, u)]).run P w = .ok r w) : (execOp ρ o).run P w = .ok (.value r) w := by simp [execOp, h, hx, hr, Result.andThen]
theorem ex_slice1 {ρ : Operand → Value} {t e : TypeId} {x : Operand} {u : Value} {w : World} (h : o.op = .buildSlice t 1 #[(0, x)]) (hx : ρ x = u) (hs : ∀ w, (Instr.buildSlice t 1 #[(0, u)]).run P w = .ok (.slice (some ⟨w.heap.size, 0, none⟩) 1 1) (w.alloc (.cells #[u] e))) : (execOp ρ o).run P w = .ok (.value (.slice (some ⟨w.heap.size, 0, none⟩) 1 1)) (w.alloc (.cells #[u] e)) := by
  simp [execOp, h, hx, hs]
theorem ex_append {ρ : Operand → Value} {t : TypeId} {x y : Operand} {u v r : Value} {w w' : World} (h : o.op = .call { callee := .builtin .append, args := #[x, y], argTypes := #[t, t] }) (hx : ρ x = u) (hy : ρ y = v) (hr : (Builtin.append_ #[t, t] o.type #[u, v]).run P w = .ok r w') : (execOp ρ o).run P w = .ok (.value r) w' := by
  simp [execOp, h, hx, hy, resolve, invoke, builtin, hr, Result.andThen]
theorem phase1 {n m w : Nat} (h : n + w ≤ m) (hw : Nat.blt 0 w = true) : m ≠ 0 := by have := Nat.le_of_ble_eq_true hw; omega
end
theorem ex_whr {o : Oper} {ρ : Operand → Value} {x : Operand} {bb : Nat} {m1 m2 m3 : Value} {w : World} (h : o.op = .load 121 x) (hx : ρ x = .pointer (some ⟨bb, 0, none⟩)) (hb : w.heap[bb]? = some (.cells #[m1, m2, m3] 121 (0, 0))) : (execOp ρ o).run Tryz.prog w = .ok (.value (.agg #[m1, m2, m3])) w := by
  obtain ⟨hc, hf⟩ := row_cells hb
  simp [execOp, h, hx, hc, go_sem, Result.andThen]

theorem own_turn {lo b n sz : Nat} {e : TypeId} {w w' : World} {v : Value} {xs : List Value} (h : w.ownsRow lo e sz v n xs) (hm : isMap w b) (ht : Turn b w w') : w'.ownsRow lo e sz v n xs := by
  obtain ⟨g1, g2⟩ := h
  refine ⟨g1, ?_⟩
  rcases g2 with g2 | ⟨g, cap, cur, e1, e2, e3, e4⟩
  · exact .inl g2
  · refine .inr ⟨g, cap, cur, e1, e2, (ht.block _ fun e => ?_).trans e3, e4⟩
    obtain ⟨es, cl, q⟩ := hm
    rw [← e, e3] at q; cases q
theorem own_gb {lo n sz : Nat} {e : TypeId} {w w' : World} {v : Value} {xs : List Value} (h : w.ownsRow lo e sz v n xs) (hb : GB w w') : w'.ownsRow lo e sz v n xs := by
  obtain ⟨g1, g2⟩ := h
  refine ⟨g1, ?_⟩
  rcases g2 with g2 | ⟨g, cap, cur, e1, e2, e3, e4⟩
  · exact .inl g2
  · exact .inr ⟨g, cap, cur, e1, e2, (hb.block _ (Array.getElem?_eq_some_iff.1 e3).1).trans e3, e4⟩
theorem rows_gb {lo : Nat} {w w' : World} {A : List (ByteArray × Value)} {f : ByteArray → List Int} (h : Rows lo w A f) (hb : GB w w') : Rows lo w' A f := ⟨fun t => own_gb (h.own t) hb, h.apart⟩
theorem rows_turn {lo b : Nat} {w w' : World} {A : List (ByteArray × Value)} {f : ByteArray → List Int} (h : Rows lo w A f) (hm : isMap w b) (ht : Turn b w w') : Rows lo w' A f := ⟨fun t => own_turn (h.own t) hm ht, h.apart⟩
/-- Block g is one of the rows that map ba leads to. -/
def RowBlk (w : World) (ba g : Nat) : Prop := ∃ es cl, w.heap[ba]? = some (.map es cl) ∧ ∃ e ∈ es.toList, e.val.ownBlock = some g
theorem row_blk {w : World} {ba : Nat} {A : List (ByteArray × Value)} (h : MapS strC id w ba A) (g : Nat) : RowBlk w ba g ↔ ∃ p ∈ A, p.2.ownBlock = some g := by
  obtain ⟨es, cl, h1, h2, _⟩ := h
  constructor
  · rintro ⟨es', cl', k1, e, he, hg⟩
    rw [h1] at k1; cases k1
    obtain ⟨j, hj⟩ := List.getElem?_of_mem he
    obtain ⟨p, hp, _, e2⟩ := (map_entry h2).1 hj
    exact ⟨p, List.mem_of_getElem? hp, by rw [← hg, e2]; rfl⟩
  · rintro ⟨p, hp, hg⟩
    obtain ⟨j, hj⟩ := List.getElem?_of_mem hp
    obtain ⟨e, he, _, e2⟩ := (map_entry h2).2 hj
    exact ⟨es, cl, h1, e, List.mem_of_getElem? he, by rw [e2]; exact hg⟩
/-- A block of cells that is no row of the office's stays, and stays none. -/
def FrO (ba : Nat) (w w' : World) : Prop := ∀ (g : Nat) (cs : Array Value) (T : TypeId) (fz : Nat × Nat), w.heap[g]? = some (Obj.cells cs T fz) → ¬ RowBlk w ba g → w'.heap[g]? = some (Obj.cells cs T fz) ∧ ¬ RowBlk w' ba g
theorem FrO.refl (ba : Nat) (w : World) : FrO ba w w := fun _ _ _ _ h1 h2 => ⟨h1, h2⟩
theorem FrO.trans {ba : Nat} {w w1 w2 : World} (h : FrO ba w w1) (k : FrO ba w1 w2) : FrO ba w w2 := fun g cs T fz h1 h2 => k g cs T fz (h g cs T fz h1 h2).1 (h g cs T fz h1 h2).2
theorem FrO.of {ba : Nat} {w w' : World} (hb : w'.heap[ba]? = w.heap[ba]?) (hk : ∀ (g : Nat) (cs : Array Value) (T : TypeId) (fz : Nat × Nat), w.heap[g]? = some (Obj.cells cs T fz) → ¬ RowBlk w ba g → w'.heap[g]? = some (Obj.cells cs T fz)) : FrO ba w w' := fun g cs T fz h1 h2 =>
  ⟨hk g cs T fz h1 h2, fun ⟨es, cl, k1, k2⟩ => h2 ⟨es, cl, hb.symm.trans k1, k2⟩⟩
theorem FrO.below {ba : Nat} {w w' : World} (hb : Below w.heap.size w w') (hlt : ba < w.heap.size) : FrO ba w w' := .of (hb.block _ hlt) fun g cs T fz h1 _ => (hb.block _ (Array.getElem?_eq_some_iff.1 h1).1).trans h1
/-- The office in the course of a region. -/
structure OffAt (lo : Nat) (w0 : World) (ob bm ba : Nat) (O : Office) (xb : Nat) (xs : Array Value) (yb : Nat) (ys : Array Value) (w : World) : Prop where
  off : OfficeIn lo w ob bm ba O
  x : w.heap[xb]? = some (.cells xs 45 (0, 0))
  y : w.heap[yb]? = some (.cells ys 121 (0, 0))
  bel : Below lo w0 w
  low : lo ≤ w.heap.size
  fr : FrO ba w0 w
  sz : w0.heap.size ≤ w.heap.size
section
variable {lo : Nat} {w0 w w' : World} {ob bm ba : Nat} {O : Office} {xb yb : Nat} {xs ys : Array Value}
theorem OfficeIn.ba_lt (h : OfficeIn lo w ob bm ba O) : ba < w.heap.size := by obtain ⟨_, _, _, _, A, a1, _⟩ := h; exact a1.lt
theorem OffAt.row (h : OffAt lo w0 ob bm ba O xb xs yb ys w) : w.heap[ob]? = some (.cells #[.int .i64 O.b.most, .int .i64 O.b.hurt, .int .i64 O.b.adds, .int .i64 O.b.hold, .map (some bm), .map (some ba)] 161 (0, 0)) := h.off.row
theorem OffAt.below (h : OffAt lo w0 ob bm ba O xb xs yb ys w) (hb : Below w.heap.size w w') : OffAt lo w0 ob bm ba O xb xs yb ys w' :=
  ⟨h.off.below hb, (hb.block _ (Array.getElem?_eq_some_iff.1 h.x).1).trans h.x, (hb.block _ (Array.getElem?_eq_some_iff.1 h.y).1).trans h.y, h.bel.trans (hb.mono h.low), Nat.le_trans h.low hb.size, h.fr.trans (.below hb h.off.ba_lt), Nat.le_trans h.sz hb.size⟩
theorem OffAt.drewN (h : OffAt lo w0 ob bm ba O xb xs yb ys w) (q : Nat) : OffAt lo w0 ob bm ba O xb xs yb ys (w.drewN q) := h.below (below_drewN (Below.refl _ w) q)
theorem map_ne {b g : Nat} {cs : Array Value} {e : TypeId} {fz : Nat × Nat} (hm : isMap w b) (hg : w.heap[g]? = some (.cells cs e fz)) : g ≠ b := fun e => by
  obtain ⟨es, cl, q⟩ := hm
  rw [← e, hg] at q; cases q
/-- A player's place is laid. -/
theorem OffAt.put (h : OffAt lo w0 ob bm ba O xb xs yb ys w) {x : ByteArray} (hx : x.size ≤ 1000) (a : Whr) :
    ∃ w', (Instr.mapUpdate 158 (.map (some bm)) (.string x) a.v).run Tryz.prog w = .ok () w' ∧ OffAt lo w0 ob bm ba { O with pl := putM O.pl x a } xb xs yb ys w' ∧ Turn bm w w' ∧ isMap w bm := by
  obtain ⟨⟨h1, h2, h3, h4, A, a1, a2⟩, hxx, hyy, hbl, hlw, hfr, hsz⟩ := h
  obtain ⟨W, r, m, t⟩ := h4.update (t := 158) Tryz.underlying158 (strC_ok hx) a
  have hm := h4.isMap
  exact ⟨W, r, ⟨⟨h1, h2, (t.block _ (map_ne hm h3)).trans h3, m, A, a1.keep (t.block _ (fun e => h2 e.symm)), rows_turn a2 hm t⟩, (t.block _ (map_ne hm hxx)).trans hxx, (t.block _ (map_ne hm hyy)).trans hyy, turn_below hbl t h1.2.1, by rw [t.size]; exact hlw, hfr.trans (.of (t.block _ (fun e => h2 e.symm)) fun g cs T fz hg _ => (t.block _ (map_ne hm hg)).trans hg), by rw [t.size]; exact hsz⟩, t, hm⟩
end
/-! ### the row of a team's adds grows -/
/-- A literal of one number, in a block apart from v0's. -/
def NewInt (t : Int) (v0 u : Value) (w : World) : Prop := ∃ g, u = .slice (some ⟨g, 0, none⟩) 1 1 ∧ w.heap[g]? = some (.cells #[.int .i64 t] 3 (0, 0)) ∧ v0.ownBlock ≠ some g
structure AddAt (lo : Nat) (w0 : World) (ob bm ba : Nat) (O : Office) (A : List (ByteArray × Value)) (xb : Nat) (xs : Array Value) (yb : Nat) (ys : Array Value) (w : World) : Prop where
  low : lo ≤ ob ∧ lo ≤ bm ∧ lo ≤ ba
  diff : bm ≠ ba
  row : w.heap[ob]? = some (.cells #[.int .i64 O.b.most, .int .i64 O.b.hurt, .int .i64 O.b.adds, .int .i64 O.b.hold, .map (some bm), .map (some ba)] 161 (0, 0))
  pl : MapS strC Whr.v w bm O.pl
  am : MapS strC id w ba A
  x : w.heap[xb]? = some (.cells xs 45 (0, 0))
  y : w.heap[yb]? = some (.cells ys 121 (0, 0))
  bel : Below lo w0 w
  lo2 : lo ≤ w.heap.size
  fr : FrO ba w0 w
  sz : w0.heap.size ≤ w.heap.size
  size : ∀ t g, ((getM A t).getD (.slice none 0 0)).ownBlock = some g → g < w.heap.size
/-- A team's row with one number more, apart from the other rows. -/
structure GrownRow (lo B : Nat) (A : List (ByteArray × Value)) (O : Office) (a : ByteArray) (t : Int) (u : Value) (w : World) : Prop where
  src : ∀ g, u.ownBlock = some g → ((getM A a).getD (.slice none 0 0)).ownBlock = some g ∨ B ≤ g
  own : w.ownsRow lo 3 1 u ((O.adds a).length + 1) ((O.adds a ++ [t]).map (.int .i64))
  rest : ∀ s, s ≠ a → w.ownsRow lo 3 1 ((getM A s).getD (.slice none 0 0)) (O.adds s).length ((O.adds s).map (.int .i64))
  apart : ∀ s r g, s ≠ a → r ≠ a → ((getM A s).getD (.slice none 0 0)).ownBlock = some g → ((getM A r).getD (.slice none 0 0)).ownBlock = some g → s = r
  new : ∀ s g, s ≠ a → ((getM A s).getD (.slice none 0 0)).ownBlock = some g → u.ownBlock ≠ some g
section
variable {lo : Nat} {w0 w w' : World} {ob bm ba : Nat} {O : Office} {A : List (ByteArray × Value)} {xb yb : Nat} {xs ys : Array Value} {a : ByteArray} {t : Int} {u : Value} {B : Nat}
theorem AddAt.below (h : AddAt lo w0 ob bm ba O A xb xs yb ys w) (hb : Below w.heap.size w w') : AddAt lo w0 ob bm ba O A xb xs yb ys w' :=
  ⟨h.low, h.diff, (hb.block _ (Array.getElem?_eq_some_iff.1 h.row).1).trans h.row, h.pl.keep (hb.block _ h.pl.lt), h.am.keep (hb.block _ h.am.lt), (hb.block _ (Array.getElem?_eq_some_iff.1 h.x).1).trans h.x, (hb.block _ (Array.getElem?_eq_some_iff.1 h.y).1).trans h.y, h.bel.trans (hb.mono h.lo2), Nat.le_trans h.lo2 hb.size, h.fr.trans (.below hb h.am.lt), Nat.le_trans h.sz hb.size, fun s g hg => Nat.lt_of_lt_of_le (h.size s g hg) hb.size⟩
theorem GrownRow.gb (h : GrownRow lo B A O a t u w) (hb : GB w w') : GrownRow lo B A O a t u w' := ⟨h.src, own_gb h.own hb, fun s hs => own_gb (h.rest s hs) hb, h.apart, h.new⟩
theorem GrownRow.turn {b : Nat} (h : GrownRow lo B A O a t u w) (hm : isMap w b) (ht : Turn b w w') : GrownRow lo B A O a t u w' := ⟨h.src, own_turn h.own hm ht, fun s hs => own_turn (h.rest s hs) hm ht, h.apart, h.new⟩
theorem infoInt : (Tryz.prog.info? 3).map (fun i => (i.zero, i.size, i.bytes)) = some (some (.int .i64 0), 1, 8) := by kernel_rfl
theorem grow_row (h : AddAt lo w0 ob bm ba O A xb xs yb ys w) (hr : Rows lo w A O.adds) {v0 : Value} (hv : (getM A a).getD (.slice none 0 0) = v0) {g : Nat} (hg : w.heap[g]? = some (.cells #[.int .i64 t] 3 (0, 0))) (hn : (O.adds a).length ≤ 900) :
    ∃ v' w', (∀ ty, (Builtin.append_ #[22, 22] ty #[v0, .slice (some ⟨g, 0, none⟩) 1 1]).run Tryz.prog w = .ok v' w') ∧ GrownRow lo w0.heap.size A O a t v' w' ∧ w.grownBy w' v0.ownBlock ∧ AddAt lo w0 ob bm ba O A xb xs yb ys w' := by
  obtain ⟨i0, hi, hz0, hz1, hz2⟩ := info_parts infoInt
  have hown := hr.own a
  rw [hv] at hown
  obtain ⟨v', W, hrun, q1, q2, _, q4⟩ := run_append_own_at w lo 22 0 3 i0 _ 1 8 Tryz.underlying22 hi hz0 hz1 hz2 rfl (by decide) v0 (O.adds a).length _ hown ⟨g, 0, none⟩ 1 1 [.int .i64 t] rfl
    (fun j y hy => by
      rw [add_off, (row_cells hg).1]
      cases j with
      | zero => exact hy
      | succ j => simp at hy) (fun y hy => by simp at hy; subst hy; rfl) (by unfold maxLen; omega) (by omega) h.lo2
  have hother : ∀ s k, s ≠ a → ((getM A s).getD (.slice none 0 0)).ownBlock = some k → v0.ownBlock ≠ some k := fun s k hs hk he => hs (hr.apart s a k hk (by rw [hv]; exact he))
  have hblk : ∀ (k : Nat) (o : Obj), w.heap[k]? = some o → (∀ cs, o ≠ .cells cs 3 (0, 0)) → W.heap[k]? = some o := fun k o hk ho => by
    refine (q2.block k (Array.getElem?_eq_some_iff.1 hk).1 fun e => ?_).trans hk
    obtain ⟨cur, hc⟩ := own_block hown e.symm
    rw [hk] at hc
    exact ho cur (Option.some.inj hc)
  refine ⟨v', W, fun ty => ?_, ⟨fun g hg => ?_, by simpa using q1, fun s hs => (hr.own s).kept q2 ?_, fun s r k _ _ => hr.apart s r k, fun s k hs hk he => ?_⟩, q2, ?_⟩
  · exact hrun
  · rcases q4 with q4 | q4
    · exact .inl (by rw [hv, ← q4]; exact hg)
    · rw [q4] at hg
      have := h.sz
      exact .inr (by simp at hg; omega)
  · cases hk : ((getM A s).getD (.slice none 0 0)).ownBlock with
    | none => exact .inl rfl
    | some k => exact .inr fun e => hother s k hs hk e.symm
  · rcases q4 with q4 | q4
    · exact hother s k hs hk (q4.symm.trans he)
    · have := h.size s k hk
      rw [q4] at he
      simp at he; omega
  · have hpm := h.pl.isMap
    have ham := h.am.isMap
    obtain ⟨es1, c1, e1⟩ := hpm
    obtain ⟨es2, c2, e2⟩ := ham
    refine ⟨h.low, h.diff, hblk _ _ h.row (fun cs hc => by cases hc), h.pl.keep ((hblk _ _ e1 (fun cs hc => by cases hc)).trans e1.symm), h.am.keep ((hblk _ _ e2 (fun cs hc => by cases hc)).trans e2.symm), hblk _ _ h.x (fun cs hc => by cases hc), hblk _ _ h.y (fun cs hc => by cases hc), ?_, Nat.le_trans h.lo2 q2.size, h.fr.trans (.of ((hblk _ _ e2 (fun cs hc => by cases hc)).trans e2.symm) fun g cs T fz hg hnr => (q2.block g (Array.getElem?_eq_some_iff.1 hg).1 fun e => hnr ?_).trans hg), Nat.le_trans h.sz q2.size, fun s k hk => Nat.lt_of_lt_of_le (h.size s k hk) q2.size⟩
    rotate_left
    · refine (row_blk h.am g).2 ?_
      rw [← hv] at e
      cases hga : getM A a with
      | none => rw [hga] at e; cases e
      | some v => rw [hga] at e; exact ⟨(a, v), getM_some hga, e.symm⟩
    exact h.bel.trans ⟨q2.os, q2.tape, q2.output, q2.size, fun k hk => q2.block k (Nat.lt_of_lt_of_le hk h.lo2) fun e => by have := (hown.lt k e.symm).1; omega⟩
theorem lay_row (h : AddAt lo w0 ob bm ba O A xb xs yb ys w) (hq : GrownRow lo w0.heap.size A O a t u w) (ha : a.size ≤ 1000) :
    ∃ w', (Instr.mapUpdate 159 (.map (some ba)) (.string a) u).run Tryz.prog w = .ok () w' ∧ OffAt lo w0 ob bm ba { O with adds := upd O.adds a (O.adds a ++ [t]) } xb xs yb ys w' ∧ Turn ba w w' ∧ isMap w ba := by
  obtain ⟨W, r, m, tt⟩ := h.am.update (t := 159) Tryz.underlying159 (strC_ok ha) u
  have hm := h.am.isMap
  have hq' := hq.turn hm tt
  refine ⟨W, r, ⟨⟨h.low, h.diff, (tt.block _ (map_ne hm h.row)).trans h.row, h.pl.keep (tt.block _ h.diff), _, m, fun s => ?_, fun s q g hs hg => ?_⟩, (tt.block _ (map_ne hm h.x)).trans h.x, (tt.block _ (map_ne hm h.y)).trans h.y, turn_below h.bel tt h.low.2.2, by rw [tt.size]; exact h.lo2, fun g cs T fz hg hnr => ?_, by rw [tt.size]; exact h.sz⟩, tt, hm⟩
  · rw [getM_put]
    show W.ownsRow lo 3 1 _ (upd O.adds a _ s).length ((upd O.adds a _ s).map _)
    rw [upd_at]
    by_cases hs : s = a
    · rw [if_pos hs, if_pos hs]
      rw [List.length_append]
      exact hq'.own
    · rw [if_neg hs, if_neg hs]
      exact hq'.rest s hs
  · rw [getM_put] at hs hg
    by_cases h1 : s = a
    · by_cases h2 : q = a
      · rw [h1, h2]
      · rw [if_pos h1] at hs
        rw [if_neg h2] at hg
        exact absurd hs (hq.new q g h2 hg)
    · by_cases h2 : q = a
      · rw [if_neg h1] at hs
        rw [if_pos h2] at hg
        exact absurd hg (hq.new s g h1 hs)
      · rw [if_neg h1] at hs
        rw [if_neg h2] at hg
        exact hq.apart s q g h1 h2 hs hg
  · obtain ⟨k1, k2⟩ := h.fr g cs T fz hg hnr
    refine ⟨(tt.block _ (map_ne hm k1)).trans k1, fun hc => ?_⟩
    obtain ⟨p, hp, hpg⟩ := (row_blk m g).1 hc
    rcases put_mem hp with rfl | ⟨hp, _⟩
    · rcases hq.src g hpg with h1 | h1
      · refine k2 ((row_blk h.am g).2 ?_)
        cases hga : getM A a with
        | none => rw [hga] at h1; cases h1
        | some v => rw [hga] at h1; exact ⟨(a, v), getM_some hga, h1⟩
      · have := (Array.getElem?_eq_some_iff.1 hg).1
        omega
    · exact k2 ((row_blk h.am g).2 ⟨p, hp, hpg⟩)
end
end Go.Proofs.YtfmffobdkfgekaaGreat
