/- The book and the office, move by move, say the same. -/
import Derived.Test.YtfmffobdkfgekaaOffice
import Derived.Test.YtfmffobdkfgekaaRAdds
set_option linter.unusedVariables false
set_option linter.unusedSimpArgs false
namespace Go.Proofs.Ytfmffobdkfgekaa
open Go.RowKit Go.Maps

/-! ### what the reference computes -/
def heldO (O : Office) (x : ByteArray) (t : Int) : Bool := decide (0 ≤ (ofO O x).dropped) && decide (t - (ofO O x).dropped < O.b.hold)
def isAt (t : ByteArray) (h : Bool) (p : ByteArray × Whr) : Bool := eqS p.2.team t && (p.2.hurt == h)
def manyO (O : Office) (t : ByteArray) (h : Bool) : Nat := (O.pl.filter (isAt t h)).length
def inWeek (u : Int) (x : Int) : Bool := weekOf x == weekOf u
def addedO (O : Office) (t : ByteArray) (u : Int) : Nat := ((O.adds t).filter (inWeek u)).length
def errO (O : Office) (m : Mv) : Int :=
  if m.kind = 1 then
    if eqS (ofO O m.player).team m.team then 6 else if !eqS (ofO O m.player).team noStr then 13 else if heldO O m.player m.time then 11
    else if O.b.adds ≤ (addedO O m.team m.time : Nat) then 16 else if O.b.most ≤ (manyO O m.team false : Nat) then 12 else 0
  else if m.kind = 2 then if !eqS (ofO O m.player).team m.team then 8 else 0
  else if !eqS (ofO O m.player).team m.team then 8 else if (ofO O m.player).hurt == (m.kind == 3) then 8
  else if (if m.kind == 3 then O.b.hurt else O.b.most) ≤ (manyO O m.team (m.kind == 3) : Nat) then 12 else 0
def followO (O : Office) (m : Mv) : Office :=
  if errO O m = 0 then
    if m.kind = 1 then { O with adds := upd O.adds m.team (O.adds m.team ++ [m.time]), pl := putM O.pl m.player ⟨m.team, false, (ofO O m.player).dropped⟩ }
    else if m.kind = 2 then { O with pl := putM O.pl m.player ⟨noStr, false, m.time⟩ }
    else { O with pl := putM O.pl m.player ⟨(ofO O m.player).team, m.kind == 3, (ofO O m.player).dropped⟩ }
  else O
def office0 (b : Bd) : Office := ⟨b, [], fun _ => []⟩
def stepO (u : Int) (O : Office) (x : Mv) : Office := if x.time ≤ u then followO O x else O
def officeL (b : Bd) (l : List Mv) (u : Int) : Office := l.foldl (stepO u) (office0 b)

/-! ### the two side by side -/
structure Sim (K : Book) (O : Office) : Prop where
  b : K.b = O.b
  nd : (O.pl.map Prod.fst).Nodup
  ow : ∀ p, K.owner p = (ofO O p).team
  dr : ∀ p, K.dropped p = if 0 ≤ (ofO O p).dropped then some (ofO O p).dropped else none
  ad : ∀ t u, K.adds (t, weekOf u) = (addedO O t u : Nat)
  pn : ∀ t, t ≠ noStr → (K.players t).Nodup
  hn : ∀ t, t ≠ noStr → (K.hurt t).Nodup
  pl : ∀ t, t ≠ noStr → ∀ s, s ∈ K.players t ↔ ((ofO O s).team = t ∧ (ofO O s).hurt = false)
  hu : ∀ t, t ≠ noStr → ∀ s, s ∈ K.hurt t ↔ ((ofO O s).team = t ∧ (ofO O s).hurt = true)
theorem sim0 (b : Bd) : Sim (book0 b) (office0 b) := by
  have h : ∀ p, ofO (office0 b) p = ⟨noStr, false, -1⟩ := fun p => rfl
  refine ⟨rfl, by simp [office0], fun p => by rw [h]; rfl, fun p => by rw [h]; rfl, fun t u => rfl, fun t _ => List.nodup_nil, fun t _ => List.nodup_nil, fun t ht s => ?_, fun t ht s => ?_⟩
  · rw [h]
    constructor
    · intro hm; simp [book0] at hm
    · rintro ⟨h1, _⟩; exact absurd h1.symm ht
  · rw [h]
    constructor
    · intro hm; simp [book0] at hm
    · rintro ⟨_, h2⟩; cases h2
theorem ofO_put (O : Office) (f : ByteArray → List Int) (x y : ByteArray) (a : Whr) : ofO { O with adds := f, pl := putM O.pl x a } y = if y = x then a else ofO O y := by
  unfold ofO
  show (getM (putM O.pl x a) y).getD _ = _
  rw [getM_put]
  split <;> rfl
theorem ofO_put' (O : Office) (x y : ByteArray) (a : Whr) : ofO { O with pl := putM O.pl x a } y = if y = x then a else ofO O y := ofO_put O O.adds x y a
theorem many_mem (O : Office) (hn : (O.pl.map Prod.fst).Nodup) {t : ByteArray} (ht : t ≠ noStr) (h : Bool) (s : ByteArray) : s ∈ (O.pl.filter (isAt t h)).map Prod.fst ↔ ((ofO O s).team = t ∧ (ofO O s).hurt = h) := by
  constructor
  · intro hm
    obtain ⟨p, hp, rfl⟩ := List.mem_map.1 hm
    obtain ⟨hp1, hp2⟩ := List.mem_filter.1 hp
    have hg : getM O.pl p.1 = some p.2 := getM_mem hn hp1
    unfold isAt at hp2
    rw [Bool.and_eq_true, eqS_iff, beq_iff_eq] at hp2
    unfold ofO
    rw [hg]
    exact hp2
  · rintro ⟨h1, h2⟩
    cases hg : getM O.pl s with
    | none =>
      unfold ofO at h1
      rw [hg] at h1
      exact absurd h1.symm ht
    | some a =>
      have ha : ofO O s = a := by unfold ofO; rw [hg]; rfl
      rw [ha] at h1 h2
      refine List.mem_map.2 ⟨(s, a), List.mem_filter.2 ⟨getM_some hg, ?_⟩, rfl⟩
      unfold isAt
      rw [Bool.and_eq_true, eqS_iff, beq_iff_eq]
      exact ⟨h1, h2⟩
theorem many_len {O : Office} (hn : (O.pl.map Prod.fst).Nodup) {t : ByteArray} (ht : t ≠ noStr) (h : Bool) {l : List ByteArray} (hl : l.Nodup) (hm : ∀ s, s ∈ l ↔ ((ofO O s).team = t ∧ (ofO O s).hurt = h)) : l.Perm ((O.pl.filter (isAt t h)).map Prod.fst) :=
  (List.perm_ext_iff_of_nodup hl (List.Nodup.sublist (List.filter_sublist.map _) hn)).2 fun s => by rw [hm, many_mem O hn ht h s]
theorem Sim.many {K : Book} {O : Office} (h : Sim K O) {t : ByteArray} (ht : t ≠ noStr) : (K.players t).length = manyO O t false ∧ (K.hurt t).length = manyO O t true := by
  have h1 := (many_len h.nd ht false (h.pn t ht) (h.pl t ht)).length_eq
  have h2 := (many_len h.nd ht true (h.hn t ht) (h.hu t ht)).length_eq
  rw [List.length_map] at h1 h2
  exact ⟨h1, h2⟩
theorem Sim.held {K : Book} {O : Office} (h : Sim K O) (x : ByteArray) (t : Int) : heldB K x t = heldO O x t := by
  unfold heldB heldO
  rw [h.dr, h.b]
  by_cases h0 : 0 ≤ (ofO O x).dropped
  · rw [if_pos h0]; simp [h0]
  · rw [if_neg h0]; simp [h0]
/-- What is known of a move of a right list. -/
structure Right (x : Mv) : Prop where
  time : 0 ≤ x.time
  kind : x.kind = 1 ∨ x.kind = 2 ∨ x.kind = 3 ∨ x.kind = 4
  team : x.team ≠ noStr
theorem bool_iff {a b : Bool} (h : a = true ↔ b = true) : a = b := Bool.eq_iff_iff.2 h
theorem Sim.has {K : Book} {O : Office} (h : Sim K O) {t : ByteArray} (ht : t ≠ noStr) (s : ByteArray) :
    hasS (K.players t) s = (eqS (ofO O s).team t && ((ofO O s).hurt == false)) ∧ hasS (K.hurt t) s = (eqS (ofO O s).team t && ((ofO O s).hurt == true)) := by
  constructor
  · refine bool_iff ?_
    rw [hasS_iff, h.pl t ht s, Bool.and_eq_true, eqS_iff, beq_iff_eq]
  · refine bool_iff ?_
    rw [hasS_iff, h.hu t ht s, Bool.and_eq_true, eqS_iff, beq_iff_eq]
theorem Sim.why {K : Book} {O : Office} (h : Sim K O) {x : Mv} (hx : Right x) : whyB K x = errO O x := by
  obtain ⟨hm1, hm2⟩ := h.many hx.team
  obtain ⟨hh1, hh2⟩ := h.has hx.team x.player
  unfold whyB errO
  rw [h.ow, h.held, h.ad, hm1, hm2, hh1, hh2, h.b]
  rcases hx.kind with hk | hk | hk | hk
  · rw [if_pos hk, if_pos hk]
  · have n1 : ¬ x.kind = 1 := by omega
    rw [if_neg n1, if_neg n1, if_pos hk, if_pos hk]
  · have n1 : ¬ x.kind = 1 := by omega
    have n2 : ¬ x.kind = 2 := by omega
    rw [if_neg n1, if_neg n2, if_pos hk, if_neg n1, if_neg n2, hk]
    cases eqS (ofO O x.player).team x.team <;> cases (ofO O x.player).hurt <;> simp
  · have n1 : ¬ x.kind = 1 := by omega
    have n2 : ¬ x.kind = 2 := by omega
    have n3 : ¬ x.kind = 3 := by omega
    rw [if_neg n1, if_neg n2, if_neg n3, if_pos hk, if_neg n1, if_neg n2, hk]
    cases eqS (ofO O x.player).team x.team <;> cases (ofO O x.player).hurt <;> simp
theorem addS_nodup {l : List ByteArray} {s : ByteArray} (h : l.Nodup) (hs : s ∉ l) : (addS l s).Nodup := by
  have hp : (addS l s).Perm (s :: l) := by
    unfold addS
    refine List.perm_middle.trans ?_
    rw [List.take_append_drop]
  exact hp.nodup_iff.2 (List.nodup_cons.2 ⟨hs, h⟩)
theorem lessS_mem {l : List ByteArray} {s x : ByteArray} : x ∈ lessS l s ↔ x ∈ l ∧ x ≠ s := by
  unfold lessS
  rw [List.mem_filter]
  refine and_congr_right fun _ => ?_
  show (!eqS x s) = true ↔ _
  rw [Bool.not_eq_true', ← Bool.not_eq_true, eqS_iff]
theorem lessS_nodup {l : List ByteArray} {s : ByteArray} (h : l.Nodup) : (lessS l s).Nodup := List.Nodup.sublist List.filter_sublist h
theorem inWeek_eq (u v : Int) : inWeek u v = decide (weekOf v = weekOf u) := by unfold inWeek; exact bool_iff (by simp)
theorem upd_eq {α β : Type} [DecidableEq α] (f : α → β) (x : α) (v : β) : upd f x v x = v := by unfold upd; rw [if_pos rfl]
theorem upd_ne {α β : Type} [DecidableEq α] (f : α → β) {x y : α} (v : β) (h : y ≠ x) : upd f x v y = f y := by unfold upd; rw [if_neg h]
theorem Sim.touch {K : Book} {O : Office} (h : Sim K O) (l : List ByteArray) (x : ByteArray) : Sim { K with teams := l, players := upd K.players x (K.players x), hurt := upd K.hurt x (K.hurt x) } O := by
  rw [upd_same, upd_same]
  exact ⟨h.b, h.nd, h.ow, h.dr, h.ad, h.pn, h.hn, h.pl, h.hu⟩
set_option maxHeartbeats 1000000 in
theorem Sim.step {K : Book} {O : Office} (h : Sim K O) {x : Mv} (hx : Right x) : Sim (followB K x) (followO O x) := by
  have hw := h.why hx
  unfold followB followO
  by_cases h0 : errO O x = 0
  · rw [if_pos (hw.trans h0), if_pos h0]
    have hk := hx.kind
    have ht := hx.team
    by_cases k1 : x.kind = 1
    · rw [if_pos k1, if_pos k1]
      -- the player is with nobody
      have hno : (ofO O x.player).team = noStr := by
        unfold errO at h0
        rw [if_pos k1] at h0
        cases e1 : eqS (ofO O x.player).team noStr with
        | true => exact eqS_iff.1 e1
        | false => rw [e1] at h0; split at h0 <;> simp at h0
      have hnp : x.player ∉ K.players x.team := fun hm => ht (((h.pl _ ht _).1 hm).1.symm.trans hno)
      have hnh : x.player ∉ K.hurt x.team := fun hm => ht (((h.hu _ ht _).1 hm).1.symm.trans hno)
      refine ⟨h.b, put_nodup h.nd _ _, fun p => ?_, fun p => ?_, fun t u => ?_, fun t ht' => ?_, fun t ht' => ?_, fun t ht' s => ?_, fun t ht' s => ?_⟩
      · rw [ofO_put]
        show upd K.owner x.player x.team p = _
        rw [upd_at]
        split
        · rfl
        · exact h.ow p
      · rw [ofO_put]
        show K.dropped p = _
        rw [h.dr]
        by_cases hp : p = x.player
        · rw [if_pos hp, hp]
        · rw [if_neg hp]
      · show upd K.adds (x.team, weekOf x.time) _ (t, weekOf u) = ((((upd O.adds x.team (O.adds x.team ++ [x.time])) t).filter (inWeek u)).length : Nat)
        rw [upd_at, upd_at]
        by_cases e1 : t = x.team
        · subst e1
          rw [if_pos rfl, List.filter_append, List.length_append, List.filter_cons, List.filter_nil, inWeek_eq]
          have ha := h.ad x.team u
          unfold addedO at ha
          by_cases e2 : weekOf x.time = weekOf u
          · rw [if_pos (by rw [e2]), if_pos (by simp [e2]), e2, ha]; simp
          · rw [if_neg (fun c => e2 (congrArg Prod.snd c).symm), if_neg (by simp [e2]), ha]; simp
        · rw [if_neg (fun c => e1 (congrArg Prod.fst c)), if_neg e1]
          exact h.ad t u
      · show (upd K.players x.team _ t).Nodup
        rw [upd_at]
        split
        · exact addS_nodup (h.pn _ ht) hnp
        · exact h.pn t ht'
      · show (upd K.hurt x.team _ t).Nodup
        rw [upd_same]
        exact h.hn t ht'
      · rw [ofO_put]
        show s ∈ upd K.players x.team _ t ↔ _
        rw [upd_at]
        by_cases e1 : s = x.player
        · subst e1
          rw [if_pos rfl]
          by_cases e2 : t = x.team
          · subst e2
            rw [if_pos rfl, addS_mem]
            simp
          · rw [if_neg e2, h.pl t ht', hno]
            constructor
            · rintro ⟨h1, _⟩; exact absurd h1.symm ht'
            · rintro ⟨h1, _⟩; exact absurd h1.symm e2
        · rw [if_neg e1, ← h.pl t ht']
          split
          · rename_i e2; subst e2
            rw [addS_mem]
            simp [e1]
          · exact Iff.rfl
      · rw [ofO_put]
        show s ∈ upd K.hurt x.team _ t ↔ _
        rw [upd_same, h.hu t ht']
        split
        · rename_i e1; subst e1
          rw [hno]
          constructor
          · rintro ⟨h1, _⟩; exact absurd h1.symm ht'
          · rintro ⟨_, h1⟩; cases h1
        · exact Iff.rfl
    · rw [if_neg k1, if_neg k1]
      have hown : (ofO O x.player).team = x.team := by
        unfold errO at h0
        rw [if_neg k1] at h0
        cases e1 : eqS (ofO O x.player).team x.team with
        | true => exact eqS_iff.1 e1
        | false => rw [e1] at h0; split at h0 <;> simp at h0
      by_cases k2 : x.kind = 2
      · rw [if_pos k2, if_pos k2]
        refine ⟨h.b, put_nodup h.nd _ _, fun p => ?_, fun p => ?_, fun t u => h.ad t u, fun t ht' => ?_, fun t ht' => ?_, fun t ht' s => ?_, fun t ht' s => ?_⟩
        · rw [ofO_put']
          show upd K.owner x.player noStr p = _
          rw [upd_at]
          split
          · rfl
          · exact h.ow p
        · rw [ofO_put']
          show upd K.dropped x.player (some x.time) p = _
          rw [upd_at]
          split
          · show _ = if 0 ≤ x.time then _ else _
            rw [if_pos hx.time]
          · exact h.dr p
        · show (upd K.players x.team _ t).Nodup
          rw [upd_at]
          split
          · exact lessS_nodup (h.pn _ ht)
          · exact h.pn t ht'
        · show (upd K.hurt x.team _ t).Nodup
          rw [upd_at]
          split
          · exact lessS_nodup (h.hn _ ht)
          · exact h.hn t ht'
        · rw [ofO_put']
          show s ∈ upd K.players x.team _ t ↔ _
          rw [upd_at]
          by_cases e1 : s = x.player
          · subst e1
            rw [if_pos rfl]
            by_cases e2 : t = x.team
            · subst e2
              rw [if_pos rfl, lessS_mem]
              constructor
              · rintro ⟨_, h1⟩; exact absurd rfl h1
              · rintro ⟨h1, _⟩; exact absurd h1.symm ht'
            · rw [if_neg e2, h.pl t ht', hown]
              constructor
              · rintro ⟨h1, _⟩; exact absurd h1.symm e2
              · rintro ⟨h1, _⟩; exact absurd h1.symm ht'
          · rw [if_neg e1, ← h.pl t ht']
            split
            · rename_i e2; subst e2
              rw [lessS_mem]
              simp [e1]
            · exact Iff.rfl
        · rw [ofO_put']
          show s ∈ upd K.hurt x.team _ t ↔ _
          rw [upd_at]
          by_cases e1 : s = x.player
          · subst e1
            rw [if_pos rfl]
            by_cases e2 : t = x.team
            · subst e2
              rw [if_pos rfl, lessS_mem]
              constructor
              · rintro ⟨_, h1⟩; exact absurd rfl h1
              · rintro ⟨_, h1⟩; cases h1
            · rw [if_neg e2, h.hu t ht', hown]
              constructor
              · rintro ⟨h1, _⟩; exact absurd h1.symm e2
              · rintro ⟨_, h1⟩; cases h1
          · rw [if_neg e1, ← h.hu t ht']
            split
            · rename_i e2; subst e2
              rw [lessS_mem]
              simp [e1]
            · exact Iff.rfl
      · rw [if_neg k2, if_neg k2]
        have hhurt : (ofO O x.player).hurt ≠ (x.kind == 3) := by
          intro hc
          unfold errO at h0
          rw [if_neg k1, if_neg k2, eqS_iff.2 hown, hc] at h0
          simp at h0
        by_cases k3 : x.kind = 3
        · rw [if_pos k3]
          rw [k3] at hhurt ⊢
          have hhf : (ofO O x.player).hurt = false := by cases hq : (ofO O x.player).hurt <;> simp [hq] at hhurt ⊢
          have hnh : x.player ∉ K.hurt x.team := fun hm => by have := ((h.hu _ ht _).1 hm).2; rw [hhf] at this; cases this
          refine ⟨h.b, put_nodup h.nd _ _, fun p => ?_, fun p => ?_, fun t u => h.ad t u, fun t ht' => ?_, fun t ht' => ?_, fun t ht' s => ?_, fun t ht' s => ?_⟩
          · rw [ofO_put']
            show K.owner p = _
            rw [h.ow]
            split
            · rename_i hp; rw [hp]
            · rfl
          · rw [ofO_put']
            show K.dropped p = _
            rw [h.dr]
            by_cases hp : p = x.player
            · rw [if_pos hp, hp]
            · rw [if_neg hp]
          · show (upd K.players x.team _ t).Nodup
            rw [upd_at]
            split
            · exact lessS_nodup (h.pn _ ht)
            · exact h.pn t ht'
          · show (upd K.hurt x.team _ t).Nodup
            rw [upd_at]
            split
            · exact addS_nodup (h.hn _ ht) hnh
            · exact h.hn t ht'
          · rw [ofO_put']
            show s ∈ upd K.players x.team _ t ↔ _
            rw [upd_at]
            by_cases e1 : s = x.player
            · subst e1
              rw [if_pos rfl]
              by_cases e2 : t = x.team
              · subst e2
                rw [if_pos rfl, lessS_mem]
                constructor
                · rintro ⟨_, h1⟩; exact absurd rfl h1
                · rintro ⟨_, h1⟩; cases h1
              · rw [if_neg e2, h.pl t ht', hown]
                constructor
                · rintro ⟨h1, _⟩; exact absurd h1.symm e2
                · rintro ⟨_, h1⟩; cases h1
            · rw [if_neg e1, ← h.pl t ht']
              split
              · rename_i e2; subst e2
                rw [lessS_mem]
                simp [e1]
              · exact Iff.rfl
          · rw [ofO_put']
            show s ∈ upd K.hurt x.team _ t ↔ _
            rw [upd_at]
            by_cases e1 : s = x.player
            · subst e1
              rw [if_pos rfl]
              by_cases e2 : t = x.team
              · subst e2
                rw [if_pos rfl, addS_mem, hown]
                simp
              · rw [if_neg e2, h.hu t ht', hown, hhf]
                constructor
                · rintro ⟨_, h1⟩; cases h1
                · rintro ⟨h1, _⟩; exact absurd h1.symm e2
            · rw [if_neg e1, ← h.hu t ht']
              split
              · rename_i e2; subst e2
                rw [addS_mem]
                simp [e1]
              · exact Iff.rfl
        · have k4 : x.kind = 4 := by omega
          rw [if_neg k3, if_pos k4]
          rw [k4] at hhurt ⊢
          have hht : (ofO O x.player).hurt = true := by cases hq : (ofO O x.player).hurt <;> simp [hq] at hhurt ⊢
          have hnp : x.player ∉ K.players x.team := fun hm => by have := ((h.pl _ ht _).1 hm).2; rw [hht] at this; cases this
          refine ⟨h.b, put_nodup h.nd _ _, fun p => ?_, fun p => ?_, fun t u => h.ad t u, fun t ht' => ?_, fun t ht' => ?_, fun t ht' s => ?_, fun t ht' s => ?_⟩
          · rw [ofO_put']
            show K.owner p = _
            rw [h.ow]
            split
            · rename_i hp; rw [hp]
            · rfl
          · rw [ofO_put']
            show K.dropped p = _
            rw [h.dr]
            by_cases hp : p = x.player
            · rw [if_pos hp, hp]
            · rw [if_neg hp]
          · show (upd K.players x.team _ t).Nodup
            rw [upd_at]
            split
            · exact addS_nodup (h.pn _ ht) hnp
            · exact h.pn t ht'
          · show (upd K.hurt x.team _ t).Nodup
            rw [upd_at]
            split
            · exact lessS_nodup (h.hn _ ht)
            · exact h.hn t ht'
          · rw [ofO_put']
            show s ∈ upd K.players x.team _ t ↔ _
            rw [upd_at]
            by_cases e1 : s = x.player
            · subst e1
              rw [if_pos rfl]
              by_cases e2 : t = x.team
              · subst e2
                rw [if_pos rfl, addS_mem, hown]
                simp
              · rw [if_neg e2, h.pl t ht', hown, hht]
                constructor
                · rintro ⟨_, h1⟩; cases h1
                · rintro ⟨h1, _⟩; exact absurd h1.symm e2
            · rw [if_neg e1, ← h.pl t ht']
              split
              · rename_i e2; subst e2
                rw [addS_mem]
                simp [e1]
              · exact Iff.rfl
          · rw [ofO_put']
            show s ∈ upd K.hurt x.team _ t ↔ _
            rw [upd_at]
            by_cases e1 : s = x.player
            · subst e1
              rw [if_pos rfl]
              by_cases e2 : t = x.team
              · subst e2
                rw [if_pos rfl, lessS_mem]
                constructor
                · rintro ⟨_, h1⟩; exact absurd rfl h1
                · rintro ⟨_, h1⟩; cases h1
              · rw [if_neg e2, h.hu t ht', hown]
                constructor
                · rintro ⟨h1, _⟩; exact absurd h1.symm e2
                · rintro ⟨_, h1⟩; cases h1
            · rw [if_neg e1, ← h.hu t ht']
              split
              · rename_i e2; subst e2
                rw [lessS_mem]
                simp [e1]
              · exact Iff.rfl
  · rw [if_neg (fun c => h0 (hw.symm.trans c)), if_neg h0]
    exact h.touch _ _
theorem Sim.fold {u : Int} : ∀ (l : List Mv) {K : Book} {O : Office}, Sim K O → (∀ x ∈ l, Right x) → Sim (l.foldl (stepB u) K) (l.foldl (stepO u) O)
  | [], K, O, h, _ => h
  | x :: l, K, O, h, hx => by
    refine Sim.fold l ?_ fun y hy => hx y (by simp [hy])
    unfold stepB stepO
    split
    · exact h.step (hx x (by simp))
    · exact h
theorem sim_at (b : Bd) (l : List Mv) (u : Int) (h : ∀ x ∈ l, Right x) : Sim (bookAt b l u) (officeL b l u) := Sim.fold l (sim0 b) h

/-! ### right lists -/
theorem keyB_none : keyB noStr = false := by decide
theorem mvBad_right {p : Option Mv} {x : Mv} (h : mvBad p x = 0) : Right x := by
  unfold mvBad at h
  split at h
  · rename_i h1
    split at h
    · rename_i h2
      split at h
      · rename_i h3
        rw [inB_iff] at h1 h2
        exact ⟨h1.1, by omega, fun c => by rw [c, keyB_none] at h3; exact absurd h3 (by simp)⟩
      · cases h
    · cases h
  · cases h
theorem mfGo_right : ∀ (l : List Mv) (p : Option Mv), mfGo p l = 0 → ∀ x ∈ l, Right x
  | [], _, _, x, hx => by cases hx
  | y :: l, p, h, x, hx => by
    unfold mfGo at h
    split at h
    · rename_i h0; exact absurd h h0
    · rename_i h0
      rcases List.mem_cons.1 hx with rfl | hx
      · exact mvBad_right (Decidable.not_not.1 h0)
      · exact mfGo_right l _ h x hx
theorem fault_right {b : Bd} {l : List Mv} (h : faultE b l = 0) : ∀ x ∈ l, Right x := by
  refine mfGo_right l none ?_
  unfold faultE firstI at h
  split at h
  · rename_i h1
    exact absurd h h1
  · unfold firstI at h
    split at h
    · rename_i h1; exact absurd h h1
    · rename_i h1
      exact Decidable.not_not.1 h1
end Go.Proofs.Ytfmffobdkfgekaa
