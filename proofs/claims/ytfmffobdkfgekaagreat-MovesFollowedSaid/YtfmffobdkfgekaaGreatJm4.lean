import Derived.Test.YtfmffobdkfgekaaGreatJm3
import Derived.Carry
/- A move is followed: (*book).follow. -/
set_option linter.unusedVariables false
set_option linter.unusedSimpArgs false
namespace Go.Proofs.YtfmffobdkfgekaaGreat
open Go.RowKit Go.Maps

def followB (K : Book) (x : Mv) : Book :=
  if whyB K x = 0 then
    if x.kind = 1 then { K with teams := touch K.teams x.team, players := upd K.players x.team (addS (K.players x.team) x.player), hurt := upd K.hurt x.team (K.hurt x.team), owner := upd K.owner x.player x.team, adds := upd K.adds (x.team, weekOf x.time) (K.adds (x.team, weekOf x.time) + 1) }
    else if x.kind = 2 then { K with teams := touch K.teams x.team, players := upd K.players x.team (lessS (K.players x.team) x.player), hurt := upd K.hurt x.team (lessS (K.hurt x.team) x.player), owner := upd K.owner x.player noStr, dropped := upd K.dropped x.player (some x.time) }
    else if x.kind = 3 then { K with teams := touch K.teams x.team, players := upd K.players x.team (lessS (K.players x.team) x.player), hurt := upd K.hurt x.team (addS (K.hurt x.team) x.player) }
    else if x.kind = 4 then { K with teams := touch K.teams x.team, players := upd K.players x.team (addS (K.players x.team) x.player), hurt := upd K.hurt x.team (lessS (K.hurt x.team) x.player) }
    else { K with teams := touch K.teams x.team, players := upd K.players x.team (K.players x.team), hurt := upd K.hurt x.team (K.hurt x.team) }
  else { K with teams := touch K.teams x.team, players := upd K.players x.team (K.players x.team), hurt := upd K.hurt x.team (K.hurt x.team) }
/-- The book in the course of the region that lays both lists. -/
structure LayAt (lo : Nat) (w0 wc : World) (kb bp bh bo bd ba : Nat) (K : Book) (xs : Array Value) (v1 v2 : Value) (l1 l2 : List ByteArray) (w : World) : Prop where
  book : BookIn lo w kb bp bh bo bd ba K
  row : w.heap[kb]? = some (.cells #[.int .i64 K.b.most, .int .i64 K.b.hurt, .int .i64 K.b.adds, .int .i64 K.b.hold, .map (some bp), .map (some bh), .map (some bo), .map (some bd), .map (some ba)] 115 (0, 0))
  x : w.heap[w0.heap.size]? = some (.cells xs 45 (0, 0))
  s1 : SlT lo w v1 l1
  s2 : SlT lo w v2 l2
  bel : BlwM lo w0 w
theorem mid {n m c p w t w' t' : Nat} (h1 : n + w' ≤ m) (h2 : m + c + p ≤ n + t') (hw : w' = w) (ht : t' = t) (hn : n = 0) (hx : w = 1 := by rfl) (hy : t = 2 := by rfl) : m = 1 ∨ m = 2 := by omega
theorem phase {n m c p w t k : Nat} (h1 : n + w ≤ m) (h2 : m + c + p ≤ n + t) (hw : w = k) (ht : t = n + k + c + p - n) (hn : n = 0) : m = k := by omega
theorem LayAt.low {lo : Nat} {w0 wc w : World} {kb bp bh bo bd ba : Nat} {K : Book} {xs : Array Value} {v1 v2 : Value} {l1 l2 : List ByteArray} (h : LayAt lo w0 wc kb bp bh bo bd ba K xs v1 v2 l1 l2 w) : lo ≤ w.heap.size :=
  Nat.le_trans h.book.low.1 (Nat.le_of_lt (Array.getElem?_eq_some_iff.1 h.row).1)
structure GB (w w' : World) : Prop where
  size : w.heap.size ≤ w'.heap.size
  block : ∀ i, i < w.heap.size → w'.heap[i]? = w.heap[i]?
theorem GB.refl (w w' : World) (h : w'.heap = w.heap) : GB w w' := ⟨by rw [h]; exact Nat.le_refl _, fun i _ => by rw [h]⟩
theorem GB.of_below {w w' : World} (h : Below w.heap.size w w') : GB w w' := ⟨h.size, h.block⟩
theorem GB.slT {lo : Nat} {w w' : World} (h : GB w w') {v : Value} {l : List ByteArray} (hs : SlT lo w v l) : SlT lo w' v l := hs.keep h.size fun i cs hc => (h.block i (Array.getElem?_eq_some_iff.1 hc).1).trans hc
theorem GB.sl {lo : Nat} {w w' : World} (h : GB w w') {v : Value} {sz n : Nat} {vs : List Value} (hs : Sl lo w v sz n vs) : Sl lo w' v sz n vs := hs.keep h.size fun i _ hi => h.block i hi
def addK (K : Book) (x : ByteArray × Int) (a : Int) : Nat → Book
  | 2 => K
  | 1 => K
  | _ => { K with adds := upd K.adds x a }
def layK (K : Book) (x : ByteArray) (l1 l2 : List ByteArray) : Nat → Book
  | 4 => K
  | 3 => { K with teams := touch K.teams x }
  | 2 => { K with teams := touch K.teams x, players := upd K.players x l1 }
  | 1 => { K with teams := touch K.teams x, players := upd K.players x l1 }
  | _ => { K with teams := touch K.teams x, players := upd K.players x l1, hurt := upd K.hurt x l2 }
set_option maxHeartbeats 1000000 in
set_option maxRecDepth 20000 in
theorem follow_any {lo : Nat} {w : World} {kb bp bh bo bd ba : Nat} {K : Book} (h : BookIn lo w kb bp bh bo bd ba K) (hlo : lo ≤ w.heap.size) (hok : K.b.ok) (x : Mv) (hx : x.ok) (hdr : ∀ p m, K.dropped p = some m → small m) (had : ∀ k, 0 ≤ K.adds k ∧ K.adds k ≤ 100000) (hlen : ∀ t, (K.players t).length ≤ 900 ∧ (K.hurt t).length ≤ 900) :
    Calls Tryz.prog 110 #[.pointer (some ⟨kb, 0, none⟩), .agg x.c.toArray] w fun e w' => e = .returned (.int .i64 (whyB K x)) ∧ BookIn lo w' kb bp bh bo bd ba (followB K x) ∧ BlwM lo w w' := by
  obtain ⟨xt, xk, xa, xp⟩ := x
  have hW := (Below.refl w.heap.size w).alloc (Nat.le_refl _) (.cells #[.int .i64 xt, .int .i64 xk, .string xa, .string xp] 45)
  have hxb := heap_alloc_new w (.cells #[.int .i64 xt, .int .i64 xk, .string xa, .string xp] 45)
  have h' := h.below hW
  have HK0 := Lib.hid h
  clear h
  dsimp only [Mv.c]
  go_enter Tryz.func110, Tryz.ntmps110
  go_wp2_with fail
  refine (why_any h' hok ⟨xt, xk, xa, xp⟩ hx hdr had).mono ?_
  rintro e W ⟨rfl, hbW⟩
  have h1 := h'.below hbW
  have hxb1 : W.heap[w.heap.size]? = some (.cells #[.int .i64 xt, .int .i64 xk, .string xa, .string xp] 45 (0, 0)) := (hbW.block _ (by simp)).trans hxb
  have hWW : BlwM lo w W := ((BlwM.refl lo w).then hW hlo).then hbW (by simp; omega)
  clear h' hW hxb hbW
  go_wp2
  obtain ⟨P, p1, p2, p3⟩ := h1.pl
  obtain ⟨H, q1, q2⟩ := h1.hu
  obtain ⟨A1, c1, e1, hn1⟩ := (p2 xa).sl.shape
  obtain ⟨A2, c2, e2, hn2⟩ := (q2 xa).sl.shape
  have S1 := Lib.hid (p2 xa)
  have S2 := Lib.hid (q2 xa)
  rw [e1] at S1
  rw [e2] at S2
  have l2 : ∀ q, (Instr.lookup 110 (.map (some bp)) (.string xa) false).run Tryz.prog (W.drewN q) = .ok (.slice A1 (K.players xa).length c1) (W.drewN q) := fun q => by rw [← e1]; exact lookList (w := W.drewN q) (x := xa) p1 hx.team
  have l3 : ∀ q, (Instr.lookup 110 (.map (some bh)) (.string xa) false).run Tryz.prog (W.drewN q) = .ok (.slice A2 (K.hurt xa).length c2) (W.drewN q) := fun q => by rw [← e2]; exact lookList (w := W.drewN q) (x := xa) q1 hx.team
  clear p1 p2 p3 q1 q2 e1 e2
  obtain ⟨hc, hf⟩ := row_cells h1.row
  obtain ⟨hcx, hfx⟩ := row_cells hxb1
  have HX := Lib.hid hx
  have HW := Lib.hid hWW
  have HB := Lib.hid h1
  have HXB := Lib.hid hxb1
  clear hx h1 hxb1 hf hfx hWW
  generalize hn1e : (K.players xa).length = n1 at *
  generalize hn2e : (K.hurt xa).length = n2 at *
  go_quiet (fail)
  clear l2 l3 hc hcx
  obtain ⟨V, hV⟩ : ∃ V, V = W.drewN nq := ⟨_, rfl⟩
  rw [← hV]
  have B := Lib.hid (HB.out.below (w' := V) (by rw [hV]; exact below_drewN (Below.refl _ W) _))
  have XB : V.heap[w.heap.size]? = some (.cells #[.int .i64 xt, .int .i64 xk, .string xa, .string xp] 45 (0, 0)) := by rw [hV]; exact HXB.out
  have WV := Lib.hid (show BlwM lo w V by rw [hV]; exact HW.out.drewN _)
  have T1 : SlT lo V (.slice A1 n1 c1) (K.players xa) := by rw [hV]; exact S1.out.drewN _
  have T2 : SlT lo V (.slice A2 n2 c2) (K.hurt xa) := by rw [hV]; exact S2.out.drewN _
  have T1 := Lib.hid T1
  have T2 := Lib.hid T2
  clear HB HXB HW S1 S2 hV
  have HXB := Lib.hid XB
  clear XB
  generalize hwy : whyB K ⟨xt, xk, xa, xp⟩ = wy at *
  have hws : w.heap.size < V.heap.size := (Array.getElem?_eq_some_iff.1 HXB.out).1
  go_upto_if 26 with fail
  go_cut [6, 7] (fun s6 s7 wx => ∃ (l1 l2 : List ByteArray) (K2 : Book), SlT lo wx s6 l1 ∧ SlT lo wx s7 l2 ∧ BookIn lo wx kb bp bh bo bd ba K2 ∧
    { K2 with teams := touch K2.teams xa, players := upd K2.players xa l1, hurt := upd K2.hurt xa l2 } = followB K ⟨xt, xk, xa, xp⟩ ∧ wx.heap[w.heap.size]? = some (.cells #[.int .i64 xt, .int .i64 xk, .string xa, .string xp] 45 (0, 0)) ∧ BlwM lo w wx)
  case first =>
    by_cases hw0 : wy = 0
    · subst hw0
      have HY := Lib.hid hwy
      clear hwy
      obtain ⟨hcx, hfx⟩ := row_cells HXB.out
      obtain ⟨hc, hf⟩ := row_cells B.out.row
      clear hfx hf
      by_cases k1 : xk = 1
      · subst k1
        go_wp2_with fail
        refine (add_any (lo := lo) (w := V) (l := K.players xa) xp T1.out.sl (by have := hlen xa; omega)).mono ?_
        rintro e V1 ⟨v1, rfl, g1, hb⟩
        have B1 := B.out.below hb
        have X1 : V1.heap[w.heap.size]? = some (.cells #[.int .i64 xt, .int .i64 1, .string xa, .string xp] 45 (0, 0)) := (hb.block _ hws).trans HXB.out
        have L1 := Lib.hid (WV.out.then hb (Nat.le_trans hlo (Nat.le_of_lt hws)))
        have GA1 := Lib.hid (g1.mono (Nat.le_trans hlo (Nat.le_of_lt hws)))
        have G2' := Lib.hid (T2.out.below hb)
        clear hcx hc hb g1
        go_wp2
        obtain ⟨U, hU⟩ : ∃ U, U = V1.drew := ⟨_, rfl⟩
        have BU := B1.below (w' := U) (by rw [hU]; exact below_drewN (Below.refl _ V1) 1)
        have XU : U.heap[w.heap.size]? = some (.cells #[.int .i64 xt, .int .i64 1, .string xa, .string xp] 45 (0, 0)) := by rw [hU]; exact X1
        obtain ⟨O, m1, m2⟩ := BU.ow
        obtain ⟨U1, r1, m3, t1⟩ := m1.update (t := 111) Tryz.underlying111 (strC_ok HX.out.player) xa
        have r1 : (Instr.mapUpdate 111 (.map (some bo)) (.string xp) (.string xa)).run Tryz.prog U = .ok () U1 := r1
        obtain ⟨hcx, hfx⟩ := row_cells XU
        obtain ⟨hc, hf⟩ := row_cells BU.row
        refine wp_region_still_tail 8 (by kernel_rfl) (by kernel_rfl) ?_
        change wpStill _ _ (World.drew V1) _ _ _
        rw [← hU]
        have HU := Lib.hid hU
        clear hU hf hfx
        simp only [List.take_succ_cons, List.take_zero, List.drop_succ_cons, List.drop_zero]
        repeat still_step
        refine wpStill_nil ?_
        change wpList _ _ _ _ _ (World.drew V1)
        rw [← HU.out]
        go_wp2
        have BU1 := BU.turnO t1 (f := upd K.owner xp xa) m3 fun y => by
          rw [getM_put]; unfold upd
          split
          · rfl
          · exact m2 y
        have hxo : w.heap.size ≠ bo ∧ w.heap.size ≠ ba := by
          refine ⟨fun e => ?_, fun e => ?_⟩
          · obtain ⟨es, cl, q⟩ := m1.isMap
            rw [← e, XU] at q; cases q
          · obtain ⟨M, p1, _⟩ := BU.ad
            obtain ⟨es, cl, q⟩ := p1.isMap
            rw [← e, XU] at q; cases q
        have hxa := hxo.2
        have XU1 := Lib.hid ((t1.block _ hxo.1).trans XU)
        have hUB : BlwM lo w U := by rw [HU.out]; exact L1.out.drewN 1
        have LU1 := Lib.hid (turn_blw hUB t1 BU.low.2.2.2.1 m1.isMap)
        have im1 := m1.isMap
        have A1' := Lib.hid (show SlT lo U1 v1 (addS (K.players xa) xp) from SlT.turn (w := U) (by rw [HU.out]; exact GA1.out.drew) im1 t1)
        have A2' := Lib.hid (show SlT lo U1 (.slice A2 n2 c2) (K.hurt xa) from SlT.turn (w := U) (by rw [HU.out]; exact G2'.out.drew) im1 t1)
        have BU1 := Lib.hid BU1
        clear B1 X1 BU m1 m2 r1 m3 t1 hcx hc XU hUB im1
        have hwr := weekOf_range HX.out.time
        obtain ⟨ka, hka⟩ : ∃ ka, K.adds (xa, weekOf xt) = ka := ⟨_, rfl⟩
        have hka2 : IntKind.i64.wrap (ka + 1) = ka + 1 := by have := had (xa, weekOf xt); rw [IntKind.wrap_i64]; omega
        unfold weekOf at hwr hka
        have hwk : IntKind.i64.wrap (xt.tdiv 604800000) = xt.tdiv 604800000 := by generalize xt.tdiv 604800000 = d at hwr ⊢; rw [IntKind.wrap_i64]; omega
        refine wp_region_rgs 0 (fun m v => LayAt lo w U1 kb bp bh bo bd ba (addK { K with owner := upd K.owner xp xa } (xa, xt.tdiv 604800000) (ka + 1) m) #[.int .i64 xt, .int .i64 1, .string xa, .string xp] v1 (.slice A2 n2 c2) (addS (K.players xa) xp) (K.hurt xa) v) (G1 ba)
          (fun i v W => match i with
            | 0 | 1 => v = .pointer (some ⟨kb, 0, none⟩)
            | 2 => v = .pointer (some ⟨kb, 8, none⟩) | 3 => v = .map (some ba)
            | 4 => v = .pointer (some ⟨w.heap.size, 2, none⟩) | 5 => v = .string xa
            | 6 => v = .pointer (some ⟨w.heap.size, 0, none⟩) | 7 => v = .int .i64 xt
            | 8 => v = .int .i64 (xt.tdiv 604800000) | 9 => v = .agg #[.string xa, .int .i64 (xt.tdiv 604800000)]
            | 10 => v = .int .i64 ka | 11 => v = .int .i64 (ka + 1)
            | 12 => ∃ (s : Nat) (o : Value), v = .tuple #[o, .int .i64 s] ∧ Stamp weekC W ba (xa, xt.tdiv 604800000) s
            | 13 => ∃ s : Nat, v = .int .i64 s ∧ Stamp weekC W ba (xa, xt.tdiv 604800000) s
            | _ => True)
          (fun i => match i with | 12 | 14 => 1 | _ => 0) (by kernel_rfl) (by kernel_rfl) (by kernel_rfl) ?start ?stable ?step ?fin
        case start => exact ⟨BU1.out.below (below_drewN (Below.refl _ U1) 1), BU1.out.row, XU1.out, A1'.out.drew, A2'.out.drew, LU1.out.drewN 1⟩
        case stable =>
          intro i v W W' h hG
          match i with
          | 12 => obtain ⟨s, o, h1, h2⟩ := h; exact ⟨s, o, h1, h2.kept hG.p⟩
          | 13 => obtain ⟨s, h1, h2⟩ := h; exact ⟨s, h1, h2.kept hG.p⟩
          | 0 | 1 | 2 | 3 | 4 | 5 | 6 | 7 | 8 | 9 | 10 | 11 | 14 | _ + 15 => exact h
        case fin =>
          intro vs W hl hI hall
          have HB := Lib.hid hI.book
          have HL := Lib.hid hI.bel
          have HS1 := Lib.hid hI.s1
          have HS2 := Lib.hid hI.s2
          have HXX := Lib.hid hI.x
          clear hI hall
          match vs, hl with
          | [v0, v1', v2, v3, v4, v5, v6, v7, v8, v9, v10, v11, v12, v13, v14], _ =>
            simp only [putAll, Act.put, List.setIfInBounds_toArray, List.set_cons_succ, List.set_cons_zero]
            go_wp2
            go_meet
            case rel => exact ⟨addS (K.players xa) xp, K.hurt xa, _, HS1.out, HS2.out, HB.out, by
              unfold followB
              rw [if_pos HY.out, if_pos rfl]
              unfold weekOf
              rw [hka]
              rfl, HXX.out, HL.out⟩
        case step =>
          refine ⟨?_, ?_, ?_, ?_, ?_, ?_, ?_, ?_, ?_, ?_, ?_, ?_, ?_, ?_, ?_, trivial⟩
          · exact step_run rfl rfl rfl fun a W m hp hI => ⟨_, _, ex_move rfl (show a.tmps.getD 0 undef = _ from hp.old 0 (by kernel_rfl)), rfl, .refl _ _ _ rfl, hI⟩
          · exact step_run rfl rfl rfl fun a W m hp hI => ⟨_, _, ex_nil rfl (show a.tmps.getD 43 undef = .pointer (some ⟨kb, 0, none⟩) from hp.pre 0 (by decide) _ rfl), rfl, .refl _ _ _ rfl, hI⟩
          · exact step_run rfl rfl rfl fun a W m hp hI => ⟨_, _, ex_field (off := 8) rfl (show a.tmps.getD 44 undef = .pointer (some ⟨kb, 0, none⟩) from hp.pre 1 (by decide) _ rfl) (fun w => by simp [Instr.fieldAt, go_sem]), congrArg (fun n => Value.pointer (some ⟨kb, n, none⟩)) (Nat.zero_add 8), .refl _ _ _ rfl, hI⟩
          · exact step_run rfl rfl rfl fun a W m hp hI => ⟨_, _, ex_load rfl (show a.tmps.getD 45 undef = .pointer (some ⟨kb, 8, none⟩) from hp.pre 2 (by decide) _ rfl) (fun w => by simp [isAgg, go_sem]) ((row_cells hI.row).1 8), rfl, .refl _ _ _ rfl, hI⟩
          · exact step_run rfl rfl rfl fun a W m hp hI => ⟨_, _, ex_field (off := 2) rfl (show a.tmps.getD 3 undef = .pointer (some ⟨w.heap.size, 0, none⟩) from hp.old 3 (by kernel_rfl)) (fun w => by simp [Instr.fieldAt, go_sem]), congrArg (fun n => Value.pointer (some ⟨w.heap.size, n, none⟩)) (Nat.zero_add 2), .refl _ _ _ rfl, hI⟩
          · exact step_run rfl rfl rfl fun a W m hp hI => ⟨_, _, ex_load rfl (show a.tmps.getD 47 undef = .pointer (some ⟨w.heap.size, 2, none⟩) from hp.pre 4 (by decide) _ rfl) (fun w => by simp [isAgg, go_sem]) ((row_cells hI.x).1 2), rfl, .refl _ _ _ rfl, hI⟩
          · exact step_run rfl rfl rfl fun a W m hp hI => ⟨_, _, ex_field (off := 0) rfl (show a.tmps.getD 3 undef = .pointer (some ⟨w.heap.size, 0, none⟩) from hp.old 3 (by kernel_rfl)) (fun w => by simp [Instr.fieldAt, go_sem]), congrArg (fun n => Value.pointer (some ⟨w.heap.size, n, none⟩)) (Nat.zero_add 0), .refl _ _ _ rfl, hI⟩
          · exact step_run rfl rfl rfl fun a W m hp hI => ⟨_, _, ex_load rfl (show a.tmps.getD 49 undef = .pointer (some ⟨w.heap.size, 0, none⟩) from hp.pre 6 (by decide) _ rfl) (fun w => by simp [isAgg, go_sem]) ((row_cells hI.x).1 0), rfl, .refl _ _ _ rfl, hI⟩
          · refine step_run rfl rfl rfl fun a W m hp hI => ?_
            have h1 : a.tmps.getD 50 undef = .int .i64 xt := hp.pre 7 (by decide) _ rfl
            exact ⟨_, _, ex_bin rfl h1 rfl (by simp [go_sem]) (by simp [go_sem, hwk]), rfl, .refl _ _ _ rfl, hI⟩
          · refine step_run rfl rfl rfl fun a W m hp hI => ?_
            have h1 : a.tmps.getD 48 undef = .string xa := hp.pre 5 (by decide) _ rfl
            have h2 : a.tmps.getD 51 undef = .int .i64 (xt.tdiv 604800000) := hp.pre 8 (by decide) _ rfl
            exact ⟨_, _, ex_build2 (r := .agg #[.string xa, .int .i64 (xt.tdiv 604800000)]) rfl h1 h2 (by simp [go_sem]), rfl, .refl _ _ _ rfl, hI⟩
          · refine step_run rfl rfl rfl fun a W m hp hI => ?_
            have h1 : a.tmps.getD 46 undef = .map (some ba) := hp.pre 3 (by decide) _ rfl
            have h2 : a.tmps.getD 52 undef = .agg #[.string xa, .int .i64 (xt.tdiv 604800000)] := hp.pre 9 (by decide) _ rfl
            have hm := mid hp.low hp.high (w := 1) (t := 2) (by kernel_rfl) (by kernel_rfl) rfl
            have hbk : BookIn lo W kb bp bh bo bd ba { K with owner := upd K.owner xp xa } := by
              rcases hm with rfl | rfl
              · exact hI.book
              · exact hI.book
            obtain ⟨M, p1, p2⟩ := hbk.ad
            have hr := lookWeek p1 HX.out.team hwr.1 hwr.2
            rw [p2] at hr
            exact ⟨_, _, ex_lookup rfl h1 h2 hr, congrArg (Value.int .i64) hka, .refl _ _ _ rfl, hI⟩
          · refine step_run rfl rfl rfl fun a W m hp hI => ?_
            have h1 : a.tmps.getD 53 undef = .int .i64 ka := hp.pre 10 (by decide) _ rfl
            exact ⟨_, _, ex_bin rfl h1 rfl (by simp [go_sem]) (by simp [go_sem, hka2]), rfl, .refl _ _ _ rfl, hI⟩
          · refine step_run rfl rfl rfl fun a W m hp hI => ?_
            have hm : m = 1 := phase (hp.low) (hp.high) (by kernel_rfl) (by kernel_rfl) rfl
            subst hm
            have h1 : a.tmps.getD 46 undef = .map (some ba) := hp.pre 3 (by decide) _ rfl
            have h2 : a.tmps.getD 52 undef = .agg #[.string xa, .int .i64 (xt.tdiv 604800000)] := hp.pre 9 (by decide) _ rfl
            obtain ⟨s, o, W1, r, st, BB, tt, kk, im⟩ := entA hI.book HX.out.team hwr.1 hwr.2
            exact ⟨_, _, ex_entry rfl h1 h2 r, ⟨s, o, rfl, st⟩, .turn tt kk, BB, BB.row, (tt.block _ hxa).trans hI.x, hI.s1.turn im tt, hI.s2.turn im tt, turn_blw hI.bel tt BB.low.2.2.2.2.2 im⟩
          · refine step_run rfl rfl rfl fun a W m hp hI => ?_
            obtain ⟨s, o, h1, h2⟩ : ∃ (s : Nat) (o : Value), a.tmps.getD 55 undef = .tuple #[o, .int .i64 s] ∧ Stamp weekC W ba (xa, xt.tdiv 604800000) s := hp.pre 12 (by decide) _ rfl
            exact ⟨_, _, ex_extract rfl h1 rfl, ⟨s, rfl, h2⟩, .refl _ _ _ rfl, hI⟩
          · refine step_skip rfl rfl rfl fun a W m hp hI => ?_
            have hm : m = 0 := phase (hp.low) (hp.high) (by kernel_rfl) (by kernel_rfl) rfl
            subst hm
            have h1 : a.tmps.getD 46 undef = .map (some ba) := hp.pre 3 (by decide) _ rfl
            obtain ⟨s, h2, h3⟩ : ∃ (s : Nat), a.tmps.getD 56 undef = .int .i64 s ∧ Stamp weekC W ba (xa, xt.tdiv 604800000) s := hp.pre 13 (by decide) _ rfl
            have h4 : a.tmps.getD 54 undef = .int .i64 (ka + 1) := hp.pre 11 (by decide) _ rfl
            obtain ⟨W1, r, BB, tt, kk, im⟩ := stoA hI.book HX.out.team hwr.1 hwr.2 h3 (ka + 1)
            exact ⟨_, ex_estore rfl h1 h2 h4 r, trivial, .turn tt kk, BB, BB.row, (tt.block _ hxa).trans hI.x, hI.s1.turn im tt, hI.s2.turn im tt, turn_blw hI.bel tt BB.low.2.2.2.2.2 im⟩
      by_cases k2 : xk = 2
      · subst k2
        clear k1
        go_wp2
        refine wp_region_rgs 0 (fun m v => LayAt lo w V kb bp bh bo bd ba K #[.int .i64 xt, .int .i64 2, .string xa, .string xp] (.slice A1 n1 c1) (.slice A2 n2 c2) (K.players xa) (K.hurt xa) v) GB
          (fun i v W => match i with
            | 0 => v = .slice A1 n1 c1 | 4 => v = .slice A2 n2 c2
            | 1 | 5 => v = .pointer (some ⟨w.heap.size, 3, none⟩) | 2 | 6 => v = .string xp
            | 3 | 8 => SlT lo W v (lessS (K.players xa) xp)
            | 7 | 9 => SlT lo W v (lessS (K.hurt xa) xp)
            | _ => True)
          (fun _ => 0) (by kernel_rfl) (by kernel_rfl) (by kernel_rfl) ?start ?stable ?step ?fin
        case start => exact ⟨B.out.below (below_drewN (Below.refl _ V) 1), B.out.row, HXB.out, T1.out.drew, T2.out.drew, WV.out.drewN 1⟩
        case stable =>
          intro i v W W' h hG
          match i with
          | 3 => exact hG.slT h
          | 8 => exact hG.slT h
          | 7 => exact hG.slT h
          | 9 => exact hG.slT h
          | 0 | 1 | 2 | 4 | 5 | 6 | _ + 10 => exact h
        case fin =>
          intro vs W hl hI hall
          match vs, hl with
          | [v0, v1, v2, v3, v4, v5, v6, v7, v8, v9], _ =>
            obtain ⟨_, _, _, _, _, _, _, _, q8, q9, _⟩ := hall
            have q8 : SlT lo W v8 (lessS (K.players xa) xp) := q8
            have q9 : SlT lo W v9 (lessS (K.hurt xa) xp) := q9
            simp only [putAll, Act.put, List.setIfInBounds_toArray, List.set_cons_succ, List.set_cons_zero]
            have QB := Lib.hid hI
            have Q8 := Lib.hid q8
            have Q9 := Lib.hid q9
            clear hI q8 q9 hcx hc
            go_wp2
            obtain ⟨U, hU⟩ : ∃ U, U = W.drew := ⟨_, rfl⟩
            have BU := QB.out.book.below (w' := U) (by rw [hU]; exact below_drewN (Below.refl _ W) 1)
            have XU : U.heap[w.heap.size]? = some (.cells #[.int .i64 xt, .int .i64 2, .string xa, .string xp] 45 (0, 0)) := by rw [hU]; exact QB.out.x
            obtain ⟨O, m1, m2⟩ := BU.ow
            obtain ⟨U1, r1, m3, t1⟩ := m1.delete (t := 111) Tryz.underlying111 (strC_ok HX.out.player)
            have r1 : ∀ ty, (Builtin.delete_ #[111, 9] ty #[.map (some bo), .string xp]).run Tryz.prog U = .ok (.tuple #[]) U1 := r1
            obtain ⟨hcx, hfx⟩ := row_cells XU
            obtain ⟨hc, hf⟩ := row_cells BU.row
            refine wp_region_still_tail 6 (by kernel_rfl) (by kernel_rfl) ?_
            change wpStill _ _ (World.drew W) _ _ _
            rw [← hU]
            have HU := Lib.hid hU
            clear hU hf hfx
            simp only [List.take_succ_cons, List.take_zero, List.drop_succ_cons, List.drop_zero]
            repeat still_step
            refine wpStill_nil ?_
            change wpList _ _ _ _ _ (World.drew W)
            rw [← HU.out]
            go_wp2
            have BU1 := BU.turnO t1 (f := upd K.owner xp noStr) m3 fun y => by
              rw [getM_del]; unfold upd
              split
              · rfl
              · exact m2 y
            have hxo : w.heap.size ≠ bo ∧ w.heap.size ≠ bd := by
              refine ⟨fun e => ?_, fun e => ?_⟩
              · obtain ⟨es, cl, q⟩ := m1.isMap
                rw [← e, XU] at q; cases q
              · obtain ⟨M, p1, _⟩ := BU.dr
                obtain ⟨es, cl, q⟩ := p1.isMap
                rw [← e, XU] at q; cases q
            have XU1 := (t1.block _ hxo.1).trans XU
            have hUB : BlwM lo w U := by rw [HU.out]; exact QB.out.bel.drewN 1
            have LU1 := Lib.hid (turn_blw hUB t1 BU.low.2.2.2.1 m1.isMap)
            have im1 := m1.isMap
            have A1' := SlT.turn (w := U) (by rw [HU.out]; exact Q8.out.drew) im1 t1
            have A2' := SlT.turn (w := U) (by rw [HU.out]; exact Q9.out.drew) im1 t1
            have A1' := Lib.hid A1'
            have A2' := Lib.hid A2'
            clear BU m1 m2 r1 m3 t1 hcx hc XU hUB im1
            obtain ⟨Y, hY⟩ : ∃ Y, Y = U1.drew := ⟨_, rfl⟩
            have BY := BU1.below (w' := Y) (by rw [hY]; exact below_drewN (Below.refl _ U1) 1)
            have XY : Y.heap[w.heap.size]? = some (.cells #[.int .i64 xt, .int .i64 2, .string xa, .string xp] 45 (0, 0)) := by rw [hY]; exact XU1
            obtain ⟨D, m1, m2⟩ := BY.dr
            obtain ⟨Y1, r1, m3, t1⟩ := m1.update (t := 112) Tryz.underlying112 (strC_ok HX.out.player) xt
            have r1 : (Instr.mapUpdate 112 (.map (some bd)) (.string xp) (.int .i64 xt)).run Tryz.prog Y = .ok () Y1 := r1
            obtain ⟨hcx, hfx⟩ := row_cells XY
            obtain ⟨hc, hf⟩ := row_cells BY.row
            refine wp_region_still_tail 8 (by kernel_rfl) (by kernel_rfl) ?_
            change wpStill _ _ (World.drew U1) _ _ _
            rw [← hY]
            have HY2 := Lib.hid hY
            clear hY hf hfx BU1 XU1
            simp only [List.take_succ_cons, List.take_zero, List.drop_succ_cons, List.drop_zero]
            repeat still_step
            refine wpStill_nil ?_
            change wpList _ _ _ _ _ (World.drew U1)
            rw [← HY2.out]
            go_wp2
            have BY1 := BY.turnD t1 (f := upd K.dropped xp (some xt)) m3 fun y => by
              rw [getM_put]; unfold upd
              split
              · rfl
              · exact m2 y
            have XY1 := (t1.block _ hxo.2).trans XY
            have hYB : BlwM lo w Y := by rw [HY2.out]; exact LU1.out.drewN 1
            have LY1 := turn_blw hYB t1 BY.low.2.2.2.2.1 m1.isMap
            have im1 := m1.isMap
            have E1 := SlT.turn (w := Y) (by rw [HY2.out]; exact A1'.out.drew) im1 t1
            have E2 := SlT.turn (w := Y) (by rw [HY2.out]; exact A2'.out.drew) im1 t1
            have E := Lib.hid (And.intro E1 (And.intro E2 (And.intro BY1 (And.intro XY1 LY1))))
            clear E1 E2 BY1 XY1 LY1 hYB BY m1 m2 r1 m3 t1 hcx hc XY im1
            go_meet
            case rel => exact ⟨_, _, _, E.out.1, E.out.2.1, E.out.2.2.1, by
              unfold followB
              rw [if_pos HY.out, if_neg (show ¬ (2 : Int) = 1 by decide), if_pos rfl], E.out.2.2.2.1, E.out.2.2.2.2⟩
        case step =>
          refine ⟨?_, ?_, ?_, ?_, ?_, ?_, ?_, ?_, ?_, ?_, trivial⟩
          · exact step_run rfl rfl rfl fun a W m hp hI => ⟨_, _, ex_move rfl (show a.tmps.getD 6 undef = _ from hp.old 6 (by kernel_rfl)), rfl, .refl _ _ rfl, hI⟩
          · exact step_run rfl rfl rfl fun a W m hp hI => ⟨_, _, ex_field (off := 3) rfl (show a.tmps.getD 3 undef = .pointer (some ⟨w.heap.size, 0, none⟩) from hp.old 3 (by kernel_rfl)) (fun w => by simp [Instr.fieldAt, go_sem]), congrArg (fun n => Value.pointer (some ⟨w.heap.size, n, none⟩)) (Nat.zero_add 3), .refl _ _ rfl, hI⟩
          · exact step_run rfl rfl rfl fun a W m hp hI => ⟨_, _, ex_load rfl (show a.tmps.getD 60 undef = .pointer (some ⟨w.heap.size, 3, none⟩) from hp.pre 1 (by decide) _ rfl) (fun w => by simp [isAgg, go_sem]) ((row_cells hI.x).1 3), rfl, .refl _ _ rfl, hI⟩
          · refine step_call (f := 122) (fun a => #[a.tmps.getD 59 undef, a.tmps.getD 61 undef]) rfl rfl rfl (fun a w => by simp [go_sem]) fun a W m hp hI => ?_
            have h1 : a.tmps.getD 59 undef = .slice A1 n1 c1 := hp.pre 0 (by decide) _ rfl
            have h2 : a.tmps.getD 61 undef = .string xp := hp.pre 2 (by decide) _ rfl
            rw [h1, h2]
            refine (less_any (lo := lo) (w := W) (l := K.players xa) xp hI.s1.sl (by have := hlen xa; omega)).mono ?_
            rintro e W' ⟨v, rfl, g1, hb⟩
            exact ⟨_, rfl, g1.mono (hI.low), .of_below hb, hI.book.below hb, (hI.book.below hb).row, (hb.block _ (Array.getElem?_eq_some_iff.1 hI.x).1).trans hI.x, hI.s1.below hb, hI.s2.below hb, hI.bel.then hb hI.low⟩
          · exact step_run rfl rfl rfl fun a W m hp hI => ⟨_, _, ex_move rfl (show a.tmps.getD 7 undef = _ from hp.old 7 (by kernel_rfl)), rfl, .refl _ _ rfl, hI⟩
          · exact step_run rfl rfl rfl fun a W m hp hI => ⟨_, _, ex_field (off := 3) rfl (show a.tmps.getD 3 undef = .pointer (some ⟨w.heap.size, 0, none⟩) from hp.old 3 (by kernel_rfl)) (fun w => by simp [Instr.fieldAt, go_sem]), congrArg (fun n => Value.pointer (some ⟨w.heap.size, n, none⟩)) (Nat.zero_add 3), .refl _ _ rfl, hI⟩
          · exact step_run rfl rfl rfl fun a W m hp hI => ⟨_, _, ex_load rfl (show a.tmps.getD 64 undef = .pointer (some ⟨w.heap.size, 3, none⟩) from hp.pre 5 (by decide) _ rfl) (fun w => by simp [isAgg, go_sem]) ((row_cells hI.x).1 3), rfl, .refl _ _ rfl, hI⟩
          · refine step_call (f := 122) (fun a => #[a.tmps.getD 63 undef, a.tmps.getD 65 undef]) rfl rfl rfl (fun a w => by simp [go_sem]) fun a W m hp hI => ?_
            have h1 : a.tmps.getD 63 undef = .slice A2 n2 c2 := hp.pre 4 (by decide) _ rfl
            have h2 : a.tmps.getD 65 undef = .string xp := hp.pre 6 (by decide) _ rfl
            rw [h1, h2]
            refine (less_any (lo := lo) (w := W) (l := K.hurt xa) xp hI.s2.sl (by have := hlen xa; omega)).mono ?_
            rintro e W' ⟨v, rfl, g1, hb⟩
            exact ⟨_, rfl, g1.mono (hI.low), .of_below hb, hI.book.below hb, (hI.book.below hb).row, (hb.block _ (Array.getElem?_eq_some_iff.1 hI.x).1).trans hI.x, hI.s1.below hb, hI.s2.below hb, hI.bel.then hb hI.low⟩
          · exact step_run rfl rfl rfl fun a W m hp hI => ⟨_, _, ex_assign rfl (show a.tmps.getD 62 undef = _ from rfl), hp.pre 3 (by decide) _ rfl, .refl _ _ rfl, hI⟩
          · exact step_run rfl rfl rfl fun a W m hp hI => ⟨_, _, ex_assign rfl (show a.tmps.getD 66 undef = _ from rfl), hp.pre 7 (by decide) _ rfl, .refl _ _ rfl, hI⟩
      by_cases k3 : xk = 3
      · subst k3
        clear k1 k2
        go_wp2
        refine wp_region_rgs 0 (fun m v => LayAt lo w V kb bp bh bo bd ba K #[.int .i64 xt, .int .i64 3, .string xa, .string xp] (.slice A1 n1 c1) (.slice A2 n2 c2) (K.players xa) (K.hurt xa) v) GB
          (fun i v W => match i with
            | 0 => v = .slice A1 n1 c1 | 4 => v = .slice A2 n2 c2
            | 1 | 5 => v = .pointer (some ⟨w.heap.size, 3, none⟩) | 2 | 6 => v = .string xp
            | 3 | 8 => SlT lo W v (lessS (K.players xa) xp)
            | 7 | 9 => SlT lo W v (addS (K.hurt xa) xp)
            | _ => True)
          (fun _ => 0) (by kernel_rfl) (by kernel_rfl) (by kernel_rfl) ?start ?stable ?step ?fin
        case start => exact ⟨B.out.below (below_drewN (Below.refl _ V) 1), B.out.row, HXB.out, T1.out.drew, T2.out.drew, WV.out.drewN 1⟩
        case stable =>
          intro i v W W' h hG
          match i with
          | 3 => exact hG.slT h
          | 8 => exact hG.slT h
          | 7 => exact hG.slT h
          | 9 => exact hG.slT h
          | 0 | 1 | 2 | 4 | 5 | 6 | _ + 10 => exact h
        case fin =>
          intro vs W hl hI hall
          match vs, hl with
          | [v0, v1, v2, v3, v4, v5, v6, v7, v8, v9], _ =>
            obtain ⟨_, _, _, _, _, _, _, _, q8, q9, _⟩ := hall
            have q8 : SlT lo W v8 (lessS (K.players xa) xp) := q8
            have q9 : SlT lo W v9 (addS (K.hurt xa) xp) := q9
            simp only [putAll, Act.put, List.setIfInBounds_toArray, List.set_cons_succ, List.set_cons_zero]
            have HB := Lib.hid hI
            have Q8 := Lib.hid q8
            have Q9 := Lib.hid q9
            clear hI q8 q9
            go_wp2
            go_meet
            case rel => exact ⟨(lessS (K.players xa) xp), (addS (K.hurt xa) xp), K, Q8.out, Q9.out, HB.out.book, by
              unfold followB
              rw [if_pos HY.out, if_neg (show ¬ (3 : Int) = 1 by decide), if_neg (show ¬ (3 : Int) = 2 by decide), if_pos rfl], HB.out.x, HB.out.bel⟩
        case step =>
          refine ⟨?_, ?_, ?_, ?_, ?_, ?_, ?_, ?_, ?_, ?_, trivial⟩
          · exact step_run rfl rfl rfl fun a W m hp hI => ⟨_, _, ex_move rfl (show a.tmps.getD 6 undef = _ from hp.old 6 (by kernel_rfl)), rfl, .refl _ _ rfl, hI⟩
          · exact step_run rfl rfl rfl fun a W m hp hI => ⟨_, _, ex_field (off := 3) rfl (show a.tmps.getD 3 undef = .pointer (some ⟨w.heap.size, 0, none⟩) from hp.old 3 (by kernel_rfl)) (fun w => by simp [Instr.fieldAt, go_sem]), congrArg (fun n => Value.pointer (some ⟨w.heap.size, n, none⟩)) (Nat.zero_add 3), .refl _ _ rfl, hI⟩
          · exact step_run rfl rfl rfl fun a W m hp hI => ⟨_, _, ex_load rfl (show a.tmps.getD 84 undef = .pointer (some ⟨w.heap.size, 3, none⟩) from hp.pre 1 (by decide) _ rfl) (fun w => by simp [isAgg, go_sem]) ((row_cells hI.x).1 3), rfl, .refl _ _ rfl, hI⟩
          · refine step_call (f := 122) (fun a => #[a.tmps.getD 83 undef, a.tmps.getD 85 undef]) rfl rfl rfl (fun a w => by simp [go_sem]) fun a W m hp hI => ?_
            have h1 : a.tmps.getD 83 undef = .slice A1 n1 c1 := hp.pre 0 (by decide) _ rfl
            have h2 : a.tmps.getD 85 undef = .string xp := hp.pre 2 (by decide) _ rfl
            rw [h1, h2]
            refine (less_any (lo := lo) (w := W) (l := K.players xa) xp hI.s1.sl (by have := hlen xa; omega)).mono ?_
            rintro e W' ⟨v, rfl, g1, hb⟩
            exact ⟨_, rfl, g1.mono (hI.low), .of_below hb, hI.book.below hb, (hI.book.below hb).row, (hb.block _ (Array.getElem?_eq_some_iff.1 hI.x).1).trans hI.x, hI.s1.below hb, hI.s2.below hb, hI.bel.then hb hI.low⟩
          · exact step_run rfl rfl rfl fun a W m hp hI => ⟨_, _, ex_move rfl (show a.tmps.getD 7 undef = _ from hp.old 7 (by kernel_rfl)), rfl, .refl _ _ rfl, hI⟩
          · exact step_run rfl rfl rfl fun a W m hp hI => ⟨_, _, ex_field (off := 3) rfl (show a.tmps.getD 3 undef = .pointer (some ⟨w.heap.size, 0, none⟩) from hp.old 3 (by kernel_rfl)) (fun w => by simp [Instr.fieldAt, go_sem]), congrArg (fun n => Value.pointer (some ⟨w.heap.size, n, none⟩)) (Nat.zero_add 3), .refl _ _ rfl, hI⟩
          · exact step_run rfl rfl rfl fun a W m hp hI => ⟨_, _, ex_load rfl (show a.tmps.getD 88 undef = .pointer (some ⟨w.heap.size, 3, none⟩) from hp.pre 5 (by decide) _ rfl) (fun w => by simp [isAgg, go_sem]) ((row_cells hI.x).1 3), rfl, .refl _ _ rfl, hI⟩
          · refine step_call (f := 123) (fun a => #[a.tmps.getD 87 undef, a.tmps.getD 89 undef]) rfl rfl rfl (fun a w => by simp [go_sem]) fun a W m hp hI => ?_
            have h1 : a.tmps.getD 87 undef = .slice A2 n2 c2 := hp.pre 4 (by decide) _ rfl
            have h2 : a.tmps.getD 89 undef = .string xp := hp.pre 6 (by decide) _ rfl
            rw [h1, h2]
            refine (add_any (lo := lo) (w := W) (l := K.hurt xa) xp hI.s2.sl (by have := hlen xa; omega)).mono ?_
            rintro e W' ⟨v, rfl, g1, hb⟩
            exact ⟨_, rfl, g1.mono (hI.low), .of_below hb, hI.book.below hb, (hI.book.below hb).row, (hb.block _ (Array.getElem?_eq_some_iff.1 hI.x).1).trans hI.x, hI.s1.below hb, hI.s2.below hb, hI.bel.then hb hI.low⟩
          · exact step_run rfl rfl rfl fun a W m hp hI => ⟨_, _, ex_assign rfl (show a.tmps.getD 86 undef = _ from rfl), hp.pre 3 (by decide) _ rfl, .refl _ _ rfl, hI⟩
          · exact step_run rfl rfl rfl fun a W m hp hI => ⟨_, _, ex_assign rfl (show a.tmps.getD 90 undef = _ from rfl), hp.pre 7 (by decide) _ rfl, .refl _ _ rfl, hI⟩
      by_cases k4 : xk = 4
      · subst k4
        clear k1 k2 k3
        go_wp2
        refine wp_region_rgs 0 (fun m v => LayAt lo w V kb bp bh bo bd ba K #[.int .i64 xt, .int .i64 4, .string xa, .string xp] (.slice A1 n1 c1) (.slice A2 n2 c2) (K.players xa) (K.hurt xa) v) GB
          (fun i v W => match i with
            | 0 => v = .slice A1 n1 c1 | 4 => v = .slice A2 n2 c2
            | 1 | 5 => v = .pointer (some ⟨w.heap.size, 3, none⟩) | 2 | 6 => v = .string xp
            | 3 | 8 => SlT lo W v (addS (K.players xa) xp)
            | 7 | 9 => SlT lo W v (lessS (K.hurt xa) xp)
            | _ => True)
          (fun _ => 0) (by kernel_rfl) (by kernel_rfl) (by kernel_rfl) ?start ?stable ?step ?fin
        case start => exact ⟨B.out.below (below_drewN (Below.refl _ V) 1), B.out.row, HXB.out, T1.out.drew, T2.out.drew, WV.out.drewN 1⟩
        case stable =>
          intro i v W W' h hG
          match i with
          | 3 => exact hG.slT h
          | 8 => exact hG.slT h
          | 7 => exact hG.slT h
          | 9 => exact hG.slT h
          | 0 | 1 | 2 | 4 | 5 | 6 | _ + 10 => exact h
        case fin =>
          intro vs W hl hI hall
          match vs, hl with
          | [v0, v1, v2, v3, v4, v5, v6, v7, v8, v9], _ =>
            obtain ⟨_, _, _, _, _, _, _, _, q8, q9, _⟩ := hall
            have q8 : SlT lo W v8 (addS (K.players xa) xp) := q8
            have q9 : SlT lo W v9 (lessS (K.hurt xa) xp) := q9
            simp only [putAll, Act.put, List.setIfInBounds_toArray, List.set_cons_succ, List.set_cons_zero]
            have HB := Lib.hid hI
            have Q8 := Lib.hid q8
            have Q9 := Lib.hid q9
            clear hI q8 q9
            go_wp2
            go_meet
            case rel => exact ⟨(addS (K.players xa) xp), (lessS (K.hurt xa) xp), K, Q8.out, Q9.out, HB.out.book, by
              unfold followB
              rw [if_pos HY.out, if_neg (show ¬ (4 : Int) = 1 by decide), if_neg (show ¬ (4 : Int) = 2 by decide), if_neg (show ¬ (4 : Int) = 3 by decide), if_pos rfl], HB.out.x, HB.out.bel⟩
        case step =>
          refine ⟨?_, ?_, ?_, ?_, ?_, ?_, ?_, ?_, ?_, ?_, trivial⟩
          · exact step_run rfl rfl rfl fun a W m hp hI => ⟨_, _, ex_move rfl (show a.tmps.getD 6 undef = _ from hp.old 6 (by kernel_rfl)), rfl, .refl _ _ rfl, hI⟩
          · exact step_run rfl rfl rfl fun a W m hp hI => ⟨_, _, ex_field (off := 3) rfl (show a.tmps.getD 3 undef = .pointer (some ⟨w.heap.size, 0, none⟩) from hp.old 3 (by kernel_rfl)) (fun w => by simp [Instr.fieldAt, go_sem]), congrArg (fun n => Value.pointer (some ⟨w.heap.size, n, none⟩)) (Nat.zero_add 3), .refl _ _ rfl, hI⟩
          · exact step_run rfl rfl rfl fun a W m hp hI => ⟨_, _, ex_load rfl (show a.tmps.getD 94 undef = .pointer (some ⟨w.heap.size, 3, none⟩) from hp.pre 1 (by decide) _ rfl) (fun w => by simp [isAgg, go_sem]) ((row_cells hI.x).1 3), rfl, .refl _ _ rfl, hI⟩
          · refine step_call (f := 123) (fun a => #[a.tmps.getD 93 undef, a.tmps.getD 95 undef]) rfl rfl rfl (fun a w => by simp [go_sem]) fun a W m hp hI => ?_
            have h1 : a.tmps.getD 93 undef = .slice A1 n1 c1 := hp.pre 0 (by decide) _ rfl
            have h2 : a.tmps.getD 95 undef = .string xp := hp.pre 2 (by decide) _ rfl
            rw [h1, h2]
            refine (add_any (lo := lo) (w := W) (l := K.players xa) xp hI.s1.sl (by have := hlen xa; omega)).mono ?_
            rintro e W' ⟨v, rfl, g1, hb⟩
            exact ⟨_, rfl, g1.mono (hI.low), .of_below hb, hI.book.below hb, (hI.book.below hb).row, (hb.block _ (Array.getElem?_eq_some_iff.1 hI.x).1).trans hI.x, hI.s1.below hb, hI.s2.below hb, hI.bel.then hb hI.low⟩
          · exact step_run rfl rfl rfl fun a W m hp hI => ⟨_, _, ex_move rfl (show a.tmps.getD 7 undef = _ from hp.old 7 (by kernel_rfl)), rfl, .refl _ _ rfl, hI⟩
          · exact step_run rfl rfl rfl fun a W m hp hI => ⟨_, _, ex_field (off := 3) rfl (show a.tmps.getD 3 undef = .pointer (some ⟨w.heap.size, 0, none⟩) from hp.old 3 (by kernel_rfl)) (fun w => by simp [Instr.fieldAt, go_sem]), congrArg (fun n => Value.pointer (some ⟨w.heap.size, n, none⟩)) (Nat.zero_add 3), .refl _ _ rfl, hI⟩
          · exact step_run rfl rfl rfl fun a W m hp hI => ⟨_, _, ex_load rfl (show a.tmps.getD 98 undef = .pointer (some ⟨w.heap.size, 3, none⟩) from hp.pre 5 (by decide) _ rfl) (fun w => by simp [isAgg, go_sem]) ((row_cells hI.x).1 3), rfl, .refl _ _ rfl, hI⟩
          · refine step_call (f := 122) (fun a => #[a.tmps.getD 97 undef, a.tmps.getD 99 undef]) rfl rfl rfl (fun a w => by simp [go_sem]) fun a W m hp hI => ?_
            have h1 : a.tmps.getD 97 undef = .slice A2 n2 c2 := hp.pre 4 (by decide) _ rfl
            have h2 : a.tmps.getD 99 undef = .string xp := hp.pre 6 (by decide) _ rfl
            rw [h1, h2]
            refine (less_any (lo := lo) (w := W) (l := K.hurt xa) xp hI.s2.sl (by have := hlen xa; omega)).mono ?_
            rintro e W' ⟨v, rfl, g1, hb⟩
            exact ⟨_, rfl, g1.mono (hI.low), .of_below hb, hI.book.below hb, (hI.book.below hb).row, (hb.block _ (Array.getElem?_eq_some_iff.1 hI.x).1).trans hI.x, hI.s1.below hb, hI.s2.below hb, hI.bel.then hb hI.low⟩
          · exact step_run rfl rfl rfl fun a W m hp hI => ⟨_, _, ex_assign rfl (show a.tmps.getD 96 undef = _ from rfl), hp.pre 3 (by decide) _ rfl, .refl _ _ rfl, hI⟩
          · exact step_run rfl rfl rfl fun a W m hp hI => ⟨_, _, ex_assign rfl (show a.tmps.getD 100 undef = _ from rfl), hp.pre 7 (by decide) _ rfl, .refl _ _ rfl, hI⟩
      · go_wp2
        go_meet
        case rel => exact ⟨K.players xa, K.hurt xa, K, T1.out, T2.out, B.out, by unfold followB; rw [if_pos HY.out, if_neg k1, if_neg k2, if_neg k3, if_neg k4], HXB.out, WV.out⟩
    · go_wp2
      go_meet
      case rel => exact ⟨K.players xa, K.hurt xa, K, T1.out, T2.out, B.out, by unfold followB; rw [if_neg (by rw [hwy]; exact hw0)], HXB.out, WV.out⟩
  case rest =>
    obtain ⟨l1, l2, K2, t1, t2, B2, hfin, hxb, hbw⟩ := hcut
    have HF := Lib.hid hfin
    have HY := Lib.hid hwy
    clear hfin hws HXB T1 T2 B WV hn1e hn2e hwy hn1 hn2
    have hxt : xa.size ≤ 1000 := HX.out.team
    have hne : bp ≠ bh := B2.diff.1
    have hnx : w.heap.size ≠ bp ∧ w.heap.size ≠ bh := by
      refine ⟨fun e => ?_, fun e => ?_⟩
      · obtain ⟨P, p1, _⟩ := B2.pl
        obtain ⟨es, cl, q⟩ := p1.isMap
        rw [← e, hxb] at q; cases q
      · obtain ⟨P, p1, _⟩ := B2.hu
        obtain ⟨es, cl, q⟩ := p1.isMap
        rw [← e, hxb] at q; cases q
    go_wp2_with fail
    refine wp_region_rgs 0 (fun m v => LayAt lo w wc kb bp bh bo bd ba (layK K2 xa l1 l2 m) #[.int .i64 xt, .int .i64 xk, .string xa, .string xp] u6 u7 l1 l2 v) (G2 bp bh)
      (fun i v W => match i with
        | 0 | 1 | 6 | 7 => v = .pointer (some ⟨kb, 0, none⟩)
        | 2 => v = .pointer (some ⟨kb, 4, none⟩) | 8 => v = .pointer (some ⟨kb, 5, none⟩)
        | 3 => v = .map (some bp) | 9 => v = .map (some bh)
        | 4 | 10 => v = .pointer (some ⟨w.heap.size, 2, none⟩) | 5 | 11 => v = .string xa
        | 12 => v = u6 | 13 => v = u7
        | 14 => ∃ (s : Nat) (o : Value), v = .tuple #[o, .int .i64 s] ∧ Stamp strC W bp xa s
        | 15 => ∃ s : Nat, v = .int .i64 s ∧ Stamp strC W bp xa s
        | 17 => ∃ (s : Nat) (o : Value), v = .tuple #[o, .int .i64 s] ∧ Stamp strC W bh xa s
        | 18 => ∃ s : Nat, v = .int .i64 s ∧ Stamp strC W bh xa s
        | _ => True)
      (fun i => match i with | 14 | 16 | 17 | 19 => 1 | _ => 0) (by kernel_rfl) (by kernel_rfl) (by kernel_rfl) ?start ?stable ?step ?fin
    case start =>
      refine ⟨B2.below (below_drewN (Below.refl _ wc) 1), B2.row, hxb, t1.drew, t2.drew, hbw.drewN 1⟩
    case stable =>
      intro i v W W' h hG
      match i with
      | 14 => obtain ⟨s, o, h1, h2⟩ := h; exact ⟨s, o, h1, h2.kept hG.p⟩
      | 15 => obtain ⟨s, h1, h2⟩ := h; exact ⟨s, h1, h2.kept hG.p⟩
      | 17 => obtain ⟨s, o, h1, h2⟩ := h; exact ⟨s, o, h1, h2.kept hG.h⟩
      | 18 => obtain ⟨s, h1, h2⟩ := h; exact ⟨s, h1, h2.kept hG.h⟩
      | 0 | 1 | 2 | 3 | 4 | 5 | 6 | 7 | 8 | 9 | 10 | 11 | 12 | 13 | 16 | 19 | _ + 20 => exact h
    case fin =>
      intro vs W hlen hI hall
      have HB := Lib.hid hI.book
      have HL := Lib.hid hI.bel
      clear hI hall t1 t2 B2 hxb hbw
      match vs, hlen with
      | [v0, v1, v2, v3, v4, v5, v6, v7, v8, v9, v10, v11, v12, v13, v14, v15, v16, v17, v18, v19], _ =>
        simp only [putAll, Act.put, List.setIfInBounds_toArray, List.set_cons_succ, List.set_cons_zero]
        go_wp2
        go_ret
        refine ⟨congrArg (fun n => Ending.returned (.int .i64 n)) HY.out.symm, ?_, HL.out⟩
        rw [← HF.out]
        exact HB.out
    case step =>
      refine ⟨?_, ?_, ?_, ?_, ?_, ?_, ?_, ?_, ?_, ?_, ?_, ?_, ?_, ?_, ?_, ?_, ?_, ?_, ?_, ?_, trivial⟩
      · exact step_run rfl rfl rfl fun a w m hp hI => ⟨_, _, ex_move rfl (show a.tmps.getD 0 undef = _ from hp.old 0 (by kernel_rfl)), rfl, .refl _ _ _ _ rfl, hI⟩
      · exact step_run rfl rfl rfl fun a w m hp hI => ⟨_, _, ex_nil rfl (show a.tmps.getD 101 undef = .pointer (some ⟨kb, 0, none⟩) from hp.pre 0 (by decide) _ rfl), rfl, .refl _ _ _ _ rfl, hI⟩
      · exact step_run rfl rfl rfl fun a w m hp hI => ⟨_, _, ex_field (off := 4) rfl (show a.tmps.getD 102 undef = .pointer (some ⟨kb, 0, none⟩) from hp.pre 1 (by decide) _ rfl) (fun w => by simp [Instr.fieldAt, go_sem]), congrArg (fun n => Value.pointer (some ⟨kb, n, none⟩)) (Nat.zero_add 4), .refl _ _ _ _ rfl, hI⟩
      · exact step_run rfl rfl rfl fun a w m hp hI => ⟨_, _, ex_load rfl (show a.tmps.getD 103 undef = .pointer (some ⟨kb, 4, none⟩) from hp.pre 2 (by decide) _ rfl) (fun w => by simp [isAgg, go_sem]) ((row_cells hI.row).1 4), rfl, .refl _ _ _ _ rfl, hI⟩
      · exact step_run rfl rfl rfl fun a w' m hp hI => ⟨_, _, ex_field (off := 2) rfl (show a.tmps.getD 3 undef = .pointer (some ⟨w.heap.size, 0, none⟩) from hp.old 3 (by kernel_rfl)) (fun w => by simp [Instr.fieldAt, go_sem]), congrArg (fun n => Value.pointer (some ⟨w.heap.size, n, none⟩)) (Nat.zero_add 2), .refl _ _ _ _ rfl, hI⟩
      · exact step_run rfl rfl rfl fun a w' m hp hI => ⟨_, _, ex_load rfl (show a.tmps.getD 105 undef = .pointer (some ⟨w.heap.size, 2, none⟩) from hp.pre 4 (by decide) _ rfl) (fun w => by simp [isAgg, go_sem]) ((row_cells hI.x).1 2), rfl, .refl _ _ _ _ rfl, hI⟩
      · exact step_run rfl rfl rfl fun a w m hp hI => ⟨_, _, ex_move rfl (show a.tmps.getD 0 undef = _ from hp.old 0 (by kernel_rfl)), rfl, .refl _ _ _ _ rfl, hI⟩
      · exact step_run rfl rfl rfl fun a w m hp hI => ⟨_, _, ex_nil rfl (show a.tmps.getD 107 undef = .pointer (some ⟨kb, 0, none⟩) from hp.pre 6 (by decide) _ rfl), rfl, .refl _ _ _ _ rfl, hI⟩
      · exact step_run rfl rfl rfl fun a w m hp hI => ⟨_, _, ex_field (off := 5) rfl (show a.tmps.getD 108 undef = .pointer (some ⟨kb, 0, none⟩) from hp.pre 7 (by decide) _ rfl) (fun w => by simp [Instr.fieldAt, go_sem]), congrArg (fun n => Value.pointer (some ⟨kb, n, none⟩)) (Nat.zero_add 5), .refl _ _ _ _ rfl, hI⟩
      · exact step_run rfl rfl rfl fun a w m hp hI => ⟨_, _, ex_load rfl (show a.tmps.getD 109 undef = .pointer (some ⟨kb, 5, none⟩) from hp.pre 8 (by decide) _ rfl) (fun w => by simp [isAgg, go_sem]) ((row_cells hI.row).1 5), rfl, .refl _ _ _ _ rfl, hI⟩
      · exact step_run rfl rfl rfl fun a w' m hp hI => ⟨_, _, ex_field (off := 2) rfl (show a.tmps.getD 3 undef = .pointer (some ⟨w.heap.size, 0, none⟩) from hp.old 3 (by kernel_rfl)) (fun w => by simp [Instr.fieldAt, go_sem]), congrArg (fun n => Value.pointer (some ⟨w.heap.size, n, none⟩)) (Nat.zero_add 2), .refl _ _ _ _ rfl, hI⟩
      · exact step_run rfl rfl rfl fun a w' m hp hI => ⟨_, _, ex_load rfl (show a.tmps.getD 111 undef = .pointer (some ⟨w.heap.size, 2, none⟩) from hp.pre 10 (by decide) _ rfl) (fun w => by simp [isAgg, go_sem]) ((row_cells hI.x).1 2), rfl, .refl _ _ _ _ rfl, hI⟩
      · exact step_run rfl rfl rfl fun a w m hp hI => ⟨_, _, ex_move rfl (show a.tmps.getD 6 undef = _ from hp.old 6 (by kernel_rfl)), rfl, .refl _ _ _ _ rfl, hI⟩
      · exact step_run rfl rfl rfl fun a w m hp hI => ⟨_, _, ex_move rfl (show a.tmps.getD 7 undef = _ from hp.old 7 (by kernel_rfl)), rfl, .refl _ _ _ _ rfl, hI⟩
      · refine step_run rfl rfl rfl fun a W m hp hI => ?_
        have hm : m = 3 := phase (hp.low) (hp.high) (by kernel_rfl) (by kernel_rfl) rfl
        subst hm
        have h3 : a.tmps.getD 104 undef = .map (some bp) := hp.pre 3 (by decide) _ rfl
        have h5 : a.tmps.getD 106 undef = .string xa := hp.pre 5 (by decide) _ rfl
        obtain ⟨s, o, W1, r, st, B, tt, kk, im⟩ := entP hI.book hxt
        exact ⟨_, _, ex_entry rfl h3 h5 r, ⟨s, o, rfl, st⟩, .turnP tt kk hne, B, B.row, (tt.block _ hnx.1).trans hI.x, hI.s1.turn im tt, hI.s2.turn im tt, turn_blw hI.bel tt B.low.2.1 im⟩
      · refine step_run rfl rfl rfl fun a W m hp hI => ?_
        obtain ⟨s, o, h1, h2⟩ : ∃ (s : Nat) (o : Value), a.tmps.getD 115 undef = .tuple #[o, .int .i64 s] ∧ Stamp strC W bp xa s := hp.pre 14 (by decide) _ rfl
        exact ⟨_, _, ex_extract rfl h1 rfl, ⟨s, rfl, h2⟩, .refl _ _ _ _ rfl, hI⟩
      · refine step_skip rfl rfl rfl fun a W m hp hI => ?_
        have hm : m = 2 := phase (hp.low) (hp.high) (by kernel_rfl) (by kernel_rfl) rfl
        subst hm
        have h3 : a.tmps.getD 104 undef = .map (some bp) := hp.pre 3 (by decide) _ rfl
        obtain ⟨s, h1, h2⟩ : ∃ (s : Nat), a.tmps.getD 116 undef = .int .i64 s ∧ Stamp strC W bp xa s := hp.pre 15 (by decide) _ rfl
        have h4 : a.tmps.getD 113 undef = u6 := hp.pre 12 (by decide) _ rfl
        obtain ⟨W1, r, B, tt, kk, im⟩ := stoP hI.book hxt h2 hI.s1
        have B' : BookIn lo W1 kb bp bh bo bd ba (layK K2 xa l1 l2 2) := by
          have hh := B
          simp only [layK, touch_touch] at hh ⊢
          exact hh
        exact ⟨_, ex_estore rfl h3 h1 h4 r, trivial, .turnP tt kk hne, B', B'.row, (tt.block _ hnx.1).trans hI.x, hI.s1.turn im tt, hI.s2.turn im tt, turn_blw hI.bel tt B.low.2.1 im⟩
      · refine step_run rfl rfl rfl fun a W m hp hI => ?_
        have hm : m = 1 := phase (hp.low) (hp.high) (by kernel_rfl) (by kernel_rfl) rfl
        subst hm
        have h3 : a.tmps.getD 110 undef = .map (some bh) := hp.pre 9 (by decide) _ rfl
        have h5 : a.tmps.getD 112 undef = .string xa := hp.pre 11 (by decide) _ rfl
        obtain ⟨s, o, W1, r, st, B, tt, kk, im⟩ := entH hI.book hxt
        exact ⟨_, _, ex_entry rfl h3 h5 r, ⟨s, o, rfl, st⟩, .turnH tt kk hne, B, B.row, (tt.block _ hnx.2).trans hI.x, hI.s1.turn im tt, hI.s2.turn im tt, turn_blw hI.bel tt B.low.2.2.1 im⟩
      · refine step_run rfl rfl rfl fun a W m hp hI => ?_
        obtain ⟨s, o, h1, h2⟩ : ∃ (s : Nat) (o : Value), a.tmps.getD 117 undef = .tuple #[o, .int .i64 s] ∧ Stamp strC W bh xa s := hp.pre 17 (by decide) _ rfl
        exact ⟨_, _, ex_extract rfl h1 rfl, ⟨s, rfl, h2⟩, .refl _ _ _ _ rfl, hI⟩
      · refine step_skip rfl rfl rfl fun a W m hp hI => ?_
        have hm : m = 0 := phase (hp.low) (hp.high) (by kernel_rfl) (by kernel_rfl) rfl
        subst hm
        have h3 : a.tmps.getD 110 undef = .map (some bh) := hp.pre 9 (by decide) _ rfl
        obtain ⟨s, h1, h2⟩ : ∃ (s : Nat), a.tmps.getD 118 undef = .int .i64 s ∧ Stamp strC W bh xa s := hp.pre 18 (by decide) _ rfl
        have h4 : a.tmps.getD 114 undef = u7 := hp.pre 13 (by decide) _ rfl
        obtain ⟨W1, r, B, tt, kk, im⟩ := stoH hI.book hxt h2 hI.s2
        exact ⟨_, ex_estore rfl h3 h1 h4 r, trivial, .turnH tt kk hne, B, B.row, (tt.block _ hnx.2).trans hI.x, hI.s1.turn im tt, hI.s2.turn im tt, turn_blw hI.bel tt B.low.2.2.1 im⟩
end Go.Proofs.YtfmffobdkfgekaaGreat
/- The reference's office: where players are, and when teams added. -/
set_option linter.unusedVariables false
set_option linter.unusedSimpArgs false
namespace Go.Proofs.YtfmffobdkfgekaaGreat
open Go.RowKit Go.Maps

structure Whr where
  team : ByteArray
  hurt : Bool
  dropped : Int
def Whr.v (x : Whr) : Value := .agg #[.string x.team, .bool x.hurt, .int .i64 x.dropped]
structure Office where
  b : Bd
  pl : List (ByteArray × Whr)
  adds : ByteArray → List Int
/-- Rows of numbers in a map, each in a block of its own. -/
structure Rows (lo : Nat) (w : World) (A : List (ByteArray × Value)) (f : ByteArray → List Int) : Prop where
  own : ∀ t, w.ownsRow lo 3 1 ((getM A t).getD (.slice none 0 0)) (f t).length ((f t).map (.int .i64))
  apart : ∀ t u g, ((getM A t).getD (.slice none 0 0)).ownBlock = some g → ((getM A u).getD (.slice none 0 0)).ownBlock = some g → t = u
structure OfficeIn (lo : Nat) (w : World) (ob bm ba : Nat) (O : Office) : Prop where
  low : lo ≤ ob ∧ lo ≤ bm ∧ lo ≤ ba
  diff : bm ≠ ba
  row : w.heap[ob]? = some (.cells #[.int .i64 O.b.most, .int .i64 O.b.hurt, .int .i64 O.b.adds, .int .i64 O.b.hold, .map (some bm), .map (some ba)] 161 (0, 0))
  pl : MapS strC Whr.v w bm O.pl
  ad : ∃ A, MapS strC id w ba A ∧ Rows lo w A O.adds
def ofO (O : Office) (x : ByteArray) : Whr := (getM O.pl x).getD ⟨noStr, false, -1⟩
theorem zeroWhr : ∀ w, (zeroValue 121).run Tryz.prog w = .ok (.agg #[.string ⟨#[]⟩, .bool false, .int .i64 0]) w := Tryz.zeroValue121
theorem lookWhr {w : World} {b : Nat} {M : List (ByteArray × Whr)} (h : MapS strC Whr.v w b M) {x : ByteArray} (hx : x.size ≤ 1000) :
    (Instr.lookup 158 (.map (some b)) (.string x) true).run Tryz.prog w = .ok (.tuple #[(((getM M x).map Whr.v).getD (.agg #[.string ⟨#[]⟩, .bool false, .int .i64 0])), .bool (getM M x).isSome]) w := by
  have := h.lookup Tryz.underlying158 (zeroWhr w) (strC_ok hx) true
  rw [if_pos rfl] at this
  exact this
set_option maxHeartbeats 400000 in
theorem of_any {lo : Nat} {w : World} {ob bm ba : Nat} {O : Office} (h : OfficeIn lo w ob bm ba O) (x : ByteArray) (hx : x.size ≤ 1000) :
    Calls Tryz.prog 78 #[.pointer (some ⟨ob, 0, none⟩), .string x] w fun e w' => e = .returned (ofO O x).v ∧ Below w.heap.size w w' := by
  have hA := (Below.refl w.heap.size w).alloc (Nat.le_refl _) (.cells #[.string ⟨#[]⟩, .bool false, .int .i64 0] 121)
  have hrow : (w.alloc (.cells #[.string ⟨#[]⟩, .bool false, .int .i64 0] 121)).heap[ob]? = _ := (hA.block _ (Array.getElem?_eq_some_iff.1 h.row).1).trans h.row
  have hm := lookWhr (w := w.alloc (.cells #[.string ⟨#[]⟩, .bool false, .int .i64 0] 121)) (h.pl.keep (hA.block _ h.pl.lt)) hx
  obtain ⟨hc, hf⟩ := row_cells hrow
  unfold ofO
  have HA := Lib.hid hA
  clear hA hrow h hf
  cases hg : getM O.pl x with
  | none =>
    rw [hg] at hm
    simp only [Option.map_none, Option.getD_none, Option.isSome_none] at hm
    go_enter Tryz.func78, Tryz.ntmps78
    go_wp2
    refine bodyPost_ret (v := .agg #[.string noStr, .bool false, .int .i64 (-1)]) (by simp [results, Tryz.results78, go_sem, noStr]) rfl ⟨rfl, ?_⟩
    exact ((Below.refl w.heap.size w).alloc (Nat.le_refl _) _).alloc (by simp) _
  | some y =>
    obtain ⟨y1, y2, y3⟩ := y
    rw [hg] at hm
    simp only [Option.map_some, Option.getD_some, Option.isSome_some, Whr.v] at hm
    go_enter Tryz.func78, Tryz.ntmps78
    go_wp2
    refine bodyPost_ret (v := .agg #[.string y1, .bool y2, .int .i64 y3]) (by simp [results, Tryz.results78, go_sem]) rfl ⟨rfl, ?_⟩
    exact ((Below.refl w.heap.size w).alloc (Nat.le_refl _) _).alloc (by simp) _
end Go.Proofs.YtfmffobdkfgekaaGreat
/- Moves are followed up to a moment: roster.follow, roster.at. -/
set_option linter.unusedVariables false
set_option linter.unusedSimpArgs false
namespace Go.Proofs.YtfmffobdkfgekaaGreat
open Go.RowKit Go.Maps

def book0 (b : Bd) : Book := ⟨b, [], fun _ => [], fun _ => [], fun _ => noStr, fun _ => none, fun _ => 0⟩
/-- What the book holds stays within bounds. -/
structure BInv (b : Bd) (n : Nat) (K : Book) : Prop where
  b : K.b = b
  dr : ∀ p m, K.dropped p = some m → small m
  ad : ∀ k, 0 ≤ K.adds k ∧ K.adds k ≤ n
  le : ∀ t, (K.players t).length ≤ n ∧ (K.hurt t).length ≤ n
theorem BInv.mono {b : Bd} {n m : Nat} {K : Book} (h : BInv b n K) (hm : n ≤ m) : BInv b m K := ⟨h.b, h.dr, fun k => by have := h.ad k; omega, fun t => by have := h.le t; omega⟩
theorem inv0 (b : Bd) : BInv b 0 (book0 b) := ⟨rfl, by simp [book0], by simp [book0], by simp [book0]⟩
theorem lessS_len (l : List ByteArray) (s : ByteArray) : (lessS l s).length ≤ l.length := List.length_filter_le _ _
theorem upd_at {α β : Type} [DecidableEq α] (f : α → β) (x y : α) (v : β) : upd f x v y = if y = x then v else f y := rfl
theorem inv_step {b : Bd} {n : Nat} {K : Book} (h : BInv b n K) (x : Mv) (hx : x.ok) : BInv b (n + 1) (followB K x) := by
  obtain ⟨h1, h2, h3, h4⟩ := h
  have hl := fun t => h4 t
  have h3' : ∀ k, 0 ≤ K.adds k ∧ K.adds k ≤ ((n + 1 : Nat) : Int) := fun k => by have := h3 k; omega
  have len : ∀ (f g : List ByteArray), f.length ≤ n + 1 → g.length ≤ n + 1 → ∀ t, ((upd K.players x.team f) t).length ≤ n + 1 ∧ ((upd K.hurt x.team g) t).length ≤ n + 1 := fun f g hf hg t => by
    have := h4 t
    rw [upd_at, upd_at]
    split
    · exact ⟨hf, hg⟩
    · omega
  have e1 := addS_len (K.players x.team) x.player
  have e2 := addS_len (K.hurt x.team) x.player
  have e3 := lessS_len (K.players x.team) x.player
  have e4 := lessS_len (K.hurt x.team) x.player
  have e5 := h4 x.team
  unfold followB
  split
  · split
    · refine ⟨h1, h2, fun k => ?_, len _ _ (by omega) (by omega)⟩
      have := h3 k
      have := h3 (x.team, weekOf x.time)
      show 0 ≤ upd K.adds _ _ k ∧ upd K.adds _ _ k ≤ _
      rw [upd_at]
      split <;> omega
    · split
      · refine ⟨h1, fun p m hm => ?_, h3', len _ _ (by omega) (by omega)⟩
        have hm : upd K.dropped x.player (some x.time) p = some m := hm
        rw [upd_at] at hm
        split at hm
        · cases hm; exact hx.time
        · exact h2 p m hm
      · split
        · exact ⟨h1, h2, h3', len _ _ (by omega) (by omega)⟩
        · split
          · exact ⟨h1, h2, h3', len _ _ (by omega) (by omega)⟩
          · exact ⟨h1, h2, h3', len _ _ (by omega) (by omega)⟩
  · exact ⟨h1, h2, h3', len _ _ (by omega) (by omega)⟩
def stepB (u : Int) (K : Book) (x : Mv) : Book := if x.time ≤ u then followB K x else K
/-- The book after the moves up to a moment. -/
def bookAt (b : Bd) (l : List Mv) (u : Int) : Book := l.foldl (stepB u) (book0 b)
theorem book_made (w : World) (o : Obj) (b : Bd) : ∃ W, W = (((((((w.alloc o).alloc (.map #[] 0)).alloc (.map #[] 0)).alloc (.map #[] 0)).alloc (.map #[] 0)).alloc (.map #[] 0)).alloc (.cells #[.int .i64 b.most, .int .i64 b.hurt, .int .i64 b.adds, .int .i64 b.hold, .map (some (w.heap.size + 1)), .map (some (w.heap.size + 1 + 1)), .map (some (w.heap.size + 1 + 1 + 1)), .map (some (w.heap.size + 1 + 1 + 1 + 1)), .map (some (w.heap.size + 1 + 1 + 1 + 1 + 1))] 115)) ∧
    BookIn w.heap.size W (w.heap.size + 1 + 1 + 1 + 1 + 1 + 1) (w.heap.size + 1) (w.heap.size + 1 + 1) (w.heap.size + 1 + 1 + 1) (w.heap.size + 1 + 1 + 1 + 1) (w.heap.size + 1 + 1 + 1 + 1 + 1) (book0 b) ∧ Below w.heap.size w W := by
  refine ⟨_, rfl, ?_, ?_⟩
  · have hl : ∀ W : World, Lists w.heap.size W [] (fun _ => []) := fun W t => SlT.nil _ _
    have k : ∀ (w1 : World) (o2 o3 o4 o5 o6 : Obj) (i : Nat), i < w1.heap.size → (((((w1.alloc o2).alloc o3).alloc o4).alloc o5).alloc o6).heap[i]? = w1.heap[i]? := fun w1 o2 o3 o4 o5 o6 i hi => by
      rw [Below.heap_alloc _ _ _ (by simp only [alloc_size]; omega), Below.heap_alloc _ _ _ (by simp only [alloc_size]; omega), Below.heap_alloc _ _ _ (by simp only [alloc_size]; omega), Below.heap_alloc _ _ _ (by simp only [alloc_size]; omega), Below.heap_alloc _ _ _ hi]
    have k1 : ∀ (w1 : World) (o2 : Obj) (i : Nat), i < w1.heap.size → (w1.alloc o2).heap[i]? = w1.heap[i]? := fun w1 o2 i hi => Below.heap_alloc _ _ _ hi
    have z1 := MapS.made (k := 9) (κ := ByteArray) strC (id : Value → Value) (w.alloc o)
    have z2 := MapS.made (k := 9) (κ := ByteArray) strC (id : Value → Value) ((w.alloc o).alloc (.map #[] 0))
    have z3 := MapS.made (k := 9) (κ := ByteArray) strC Value.string (((w.alloc o).alloc (.map #[] 0)).alloc (.map #[] 0))
    have z4 := MapS.made (k := 9) (κ := ByteArray) strC (Value.int .i64) ((((w.alloc o).alloc (.map #[] 0)).alloc (.map #[] 0)).alloc (.map #[] 0))
    have z5 := MapS.made (k := 192) (κ := ByteArray × Int) weekC (Value.int .i64) (((((w.alloc o).alloc (.map #[] 0)).alloc (.map #[] 0)).alloc (.map #[] 0)).alloc (.map #[] 0))
    simp only [alloc_size] at z1 z2 z3 z4 z5
    refine ⟨by omega, by omega, ?_, ⟨[], z1.keep ?_, hl _, rfl⟩, ⟨[], z2.keep ?_, hl _⟩, ⟨[], z3.keep ?_, fun _ => rfl⟩, ⟨[], z4.keep ?_, fun _ => rfl⟩, ⟨[], z5.keep ?_, fun _ => rfl⟩⟩
    · have := heap_alloc_new ((((((w.alloc o).alloc (.map #[] 0)).alloc (.map #[] 0)).alloc (.map #[] 0)).alloc (.map #[] 0)).alloc (.map #[] 0)) (.cells #[.int .i64 b.most, .int .i64 b.hurt, .int .i64 b.adds, .int .i64 b.hold, .map (some (w.heap.size + 1)), .map (some (w.heap.size + 1 + 1)), .map (some (w.heap.size + 1 + 1 + 1)), .map (some (w.heap.size + 1 + 1 + 1 + 1)), .map (some (w.heap.size + 1 + 1 + 1 + 1 + 1))] 115)
      simp only [alloc_size] at this
      exact this
    · exact k _ _ _ _ _ _ _ (by simp only [alloc_size]; omega)
    · rw [k1 _ _ _ (by simp only [alloc_size]; omega), k1 _ _ _ (by simp only [alloc_size]; omega), k1 _ _ _ (by simp only [alloc_size]; omega), k1 _ _ _ (by simp only [alloc_size]; omega)]
    · rw [k1 _ _ _ (by simp only [alloc_size]; omega), k1 _ _ _ (by simp only [alloc_size]; omega), k1 _ _ _ (by simp only [alloc_size]; omega)]
    · rw [k1 _ _ _ (by simp only [alloc_size]; omega), k1 _ _ _ (by simp only [alloc_size]; omega)]
    · rw [k1 _ _ _ (by simp only [alloc_size]; omega)]
  · exact (((((((Below.refl w.heap.size w).alloc (Nat.le_refl _) _).alloc (by simp only [alloc_size]; omega) _).alloc (by simp only [alloc_size]; omega) _).alloc (by simp only [alloc_size]; omega) _).alloc (by simp only [alloc_size]; omega) _).alloc (by simp only [alloc_size]; omega) _).alloc (by simp only [alloc_size]; omega) _
theorem BookIn.lower {lo lo' : Nat} {w : World} {kb bp bh bo bd ba : Nat} {K : Book} (h : BookIn lo w kb bp bh bo bd ba K) (hl : lo' ≤ lo) : BookIn lo' w kb bp bh bo bd ba K := by
  obtain ⟨h1, h2, h3, ⟨P, p1, p2, p3⟩, ⟨H, q1, q2⟩, h6, h7, h8⟩ := h
  exact ⟨by omega, h2, h3, ⟨P, p1, fun t => (p2 t).mono hl, p3⟩, ⟨H, q1, fun t => (q2 t).mono hl⟩, h6, h7, h8⟩
theorem at1_any (i e : Int) (w : World) : Calls Tryz.prog 115 #[.int .i64 i, .int .i64 e] w fun x w' => x = .returned (.tuple #[]) ∧ w = w' := by
  go_enter Tryz.func115, Tryz.ntmps115
  go_wp2
  go_end0
  exact ⟨rfl, rfl⟩
set_option maxHeartbeats 800000 in
set_option maxRecDepth 20000 in
theorem rfollow_at {lo : Nat} {w : World} {v : Value} {n : Nat} {l : List Mv} (b : Bd) (u : Int) (h : Sl lo w v 4 n (l.flatMap Mv.c)) (hl : l.length = n) (hn : n ≤ 800) (hok : ∀ x ∈ l, x.ok) (hb : b.ok) :
    Calls Tryz.prog 58 #[b.v, v, .int .i64 u, .func (.func 115) #[] #[]] w fun e w' => ∃ kb bp bh bo bd ba, e = .returned (.pointer (some ⟨kb, 0, none⟩)) ∧ BookIn w.heap.size w' kb bp bh bo bd ba (bookAt b l u) ∧ BInv b n (bookAt b l u) ∧ Below w.heap.size w w' := by
  obtain ⟨A, c, rfl, hn2⟩ := h.shape
  have H := Lib.hid h
  obtain ⟨m1, m2, m3, m4⟩ := b
  have hmm := @run_makeMap Tryz.prog
  clear h
  dsimp only [Bd.v]
  go_enter Tryz.func58, Tryz.ntmps58
  go_wp2
  obtain ⟨W0, hW0, hB0, hL0⟩ := book_made w (.cells #[.int .i64 m1, .int .i64 m2, .int .i64 m3, .int .i64 m4] 27) ⟨m1, m2, m3, m4⟩
  dsimp only at hW0
  rw [← hW0]
  clear hmm hW0
  generalize w.heap.size + 1 + 1 + 1 + 1 + 1 + 1 = kb at hB0 ⊢
  generalize w.heap.size + 1 + 1 + 1 + 1 + 1 = ba at hB0 ⊢
  generalize w.heap.size + 1 + 1 + 1 + 1 = bd at hB0 ⊢
  generalize w.heap.size + 1 + 1 + 1 = bo at hB0 ⊢
  generalize w.heap.size + 1 + 1 = bh at hB0 ⊢
  generalize w.heap.size + 1 = bp at hB0 ⊢
  go_loopw [22] (fun i wr => ∃ k : Nat, k ≤ n ∧ i = .int .i64 k ∧ BookIn w.heap.size wr kb bp bh bo bd ba ((l.take k).foldl (stepB u) (book0 ⟨m1, m2, m3, m4⟩)) ∧ BInv ⟨m1, m2, m3, m4⟩ k ((l.take k).foldl (stepB u) (book0 ⟨m1, m2, m3, m4⟩)) ∧ Below w.heap.size w wr) (fun i _ => n - (intOf i).toNat)
  case atStart => exact ⟨0, by omega, rfl, hB0, inv0 _, hL0⟩
  case round =>
    clear hB0 hL0
    obtain ⟨k, hk, rfl, hbk, hinv, hbl⟩ := hrel
    by_cases hlt : k < n
    · obtain ⟨x, hx⟩ : ∃ x, l[k]? = some x := ⟨_, List.getElem?_eq_getElem (by omega)⟩
      have hxo := hok x (List.mem_of_getElem? hx)
      obtain ⟨bb, o, rfl, _, hbl2, h1, h2, h3, h4⟩ := mv_cells (H.out.below hbl) hx
      have htk : l.take (k + 1) = l.take k ++ [x] := by rw [List.take_add_one, hx]; rfl
      have hfo : (l.take (k + 1)).foldl (stepB u) (book0 ⟨m1, m2, m3, m4⟩) = stepB u ((l.take k).foldl (stepB u) (book0 ⟨m1, m2, m3, m4⟩)) x := by rw [htk, List.foldl_append]; rfl
      have HFO := Lib.hid hfo
      generalize (l.take k).foldl (stepB u) (book0 ⟨m1, m2, m3, m4⟩) = K at hbk hinv HFO
      have HBK := Lib.hid hbk
      have HINV := Lib.hid hinv
      have HBL := Lib.hid hbl
      clear hbk hinv hbl hfo htk hx
      obtain ⟨xt, xk, xa, xp⟩ := x
      dsimp only at h1 h2 h3 h4
      have ix : (0 : Int) ≤ (k : Int) ∧ (k : Int) < (n : Int) := ⟨by omega, by omega⟩
      by_cases hu : xt ≤ u
      · go_wp2_with fail
        have hkb := HBK.out.below (w' := wr.alloc (.cells #[.int .i64 xt, .int .i64 xk, .string xa, .string xp] 45)) ((Below.refl _ wr).alloc (Nat.le_refl _) _)
        refine (follow_any hkb (by rw [alloc_size]; have := HBL.out.size; omega) (by rw [HINV.out.b]; exact hb) ⟨xt, xk, xa, xp⟩ hxo HINV.out.dr (fun k2 => by have := HINV.out.ad k2; omega) (fun t => by have := HINV.out.le t; omega)).mono ?_
        rintro e w2 ⟨rfl, hb2, hl2⟩
        have E := Lib.hid (And.intro hb2 ((HBL.out.alloc HBL.out.size _).trans hl2.bel))
        clear hkb hb2 hl2
        go_wp2_with fail
        refine (at1_any _ _ _).mono ?_
        rintro e w3 ⟨rfl, rfl⟩
        go_wp2
        go_roundw
        case rel => exact ⟨k + 1, by omega, by go_num, by
          rw [HFO.out]; unfold stepB; rw [if_pos hu]; exact E.out.1, by
          rw [HFO.out]; unfold stepB; rw [if_pos hu]; exact inv_step HINV.out _ hxo, E.out.2⟩
        case measure => simp [intOf]; omega
      · go_wp2
        go_roundw
        case rel => exact ⟨k + 1, by omega, by go_num, by
          rw [HFO.out]; unfold stepB; rw [if_neg hu]; exact HBK.out.below ((Below.refl _ wr).alloc (Nat.le_refl _) _), by
          rw [HFO.out]; unfold stepB; rw [if_neg hu]; exact HINV.out.mono (Nat.le_succ k), HBL.out.alloc HBL.out.size _⟩
        case measure => simp [intOf]; omega
    · have hkn : k = n := by omega
      subst hkn
      rw [List.take_of_length_le (by omega)] at hbk hinv
      have HBK := Lib.hid hbk
      have HINV := Lib.hid hinv
      have HBL := Lib.hid hbl
      clear hbk hinv hbl hlt
      go_wp2
      go_ret
      exact ⟨_, _, _, _, _, _, rfl, HBK.out, HINV.out, HBL.out⟩

set_option maxHeartbeats 400000 in
theorem rat_any {lo : Nat} {w : World} {v : Value} {n : Nat} {l : List Mv} (b : Bd) (u : Int) (h : Sl lo w v 4 n (l.flatMap Mv.c)) (hl : l.length = n) (hn : n ≤ 800) (hok : ∀ x ∈ l, x.ok) (hb : b.ok) :
    Calls Tryz.prog 69 #[b.v, v, .int .i64 u] w fun e w' => ∃ kb bp bh bo bd ba, e = .returned (.pointer (some ⟨kb, 0, none⟩)) ∧ BookIn w.heap.size w' kb bp bh bo bd ba (bookAt b l u) ∧ BInv b n (bookAt b l u) ∧ Below w.heap.size w w' := by
  have hA := (Below.refl w.heap.size w).alloc (Nat.le_refl _) (.cells #[.int .i64 b.most, .int .i64 b.hurt, .int .i64 b.adds, .int .i64 b.hold] 27)
  have HC := Lib.hid (rfollow_at (w := w.alloc (.cells #[.int .i64 b.most, .int .i64 b.hurt, .int .i64 b.adds, .int .i64 b.hold] 27)) b u (h.below hA) hl hn hok hb)
  have HA := Lib.hid hA
  obtain ⟨m1, m2, m3, m4⟩ := b
  clear h hA
  dsimp only [Bd.v] at *
  go_enter Tryz.func69, Tryz.ntmps69
  go_wp2_with fail
  refine HC.out.mono ?_
  rintro e w2 ⟨kb, bp, bh, bo, bd, ba, rfl, h1, h2, h3⟩
  have E := Lib.hid (And.intro h1 (And.intro h2 h3))
  clear h1 h2 h3
  go_wp2
  go_ret
  refine ⟨kb, bp, bh, bo, bd, ba, rfl, ?_, E.out.2.1, HA.out.trans (E.out.2.2.mono (by simp))⟩
  exact E.out.1.lower (by simp)
end Go.Proofs.YtfmffobdkfgekaaGreat
