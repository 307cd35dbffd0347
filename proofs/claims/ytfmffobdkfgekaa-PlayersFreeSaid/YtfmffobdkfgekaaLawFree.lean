/- The law PlayersFree: its walk. -/
import Derived.Test.YtfmffobdkfgekaaLawKit
set_option linter.unusedVariables false
set_option linter.unusedSimpArgs false
namespace Go.Proofs.Ytfmffobdkfgekaa
open Go.RowKit Go.Maps

set_option maxHeartbeats 4000000 in
set_option maxRecDepth 20000 in
theorem law_any (A : Option Addr) (len c : Nat) (w : World) (h : IntsIn w A len) :
    Calls Try.prog 3 #[.slice A len c] w fun e w' => e = .returned (.bool true) ∧ Below w.heap.size w w' := by
  have HS := Lib.hid (stream_new (c := c) h)
  clear h
  go_enter Try.func3, Try.ntmps3
  go_wp2_with fail
  refine (bounds_any w.heap.size 900 _ (HS.out.mono (by omega))).mono ?_
  rintro e w1 ⟨⟨m1, m2, m3, m4, rfl, hbok⟩, st1⟩
  have HB := Lib.hid hbok
  have S1 := Lib.hid st1
  clear hbok st1
  go_wp2_with fail
  refine (range_any w.heap.size 800 0 20 _ (S1.out.s.mono (by omega)) (by omega) (by omega) (by omega) (by omega)).mono ?_
  rintro e w2 ⟨⟨r, rfl, hr1, hr2⟩, hs2, hg2⟩
  have S2 := Lib.hid (S1.out.call hs2 hg2)
  clear hs2 hg2
  obtain ⟨rn, rfl⟩ : ∃ rn : Nat, r = rn := ⟨r.toNat, by omega⟩
  go_wp2_with fail
  refine (moves_any w.heap.size 500 rn _ (S2.out.s.mono (by omega)) (by omega)).mono ?_
  rintro e w3 ⟨⟨mv, l, rfl, hmv, hml, hmo⟩, st3⟩
  have S3 := Lib.hid (S2.out.then st3)
  have hsz2 := S2.out.s.lt
  have MV := Lib.hid (hmv.mono (Nat.succ_le_of_lt hsz2))
  have MO := Lib.hid hmo
  have hb3 := S3.out.s.lt
  clear st3 hmv hmo
  go_wp2_with fail
  refine (some_any w.heap.size 400 4 _ [⟨#[116, 120]⟩, ⟨#[116, 121]⟩, ⟨#[122, 122]⟩, ⟨#[]⟩] _ ((S3.out.alloc _).s.mono (by omega)) (Sl.lit rfl (by omega) rfl (by simp) (by omega)) (by omega)).mono ?_
  rintro e w4 ⟨⟨team, rfl, hteam⟩, hs4, hg4⟩
  have S4 := Lib.hid ((S3.out.alloc _).call hs4 hg4)
  have MV4 := Lib.hid ((MV.out.below ((Below.refl _ _).alloc (Nat.le_refl _) _)).gr hg4 (by omega))
  have HT := Lib.hid hteam
  have hb4 := S4.out.s.lt
  clear hs4 hg4 hteam
  go_wp2_with fail
  refine (some_any w.heap.size 300 5 _ [⟨#[112, 97]⟩, ⟨#[112, 98]⟩, ⟨#[112, 99]⟩, ⟨#[122, 122]⟩, ⟨#[65]⟩] _ ((S4.out.alloc _).s.mono (by omega)) (Sl.lit rfl (by omega) rfl (by simp) (by omega)) (by omega)).mono ?_
  rintro e w5 ⟨⟨who, rfl, hwho⟩, hs5, hg5⟩
  have S5 := Lib.hid ((S4.out.alloc _).call hs5 hg5)
  have MV5 := Lib.hid ((MV4.out.below ((Below.refl _ _).alloc (Nat.le_refl _) _)).gr hg5 (by omega))
  have HW := Lib.hid hwho
  clear hs5 hg5 hwho
  go_wp2_with fail
  refine (moveTime_any w.heap.size 200 _ (S5.out.s.mono (by omega))).mono ?_
  rintro e w6 ⟨⟨at_, rfl, ha1, ha2⟩, st6⟩
  have S6 := Lib.hid (S5.out.then st6)
  have MV6 := Lib.hid (MV5.out.gr st6.g (by omega))
  clear st6
  have hb6 := S6.out.s.lt
  go_wp2_with fail
  refine (range_any w.heap.size 100 0 5 _ (((S6.out.alloc _).alloc _).s.mono (by omega)) (by omega) (by omega) (by omega) (by omega)).mono ?_
  rintro e w7 ⟨⟨pr, rfl, hp1, hp2⟩, hs7, hg7⟩
  obtain ⟨pn, rfl⟩ : ∃ pn : Nat, pr = pn := ⟨pr.toNat, by omega⟩
  have hpn : pn ≤ 5 := by omega
  have S7 := Lib.hid (((S6.out.alloc _).alloc _).call hs7 hg7)
  have hbox7 : w7.heap[w6.heap.size]? = some (.cells #[.int .i64 m1, .int .i64 m2, .int .i64 m3, .int .i64 m4] 27 (0, 0)) := by
    rw [hg7.block _ (by simp; omega) (by simp; omega), Below.heap_alloc _ _ _ (by simp)]
    exact heap_alloc_new _ _
  have hlit7 : w7.heap[w6.heap.size + 1]? = some (.cells #[.string ⟨#[112, 101]⟩, .string ⟨#[112, 97]⟩, .string ⟨#[122, 122]⟩, .string ⟨#[112, 98]⟩, .string ⟨#[112, 97]⟩] 9 (0, 0)) := by
    rw [hg7.block _ (by simp) (by simp; omega)]
    have := heap_alloc_new (w6.alloc (.cells #[.int .i64 m1, .int .i64 m2, .int .i64 m3, .int .i64 m4] 27)) (.cells #[.string ⟨#[112, 101]⟩, .string ⟨#[112, 97]⟩, .string ⟨#[122, 122]⟩, .string ⟨#[112, 98]⟩, .string ⟨#[112, 97]⟩] 9)
    rw [alloc_size] at this
    exact this
  have MV7 := Lib.hid (((MV6.out.below ((Below.refl _ _).alloc (Nat.le_refl _) _)).below ((Below.refl _ _).alloc (Nat.le_refl _) _)).gr hg7 (by omega))
  have HB7 := Lib.hid hbox7
  have HL7 := Lib.hid hlit7
  have hb7 := S7.out.s.lt
  clear hs7 hg7 hbox7 hlit7
  go_wp2_with fail
  refine (flip_any w.heap.size 90 20 _ (S7.out.s.mono (by omega)) (by omega)).mono ?_
  rintro e w8 ⟨⟨fl, rfl⟩, hs8, hg8⟩
  have S8 := Lib.hid (S7.out.call hs8 hg8)
  have HB8 := Lib.hid ((hg8.block _ (Array.getElem?_eq_some_iff.1 HB7.out).1 (by simp; omega)).trans HB7.out)
  have HL8 := Lib.hid ((hg8.block _ (Array.getElem?_eq_some_iff.1 HL7.out).1 (by simp; omega)).trans HL7.out)
  have MV8 := Lib.hid (MV7.out.gr hg8 (by omega))
  clear hs8 hg8
  go_upto_if 47 with fail
  go_cut [9] (fun s9 wx => ∃ ps : List ByteArray, LawAt w w6.heap.size ⟨m1, m2, m3, m4⟩ mv l s9 ps wx ∧ ps.length ≤ 6 ∧ ∀ s ∈ ps, s.size ≤ 1000)
  case first =>
    have hps : ∀ s ∈ [(⟨#[112, 101]⟩ : ByteArray), ⟨#[112, 97]⟩, ⟨#[122, 122]⟩, ⟨#[112, 98]⟩, ⟨#[112, 97]⟩].take pn, s.size ≤ 1000 := fun s hs => by
      have := List.mem_of_mem_take hs
      simp at this
      rcases this with rfl | rfl | rfl | rfl | rfl <;> decide
    have hlen : ([(⟨#[112, 101]⟩ : ByteArray), ⟨#[112, 97]⟩, ⟨#[122, 122]⟩, ⟨#[112, 98]⟩, ⟨#[112, 97]⟩].take pn).length = pn := by simp; omega
    have hpv : Sl (w6.heap.size + 1) w8 (.slice (some ⟨w6.heap.size + 1, 0, none⟩) pn 5) 1 ([(⟨#[112, 101]⟩ : ByteArray), ⟨#[112, 97]⟩, ⟨#[122, 122]⟩, ⟨#[112, 98]⟩, ⟨#[112, 97]⟩].take pn).length (([(⟨#[112, 101]⟩ : ByteArray), ⟨#[112, 97]⟩, ⟨#[122, 122]⟩, ⟨#[112, 98]⟩, ⟨#[112, 97]⟩].take pn).map Value.string) := by
      rw [hlen, List.map_take]
      exact sl_prefix HL8.out (by simpa using hpn) hpn (by omega) (by omega)
    generalize [(⟨#[112, 101]⟩ : ByteArray), ⟨#[112, 97]⟩, ⟨#[122, 122]⟩, ⟨#[112, 98]⟩, ⟨#[112, 97]⟩].take pn = ps0 at hps hlen hpv
    have HPV := Lib.hid hpv
    have HPS := Lib.hid hps
    have HLN := Lib.hid hlen
    clear hpv hps hlen
    cases fl
    · go_wp2
      go_meet
      case rel => exact ⟨ps0, ⟨HB8.out, MV8.out.mono (Nat.zero_le _), HPV.out.mono (Nat.zero_le _), S8.out.bel⟩, by rw [HLN.out]; omega, HPS.out⟩
    · obtain ⟨i0, hi, hz0, hz1, hz2⟩ := info_parts infoStr
      go_wp2_with fail
      refine (clone_any HPV.out (by rw [HLN.out]; omega)).mono ?_
      rintro e w9 ⟨cv, rfl, hown9, hb9⟩
      have S9 := Lib.hid (S8.out.below hb9)
      have HK9 := Lib.hid hb9
      have HO9 := Lib.hid hown9
      have hle9 := hb9.size
      have HB9 := Lib.hid ((hb9.block _ (Array.getElem?_eq_some_iff.1 HB8.out).1).trans HB8.out)
      have MV9 := Lib.hid (MV8.out.below hb9)
      have hb9 := S9.out.s.lt
      have hb8 := S8.out.s.lt
      clear hown9
      go_wp2_with fail
      refine (some_any w.heap.size 80 2 _ [⟨#[]⟩, ⟨#[112, 99]⟩] _ ((S9.out.alloc _).s.mono (by omega)) (Sl.lit rfl (by omega) rfl (by simp) (by omega)) (by omega)).mono ?_
      rintro e w10 ⟨⟨xs, rfl, hxs⟩, hs10, hg10⟩
      have S10 := Lib.hid ((S9.out.alloc _).call hs10 hg10)
      have HO10 := Lib.hid (own_gr (HO9.out.alloc _) hg10 hb8)
      have HB10 := Lib.hid ((hg10.block _ (by simp; have := (Array.getElem?_eq_some_iff.1 HB9.out).1; omega) (by simp; omega)).trans ((Below.heap_alloc _ _ _ (Array.getElem?_eq_some_iff.1 HB9.out).1).trans HB9.out))
      have MV10 := Lib.hid ((MV9.out.below ((Below.refl _ _).alloc (Nat.le_refl _) _)).gr hg10 (by omega))
      have hxsz : xs.size ≤ 1000 := by
        simp at hxs
        rcases hxs with rfl | rfl <;> decide
      have HK10 := Lib.hid (show ∀ i, w.heap.size + 1 ≤ i → i < w8.heap.size → w10.heap[i]? = w8.heap[i]? from fun i h1 h2 => by
        rw [hg10.block i (by simp; omega) (by simp; omega), Below.heap_alloc _ _ _ (by omega)]
        exact HK9.out.block i h2)
      have hsz10 : w8.heap.size ≤ w10.heap.size := by have := hg10.size; simp at this; omega
      have HLN2 := Lib.hid hsz10
      clear hs10 hg10 hxs
      go_wp2_with (at_builtin; refine wpList_append_own _ rfl _ _ 34 rfl w8.heap.size 9 i0 _ 1 16 Try.underlying34 hi hz0 hz1 hz2 rfl (by decide) _ _ _ rfl (HO10.out.alloc _) ⟨w10.heap.size, 0, none⟩ 1 1 [.string xs] rfl rfl ?c1 ?c2 ?c3 ?c4 ?c5 ?_)
      case c1 => exact new_cells rfl
      case c2 => exact fun u hu => by simp at hu; subst hu; rfl
      case c3 => rw [HLN.out]; unfold maxLen; omega
      case c4 => rw [HLN.out]; omega
      case c5 => have := HLN2.out; simp; omega
      intro v' w' hown' hg' _
      have hbA : w.heap.size < w10.heap.size := S10.out.s.lt
      have hlt9 := (Array.getElem?_eq_some_iff.1 HB8.out).1
      have hob : ∀ j, cv.ownBlock = some j → w8.heap.size ≤ j := fun j hj => (HO10.out.lt j hj).1
      have hbel : Below w8.heap.size (w10.alloc (.cells #[.string xs] 9)) w' := (Below.refl _ _).grown hg' (by simp; omega) hob
      have hbel2 : Below w8.heap.size w10 w' := ((Below.refl _ w10).alloc hsz10 _).trans hbel
      have E := Lib.hid (And.intro hown' hbel2)
      clear hown' hg' hbel hbel2
      go_wp2
      go_meet
      case rel => exact ⟨ps0 ++ [xs], ⟨(E.out.2.block _ hlt9).trans HB10.out, (MV8.out.keep (Nat.le_trans HLN2.out E.out.2.size) fun i h1 h2 => (E.out.2.block i h2).trans (HK10.out i h1 h2)).mono (Nat.zero_le _), by
          have := (Sl.of_own E.out.1 (by rw [HLN.out]; omega)).mono (Nat.zero_le _)
          rw [List.length_append, List.map_append]; exact this, S10.out.bel.trans (E.out.2.mono (by omega))⟩, by rw [List.length_append, HLN.out]; simp; omega, fun s hs => by
          rcases List.mem_append.1 hs with hs | hs
          · exact HPS.out s hs
          · simp at hs; subst hs; exact hxsz⟩
  case rest =>
    obtain ⟨ps, hat, hpl, hps⟩ := hcut
    have HA0 := Lib.hid hat
    have HPS := Lib.hid hps
    have HTM := Lib.hid (show team.size ≤ 1000 by
      have := HT.out
      simp at this
      rcases this with rfl | rfl | rfl | rfl <;> decide)
    have HWM := Lib.hid (show who.size ≤ 1000 by
      have := HW.out
      simp at this
      rcases this with rfl | rfl | rfl | rfl | rfl <;> decide)
    have hts : small at_ := ⟨by omega, by omega⟩
    have HTS := Lib.hid hts
    clear hat hps hts S1 S2 S3 S4 S5 S6 S7 S8 MV MV4 MV5 MV6 MV7 MV8 HB7 HL7 HB8 HL8 HT HW HS
    obtain ⟨hc, hf⟩ := row_cells HA0.out.box
    go_wp2_with fail
    refine (free_any ⟨m1, m2, m3, m4⟩ at_ HA0.out.mvs rfl (by omega) MO.out HB.out HA0.out.pvs rfl (by omega) HPS.out HTS.out).mono ?_
    rintro e w1' ⟨yv, rfl, hyv, hb1⟩
    have HA1 := Lib.hid (HA0.out.below hb1)
    have HY1 := Lib.hid (hyv.mono (Nat.zero_le _))
    clear hc hf hb1 hyv HA0
    obtain ⟨E1, hE1⟩ : ∃ E, freeE ⟨m1, m2, m3, m4⟩ l ps at_ = E := ⟨_, rfl⟩
    obtain ⟨L1, hL1⟩ : ∃ L, freeL ⟨m1, m2, m3, m4⟩ l ps at_ = L := ⟨_, rfl⟩
    rw [hE1]
    rw [hL1] at HY1
    have HE1 := Lib.hid hE1
    have HL1 := Lib.hid hL1
    clear hE1 hL1
    obtain ⟨hc, hf⟩ := row_cells HA1.out.box
    go_wp2_with fail
    refine (freeFrom_any ⟨m1, m2, m3, m4⟩ who at_ HA1.out.mvs rfl (by omega) MO.out HB.out HWM.out HTS.out).mono ?_
    rintro e w2' ⟨rfl, hb2⟩
    have HA2 := Lib.hid (HA1.out.below hb2)
    have HY2 := Lib.hid (HY1.out.below hb2)
    clear hc hf hb2 HA1 HY1
    obtain ⟨E2, hE2⟩ : ∃ E, askedE ⟨m1, m2, m3, m4⟩ l who at_ = E := ⟨_, rfl⟩
    obtain ⟨n2, hn2⟩ : ∃ E, (if E2 = 0 then (freeR ⟨m1, m2, m3, m4⟩ (bookAt ⟨m1, m2, m3, m4⟩ l at_) who at_).1 else 0) = E := ⟨_, rfl⟩
    obtain ⟨k2, hk2⟩ : ∃ E, (if E2 = 0 then (freeR ⟨m1, m2, m3, m4⟩ (bookAt ⟨m1, m2, m3, m4⟩ l at_) who at_).2 else false) = E := ⟨_, rfl⟩
    rw [hE2, hn2, hk2]
    have HE2 := Lib.hid hE2
    have HN2 := Lib.hid (And.intro hn2 hk2)
    clear hE2 hn2 hk2
    obtain ⟨hc, hf⟩ := row_cells HA2.out.box
    go_wp2_with fail
    refine (adds_any ⟨m1, m2, m3, m4⟩ team at_ HA2.out.mvs rfl (by omega) MO.out HB.out HTM.out HTS.out).mono ?_
    rintro e w3' ⟨rfl, hb3⟩
    have HA3 := Lib.hid (HA2.out.below hb3)
    have HY3 := Lib.hid (HY2.out.below hb3)
    clear hc hf hb3 HA2 HY2
    obtain ⟨E3, hE3⟩ : ∃ E, askedE ⟨m1, m2, m3, m4⟩ l team at_ = E := ⟨_, rfl⟩
    obtain ⟨n3, hn3⟩ : ∃ E, (if E3 = 0 then (⟨m1, m2, m3, m4⟩ : Bd).adds - (bookAt ⟨m1, m2, m3, m4⟩ l at_).adds (team, weekOf at_) else 0) = E := ⟨_, rfl⟩
    rw [hE3, hn3]
    have HE3 := Lib.hid hE3
    have HN3 := Lib.hid hn3
    clear hE3 hn3
    obtain ⟨hc, hf⟩ := row_cells HA3.out.box
    go_wp2_with fail
    refine (boundsFault_any ⟨m1, m2, m3, m4⟩ _).mono ?_
    rintro e w4' ⟨rfl, hb4⟩
    have HA4 := Lib.hid (HA3.out.below hb4)
    have HY4 := Lib.hid (HY3.out.below hb4)
    clear hc hf hb4 HA3 HY3
    go_wp2_with fail
    refine (movesFault_any HA4.out.mvs rfl (by omega) MO.out).mono ?_
    rintro e w5' ⟨rfl, hb5⟩
    have HA5 := Lib.hid (HA4.out.below hb5)
    have HY5 := Lib.hid (HY4.out.below hb5)
    clear hb5 HA4 HY4
    obtain ⟨g1, hg1⟩ : ∃ E, bfault ⟨m1, m2, m3, m4⟩ = E := ⟨_, rfl⟩
    obtain ⟨g2, hg2⟩ : ∃ E, mfault l = E := ⟨_, rfl⟩
    obtain ⟨g, hg⟩ : ∃ E, faultE ⟨m1, m2, m3, m4⟩ l = E := ⟨_, rfl⟩
    rw [hg1, hg2]
    have hff : firstI [g1, g2] = g := by rw [← hg1, ← hg2, ← hg]; rfl
    have HG := Lib.hid hg
    have HFF := Lib.hid hff
    clear hg1 hg2 hg hff
    go_wp2_with fail
    refine (errs_any (l := [g1, g2]) (lo := 0) (n := 2) (Sl.lit rfl (Nat.zero_le _) rfl (by simp) (by omega)) rfl).mono ?_
    rintro e w6' ⟨rfl, hd6⟩
    rw [HFF.out]
    have HA6 := Lib.hid ((HA5.out.alloc _).drew hd6)
    have HY6 := Lib.hid (hd6.sl (HY5.out.below ((Below.refl _ _).alloc (Nat.le_refl _) _)))
    clear hd6 HA5 HY5
    go_wp2_with fail
    refine (contains_LFree1 lfree1_any HA6.out.pvs rfl HPS.out).mono ?_
    rintro e w7' ⟨rfl, hd7⟩
    have HA7 := Lib.hid (HA6.out.drew hd7)
    have HY7 := Lib.hid (hd7.sl HY6.out)
    clear hd7 HA6 HY6
    obtain ⟨a7, ha7⟩ : ∃ E, ps.any (fun s => !keyB s) = E := ⟨_, rfl⟩
    rw [ha7]
    have HA7' := Lib.hid ha7
    clear ha7
    go_wp2_with fail
    refine (when_any _ _ _).mono ?_
    rintro e w8' ⟨rfl, rfl⟩
    go_wp2_with fail
    refine (momentFault_any _ _).mono ?_
    rintro e w9' ⟨rfl, rfl⟩
    obtain ⟨h7, hh7⟩ : ∃ E, whenE a7 5 = E := ⟨_, rfl⟩
    obtain ⟨tf, htf⟩ : ∃ E, tfault at_ = E := ⟨_, rfl⟩
    rw [hh7, htf]
    have hone : firstI [g, h7, tf] = E1 := by rw [← hh7, ← htf, ← HA7'.out, ← HG.out, one_eq, HE1.out]
    have HONE := Lib.hid hone
    have HTF := Lib.hid htf
    clear hh7 htf hone
    go_wp2_with fail
    refine (errs_any (l := [g, h7, tf]) (lo := 0) (n := 3) (Sl.lit rfl (Nat.zero_le _) rfl (by simp) (by omega)) rfl).mono ?_
    rintro e w10' ⟨rfl, hd10⟩
    rw [HONE.out]
    have HA10 := Lib.hid ((HA7.out.alloc _).drew hd10)
    have HY10 := Lib.hid (hd10.sl (HY7.out.below ((Below.refl _ _).alloc (Nat.le_refl _) _)))
    clear hd10 HA7 HY7
    go_wp2_with fail
    refine (nameFault_any who _ HWM.out).mono ?_
    rintro e w11' ⟨rfl, hd11⟩
    have HA11 := Lib.hid (HA10.out.drew hd11)
    have HY11 := Lib.hid (hd11.sl HY10.out)
    clear hd11 HA10 HY10
    go_wp2_with fail
    refine (momentFault_any _ _).mono ?_
    rintro e w12' ⟨rfl, rfl⟩
    rw [HTF.out]
    obtain ⟨nw, hnw⟩ : ∃ E, nfault who = E := ⟨_, rfl⟩
    rw [hnw]
    have htwo : firstI [g, nw, tf] = E2 := by rw [← hnw, ← HTF.out, ← HG.out, asked_eq, HE2.out]
    have HTWO := Lib.hid htwo
    clear hnw htwo
    go_wp2_with fail
    refine (errs_any (l := [g, nw, tf]) (lo := 0) (n := 3) (Sl.lit rfl (Nat.zero_le _) rfl (by simp) (by omega)) rfl).mono ?_
    rintro e w13' ⟨rfl, hd13⟩
    rw [HTWO.out]
    have HA13 := Lib.hid ((HA11.out.alloc _).drew hd13)
    have HY13 := Lib.hid (hd13.sl (HY11.out.below ((Below.refl _ _).alloc (Nat.le_refl _) _)))
    clear hd13 HA11 HY11
    go_wp2_with fail
    refine (nameFault_any team _ HTM.out).mono ?_
    rintro e w14' ⟨rfl, hd14⟩
    have HA14 := Lib.hid (HA13.out.drew hd14)
    have HY14 := Lib.hid (hd14.sl HY13.out)
    clear hd14 HA13 HY13
    go_wp2_with fail
    refine (momentFault_any _ _).mono ?_
    rintro e w15' ⟨rfl, rfl⟩
    rw [HTF.out]
    obtain ⟨nt, hnt⟩ : ∃ E, nfault team = E := ⟨_, rfl⟩
    rw [hnt]
    have hthree : firstI [g, nt, tf] = E3 := by rw [← hnt, ← HTF.out, ← HG.out, asked_eq, HE3.out]
    have HTHREE := Lib.hid hthree
    clear hnt hthree
    go_wp2_with fail
    refine (errs_any (l := [g, nt, tf]) (lo := 0) (n := 3) (Sl.lit rfl (Nat.zero_le _) rfl (by simp) (by omega)) rfl).mono ?_
    rintro e w16' ⟨rfl, hd16⟩
    rw [HTHREE.out]
    have HA16 := Lib.hid ((HA14.out.alloc _).drew hd16)
    have HY16 := Lib.hid (hd16.sl (HY14.out.below ((Below.refl _ _).alloc (Nat.le_refl _) _)))
    clear hd16 HA14 HY14 HONE HTWO HTHREE HTF HFF
    obtain ⟨hc, hf⟩ := row_cells HA16.out.box
    go_upto_if 109 with fail
    go_cut [21] (fun s21 wx => LawAt w w6.heap.size ⟨m1, m2, m3, m4⟩ mv l u9 ps wx ∧ Sl 0 wx yv 1 L1.length (L1.map Value.string) ∧ Sl 0 wx s21 1 L1.length (L1.map Value.string))
    case first =>
      by_cases h1 : E1 = 0
      · have HQ := Lib.hid (freeOf_any (lo := 0) (lo2 := 0) (w := w16') ⟨m1, m2, m3, m4⟩ at_ HA16.out.mvs rfl (by omega) MO.out HB.out HA16.out.pvs rfl (by omega) HPS.out HTS.out)
        have HLE := Lib.hid (show L1 = ps.filter (isFreeO (officeL ⟨m1, m2, m3, m4⟩ l at_) at_) by rw [← HL1.out]; exact freeL_eq (by rw [HE1.out, h1]))
        subst h1
        go_wp2_with fail
        refine HQ.out.mono ?_
        rintro e w17' ⟨zv, rfl, hzv, hb17⟩
        rw [← HLE.out] at hzv
        have HZ := Lib.hid (And.intro (HA16.out.below hb17) (And.intro (HY16.out.below hb17) (hzv.mono (Nat.zero_le _))))
        clear hb17 hzv
        go_wp2
        go_meet
        case rel => exact HZ.out
      · have HLE := Lib.hid (show L1 = [] by rw [← HL1.out]; exact freeL_no (by rw [HE1.out]; exact h1))
        go_wp2
        go_meet
        case rel => exact ⟨HA16.out, HY16.out, by rw [HLE.out]; exact Sl.nil _ _ _⟩
    case rest =>
      obtain ⟨ha17, hy17, hz17⟩ := hcut
      have HA17 := Lib.hid ha17
      have HY17 := Lib.hid hy17
      have HZ17 := Lib.hid hz17
      clear ha17 hy17 hz17 hc hf HA16 HY16
      obtain ⟨hc, hf⟩ := row_cells HA17.out.box
      go_upto_if 116 with fail
      go_cut [22, 24] (fun s22 s24 wx => s22 = .int .i64 n2 ∧ s24 = .bool k2 ∧ LawAt w w6.heap.size ⟨m1, m2, m3, m4⟩ mv l u9 ps wx ∧ Sl 0 wx yv 1 L1.length (L1.map Value.string) ∧ Sl 0 wx u21 1 L1.length (L1.map Value.string))
      case first =>
        by_cases h2 : E2 = 0
        · have HQ := Lib.hid (freeSince_any (lo := 0) (w := wc) ⟨m1, m2, m3, m4⟩ who at_ HA17.out.mvs rfl (by omega) MO.out HB.out HWM.out HTS.out)
          have HLE := Lib.hid (show (freeS ⟨m1, m2, m3, m4⟩ (officeL ⟨m1, m2, m3, m4⟩ l at_) who at_).1 = n2 ∧ (freeS ⟨m1, m2, m3, m4⟩ (officeL ⟨m1, m2, m3, m4⟩ l at_) who at_).2 = k2 by
            have h := HN2.out
            rw [if_pos h2, if_pos h2, freeR_eq (by rw [HE2.out, h2])] at h
            exact h)
          subst h2
          go_wp2_with fail
          refine HQ.out.mono ?_
          rintro e w18 ⟨rfl, hb18⟩
          rw [HLE.out.1, HLE.out.2]
          have HZ := Lib.hid (And.intro (HA17.out.below hb18) (And.intro (HY17.out.below hb18) (HZ17.out.below hb18)))
          clear hb18
          go_wp2
          go_meet
          case rel => exact ⟨rfl, rfl, HZ.out⟩
        · have HLE := Lib.hid (show 0 = n2 ∧ false = k2 by
            have h := HN2.out
            rw [if_neg h2, if_neg h2] at h
            exact h)
          go_wp2
          go_meet
          case rel => exact ⟨by rw [← HLE.out.1], by rw [← HLE.out.2], HA17.out, HY17.out, HZ17.out⟩
      case rest =>
        obtain ⟨rfl, rfl, ha18, hy18, hz18⟩ := hcut
        have HA18 := Lib.hid ha18
        have HY18 := Lib.hid hy18
        have HZ18 := Lib.hid hz18
        clear ha18 hy18 hz18 hc hf HA17 HY17 HZ17
        obtain ⟨hc, hf⟩ := row_cells HA18.out.box
        go_upto_if 126 with fail
        go_cut [23] (fun s23 wx => s23 = .int .i64 n3 ∧ LawAt w w6.heap.size ⟨m1, m2, m3, m4⟩ mv l u9 ps wx ∧ Sl 0 wx yv 1 L1.length (L1.map Value.string) ∧ Sl 0 wx u21 1 L1.length (L1.map Value.string))
        case first =>
          by_cases h3 : E3 = 0
          · have HQ := Lib.hid (addsLeft_any (lo := 0) (w := wc) ⟨m1, m2, m3, m4⟩ team at_ HA18.out.mvs rfl (by omega) MO.out HB.out HTM.out HTS.out)
            have HLE := Lib.hid (show (⟨m1, m2, m3, m4⟩ : Bd).adds - (addedO (officeL ⟨m1, m2, m3, m4⟩ l at_) team at_ : Nat) = n3 by
              have h := HN3.out
              rw [if_pos h3, adds_eq (by rw [HE3.out, h3])] at h
              exact h)
            subst h3
            go_wp2_with fail
            refine HQ.out.mono ?_
            rintro e w19 ⟨rfl, hb19⟩
            rw [HLE.out]
            have HZ := Lib.hid (And.intro (HA18.out.below hb19) (And.intro (HY18.out.below hb19) (HZ18.out.below hb19)))
            clear hb19
            go_wp2
            go_meet
            case rel => exact ⟨rfl, HZ.out⟩
          · have HLE := Lib.hid (show 0 = n3 by
              have h := HN3.out
              rw [if_neg h3] at h
              exact h)
            go_wp2
            go_meet
            case rel => exact ⟨by rw [← HLE.out], HA18.out, HY18.out, HZ18.out⟩
        case rest =>
          obtain ⟨rfl, ha19, hy19, hz19⟩ := hcut
          have HA19 := Lib.hid ha19
          have HEQ := Lib.hid (equal_same hy19 hz19)
          clear ha19 hy19 hz19 hc hf HA18 HY18 HZ18
          go_wp2_with fail
          refine HEQ.out.mono ?_
          rintro e w20 ⟨rfl, hd20⟩
          have HA20 := Lib.hid (HA19.out.drew hd20)
          clear hd20
          go_wp2_with fail
          refine (kept_any _).mono ?_
          rintro e w21 ⟨rfl, hb21⟩
          have HF := Lib.hid (HA20.out.below hb21).bel
          clear hb21
          go_wp2
          go_ret
          exact ⟨rfl, HF.out⟩
end Go.Proofs.Ytfmffobdkfgekaa
