/-
  TopBook: the walk.
-/
import Derived.Test.YticckfioggeaeaaGreatDoorGB
import Derived.Test.YticckfioggeaeaaGreatDoorGN
import Derived.Test.YticckfioggeaeaaGreatDoorBookTwo
import Derived.Test.YticckfioggeaeaaGreatDoorGA
import Derived.Test.YticckfioggeaeaaGreatDoorGG
import Derived.Deep.RegionHeld3
set_option linter.unusedVariables false
set_option linter.unusedSimpArgs false
set_option linter.unnecessarySimpa false
set_option linter.unusedVariables false
namespace Go.Proofs.YticckfioggeaeaaGreatDoor
open Go.RowKit

/-- A book beside two lists. -/
structure TS (w wr : World) (O : Nat → Prop) (b slots : Nat) (s : Bk) (vH vL : Value) (hits : List Bool) (held : List Int) : Prop where
  bk : BookAt O wr b slots s
  lo : ∀ x, x < w.heap.size → ¬ O x
  oH : ∀ x, vH.ownBlock = some x → ¬ O x
  oL : ∀ x, vL.ownBlock = some x → ¬ O x
  H : OwnBools wr w.heap.size vH hits
  L : OwnInts wr w.heap.size vL held
  bel : Below w.heap.size w wr
section
variable {w wr w' : World} {O : Nat → Prop} {b slots : Nat} {s s' : Bk} {vH vL : Value} {hits : List Bool} {held : List Int}
theorem TS.book (t : TS w wr O b slots s vH vL hits held) (h : BookAt O w' b slots s') (hk : KeepP O wr w') : TS w w' O b slots s' vH vL hits held :=
  ⟨h, t.lo, t.oH, t.oL, t.H.keep fun g hg => hk.block g (World.ownsRow.lt t.H g hg).2 (t.oH g hg), t.L.keep fun g hg => hk.block g (World.ownsRow.lt t.L g hg).2 (t.oL g hg), t.bel.trans (hk.toBelow t.bel.size t.lo)⟩
theorem TS.below (t : TS w wr O b slots s vH vL hits held) (hb : Below wr.heap.size wr w') : TS w w' O b slots s vH vL hits held := t.book (t.bk.below hb) (KeepP.of_below hb (Nat.le_refl _))
theorem TS.keep0 (t : TS w wr O b slots s vH vL hits held) (hk : Keep [] wr w') : TS w w' O b slots s vH vL hits held := t.below (hk.below (Nat.le_refl _) (by simp))
theorem TS.tab (t : TS w wr O b slots s vH vL hits held) (ht : Tab w) : Tab wr := ht.below t.bel (Nat.le_refl _)
theorem TS.errs (t : TS w wr O b slots s vH vL hits held) (ht : Errs w) : Errs wr := ht.below t.bel (Nat.le_refl _)
end
theorem TS.start {w w1 w2 : World} {O : Nat → Prop} {b slots : Nat} {s : Bk} {vH vL : Value} {hits : List Bool} {held : List Int} (hb : BookAt O w1 b slots s) (hlo : ∀ x, x < w.heap.size → ¬ O x) (h1 : Below w.heap.size w w1) (hl : LruAt w1 w2 vH vL hits held) :
    ∃ O', TS w w2 O' b slots s vH vL hits held := by
  have hk : KeepP (fun _ => False) w1 w2 := KeepP.of_below hl.bel (Nat.le_refl _)
  refine ⟨_, hb.away hk (fun _ _ _ hf => hf), fun x hx ho => hlo x hx ho.1, fun x hx ho => ?_, fun x hx ho => ?_, ?_, own_low hl.L.own h1.size, h1.trans (hl.bel.mono h1.size)⟩
  · have := World.ownsRow.lt hl.H x hx
    rcases ho.2 with h | h <;> omega
  · have := World.ownsRow.lt hl.L.own x hx
    rcases ho.2 with h | h <;> omega
  · obtain ⟨e1, h2⟩ := hl.H
    refine ⟨e1, ?_⟩
    rcases h2 with h2 | ⟨g, cap, cur, e, hg, r⟩
    · exact .inl h2
    · exact .inr ⟨g, cap, cur, e, by have := h1.size; omega, r⟩
theorem OwnBools.view {w : World} {base : Nat} {v : Value} {l : List Bool} (h : OwnBools w base v l) : ∃ a c, v = .slice a l.length c ∧ BoolsIn w w.heap.size a l := by
  obtain ⟨hl, ⟨rfl, hn⟩ | ⟨g, cap, cur, rfl, _, hh, _, _, _, ht⟩⟩ := h
  · exact ⟨none, 0, by rw [hn], fun h0 => by omega⟩
  · refine ⟨_, _, rfl, fun _ => ⟨g, 0, rfl, (Array.getElem?_eq_some_iff.1 hh).1, fun i x hx => ?_⟩⟩
    have hi := (List.getElem?_eq_some_iff.1 hx).1
    have h2 : (bools l)[i]? = some (.bool x) := by simp [bools, hx]
    rw [← ht, List.getElem?_take_of_lt (by omega)] at h2
    simp [World.cell?, hh]
    simpa using h2
def TbPost (w : World) (e : Ending) (w' : World) : Prop := e = .returned (.bool true) ∧ Below w.heap.size w w'
def TbRel (w : World) (b slots n : Nat) (reqs : List Int) (vH vL : Value) (v i : Value) (wr : World) : Prop :=
  ∃ (j : Nat) (O : Nat → Prop), j ≤ n ∧ i = .int .i64 j ∧ v = .int .i64 (tbMiss slots reqs j : Nat) ∧ TB slots reqs j ∧ TS w wr O b slots (runB slots (tbSteps reqs j)) vH vL (lrRun slots reqs).hits (lrRun slots reqs).held
set_option maxHeartbeats 8000000 in
set_option maxRecDepth 1000000 in
theorem topbook_any (a : Option Addr) (n c : Nat) (reqs : List Int) (x1 : Int) (w : World) (hl : reqs.length = n) (h : IntsIn w w.heap.size a reqs) (ht : Tab w) (he : Errs w) :
    Calls Tryz.prog 9 #[.slice a n c, .int .i64 x1] w (TbPost w) := by
  have HT := Lib.hid ht; have HE := Lib.hid he; have HI := Lib.hid h; have HL := Lib.hid hl
  clear ht he h hl
  have p1 : putV 1 bk0 3 0 = -1 := by decide
  have p2 : putE bk0 3 0 = 0 := by decide
  go_enter Tryz.func9, Tryz.ntmps9
  go_wp2_with fail
  refine (new_yes 1 _ (by decide) (by decide)).mono ?_
  rintro e w1 ⟨b1, rfl, hB1, hbw1, hb1⟩
  have HB1 := Lib.hid hB1; have HW1 := Lib.hid hb1
  clear hB1 hb1 hbw1
  go_wp2_with (first
    | (go_at_call 16; refine (keysB_any _ HB1.out).mono ?_; rintro e w2 ⟨v2, rfl, ho2, hb2⟩; (obtain ⟨a2, c2, hv2, _⟩ := ho2.shape); rw [show bk0.keys.length = 0 from rfl] at hv2; subst hv2; have HB2 := Lib.hid (HB1.out.below hb2); have HW2 := Lib.hid (HW1.out.trans (hb2.mono HW1.out.size)); clear ho2 hb2)
    | (go_at_call 14; refine (text_any _ HB2.out).mono ?_; rintro e w3 ⟨rfl, hb3, hk3⟩; have HB3 := Lib.hid hb3; have HW3 : Hid (Below w.heap.size w w3) := Lib.hid (HW2.out.trans (hk3.toBelow HW2.out.size (fun x hx ho => by omega))); clear hb3 hk3))
  have HT3 : Hid (Tab w3) := Lib.hid (HT.out.below HW3.out (Nat.le_refl _))
  refine (put_any b1 1 bk0 3 0 _ HB3.out HT3.out).mono ?_
  rintro e w4 ⟨rfl, hb4, hk4⟩
  have HW4 : Hid (Below w.heap.size w w4) := Lib.hid (HW3.out.trans (hk4.toBelow HW3.out.size (fun x hx ho => by omega)))
  rw [p1, p2, errw_zero]
  clear hb4 hk4 HB1 HB2 HB3 HW1 HW2 HW3 HT3 p1 p2
  have hw4 : w.heap.size ≤ w4.heap.size := HW4.out.size
  by_cases hr0 : reqE n x1 reqs = 0
  · have hq : n ≤ 40 ∧ (∀ x ∈ reqs, 0 ≤ x ∧ x ≤ 15) ∧ 1 ≤ x1 ∧ x1 ≤ 8 := by
      unfold reqE at hr0
      split at hr0
      · cases hr0
      split at hr0
      · rename_i h1 h2
        exact ⟨by omega, of_decide_eq_true h2.1, h2.2⟩
      · cases hr0
    obtain ⟨hn, hrq, hx1, hx8⟩ := hq
    obtain ⟨slots, rfl⟩ := Int.eq_ofNat_of_zero_le (show 0 ≤ x1 by omega)
    have hs1 : 1 ≤ slots := by omega
    have HRQ := Lib.hid hrq
    clear hr0 hrq
    go_wp2_with fail
    refine (new_yes slots _ hs1 (by omega)).mono ?_
    rintro e w5 ⟨b, rfl, hB5, hbw5, hb5⟩
    have HB5 := Lib.hid hB5; have HW5 := Lib.hid (HW4.out.trans (hb5.mono HW4.out.size))
    clear hB5 hb5 hbw5
    go_wp2_with fail
    refine (lru_run a n c slots w5.heap.size reqs _ HL.out ((HI.out.below HW5.out).more HW5.out.size) (Nat.le_refl _) HRQ.out hn hx1 hx8).mono ?_
    rintro e w6 ⟨vH, vL, rfl, hat⟩
    obtain ⟨O0, hts⟩ := TS.start HB5.out (fun x hx ho => by omega) HW5.out hat
    have HTS := Lib.hid hts
    have hlh := lrRun_hits slots reqs
    have hld := lrRun_held (slots := slots) reqs hs1
    obtain ⟨aH, cH, hvH, _⟩ := hts.H.view
    subst hvH
    obtain ⟨aL, cL, hvL, _⟩ := hts.L.shape
    subst hvL
    obtain ⟨nL, hnL⟩ : ∃ nL, nL = (lrRun slots reqs).held.length := ⟨_, rfl⟩
    rw [hlh, HL.out] at HTS ⊢
    rw [← hnL] at HTS hld ⊢
    have HNL := Lib.hid hnL; have HLH : Hid ((lrRun slots reqs).hits.length = n) := Lib.hid (by rw [hlh, HL.out])
    clear hat hts hlh hnL HB5
    go_wp2
    go_loopw [13, 14] (fun v i wr => TbRel w b slots n reqs (.slice aH n cH) (.slice aL nL cL) v i wr) (fun _ i _ => n - (intOf i).toNat)
    case atStart => exact ⟨0, O0, Nat.zero_le _, rfl, rfl, tb_zero slots reqs, HTS.out⟩
    case round =>
      obtain ⟨j, O, hj, rfl, rfl, htb, hts⟩ := hrel
      have HB := Lib.hid htb; have HS := Lib.hid hts
      clear htb hts HTS
      by_cases hlt : j < n
      · have hjl : j < reqs.length := by rw [HL.out]; exact hlt
        obtain ⟨q1, q2, q3⟩ := tb_step HB.out hs1 hjl HRQ.out (by rw [HL.out]; exact hn)
        have hhit := tb_hit HB.out hjl
        have hmle := HB.out.le
        obtain ⟨bx, off, rfl, hbb, hcx⟩ := HI.out.at_ hjl
        obtain ⟨p, hp⟩ : ∃ p, p = reqs.getD j 0 := ⟨_, rfl⟩
        have hpj : reqs[j] = p := by rw [hp, List.getD_eq_getElem?_getD, List.getElem?_eq_getElem hjl]; rfl
        rw [hpj] at hcx
        have HCX : Hid (∀ w' : World, Below w.heap.size w w' → w'.cell? ⟨bx, off + j, none⟩ = some (.int .i64 p)) := Lib.hid fun w' hb => (hb.cell (p := ⟨bx, off + j, none⟩) hbb).trans hcx
        have HM1 : Hid (tbMiss slots reqs (j + 1) = tbMiss slots reqs j + (if 0 ≤ putV slots (runB slots (tbSteps reqs j)) p j then 1 else 0)) := Lib.hid (by rw [hp]; rfl)
        have HRN : Hid (runB slots (tbSteps reqs (j + 1)) = putS slots (runB slots (tbSteps reqs j)) p j) := Lib.hid (by rw [tb_run, ← hp])
        rw [← hp] at q1 q2 hhit
        obtain ⟨s, hs⟩ : ∃ s, s = runB slots (tbSteps reqs j) := ⟨_, rfl⟩
        rw [← hs] at HS q1 q2 hhit HM1 HRN
        have hkl : s.keys.length ≤ 8 := by
          have h5 := HS.out.bk.ok.1.len
          rw [show s.keys.length = s.M.length by unfold Bk.keys; rw [List.length_map]]
          omega
        obtain ⟨had, hhad⟩ : ∃ had, had = decide (p ∈ s.keys) := ⟨_, rfl⟩
        rw [← hhad] at hhit
        have HQ1 := Lib.hid q1; have HTB2 := Lib.hid q3
        have HQ2 : Hid (had = true → putV slots s p j = -1) := Lib.hid fun h => q2 (by rw [hhad] at h; exact of_decide_eq_true h)
        have HHD := Lib.hid hhad; have HHT := Lib.hid hhit
        obtain ⟨mm, hmm⟩ : ∃ mm, mm = tbMiss slots reqs j := ⟨_, rfl⟩
        rw [← hmm] at hmle HM1 ⊢
        clear q1 q2 q3 hp hpj hcx hs hhad hhit hmm HB
        have hj0 : (0 : Int) ≤ (j : Int) := by omega
        have hjn : (j : Int) < (n : Int) := by omega
        go_upto_region 15 with fail
        go_region_held3 (fun w' => w'.cell? ⟨bx, off + j, none⟩ = some (.int .i64 p))
          (first | exact HCX.out _ HS.out.bel | exact HCX.out _ (HS.out.keep0 (Keep.refl [] wr).drew).bel | exact HCX.out _ HS7.out.bel | fail)
          (first
            | (go_at_call 16; refine (keysB_any _ (HS.out.keep0 (Keep.refl [] wr).drew).bk).mono ?_; rintro e w7 ⟨v7, rfl, ho7, hb7⟩; (obtain ⟨a7, c7, hv7, hi7⟩ := ho7.shape); subst hv7; have HI7 := Lib.hid hi7; have HS7 := Lib.hid ((HS.out.keep0 (Keep.refl [] wr).drew).below hb7); clear ho7 hb7 hi7)
            | (go_at_call 26; refine (rHas a7 s.keys.length c7 _ s.keys p _ rfl HI7.out (by omega)).mono ?_; rintro e w8 ⟨rfl, rfl⟩; rw [← HHD.out])
            | fail)
        have HS8 := HS7
        obtain ⟨aH2, cH2, ev, hbi⟩ := HS8.out.H.view
        rw [HLH.out] at ev
        injection ev with ev1 ev2 ev3
        subst ev1; subst ev3
        obtain ⟨bh, oh, rfl, hbh, hch⟩ := hbi (by rw [HLH.out]; omega)
        have hcj := hch j had HHT.out
        have hneq : (had != had) = false := by cases had <;> rfl
        clear hch hbi ev2
        obtain ⟨out, hout⟩ : ∃ out, out = putV slots s p j := ⟨_, rfl⟩
        have HOUT := Lib.hid hout
        have HQ3 : Hid (had = true → out = -1) := Lib.hid (by rw [hout]; exact HQ2.out)
        have HM2 : Hid (tbMiss slots reqs (j + 1) = mm + (if 0 ≤ out then 1 else 0)) := Lib.hid (by rw [hout]; exact HM1.out)
        clear hout HQ2 HM1
        have hcx2 := HCX.out _ HS8.out.bel
        go_wp2_with fail
        refine (put_any b slots s p j _ HS8.out.bk (HS8.out.tab HT.out)).mono ?_
        rintro e w9 ⟨rfl, hb9, hk9⟩
        have HS9 := Lib.hid (HS8.out.book hb9 hk9)
        rw [HQ1.out, errw_zero, ← HOUT.out]
        clear hb9 hk9 hcj hcx2
        cases had with
        | true =>
          have ho := HQ3.out rfl
          have HM3 : Hid (tbMiss slots reqs (j + 1) = mm) := Lib.hid (by rw [HM2.out, if_neg (by omega)]; rfl)
          rw [ho]
          clear ho HOUT HQ3 HM2
          go_wp2
          go_roundw
          case rel => exact ⟨j + 1, O, hlt, by simp, by rw [HM3.out], HTB2.out, by rw [HRN.out]; exact HS9.out⟩
          case measure => simp [intOf]; omega
        | false =>
          by_cases ho : 0 ≤ out
          · have HM3 : Hid (tbMiss slots reqs (j + 1) = mm + 1) := Lib.hid (by rw [HM2.out, if_pos ho])
            clear HOUT HQ3 HM2
            go_wp2
            go_roundw
            case rel => exact ⟨j + 1, O, hlt, by simp, by rw [HM3.out]; simp, HTB2.out, by rw [HRN.out]; exact HS9.out⟩
            case measure => simp [intOf]; omega
          · have HM3 : Hid (tbMiss slots reqs (j + 1) = mm) := Lib.hid (by rw [HM2.out, if_neg ho]; rfl)
            clear HOUT HQ3 HM2
            go_wp2
            go_roundw
            case rel => exact ⟨j + 1, O, hlt, by simp, by rw [HM3.out], HTB2.out, by rw [HRN.out]; exact HS9.out⟩
            case measure => simp [intOf]; omega
      · obtain rfl : j = n := by omega
        have htb := HB.out
        rw [show j = reqs.length from HL.out.symm] at htb
        obtain ⟨e1, e2, e3⟩ := tb_end htb hs1
        rw [HL.out] at e1 e2 e3
        obtain ⟨s, hs⟩ : ∃ s, s = runB slots (tbSteps reqs j) := ⟨_, rfl⟩
        rw [← hs] at HS e1 e2
        have hmle := HB.out.le
        obtain ⟨mm, hmm⟩ : ∃ mm, mm = tbMiss slots reqs j := ⟨_, rfl⟩
        rw [← hmm] at e3 hmle ⊢
        have htx : s.text.length ≤ 2000 := by have h1 := HS.out.bk.ok.1.text; have h2 := HS.out.bk.ok.1.many; omega
        have HE1 := Lib.hid e1; have HE2 := Lib.hid e2; have HE3 := Lib.hid e3
        clear htb e1 e2 e3 hs hmm HB
        have hji : ¬ (j : Int) < (j : Int) := by omega
        go_wp2_with fail
        refine (text_any _ HS.out.bk).mono ?_
        rintro e w7 ⟨rfl, hb7, hk7⟩
        have HS7 := Lib.hid (HS.out.book hb7 hk7)
        clear hb7 hk7 HS
        go_wp2_with fail
        refine (open_any slots s.text w7 (HS7.out.tab HT.out) (HS7.out.errs HE.out)).mono ?_
        rintro e w8 ⟨hb8, ⟨hno, _⟩ | ⟨m', hm', _, _, ⟨hl8, _⟩ | ⟨_, ⟨he8, _⟩ | ⟨_, b2, rfl, hbk2⟩⟩⟩⟩
        · exact absurd ⟨by omega, by omega⟩ hno
        · omega
        · obtain rfl : slots = m' := by omega
          rw [HE1.out] at he8
          exact absurd rfl he8
        obtain rfl : slots = m' := by omega
        rw [HE1.out] at hbk2 ⊢
        have HS8 := Lib.hid (HS7.out.below hb8); have HK2 := Lib.hid hbk2
        clear hb8 hbk2 hm' HS7
        have hjj : ((j : Int) == (j : Int)) = true := by simp
        have HKL : Hid (s.keys.length = nL) := Lib.hid (by rw [HE2.out, HNL.out])
        have hn8 : nL ≤ maxLen := by unfold maxLen; omega
        have hmb := missed_bd (lrRun slots reqs).hits
        obtain ⟨ms, hms⟩ : ∃ ms, ms = missed (lrRun slots reqs).hits := ⟨_, rfl⟩
        rw [← hms, HLH.out] at hmb
        have HMS := Lib.hid hms
        have hfin : (mm : Int) = ms - (nL : Int) := by rw [HE3.out, HNL.out, HMS.out]
        obtain ⟨hmb0, hmb1⟩ := hmb
        have hwr : IntKind.i64.wrap (ms - (nL : Int)) = ms - (nL : Int) := IntWalk.i64_in _ (by omega)
        have hfe : ((mm : Int) == ms - (nL : Int)) = true := by rw [hfin]; simp
        clear hms hfin
        go_wp2_with fail
        refine (keysB_any _ HK2.out).mono ?_
        rintro e w9 ⟨v9, rfl, ho9, hb9⟩
        obtain ⟨a9, c9, hv9, hi9⟩ := ho9.shape
        rw [HKL.out] at hv9
        subst hv9
        have HI9 := Lib.hid hi9; have HS9 := Lib.hid (HS8.out.below hb9)
        clear ho9 hb9 hi9
        have hiL : IntsIn w9 w9.heap.size aL s.keys := by
          obtain ⟨a', c', e, h2⟩ := HS9.out.L.shape
          injection e with e1 _ _
          subst e1
          rw [HE2.out]
          exact h2
        have HIL := Lib.hid hiL
        clear hiL
        go_wp2_with fail
        refine (ints_same_keep a9 aL nL c9 cL _ _ s.keys _ HKL.out HI9.out HIL.out hn8).mono ?_
        rintro e w10 ⟨rfl, hk10⟩
        have HS10 := Lib.hid (HS9.out.keep0 hk10)
        clear hk10
        have hbv : BoolsIn w10 w10.heap.size aH (lrRun slots reqs).hits := by
          obtain ⟨a', c', e, h2⟩ := HS10.out.H.view
          injection e with e1 _ _
          subst e1
          exact h2
        have HBV := Lib.hid hbv
        clear hbv
        go_wp2_with fail
        refine (misses_any aH j cH _ (lrRun slots reqs).hits _ HLH.out HBV.out (by omega)).mono ?_
        rintro e w11 ⟨rfl, rfl⟩
        rw [← HMS.out]
        go_wp2
        go_ret
        exact ⟨rfl, HS10.out.bel⟩
  · by_cases hs : 1 ≤ x1 ∧ x1 ≤ 8
    · obtain ⟨slots, rfl⟩ := Int.eq_ofNat_of_zero_le (show 0 ≤ x1 by omega)
      go_wp2_with fail
      refine (new_yes slots _ (by omega) (by omega)).mono ?_
      rintro e w5 ⟨b, rfl, hB5, hbw5, hb5⟩
      have HW5 := Lib.hid (HW4.out.trans (hb5.mono HW4.out.size))
      clear hB5 hb5 hbw5
      go_wp2_with fail
      refine (lru_no a n c w5.heap.size slots reqs _ HL.out ((HI.out.below HW5.out).more HW5.out.size) hr0).mono ?_
      rintro e w6 ⟨rfl, rfl⟩
      go_wp2
      go_ret
      exact ⟨rfl, HW5.out⟩
    · go_wp2_with fail
      refine (new_no x1 _ hs).mono ?_
      rintro e w5 ⟨rfl, rfl⟩
      go_wp2_with fail
      refine (lru_no a n c w4.heap.size x1 reqs _ HL.out ((HI.out.below HW4.out).more HW4.out.size) hr0).mono ?_
      rintro e w6 ⟨rfl, rfl⟩
      go_wp2
      go_ret
      exact ⟨rfl, HW4.out⟩
theorem topBook_walk (a0 : Option Addr) (c0 : Nat) (l0 : List Int) (x1 : Int) (w : World) (h0 : IntsIn w w.heap.size a0 l0) (_ : ∀ y ∈ l0, I64 y) (_ : Reached l0) (_ : I64 x1) (hg : Tab w ∧ Errs w) :
    Calls Tryz.prog 9 #[.slice a0 l0.length c0, .int .i64 x1] w fun e w' => e = .returned (.bool true) ∧ Below w.heap.size w w' := topbook_any a0 l0.length c0 l0 x1 w rfl h0 hg.1 hg.2
end Go.Proofs.YticckfioggeaeaaGreatDoor
