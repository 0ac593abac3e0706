/-
  SplitFinds: the walk.
-/
import Derived.Test.YthldhbcidcmmaaaSplitOps
import Derived.Test.YthldhbcidcmmaaaSplitFact
import Derived.Test.YthldhbcidcmmaaaLift
namespace Go.Proofs.Ythldhbcidcmmaaa
open Go.RowKit

def FindRel (w : World) (t n : Nat) (has i : Value) (wr : World) : Prop := ∃ (j : Nat) (S hs : List Int), j ≤ n ∧ j ≤ 40 ∧ hs.length ≤ j ∧ i = .int .i64 j ∧ TabHas w wr t has S hs
def PowRel (D : Nat) (p i : Value) : Prop := ∃ j : Nat, j ≤ D ∧ i = .int .i64 j ∧ p = .int .i64 ((2 ^ j : Nat) : Int)
def BelRel (w5 : World) (n : Nat) (i : Value) (wr : World) : Prop := ∃ j : Nat, j ≤ n ∧ i = .int .i64 j ∧ Below w5.heap.size w5 wr
theorem rHas_is (a : Option Addr) (n c B : Nat) (l : List Int) (x : Int) (d : Bool) (w : World) (hl : l.length = n) (h : IntsIn w B a l) (hn : n ≤ 100000000000) (hd : decide (x ∈ l) = d) :
    Calls Try.prog 25 #[.slice a n c, .int .i64 x] w fun e w' => e = .returned (.bool d) ∧ w = w' := by
  subst hd; exact rHas a n c B l x w hl h hn
theorem bits_is (x : Int) (m : Nat) (r : Nat) (w : World) (h0 : 0 ≤ x) (h1 : x ≤ 1000000) (hm : m ≤ 6) (hr : x % 2 ^ m = (r : Int)) :
    Calls Try.prog 27 #[.int .i64 x, .int .i64 m] w fun e w' => e = .returned (.int .i64 r) ∧ w = w' := by
  obtain ⟨k, rfl⟩ := Int.eq_ofNat_of_zero_le h0
  refine (bits_any k m w (by omega) hm).mono ?_
  rintro e w' ⟨rfl, rfl⟩
  refine ⟨ret_int ?_, rfl⟩
  rw [← hr]; push_cast; rfl
theorem cls_at {S : List Int} {x : Int} {i D e : Nat} (hx : x ∈ S) (he : e ≤ D) (hi : x % 2 ^ D = (i : Int)) : x ∈ cls S i e := by
  rw [mem_cls]
  refine ⟨hx, mod_down he ?_⟩
  rw [← hi, Int.emod_emod_of_dvd x (Int.dvd_refl _)]
theorem mod_lt_pow (x : Int) (D : Nat) : ∃ i : Nat, i < 2 ^ D ∧ x % 2 ^ D = (i : Int) := by
  have h0 := Int.emod_nonneg x (b := (2 : Int) ^ D) (Int.ne_of_gt (pow2_pos D))
  have h1 := Int.emod_lt_of_pos x (pow2_pos D)
  obtain ⟨i, hi⟩ := Int.eq_ofNat_of_zero_le h0
  refine ⟨i, ?_, hi⟩
  rw [hi] at h1
  have e : (2 : Int) ^ D = ((2 ^ D : Nat) : Int) := by simp
  rw [e] at h1
  omega

set_option maxHeartbeats 8000000 in
set_option maxRecDepth 100000 in
theorem splitFinds_walk (a0 : Option Addr) (c0 : Nat) (l0 : List Int) (x1 : Int) (w : World) (h0 : IntsIn w w.heap.size a0 l0) (_ : ∀ y ∈ l0, I64 y) (m0 : Reached l0) (h1 : I64 x1) :
    Calls Try.prog 6 #[.slice a0 l0.length c0, .int .i64 x1] w fun e w' => e = .returned (.bool true) ∧ Below w.heap.size w w' := by
  have hx1 := h1.bd
  unfold Reached reachBytes at m0
  have hx2 : x1 < 9223372036854775808 := by omega
  have H0 := Lib.hid h0
  obtain ⟨n, hn⟩ : ∃ n, l0.length = n := ⟨_, rfl⟩
  rw [hn] at m0 ⊢
  have HN := Lib.hid hn
  obtain ⟨i0, hi, hz0, hz1, hz2⟩ := info_parts info_int
  clear h0 h1 hn hx1
  go_enter Try.func6, Try.ntmps6
  go_wp2_with fail
  refine (splitFact_any _).mono ?_
  rintro e w1 ⟨rfl, hb1⟩
  have HB1 := Lib.hid hb1
  clear hb1
  go_wp2_with fail
  refine (tNew_any _).mono ?_
  rintro e w2 ⟨t, rfl, h2, hb2⟩
  have HST : Hid (TabHas w w2 t (.slice none 0 0) [] []) := Lib.hid ⟨_, h2, OwnInts.nil _ _, fun x hx => by simp [Value.ownBlock] at hx, fun x hx => by have := HB1.out.size; omega, HB1.out.trans (hb2.mono HB1.out.size), List.Perm.refl _⟩
  clear h2 hb2
  go_wp2
  go_loopw [7, 8] (fun has i wr => FindRel w t n has i wr) (fun _ i _ => n - (intOf i).toNat)
  case atStart => exact ⟨0, [], [], by omega, by omega, by simp, rfl, HST.out⟩
  case round =>
    obtain ⟨j, S, hs, hj, hj40, hsl, rfl, hth⟩ := hrel
    have HTH := Lib.hid hth
    clear hth
    by_cases hlt : j < n ∧ j < 40
    · obtain ⟨hlt, hlt40⟩ := hlt
      have hjl : j < l0.length := by rw [HN.out]; exact hlt
      obtain ⟨b, off, rfl, hb, hc⟩ := H0.out.at_ hjl
      obtain ⟨x, hx⟩ : ∃ x, x = l0[j] := ⟨_, rfl⟩
      rw [← hx] at hc
      clear hx
      obtain ⟨O, hT, hv, hno, hlo, hbel, hp⟩ := HTH.out
      have hcw := (hbel.cell (p := ⟨b, off + j, none⟩) hb).trans hc
      have hji : (j : Int) < (n : Int) := by omega
      have hj40i : (j : Int) < 40 := by omega
      have hj0 : (0 : Int) ≤ (j : Int) := by omega
      have HT := Lib.hid hT; have HV := Lib.hid hv; have HNO := Lib.hid hno; have HLO := Lib.hid hlo; have HBEL := Lib.hid hbel; have HPM := Lib.hid hp
      have HC : Hid (∀ w' : World, Below w.heap.size w w' → w'.cell? ⟨b, off + j, none⟩ = some (.int .i64 x)) := Lib.hid fun w' hb' => (hb'.cell (p := ⟨b, off + j, none⟩) hb).trans hc
      clear hT hv hno hlo hbel hp hc
      obtain ⟨k, hk⟩ : ∃ k, addE S x = k := ⟨_, rfl⟩
      by_cases h0 : k = 0
      · subst h0
        have HK := Lib.hid hk
        clear hk
        go_wp2_with fail
        refine (tAdd_yes x HT.out HK.out).mono ?_
        rintro e w3 ⟨rfl, h3, hk3⟩
        have hb3 : Below w.heap.size w w3 := HBEL.out.trans (hk3.toBelow HBEL.out.size HLO.out)
        have hc3 := HC.out w3 hb3
        have hv3 := HV.out.keepP hk3 HNO.out
        have H3 := Lib.hid h3; have HK3 := Lib.hid hk3; have HB3 := Lib.hid hb3; have HV3 := Lib.hid hv3
        have hs3 := hb3.size
        clear h3 hk3 hb3 hv3 hcw
        go_wp2_with (at_builtin; refine wpList_append_own_at _ rfl _ _ 22 rfl w.heap.size 3 i0 (.int .i64 0) 1 8 Try.underlying22 hi hz0 hz1 hz2 rfl (by decide) _ _ _ rfl (HV3.out.alloc _) ⟨w3.heap.size, 0, none⟩ 1 1 [.int .i64 x] rfl rfl (cell_one_new _ _ _) (by intro u hu; simp at hu; subst hu; rfl) (by unfold maxLen; omega) (by omega) (by simp; omega) ?_; intro v' w4 hown' hgrow _ hat; have ho : OwnInts w4 w.heap.size v' (hs ++ [x]) := (by unfold OwnInts; simpa [ints] using hown'); have HNX := Lib.hid (TabHas.yes HV.out HNO.out HLO.out HBEL.out HPM.out H3.out HK3.out ho hgrow hat); clear hown' hgrow hat ho)
        go_roundw
        case rel => exact ⟨j + 1, _, _, hlt, by omega, by simp; omega, by simp, HNX.out⟩
        case measure => simp [intOf]; omega
      · have HK := Lib.hid hk
        have HK0 := Lib.hid h0
        clear hk h0
        go_wp2_with fail
        refine (tAdd_no x k HT.out HK.out HK0.out).mono ?_
        rintro e w3 ⟨rfl, h3, hk3⟩
        have HNX := Lib.hid (TabHas.no HV.out HNO.out HLO.out HBEL.out HPM.out h3 hk3)
        clear h3 hk3 hcw
        go_wp2
        go_roundw
        case rel => exact ⟨j + 1, S, hs, hlt, by omega, by omega, by simp, HNX.out⟩
        case measure => simp [intOf]; omega
    · have hgo : (j : Int) < (n : Int) → ¬ (j : Int) < 40 := fun h => by omega
      obtain ⟨O, hT, hv, hno, hlo, hbel, hp⟩ := HTH.out
      obtain ⟨hup, hSb⟩ := hT.up
      obtain ⟨D, deep, hTD, hdir, hD6⟩ := hT.open_
      obtain ⟨av, cv, rfl, hvin⟩ := hv.shape
      obtain ⟨hl, hhl⟩ : ∃ hl, hs.length = hl := ⟨_, rfl⟩
      rw [hhl] at hsl ⊢
      have HMEM := Lib.hid HTH.out.mem
      have HTD := Lib.hid hTD; have HDIR := Lib.hid hdir; have HSB := Lib.hid hSb; have HVI := Lib.hid hvin; have HHL := Lib.hid hhl; have HBEL := Lib.hid hbel
      have HVX : Hid (∀ w', Below wr.heap.size wr w' → IntsIn w' w'.heap.size av hs ∧ TabD O w' t S D deep) := Lib.hid fun w' hb' => ⟨(hvin.below hb').more hb'.size, hTD.bel hb'⟩
      clear hT hv hno hlo hbel hp hup hSb hTD hdir hvin hhl
      have hcase : (j < n ∧ decide ((j : Int) < 40) = false) ∨ ¬ j < n := by
        rcases Nat.lt_or_ge j n with g | g
        · exact .inl ⟨g, by simp; omega⟩
        · exact .inr (by omega)
      have hD0 : (0 : Int) ≤ (D : Int) := by omega
      have hD6i : (D : Int) ≤ 6 := by omega
      obtain ⟨b, hbb⟩ : ∃ b, decide (x1 ∈ S) = b := ⟨_, rfl⟩
      have HB2 : Hid (decide (x1 ∈ hs) = b) := Lib.hid (by rw [← hbb]; exact decide_eq_decide.2 (HMEM.out x1))
      have HBB := Lib.hid hbb
      clear hbb hgo hlt
      have hx1b : decide ((j : Int) < (n : Int)) = decide (j < n) := by simp
      obtain ⟨w5, rfl⟩ : ∃ w5, w5 = wr := ⟨_, rfl⟩
      rcases hcase with ⟨g1, g2⟩ | g1
      all_goals
        first
          | (have g3 : decide (j < n) = true := (by simpa using g1))
          | (have g3 : decide (j < n) = false := (by simpa using g1))
      all_goals clear hx1b g1
      all_goals
        go_wp2_with fail
        refine HTD.out.depth.mono ?_
        rintro e w' ⟨rfl, rfl⟩
        go_wp2_with fail
        refine (in_yes _ _ _ _ hD0 hD6i).mono ?_
        rintro e w' ⟨rfl, rfl⟩
        go_wp2_with fail
        refine (HTD.out.has x1 b hx2 HBB.out).mono ?_
        rintro e w6 ⟨rfl, hk6⟩
        have hb6 : Below w5.heap.size w5 w6 := hk6.below (Nat.le_refl _) (by simp)
        have HB6 := Lib.hid hb6
        clear hk6 hb6
        go_wp2_with fail
        refine (rHas_is av hl cv _ hs x1 b _ HHL.out (HVX.out _ HB6.out).1 (by omega) HB2.out).mono ?_
        rintro e w' ⟨rfl, rfl⟩
        go_wp2
        go_loopw [10, 11, 12] (fun i _ _ wr => BelRel w5 hl i wr) (fun i _ _ _ => hl - (intOf i).toNat)
        case atStart => exact ⟨0, by omega, rfl, HB6.out⟩
        case round =>
          obtain ⟨q, hq, rfl, hbq⟩ := hrel
          obtain ⟨hvq, htq⟩ := HVX.out _ hbq
          have HBQ := Lib.hid hbq
          by_cases hlt : q < hl
          · have hql : q < hs.length := by rw [HHL.out]; exact hlt
            have HTQ := Lib.hid htq
            obtain ⟨bq, oq, rfl, hbb, hcq0⟩ := HVI.out.at_ hql
            have hcq := (hbq.cell (p := ⟨bq, oq + q, none⟩) hbb).trans hcq0
            have hmem := (HMEM.out _).1 (List.getElem_mem hql)
            obtain ⟨x, hx⟩ : ∃ x, x = hs[q] := ⟨_, rfl⟩
            have hxm : x ∈ hs := by rw [hx]; exact List.getElem_mem hql
            rw [← hx] at hcq hcq0 hmem
            have HCQ : Hid (∀ w', Below w5.heap.size w5 w' → w'.cell? ⟨bq, oq + q, none⟩ = some (.int .i64 x)) := Lib.hid fun w' hb' => (hb'.cell (p := ⟨bq, oq + q, none⟩) hbb).trans hcq0
            obtain ⟨hx0, hx6⟩ := HSB.out x hmem
            obtain ⟨i, hi2, hi3⟩ := mod_lt_pow x D
            have HXI := Lib.hid hi3; have HI2 := Lib.hid hi2; have HXM := Lib.hid hxm; have HXS := Lib.hid hmem
            have hqi : (q : Int) < (hl : Int) := by omega
            have hq0 : (0 : Int) ≤ (q : Int) := by omega
            clear hx hi3 hi2 hxm hmem hvq htq hbq hcq0
            go_wp2_with fail
            refine (bits_is x D i _ hx0 hx6 hD6 HXI.out).mono ?_
            rintro e w' ⟨rfl, rfl⟩
            go_wp2_with fail
            refine (HTQ.out.page i HI2.out).mono ?_
            rintro e w7 ⟨a7, c7, rfl, hown7, hb7⟩
            have hbt7 : Below w5.heap.size w5 w7 := HBQ.out.trans (hb7.mono HBQ.out.size)
            obtain ⟨hv7, ht7⟩ := HVX.out _ hbt7
            have hcq7 := HCQ.out _ hbt7
            obtain ⟨l7, hl7⟩ : ∃ l7, l7 = cls S i (deep i) := ⟨_, rfl⟩
            have hl7m : x ∈ l7 := by rw [hl7]; exact cls_at HXS.out (HDIR.out.le i) HXI.out
            have hl73 : l7.length ≤ 3 := by rw [hl7]; exact HDIR.out.few i
            rw [← hl7] at hown7 ⊢
            obtain ⟨m7, hm7⟩ : ∃ m7, l7.length = m7 := ⟨_, rfl⟩
            rw [hm7] at hown7 hl73 ⊢
            obtain ⟨aq, cq, eq, hin7⟩ := hown7.shape
            have hin8 : IntsIn w7 w7.heap.size a7 l7 := by
              simp only [Value.slice.injEq] at eq
              rw [eq.1]; exact hin7
            have HIN8 := Lib.hid hin8; have HT7 := Lib.hid ht7; have HM7 := Lib.hid hm7; have HBT7 := Lib.hid hbt7
            have HD1 : Hid (decide (x ∈ S) = true) := Lib.hid (by simpa using HXS.out)
            have HD2 : Hid (decide (x ∈ l7) = true) := Lib.hid (by simpa using hl7m)
            clear hown7 hb7 hbt7 hv7 ht7 hl7 hl7m hm7 eq hin7 hin8
            go_wp2_with fail
            refine (HT7.out.has x true (by omega) HD1.out).mono ?_
            rintro e w8 ⟨rfl, hk8⟩
            have hb8 : Below w7.heap.size w7 w8 := hk8.below (Nat.le_refl _) (by simp)
            have hbt8 := HBT7.out.trans (hb8.mono HBT7.out.size)
            have hcq8 := HCQ.out _ hbt8
            have HIN8b := Lib.hid (HIN8.out.below hb8)
            have HBT8 := Lib.hid hbt8
            clear hk8 hb8 hbt8 hcq hcq7
            go_wp2_with fail
            refine (rHas_is a7 m7 c7 _ l7 x true _ HM7.out HIN8b.out (by omega) HD2.out).mono ?_
            rintro e w' ⟨rfl, rfl⟩
            go_wp2
            go_roundw
            case rel => exact ⟨q + 1, hlt, by simp, HBT8.out⟩
            case measure => simp [intOf]; omega
          · obtain rfl : q = hl := by omega
            clear hvq htq hbq
            obtain ⟨N, hN⟩ : ∃ N, N = 2 ^ D := ⟨_, rfl⟩
            have hN64 : N ≤ 64 := by
              have : 2 ^ D ≤ 2 ^ 6 := Nat.pow_le_pow_right (by decide) (by omega)
              omega
            have HNN := Lib.hid hN
            clear hN
            go_wp2
            go_loop [13, 14] (fun p i => PowRel D p i) (fun _ i => D - (intOf i).toNat)
            case atStart => exact ⟨0, by omega, rfl, rfl⟩
            case round =>
              obtain ⟨k, hk, rfl, rfl⟩ := hrel
              have hp : 2 ^ k ≤ 2 ^ 6 := Nat.pow_le_pow_right (by decide) (by omega)
              have hs2 : 2 ^ (k + 1) = 2 ^ k * 2 := Nat.pow_succ ..
              obtain ⟨z, hz⟩ : ∃ z, z = 2 ^ k := ⟨_, rfl⟩
              rw [← hz] at hs2 hp ⊢
              have HZ := Lib.hid hz; have HS2 := Lib.hid hs2
              clear hz hs2
              by_cases hlt3 : k < D
              · have hki : (k : Int) < (D : Int) := by omega
                go_wp2
                go_round
                case rel => exact ⟨k + 1, hlt3, by simp, by rw [HS2.out]; go_num⟩
                case measure => simp [intOf]; omega
              · obtain rfl : k = D := by omega
                obtain rfl : z = N := by rw [HZ.out, HNN.out]
                go_wp2
                go_loopw [15, 16, 17, 18] (fun i _ _ _ wr => BelRel w5 z i wr) (fun i _ _ _ _ => z - (intOf i).toNat)
                case atStart => exact ⟨0, by omega, rfl, HBQ.out⟩
                case round =>
                  obtain ⟨i, hi4, rfl, hbi⟩ := hrel
                  obtain ⟨hvi, hti⟩ := HVX.out _ hbi
                  have HBI := Lib.hid hbi; have HTI := Lib.hid hti
                  clear hvi hti hbi
                  by_cases hlt4 : i < z
                  · have hii : (i : Int) < (z : Int) := by omega
                    have hi0 : (0 : Int) ≤ (i : Int) := by omega
                    go_wp2_with fail
                    refine (HTI.out.page i (by rw [← HNN.out]; exact hlt4)).mono ?_
                    rintro e w7 ⟨a7, c7, rfl, hown7, hb7⟩
                    have hbt7 : Below w5.heap.size w5 w7 := HBI.out.trans (hb7.mono HBI.out.size)
                    obtain ⟨l7, hl7⟩ : ∃ l7, l7 = cls S i (deep i) := ⟨_, rfl⟩
                    have hl73 : l7.length ≤ 3 := by rw [hl7]; exact HDIR.out.few i
                    have hde := HDIR.out.le i
                    rw [← hl7] at hown7 ⊢
                    obtain ⟨m7, hm7⟩ : ∃ m7, l7.length = m7 := ⟨_, rfl⟩
                    rw [hm7] at hown7 hl73 ⊢
                    obtain ⟨aq, cq, eq, hin7⟩ := hown7.shape
                    have hin8 : IntsIn w7 w7.heap.size a7 l7 := by
                      simp only [Value.slice.injEq] at eq
                      rw [eq.1]; exact hin7
                    obtain ⟨ei, hei⟩ : ∃ ei, ei = deep i := ⟨_, rfl⟩
                    rw [← hei] at hde hl7 ⊢
                    have HL7 := Lib.hid hl7; have HIN8 := Lib.hid hin8; have HM7 := Lib.hid hm7; have HBT7 := Lib.hid hbt7
                    have hei0 : (0 : Int) ≤ (ei : Int) := by omega
                    have heiD : (ei : Int) ≤ (k : Int) := by omega
                    have hm3 : ¬ (3 : Int) < (m7 : Int) := by omega
                    clear hown7 hb7 hbt7 hl7 hm7 eq hin7 hin8 hei
                    go_wp2_with fail
                    refine (in_yes _ _ _ _ hei0 heiD).mono ?_
                    rintro e w' ⟨rfl, rfl⟩
                    go_wp2
                    go_loopw [18] (fun q wr => BelRel w7 m7 q wr) (fun q _ => m7 - (intOf q).toNat)
                    case atStart => exact ⟨0, by omega, rfl, Below.refl _ _⟩
                    case round =>
                      obtain ⟨q2, hq2, rfl, hb9⟩ := hrel
                      have HB9 := Lib.hid hb9
                      by_cases hlt5 : q2 < m7
                      · have hql2 : q2 < l7.length := by rw [HM7.out]; exact hlt5
                        obtain ⟨b8, o8, rfl, hb8, hc8⟩ := HIN8.out.at_ hql2
                        have hc9 := (hb9.cell (p := ⟨b8, o8 + q2, none⟩) hb8).trans hc8
                        have hmem := List.getElem_mem hql2
                        obtain ⟨y, hy⟩ : ∃ y, y = l7[q2] := ⟨_, rfl⟩
                        rw [← hy] at hc9 hmem
                        rw [HL7.out, mem_cls] at hmem
                        obtain ⟨hyS, hym⟩ := hmem
                        obtain ⟨hy0, hy6⟩ := HSB.out y hyS
                        have HY1 : Hid (y % 2 ^ ei = ((i % 2 ^ ei : Nat) : Int)) := Lib.hid (by rw [hym]; push_cast; rfl)
                        have HY2 : Hid ((i : Int) % 2 ^ ei = ((i % 2 ^ ei : Nat) : Int)) := Lib.hid (by push_cast; rfl)
                        obtain ⟨r, hr⟩ : ∃ r, r = i % 2 ^ ei := ⟨_, rfl⟩
                        rw [← hr] at HY1 HY2
                        have hbt9 := HBT7.out.trans (hb9.mono HBT7.out.size)
                        have HV9 := Lib.hid (HVX.out _ hbt9).1
                        have HDY : Hid (decide (y ∈ hs) = true) := Lib.hid (by simpa using (HMEM.out y).2 hyS)
                        have hq2i : (q2 : Int) < (m7 : Int) := by omega
                        have hq20 : (0 : Int) ≤ (q2 : Int) := by omega
                        clear hc8 hy hyS hym hr hbt9 hb9
                        go_wp2_with fail
                        refine (bits_is y ei r _ hy0 hy6 (by omega) HY1.out).mono ?_
                        rintro e w' ⟨rfl, rfl⟩
                        go_wp2_with fail
                        refine (bits_is (i : Int) ei r _ hi0 (by omega) (by omega) HY2.out).mono ?_
                        rintro e w' ⟨rfl, rfl⟩
                        go_wp2_with fail
                        refine (rHas_is av q cv _ hs y true _ HHL.out HV9.out (by omega) HDY.out).mono ?_
                        rintro e w' ⟨rfl, rfl⟩
                        go_wp2
                        go_roundw
                        case rel => exact ⟨q2 + 1, hlt5, by simp, HB9.out⟩
                        case measure => simp [intOf]; omega
                      · obtain rfl : q2 = m7 := by omega
                        have HBN := Lib.hid (HBT7.out.trans (hb9.mono HBT7.out.size))
                        clear hb9
                        go_wp2
                        go_roundw
                        case rel => exact ⟨i + 1, hlt4, by simp, HBN.out⟩
                        case measure => simp [intOf]; omega
                  · go_wp2
                    go_ret
                    exact ⟨rfl, HBEL.out.trans (HBI.out.mono HBEL.out.size)⟩
end Go.Proofs.Ythldhbcidcmmaaa
