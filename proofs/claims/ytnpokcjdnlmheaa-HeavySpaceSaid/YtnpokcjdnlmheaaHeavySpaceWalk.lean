/-
  HeavySpace: the walk.
-/
import Derived.Test.YtnpokcjdnlmheaaHeavyKeepWalk
namespace Go.Proofs.Ytnpokcjdnlmheaa
open Go.RowKit

def lstTo (L : List (Int × Int)) : Nat → Int
  | 0 => 0
  | j + 1 => if j = 0 ∨ (L.getD j (0, 0)).2 < lstTo L j then (L.getD j (0, 0)).2 else lstTo L j
theorem lstTo_le (L : List (Int × Int)) : ∀ k j, j < k → lstTo L k ≤ (L.getD j (0, 0)).2
  | 0, j, h => by omega
  | k + 1, j, h => by
    unfold lstTo
    by_cases g : k = 0 ∨ (L.getD k (0, 0)).2 < lstTo L k
    · rw [if_pos g]
      rcases Nat.lt_or_ge j k with a | a
      · have := lstTo_le L k j a
        rcases g with g | g <;> omega
      · obtain rfl : j = k := by omega
        omega
    · rw [if_neg g]
      rcases Nat.lt_or_ge j k with a | a
      · exact lstTo_le L k j a
      · obtain rfl : j = k := by omega
        omega
theorem lstTo_mem (L : List (Int × Int)) : ∀ k, 0 < k → ∃ j, j < k ∧ lstTo L k = (L.getD j (0, 0)).2
  | 0, h => by omega
  | k + 1, _ => by
    unfold lstTo
    by_cases g : k = 0 ∨ (L.getD k (0, 0)).2 < lstTo L k
    · rw [if_pos g]; exact ⟨k, by omega, rfl⟩
    · rw [if_neg g]
      obtain ⟨j, hj, e⟩ := lstTo_mem L k (by omega)
      exact ⟨j, by omega, e⟩
def keptB (L : List (Int × Int)) (k : Nat) (ask : Int) : Bool := (L.take k).any fun x => x.1 == ask
theorem keptB_succ {L : List (Int × Int)} {k : Nat} (ask : Int) (h : k < L.length) : keptB L (k + 1) ask = (keptB L k ask || (L[k].1 == ask)) := by
  unfold keptB
  rw [List.take_succ_eq_append_getElem h, List.any_append]
  simp only [List.any_cons, List.any_nil, Bool.or_false]

def HsRel (w2 : World) (L : List (Int × Int)) (ask : Int) (all least kept i : Value) (wr : World) : Prop :=
  ∃ k : Nat, k ≤ L.length ∧ i = .int .i64 k ∧ all = .int .i64 (sumC (L.take k)) ∧ least = .int .i64 (lstTo L k) ∧ kept = .bool (keptB L k ask) ∧ w2 = wr
def HsRel2 (w2 : World) (L : List (Int × Int)) (i : Value) (wr : World) : Prop := ∃ k : Nat, k ≤ L.length ∧ i = .int .i64 k ∧ w2 = wr

set_option maxHeartbeats 4000000 in
set_option maxRecDepth 100000 in
theorem heavySpace_walk (a0 : Option Addr) (c0 : Nat) (l0 : List Int) (x1 x2 : Int) (w : World) (h0 : IntsIn w w.heap.size a0 l0) (_ : ∀ y ∈ l0, I64 y) (_ : Reached l0) (_ : I64 x1) (_ : I64 x2) :
    Calls Try.prog 10 #[.slice a0 l0.length c0, .int .i64 x1, .int .i64 x2] w fun e w' => e = .returned (.bool true) ∧ Below w.heap.size w w' := by
  have H0 := Lib.hid h0; clear h0
  obtain ⟨n, hn⟩ : ∃ n, n = l0.length := ⟨_, rfl⟩
  rw [← hn]
  have HN := Lib.hid hn.symm; clear hn
  by_cases hok : n ≤ 40 ∧ allB l0 0 1000000 = true ∧ 1 ≤ x1 ∧ x1 ≤ 8
  · obtain ⟨hn4, hall, hk1, hk2⟩ := hok
    obtain ⟨kp, rfl⟩ := Int.eq_ofNat_of_zero_le (show 0 ≤ x1 by omega)
    have HALL := Lib.hid hall; clear hall
    have hn4i : (n : Int) ≤ 40 := by omega
    go_enter Try.func10, Try.ntmps10
    go_wp2_with fail
    refine (heavyFact_any _).mono ?_
    rintro e wf ⟨rfl, hbf⟩
    have hsf := hbf.size
    have HBF := Lib.hid hbf; clear hbf
    go_wp2_with fail
    refine (space_ok a0 n c0 kp l0 _ HN.out ((H0.out.below HBF.out).more hsf) hn4 HALL.out hk1 hk2).mono ?_
    rintro e w2 ⟨v, rfl, hkat, hb⟩
    have hss := spaceOf_ss (keep := kp) (by omega) l0
    obtain ⟨L, hL⟩ : ∃ L, L = spaceOf kp l0 := ⟨_, rfl⟩
    rw [← hL] at hkat hss
    clear hL
    obtain ⟨av, g, cap, rfl, hag, hkin⟩ : ∃ av g cap, v = .slice av L.length cap ∧ (0 < L.length → av = some ⟨g, 0, none⟩) ∧ KIn w2 g L := by
      obtain ⟨a, g, cap, hv, ha, ⟨_, _, h3⟩ | ⟨h1, h2, h3, h4, rest, h5, h6⟩⟩ := hkat.shape
      · subst h3
        exact ⟨a, 0, cap, hv, fun h => by simp at h, fun i x h => by simp at h⟩
      · exact ⟨a, g, cap, hv, ha, blk_kin h5⟩
    obtain ⟨ll, hll⟩ : ∃ ll, ll = L.length := ⟨_, rfl⟩
    rw [← hll] at hag ⊢
    have hlk : ll ≤ kp := by have := hss.len; omega
    have hll8 : (ll : Int) ≤ 8 := by omega
    have hlki : (ll : Int) ≤ (kp : Int) := by omega
    have hsum : sumC L = (n : Int) := by have := hss.sum; have := HN.out; omega
    have HB2 := Lib.hid (HBF.out.trans (hb.mono hsf))
    have HSS := Lib.hid hss; have HAG := Lib.hid hag; have HKIN := Lib.hid hkin; have HLL := Lib.hid hll; have HSUM := Lib.hid hsum
    have HIN2 : Hid (IntsIn w2 w.heap.size a0 l0) := Lib.hid (H0.out.below HB2.out)
    clear hss hkat hb hag hkin hll hsum
    go_wp2
    go_loopw [10, 11, 12, 13] (fun all least kept i wr => HsRel w2 L x2 all least kept i wr) (fun _ _ _ i _ => ll - (intOf i).toNat)
    case atStart => exact ⟨0, by omega, rfl, rfl, rfl, rfl, rfl⟩
    case round =>
      obtain ⟨k, hk, rfl, rfl, rfl, rfl, rfl⟩ := hrel
      have hnn : ∀ x ∈ L, 0 ≤ x.2 := fun x hx => by have := HSS.out.bd hx; omega
      have hst := sumC_take_le L k hnn
      by_cases hlt : k < ll
      · have hkL : k < L.length := by have := HLL.out; omega
        have HS1 := Lib.hid (sumC_succ hkL)
        have HK1 := Lib.hid (keptB_succ x2 hkL)
        have HLS : Hid (lstTo L (k + 1) = if k = 0 ∨ (L.getD k (0, 0)).2 < lstTo L k then (L.getD k (0, 0)).2 else lstTo L k) := Lib.hid rfl
        have hgd : L.getD k (0, 0) = L[k] := by simp [List.getD, List.getElem?_eq_getElem hkL]
        rw [hgd] at HLS
        have hbd := HSS.out.bd (List.getElem_mem hkL)
        obtain ⟨y, hy⟩ : ∃ y, y = L[k] := ⟨_, rfl⟩
        have hy2 : L[k]? = some y := by rw [hy]; exact List.getElem?_eq_getElem hkL
        rw [← hy] at HS1 HK1 HLS hbd
        obtain ⟨p0, p1⟩ := HKIN.out k y hy2
        obtain rfl := HAG.out (by omega)
        obtain ⟨s, hs⟩ : ∃ s, s = sumC (L.take k) := ⟨_, rfl⟩
        obtain ⟨lv, hlv⟩ : ∃ lv, lv = lstTo L k := ⟨_, rfl⟩
        obtain ⟨bv, hbv⟩ : ∃ bv, bv = keptB L k x2 := ⟨_, rfl⟩
        rw [← hs] at HS1 hst ⊢
        rw [← hlv] at HLS ⊢
        rw [← hbv] at HK1 ⊢
        have hy1 : 1 ≤ y.2 := hbd.1
        have hyl : y.2 ≤ 40 := by have := hbd.2; have := HN.out; omega
        have hs0 : 0 ≤ s := hst.1
        have hs4 : s ≤ 40 := by have := HSUM.out; omega
        clear hy hy2 hs hlv hbv hbd hst hnn hgd
        have hki : (k : Int) < (ll : Int) := by omega
        have hk0 : (0 : Int) ≤ (k : Int) := by omega
        obtain ⟨nl, hnl⟩ : ∃ nl, nl = lstTo L (k + 1) := ⟨_, rfl⟩
        have HNL := Lib.hid hnl
        by_cases hk00 : k = 0
        · have hnl2 : nl = y.2 := by rw [hnl, HLS.out, if_pos (.inl hk00)]
          have HNL2 := Lib.hid hnl2
          clear hnl hnl2
          subst hk00
          cases bv
          · go_wp2
            go_roundw
            case rel => exact ⟨1, hkL, by simp, by rw [HS1.out], by rw [← HNL.out, HNL2.out], by rw [HK1.out]; simp, by trivial⟩
            case measure => simp [intOf]; omega
          · go_wp2
            go_roundw
            case rel => exact ⟨1, hkL, by simp, by rw [HS1.out], by rw [← HNL.out, HNL2.out], by rw [HK1.out]; simp, by trivial⟩
            case measure => simp [intOf]; omega
        · have hk01 : ¬ (k : Int) = 0 := by omega
          by_cases hless : y.2 < lv
          · have hnl2 : nl = y.2 := by rw [hnl, HLS.out, if_pos (.inr hless)]
            have HNL2 := Lib.hid hnl2
            clear hnl hnl2
            cases bv
            all_goals
              go_wp2
              go_roundw
              case rel => exact ⟨k + 1, hkL, by simp, by rw [HS1.out], by rw [← HNL.out, HNL2.out], by rw [HK1.out]; simp, by trivial⟩
              case measure => simp [intOf]; omega
          · have hnl2 : nl = lv := by rw [hnl, HLS.out, if_neg (by omega)]
            have HNL2 := Lib.hid hnl2
            clear hnl hnl2
            cases bv
            all_goals
              go_wp2
              go_roundw
              case rel => exact ⟨k + 1, hkL, by simp, by rw [HS1.out], by rw [← HNL.out, HNL2.out], by rw [HK1.out]; simp, by trivial⟩
              case measure => simp [intOf]; omega
      · obtain rfl : k = ll := by have := HLL.out; omega
        have e : L.take k = L := List.take_of_length_le (by have := HLL.out; omega)
        rw [e, HSUM.out] 
        have hkk : ¬ (k : Int) < (k : Int) := by omega
        obtain ⟨bv, hbv⟩ : ∃ bv, bv = keptB L k x2 := ⟨_, rfl⟩
        obtain ⟨lv, hlv⟩ : ∃ lv, lv = lstTo L k := ⟨_, rfl⟩
        obtain ⟨t, ht⟩ : ∃ t, times l0 x2 = t := ⟨_, rfl⟩
        rw [← hbv, ← hlv]
        have hnot : bv = false → ∀ x ∈ L, x.1 ≠ x2 := fun h x hx he => by
          rw [h] at hbv
          unfold keptB at hbv
          rw [e, eq_comm, List.any_eq_false] at hbv
          exact hbv x hx (by simpa using he)
        have HNOT := Lib.hid hnot
        have HT := Lib.hid ht
        -- what is left: the bound that goes into the second loop
        have hlf : ∃ lf : Int, 0 ≤ lf ∧ lf ≤ 40 ∧ ((k : Int) < (kp : Int) → lf = 0) ∧ (¬ (k : Int) < (kp : Int) → lf = lv) ∧ (∀ x ∈ L, x.2 - times l0 x.1 ≤ lf) ∧ ((∀ x ∈ L, x.1 ≠ x2) → t ≤ lf) := by
          by_cases hf : k < kp
          · obtain ⟨r1, r2⟩ := HSS.out.room (by have := HLL.out; omega)
            exact ⟨0, by omega, by omega, fun _ => rfl, fun h => by omega, fun x hx => by have := r1 x hx; omega, fun h => by have := r2 x2 h; omega⟩
          · have hk0 : 0 < k := by omega
            obtain ⟨j, hj, ej⟩ := lstTo_mem L k hk0
            have hjL : j < L.length := by have := HLL.out; omega
            have hgd : L.getD j (0, 0) = L[j] := by simp [List.getD, List.getElem?_eq_getElem hjL]
            rw [hgd, ← hlv] at ej
            have hm := List.getElem_mem hjL
            have hbd := HSS.out.bd hm
            refine ⟨lv, by omega, by have := HN.out; omega, fun h => by omega, fun _ => rfl, fun x hx => ?_, fun h => ?_⟩
            · have := HSS.out.over x hx _ hm; omega
            · have := HSS.out.out x2 h _ hm; omega
        obtain ⟨lf, hlf0, hlf4, hlfa, hlfb, hover, hout⟩ := hlf
        have HOV := Lib.hid hover; have HOUT := Lib.hid hout
        clear hst hnn e hbv hlv ht hnot hover hout hlt
        have hlf' : ((k : Int) < (kp : Int) ∧ lf = 0) ∨ (¬ (k : Int) < (kp : Int) ∧ lf = lv) := by
          by_cases h : (k : Int) < (kp : Int)
          · exact .inl ⟨h, hlfa h⟩
          · exact .inr ⟨h, hlfb h⟩
        clear hlfa hlfb
        have hfin : (bv || decide (t ≤ lf)) = true := by
          cases hb2 : bv with
          | true => rfl
          | false => simpa using HOUT.out (HNOT.out hb2)
        have HFIN := Lib.hid hfin; clear hfin
        rcases hlf' with ⟨hroom, rfl⟩ | ⟨hroom, rfl⟩
        all_goals
          go_wp2
          go_loopw [14, 15] (fun i _ wr => HsRel2 w2 L i wr) (fun i _ _ => k - (intOf i).toNat)
          case atStart => exact ⟨0, by omega, rfl, rfl⟩
          case round =>
            obtain ⟨j, hj, rfl, rfl⟩ := hrel
            by_cases hlt2 : j < k
            · have hjL : j < L.length := by have := HLL.out; omega
              have hm := List.getElem_mem hjL
              have hbd := HSS.out.bd hm
              have hlow := HSS.out.low _ hm
              have hov := HOV.out _ hm
              obtain ⟨y, hy⟩ : ∃ y, y = L[j] := ⟨_, rfl⟩
              have hy2 : L[j]? = some y := by rw [hy]; exact List.getElem?_eq_getElem hjL
              rw [← hy] at hbd hlow hov
              obtain ⟨p0, p1⟩ := HKIN.out j y hy2
              obtain rfl := HAG.out (by omega)
              obtain ⟨t2, ht2⟩ : ∃ t2, times l0 y.1 = t2 := ⟨_, rfl⟩
              rw [ht2] at hlow hov
              have ht20 : 0 ≤ t2 := by rw [← ht2]; exact times_nonneg _ _
              have hyl : y.2 ≤ 40 := by have := hbd.2; have := HN.out; omega
              have hyt : t2 ≤ y.2 := hlow.2
              have HT2 := Lib.hid ht2
              clear hy hy2 hbd hlow ht2 hm
              have hji : (j : Int) < (k : Int) := by omega
              have hj0 : (0 : Int) ≤ (j : Int) := by omega
              go_wp2_with fail
              refine (times_is a0 n c0 w.heap.size l0 y.1 t2 _ HT2.out HN.out HIN2.out (by omega)).mono ?_
              rintro e w5 ⟨rfl, rfl⟩
              go_wp2
              go_roundw
              case rel => exact ⟨j + 1, hjL, by simp, by trivial⟩
              case measure => simp [intOf]; omega
            · obtain rfl : j = k := by have := HLL.out; omega
              have hjj : ¬ (j : Int) < (j : Int) := by omega
              cases bv
              · have htl := HFIN.out
                simp only [Bool.false_or, decide_eq_true_eq] at htl
                go_wp2_with fail
                refine (times_is a0 n c0 w.heap.size l0 x2 t _ HT.out HN.out HIN2.out (by omega)).mono ?_
                rintro e w5 ⟨rfl, rfl⟩
                go_wp2
                go_ret
                exact ⟨by simp, HB2.out⟩
              · go_wp2
                go_ret
                exact ⟨by simp, HB2.out⟩
  · have hbad : 40 < n ∨ (n ≤ 40 ∧ (allB l0 0 1000000 = false ∨ x1 < 1 ∨ 8 < x1)) := by
      cases g : allB l0 0 1000000 with
      | true => rw [g] at hok; simp at hok ⊢; omega
      | false => simp; omega
    have HBAD := Lib.hid hbad; clear hbad hok
    go_enter Try.func10, Try.ntmps10
    go_wp2_with fail
    refine (heavyFact_any _).mono ?_
    rintro e wf ⟨rfl, hbf⟩
    have HBF := Lib.hid hbf; clear hbf
    go_wp2_with fail
    refine (space_bad a0 n c0 _ l0 x1 _ HN.out (H0.out.below HBF.out) HBAD.out).mono ?_
    rintro e w2 ⟨er, rfl, rfl⟩
    go_wp2
    go_ret
    exact ⟨by simp, HBF.out⟩
end Go.Proofs.Ytnpokcjdnlmheaa
