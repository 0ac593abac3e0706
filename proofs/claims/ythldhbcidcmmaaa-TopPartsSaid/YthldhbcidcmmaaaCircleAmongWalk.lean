/-
  CircleAmong: the plain law, the walk.
-/
import Derived.Test.YthldhbcidcmmaaaCircleRankWalk
namespace Go.Proofs.Ythldhbcidcmmaaa
open Go.RowKit

def leO (p a b : Int) : Prop := far p a < far p b ∨ (far p a = far p b ∧ a ≤ b)
theorem ordI_neg (p a b : Int) : ordI p a b < 0 ↔ ¬ leO p b a := by
  unfold ordI leO cmpI
  by_cases h1 : far p a < far p b
  · simp [h1]
    try omega
  · by_cases h2 : far p b < far p a
    · simp [h1, h2]
    · simp [h1, h2]
      by_cases h3 : a < b
      · simp [h3]
        try omega
      · by_cases h4 : b < a
        · simp [h3, h4]
          try omega
        · simp [h3, h4]
          try omega
theorem leO_total (p a b : Int) : leO p a b ∨ leO p b a := by unfold leO; omega
theorem leO_trans {p a b c : Int} (h1 : leO p a b) (h2 : leO p b c) : leO p a c := by unfold leO at *; omega
theorem leO_anti {p a b : Int} (h1 : leO p a b) (h2 : leO p b a) : a = b := by unfold leO at *; omega
theorem step_le (p m x : Int) : leO p (stepO p m x) m ∧ leO p (stepO p m x) x := by
  unfold stepO
  by_cases h : ordI p x m < 0
  · rw [if_pos h]
    have := (ordI_neg p x m).1 h
    exact ⟨(leO_total p x m).resolve_right this, by unfold leO; omega⟩
  · rw [if_neg h]
    refine ⟨by unfold leO; omega, ?_⟩
    by_cases g : leO p m x
    · exact g
    · exact absurd ((ordI_neg p x m).2 g) h
theorem foldl_min (p : Int) : ∀ (l : List Int) (m : Int), leO p (l.foldl (stepO p) m) m ∧ ∀ x ∈ l, leO p (l.foldl (stepO p) m) x
  | [], m => ⟨by unfold leO; simp, by simp⟩
  | y :: l, m => by
    obtain ⟨h1, h2⟩ := foldl_min p l (stepO p m y)
    obtain ⟨s1, s2⟩ := step_le p m y
    refine ⟨leO_trans h1 s1, fun x hx => ?_⟩
    rcases List.mem_cons.1 hx with rfl | hx
    · exact leO_trans h1 s2
    · exact h2 x hx
theorem ownO_min (p : Int) {l : List Int} (h : l ≠ []) : ∀ x ∈ l, leO p (ownO p l) x := by
  cases l with
  | nil => exact absurd rfl h
  | cons y r =>
    intro x hx
    obtain ⟨h1, h2⟩ := foldl_min p r y
    rcases List.mem_cons.1 hx with rfl | hx
    · exact h1
    · exact h2 x hx
theorem ownO_rev (p : Int) {l : List Int} (h : l ≠ []) : ownO p l.reverse = ownO p l := by
  have h2 : l.reverse ≠ [] := by simpa using h
  exact leO_anti (ownO_min p h2 _ (by simpa using ownO_mem p h)) (ownO_min p h _ (by simpa using ownO_mem p h2))

set_option maxHeartbeats 4000000 in
set_option maxRecDepth 100000 in
theorem circleAmong_walk (a0 : Option Addr) (c0 : Nat) (l0 : List Int) (x1 : Int) (w : World) (h0 : IntsIn w w.heap.size a0 l0) (_ : ∀ y ∈ l0, I64 y) (m0 : Reached l0) (z0 : (a0 = none → c0 = 0) ∧ l0.length ≤ c0) (_ : I64 x1) :
    Calls Try.prog 10 #[.slice a0 l0.length c0, .int .i64 x1] w fun e w' => e = .returned (.bool true) ∧ Below w.heap.size w w' := by
  obtain ⟨_, z2⟩ := z0
  unfold Reached reachBytes at m0
  have H0 := Lib.hid h0; have HZ2 := Lib.hid z2; clear h0 z2
  obtain ⟨n, hn⟩ : ∃ n, n = l0.length := ⟨_, rfl⟩
  rw [← hn] at HZ2 m0 ⊢
  have HN := Lib.hid hn.symm; clear hn
  have HM0 := Lib.hid m0; clear m0
  go_enter Try.func10, Try.ntmps10
  go_wp2_with fail
  refine (circleFact_any _).mono ?_
  rintro e wf ⟨rfl, hbf⟩
  have hsf := hbf.size
  have HBF := Lib.hid hbf; clear hbf
  have H1 : Hid (IntsIn wf wf.heap.size a0 l0) := Lib.hid ((H0.out.below HBF.out).more hsf)
  go_wp2_with fail
  refine (cOwner_any a0 n c0 l0 x1 _ HN.out H1.out HZ2.out).mono ?_
  rintro e w1 ⟨hb1, ⟨hg, hk0, hk1, hne, rfl⟩ | ⟨hno, er, rfl⟩⟩
  · have HB1 : Hid (Below w.heap.size w w1) := Lib.hid (HBF.out.trans (hb1.mono hsf))
    have HI1 : Hid (IntsIn w1 w1.heap.size a0 l0) := Lib.hid ((H0.out.below HB1.out).more HB1.out.size)
    have hn12 : n ≤ 12 := by have := hg.1; have := HN.out; omega
    have hn12i : (n : Int) ≤ 12 := by omega
    have hnp : 0 < n := by rw [← HN.out]; exact List.length_pos_iff.2 hne
    have hnpi : (0 : Int) < (n : Int) := by omega
    have hrev := ownO_rev (plc x1) hne
    have hom := ownO_mem (plc x1) hne
    obtain ⟨o, ho⟩ : ∃ o, ownO (plc x1) l0 = o := ⟨_, rfl⟩
    rw [ho] at hrev hom
    rw [ho]
    have HG := Lib.hid hg; have HREV := Lib.hid hrev; have HOM := Lib.hid (show decide (o ∈ l0) = true by simpa using hom); have HNE := Lib.hid hne
    clear hb1 hg hrev hom ho hne
    go_wp2_with fail
    refine (turned_any a0 n c0 _ l0 _ HN.out HI1.out (Nat.le_refl _) HM0.out).mono ?_
    rintro e w2 ⟨v2, rfl, hown2, hb2⟩
    obtain ⟨a2, c2, rfl, hin2, hc2⟩ := own_in hown2
    have hrl : l0.reverse.length = n := by rw [List.length_reverse]; exact HN.out
    rw [hrl] at hc2
    rw [hrl]
    have HRL := Lib.hid hrl; have HIN2 := Lib.hid hin2; have HC2 := Lib.hid hc2
    have HK12 : Hid (Keep [] w1 w2) := Lib.hid (Keep.of_below hb2 (Nat.le_refl _))
    clear hrl hin2 hc2 hown2 hb2
    go_wp2_with fail
    refine (cOwner_any a2 n c2 l0.reverse x1 _ HRL.out HIN2.out HC2.out).mono ?_
    rintro e w3 ⟨hb3, ⟨_, _, _, _, rfl⟩ | ⟨hno, er, rfl⟩⟩
    · rw [HREV.out]
      have HK13 : Hid (Keep [] w1 w3) := Lib.hid (HK12.out.trans (Keep.of_below hb3 (Nat.le_refl _)))
      have HI3 : Hid (IntsIn w3 w3.heap.size a0 l0) := Lib.hid ((HI1.out.keep (fun k hk => HK13.out.block k hk (by simp))).more HK13.out.size)
      clear hb3
      go_wp2_with fail
      refine (cRank_any a0 n c0 l0 x1 _ HN.out HI3.out HZ2.out).mono ?_
      rintro e w4 ⟨hb4, ⟨_, _, _, a4, c4, xs, rfl, hp4, _, hin4⟩ | ⟨hno, er, rfl⟩⟩
      · have hxl : xs.length = n := by rw [hp4.length_eq]; exact HN.out
        obtain ⟨b4, off4, rfl, hbb4, hcell4⟩ := hin4.at_ (show 0 < xs.length by omega)
        have hmem : xs[0]'(by omega) ∈ l0 := hp4.mem_iff.1 (List.getElem_mem _)
        obtain ⟨z, hz⟩ : ∃ z, z = xs[0]'(by omega) := ⟨_, rfl⟩
        rw [← hz] at hcell4 hmem
        rw [Nat.add_zero] at hcell4
        have HMZ := Lib.hid (show decide (z ∈ l0) = true by simpa using hmem)
        have HK14 : Hid (Keep [] w1 w4) := Lib.hid (HK13.out.trans (Keep.of_below hb4 (Nat.le_refl _)))
        have HI4 : Hid (IntsIn w4 w1.heap.size a0 l0) := Lib.hid (HI1.out.keep (fun k hk => HK14.out.block k hk (by simp)))
        rw [HN.out]
        clear hz hmem hin4 hb4 hp4 hxl
        go_wp2_with fail
        refine (rHas a0 n c0 _ l0 o _ HN.out HI4.out (by omega)).mono ?_
        rintro e w5 ⟨rfl, rfl⟩
        rw [HOM.out]
        go_wp2_with fail
        refine (rHas a0 n c0 _ l0 z _ HN.out HI4.out (by omega)).mono ?_
        rintro e w6 ⟨rfl, rfl⟩
        rw [HMZ.out]
        go_wp2
        go_ret
        exact ⟨rfl, HB1.out.trans (HK14.out.below HB1.out.size (by simp))⟩
      · exact absurd ⟨HG.out, hk0, hk1⟩ hno
    · exact absurd ⟨good_perm (List.reverse_perm l0).symm HG.out, hk0, hk1, by simpa using HNE.out⟩ hno
  · have HB1 : Hid (Below w.heap.size w w1) := Lib.hid (HBF.out.trans (hb1.mono hsf))
    have HI1 : Hid (IntsIn w1 w1.heap.size a0 l0) := Lib.hid ((H0.out.below HB1.out).more HB1.out.size)
    have HNO := Lib.hid hno
    clear hb1 hno
    go_wp2_with fail
    refine (turned_any a0 n c0 _ l0 _ HN.out HI1.out (Nat.le_refl _) HM0.out).mono ?_
    rintro e w2 ⟨v2, rfl, hown2, hb2⟩
    obtain ⟨a2, c2, rfl, hin2, hc2⟩ := own_in hown2
    have hrl : l0.reverse.length = n := by rw [List.length_reverse]; exact HN.out
    rw [hrl] at hc2
    rw [hrl]
    have HRL := Lib.hid hrl; have HIN2 := Lib.hid hin2; have HC2 := Lib.hid hc2
    have HK12 : Hid (Keep [] w1 w2) := Lib.hid (Keep.of_below hb2 (Nat.le_refl _))
    clear hrl hin2 hc2 hown2 hb2
    go_wp2_with fail
    refine (cOwner_any a2 n c2 l0.reverse x1 _ HRL.out HIN2.out HC2.out).mono ?_
    rintro e w3 ⟨hb3, ⟨hg3, hk03, hk13, hne3, rfl⟩ | ⟨_, er3, rfl⟩⟩
    · exact absurd ⟨good_perm (List.reverse_perm l0) hg3, hk03, hk13, by simpa using hne3⟩ HNO.out
    · have HK13 : Hid (Keep [] w1 w3) := Lib.hid (HK12.out.trans (Keep.of_below hb3 (Nat.le_refl _)))
      have HI3 : Hid (IntsIn w3 w3.heap.size a0 l0) := Lib.hid ((HI1.out.keep (fun k hk => HK13.out.block k hk (by simp))).more HK13.out.size)
      clear hb3
      go_wp2_with fail
      refine (cRank_any a0 n c0 l0 x1 _ HN.out HI3.out HZ2.out).mono ?_
      rintro e w4 ⟨hb4, ⟨_, _, _, a4, c4, xs, rfl, _, _, _⟩ | ⟨_, er4, rfl⟩⟩
      all_goals
        have HK14 : Hid (Keep [] w1 w4) := Lib.hid (HK13.out.trans (Keep.of_below hb4 (Nat.le_refl _)))
        clear hb4
        go_wp2
        go_ret
        exact ⟨by simp, HB1.out.trans (HK14.out.below HB1.out.size (by simp))⟩
end Go.Proofs.Ythldhbcidcmmaaa
