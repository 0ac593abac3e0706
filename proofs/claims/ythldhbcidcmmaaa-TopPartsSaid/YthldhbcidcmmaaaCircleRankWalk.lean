/-
  CircleRank: the walk.
-/
import Derived.Test.YthldhbcidcmmaaaRankCall
import Derived.Test.YthldhbcidcmmaaaCircleFact
import Derived.Test.YthldhbcidcmmaaaSameTurned
import Derived.Test.YthldhbcidcmmaaaRef1
import Derived.Test.YthldhbcidcmmaaaIn
import Derived.Test.YthldhbcidcmmaaaLift3
namespace Go.Proofs.Ythldhbcidcmmaaa
open Go.RowKit

/-- A row of ints of the call's own, as a walk wants it. -/
theorem own_in {w : World} {base : Nat} {v : Value} {l : List Int} (h : OwnInts w base v l) : ∃ a c, v = .slice a l.length c ∧ IntsIn w w.heap.size a l ∧ l.length ≤ c := by
  obtain ⟨a, c, e, hi, hc, _⟩ := h.new
  exact ⟨a, c, e, hi.ints, hc⟩

set_option maxHeartbeats 4000000 in
set_option maxRecDepth 100000 in
theorem circleRank_walk (a0 : Option Addr) (c0 : Nat) (l0 : List Int) (x1 x2 : Int) (w : World) (h0 : IntsIn w w.heap.size a0 l0) (_ : ∀ y ∈ l0, I64 y) (_ : Reached l0) (z0 : (a0 = none → c0 = 0) ∧ l0.length ≤ c0) (_ : I64 x1) (_ : I64 x2) :
    Calls Try.prog 9 #[.slice a0 l0.length c0, .int .i64 x1, .int .i64 x2] w fun e w' => e = .returned (.bool true) ∧ Below w.heap.size w w' := by
  obtain ⟨_, z2⟩ := z0
  have H0 := Lib.hid h0; have HZ2 := Lib.hid z2; clear h0 z2
  obtain ⟨n, hn⟩ : ∃ n, n = l0.length := ⟨_, rfl⟩
  rw [← hn] at HZ2 ⊢
  have HN := Lib.hid hn.symm; clear hn
  go_enter Try.func9, Try.ntmps9
  go_wp2_with fail
  refine (circleFact_any _).mono ?_
  rintro e wf ⟨rfl, hbf⟩
  have hsf := hbf.size
  have HBF := Lib.hid hbf; clear hbf
  have H1 : Hid (IntsIn wf wf.heap.size a0 l0) := Lib.hid ((H0.out.below HBF.out).more hsf)
  go_wp2_with fail
  refine (cRank_any a0 n c0 l0 x2 _ HN.out H1.out HZ2.out).mono ?_
  rintro e w1 ⟨hb1, ⟨hg, hk0, hk1, a1, c1, xs, rfl, hp, hs, hin⟩ | ⟨hno, er, rfl⟩⟩
  · have HB1 : Hid (Below w.heap.size w w1) := Lib.hid (HBF.out.trans (hb1.mono hsf))
    have HG := Lib.hid hg; have HP := Lib.hid hp; have HIN := Lib.hid hin
    have HS : Hid (xs.Pairwise (leR x2)) := Lib.hid (srt_pair (by rw [hp.length_eq]; exact hs))
    have hxl : xs.length = n := by rw [hp.length_eq]; exact HN.out
    have HXL := Lib.hid hxl
    have hn12 : n ≤ 12 := by have := hg.1; have := HN.out; omega
    have hn12i : (n : Int) ≤ 12 := by omega
    have HI1 : Hid (IntsIn w1 w1.heap.size a0 l0) := Lib.hid ((H0.out.below HB1.out).more HB1.out.size)
    rw [HN.out]
    clear hb1 hg hp hs hin hxl
    go_wp2_with fail
    refine (turned_any a0 n c0 _ l0 _ HN.out HI1.out (Nat.le_refl _) (by omega)).mono ?_
    rintro e w2 ⟨v2, rfl, hown2, hb2⟩
    obtain ⟨a2, c2, rfl, hin2, hc2⟩ := own_in hown2
    have hrl : l0.reverse.length = n := by rw [List.length_reverse]; exact HN.out
    rw [hrl] at hc2
    rw [hrl]
    have HRL := Lib.hid hrl; have HIN2 := Lib.hid hin2; have HC2 := Lib.hid hc2
    have hk12 : Keep [] w1 w2 := Keep.of_below hb2 (Nat.le_refl _)
    have HK12 := Lib.hid hk12
    clear hrl hin2 hc2 hown2 hb2 hk12
    go_wp2_with fail
    refine (cRank_any a2 n c2 l0.reverse x2 _ HRL.out HIN2.out HC2.out).mono ?_
    rintro e w3 ⟨hb3, ⟨_, _, _, a3, c3, ys, rfl, hp3, hs3, hin3⟩ | ⟨hno, er, rfl⟩⟩
    · have hyx : ys = xs := srt_uniq ys xs (hp3.trans ((List.reverse_perm l0).trans HP.out.symm)) (srt_pair (by rw [hp3.length_eq]; exact hs3)) HS.out
      subst hyx
      rw [HRL.out]
      have HIN3 := Lib.hid hin3
      have HK13 : Hid (Keep [] w1 w3) := Lib.hid (HK12.out.trans (Keep.of_below hb3 (Nat.le_refl _)))
      have HINx : Hid (IntsIn w3 w1.heap.size a1 ys) := Lib.hid (HIN.out.keep (fun k hk => HK13.out.block k hk (by simp)))
      clear hb3 hp3 hs3 hin3
      go_wp2_with fail
      refine (ints_same a3 a1 n c3 c1 _ _ ys _ HXL.out HIN3.out HINx.out (by unfold maxLen; omega)).mono ?_
      rintro e w4 ⟨rfl, q4, rfl⟩
      by_cases hkin : 0 ≤ x1 ∧ x1 ≤ (n : Int) - 1
      · obtain ⟨hki0, hki1⟩ := hkin
        obtain ⟨i, rfl⟩ := Int.eq_ofNat_of_zero_le hki0
        have hil : i < l0.length := by have := HN.out; omega
        have HI4 : Hid (IntsIn w3 w1.heap.size a0 l0) := Lib.hid (HI1.out.keep (fun k hk => HK13.out.block k hk (by simp)))
        obtain ⟨b, off, rfl, hbb, hcell⟩ := HI4.out.at_ hil
        have hmem : l0[i] ∈ l0 := List.getElem_mem hil
        obtain ⟨z, hz⟩ : ∃ z, z = l0[i] := ⟨_, rfl⟩
        rw [← hz] at hcell hmem
        have hin1 : (i : Int) < (n : Int) := by omega
        have HMEM := Lib.hid hmem
        clear hz hmem
        have hsub : IntKind.i64.wrap ((n : Int) - 1) = (n : Int) - 1 := IntWalk.i64_in _ (by omega)
        go_wp2_with fail
        refine (in_yes (i : Int) 0 ((n : Int) - 1) _ hki0 hki1).mono ?_
        rintro e w5 ⟨rfl, rfl⟩
        go_wp2_with fail
        refine (rWithout _ n c0 _ l0 z _ HN.out (HI4.out.drewN _) (by have := HK13.out.size; simp; omega) (by omega)).mono ?_
        rintro e w6 ⟨v6, rfl, hown6, hb6⟩
        obtain ⟨a6, c6, rfl, hin6, hc6⟩ := own_in hown6
        obtain ⟨ne, hne⟩ : ∃ ne, ne = (l0.erase z).length := ⟨_, rfl⟩
        rw [← hne] at hc6 ⊢
        have HNE := Lib.hid hne.symm; have HIN6 := Lib.hid hin6; have HC6 := Lib.hid hc6
        have hne12 : ne ≤ 12 := by rw [hne]; have := List.length_erase_le (a := z) (l := l0); have := HN.out; omega
        have HK36 : Hid (Keep [] w3 w6) := Lib.hid (((Keep.refl [] w3).drewN q4).trans (Keep.of_below hb6 (Nat.le_refl _)))
        clear hne hin6 hc6 hown6 hb6
        go_wp2_with fail
        refine (cRank_any a6 ne c6 (l0.erase z) x2 _ HNE.out HIN6.out HC6.out).mono ?_
        rintro e w7 ⟨hb7, ⟨_, _, _, a7, c7, zs, rfl, hp7, hs7, hin7⟩ | ⟨hno, er, rfl⟩⟩
        · have hzx : zs = ys.erase z := srt_uniq zs (ys.erase z) (hp7.trans (HP.out.symm.erase z)) (srt_pair (by rw [hp7.length_eq]; exact hs7)) (HS.out.sublist List.erase_sublist)
          subst hzx
          rw [HNE.out]
          have hzl : (ys.erase z).length = ne := by rw [(HP.out.erase z).length_eq]; exact HNE.out
          have HZL := Lib.hid hzl; have HIN7 := Lib.hid hin7
          have HK37 : Hid (Keep [] w3 w7) := Lib.hid (HK36.out.trans (Keep.of_below hb7 (Nat.le_refl _)))
          have hcell7 := (HK37.out.cell (p := ⟨b, off + i, none⟩) (by have := HK13.out.size; show b < _; omega) (by simp)).trans hcell
          have HIX7 : Hid (IntsIn w7 w7.heap.size a1 ys) := Lib.hid ((HINx.out.keep (fun k hk => HK37.out.block k (by have := HK13.out.size; omega) (by simp))).more (by have := HK13.out.size; have := HK37.out.size; omega))
          clear hb7 hp7 hs7 hin7 hzl hcell
          go_wp2_with fail
          refine (rWithout a1 n c1 _ ys z _ HXL.out HIX7.out (Nat.le_refl _) (by omega)).mono ?_
          rintro e w8 ⟨v8, rfl, hown8, hb8⟩
          obtain ⟨a8, c8, rfl, hin8, hc8⟩ := own_in hown8
          rw [HZL.out]
          have HIN8 := Lib.hid hin8
          have HK78 : Hid (Keep [] w7 w8) := Lib.hid (Keep.of_below hb8 (Nat.le_refl _))
          have HI78 : Hid (IntsIn w8 w7.heap.size a7 (ys.erase z)) := Lib.hid (HIN7.out.keep (fun k hk => HK78.out.block k hk (by simp)))
          clear hown8 hb8 hin8 hc8
          go_wp2_with fail
          refine (ints_same a7 a8 ne c7 c8 _ _ (ys.erase z) _ HZL.out HI78.out HIN8.out (by unfold maxLen; omega)).mono ?_
          rintro e w9 ⟨rfl, q9, rfl⟩
          go_wp2
          go_ret
          exact ⟨rfl, HB1.out.trans ((((HK13.out.trans HK37.out).trans HK78.out).drewN q9).below HB1.out.size (by simp))⟩
        · exact absurd ⟨⟨by have := HG.out.1; have := List.length_erase_le (a := z) (l := l0); omega, fun y hy => HG.out.2.1 y (List.mem_of_mem_erase hy), HG.out.2.2.erase z⟩, hk0, hk1⟩ hno
      · have hkn : x1 < 0 ∨ (n : Int) - 1 < x1 := by omega
        have HKN := Lib.hid hkn
        have hsub : IntKind.i64.wrap ((n : Int) - 1) = (n : Int) - 1 := IntWalk.i64_in _ (by omega)
        clear hkin hkn
        go_wp2_with fail
        refine (in_no x1 0 ((n : Int) - 1) _ HKN.out).mono ?_
        rintro e w5 ⟨rfl, rfl⟩
        go_wp2
        go_ret
        exact ⟨rfl, HB1.out.trans ((HK13.out.drewN q4).below HB1.out.size (by simp))⟩
    · exact absurd ⟨good_perm (List.reverse_perm l0).symm HG.out, hk0, hk1⟩ hno
  · have HB1 : Hid (Below w.heap.size w w1) := Lib.hid (HBF.out.trans (hb1.mono hsf))
    clear hb1
    go_wp2
    go_ret
    exact ⟨by simp, HB1.out⟩
end Go.Proofs.Ythldhbcidcmmaaa
