/-
  TopParts: the plain law, the walk.
-/
import Derived.Test.YthldhbcidcmmaaaCircleAmongWalk
import Derived.Test.YthldhbcidcmmaaaTopIn
namespace Go.Proofs.Ythldhbcidcmmaaa
open Go.RowKit

theorem parts_own {p z : Int} {l : List Int} (hne : l.erase z ≠ []) (h : ownO p l ≠ z) : ownO p (l.erase z) = ownO p l := by
  have hl : l ≠ [] := fun e => hne (by rw [e]; rfl)
  have hm := (List.mem_erase_of_ne h).2 (ownO_mem p hl)
  exact leO_anti (ownO_min p hne _ hm) (ownO_min p hl _ (List.mem_of_mem_erase (ownO_mem p hne)))
theorem parts_head {xs : List Int} {z : Int} (h : 0 < xs.length) (h2 : 0 < (xs.erase z).length) (hz : xs[0] ≠ z) : (xs.erase z)[0] = xs[0] := by
  cases xs with
  | nil => simp at h
  | cons x r =>
    have hb : (x == z) = false := by simpa using hz
    have e : (x :: r).erase z = x :: r.erase z := by rw [List.erase_cons, hb]; simp
    simp only [e]
    rfl

def PartsRel (w : World) (n : Nat) (i : Value) (wr : World) : Prop := ∃ k : Nat, k ≤ n ∧ i = .int .i64 k ∧ Keep [] w wr

set_option maxHeartbeats 4000000 in
set_option maxRecDepth 100000 in
theorem topParts_walk (a0 : Option Addr) (c0 : Nat) (l0 : List Int) (x1 : Int) (a2 : Option Addr) (c2 : Nat) (l2 : List Int) (w : World) (h0 : IntsIn w w.heap.size a0 l0) (_ : ∀ y ∈ l0, I64 y) (m0 : Reached l0) (z0 : (a0 = none → c0 = 0) ∧ l0.length ≤ c0) (_ : I64 x1)
    (h2 : IntsIn w w.heap.size a2 l2) (_ : ∀ y ∈ l2, I64 y) (m2 : Reached l2) :
    Calls Try.prog 5 #[.slice a0 l0.length c0, .int .i64 x1, .slice a2 l2.length c2] w fun e w' => e = .returned (.bool true) ∧ Below w.heap.size w w' := by
  obtain ⟨_, z2⟩ := z0
  unfold Reached reachBytes at m0 m2
  have H0 := Lib.hid h0; have HZ2 := Lib.hid z2; have H2 := Lib.hid h2; clear h0 z2 h2
  obtain ⟨n, hn⟩ : ∃ n, n = l0.length := ⟨_, rfl⟩
  rw [← hn] at HZ2 m0 ⊢
  obtain ⟨nk, hnk⟩ : ∃ nk, nk = l2.length := ⟨_, rfl⟩
  rw [← hnk] at m2 ⊢
  have HN := Lib.hid hn.symm; have HNK := Lib.hid hnk.symm; clear hn hnk
  have hin : IntsIn (w.alloc (.cells #[.int .i64 5] 3)) (w.alloc (.cells #[.int .i64 5] 3)).heap.size (some ⟨w.heap.size, 0, none⟩) [5] := fun _ =>
    ⟨w.heap.size, 0, rfl, by simp, fun i z hx => by
      have := (Blk.new w 3 (ints [5])).cell i
      rw [Nat.zero_add]
      exact this.trans (ints_get hx)⟩
  have HIN := Lib.hid hin; clear hin
  have hg5 : Good [5] := ⟨by decide, fun x hx => by simp at hx; omega, by decide⟩
  have hown5 : ownO (plc 9) [5] = 5 := by decide
  have HG5 := Lib.hid hg5; have HO5 := Lib.hid hown5; clear hg5 hown5
  have HBA : Hid (Below w.heap.size w (w.alloc (.cells #[.int .i64 5] 3))) := Lib.hid ((Below.refl _ w).alloc (Nat.le_refl _) _)
  go_enter Try.func5, Try.ntmps5
  go_wp2_with fail
  refine (cOwner_any _ 1 1 [5] 9 _ rfl HIN.out (Nat.le_refl _)).mono ?_
  rintro e w1 ⟨hb1, ⟨_, _, _, _, rfl⟩ | ⟨hno, _⟩⟩
  focus
    rw [HO5.out]
    have HB1 : Hid (Below w.heap.size w w1) := Lib.hid (HBA.out.trans (hb1.mono HBA.out.size))
    have HI1 : Hid (IntsIn w1 w1.heap.size a0 l0) := Lib.hid ((H0.out.below HB1.out).more HB1.out.size)
    have HK1 : Hid (IntsIn w1 w.heap.size a2 l2) := Lib.hid (H2.out.below HB1.out)
    clear hb1
    go_wp2_with fail
    refine (check_any a0 n c0 _ l0 _ HN.out HI1.out HZ2.out).mono ?_
    rintro e w' ⟨⟨hg, rfl⟩ | ⟨hg, kk, rfl⟩, rfl⟩
    · have hn12 : n ≤ 12 := by have := hg.1; have := HN.out; omega
      have hn12i : (n : Int) ≤ 12 := by omega
      have hsub : IntKind.i64.wrap ((n : Int) - 1) = (n : Int) - 1 := IntWalk.i64_in _ (by omega)
      have HG := Lib.hid hg; clear hg
      by_cases hkin : 0 ≤ x1 ∧ x1 ≤ (n : Int) - 1
      · obtain ⟨hki0, hki1⟩ := hkin
        obtain ⟨k, rfl⟩ := Int.eq_ofNat_of_zero_le hki0
        have hil : k < l0.length := by have := HN.out; omega
        obtain ⟨b, off, rfl, hbb, hcell⟩ := H0.out.at_ hil
        have hmem : l0[k] ∈ l0 := List.getElem_mem hil
        obtain ⟨z, hz⟩ : ∃ z, z = l0[k] := ⟨_, rfl⟩
        rw [← hz] at hcell hmem
        have hcell1 := (HB1.out.cell (p := ⟨b, off + k, none⟩) hbb).trans hcell
        have hkn1 : (k : Int) < (n : Int) := by omega
        have HMEM := Lib.hid hmem; have HCELL := Lib.hid hcell
        clear hz hmem hcell
        by_cases hn2 : n < 2
        · have hn2i : (n : Int) < 2 := by omega
          go_wp2_with fail
          refine (tin_yes _ _ _ _ hki0 hki1).mono ?_
          rintro e w' ⟨rfl, rfl⟩
          go_wp2
          go_ret
          exact ⟨rfl, HB1.out⟩
        · have hn2i : ¬ (n : Int) < 2 := by omega
          go_wp2_with fail
          refine (tin_yes _ _ _ _ hki0 hki1).mono ?_
          rintro e w' ⟨rfl, rfl⟩
          go_wp2_with fail
          refine (rWithout _ n c0 _ l0 z _ HN.out HI1.out (Nat.le_refl _) (by omega)).mono ?_
          rintro e w2 ⟨v2, rfl, hown2, hb2⟩
          obtain ⟨al, cl, rfl, hinl, hcl⟩ := own_in hown2
          obtain ⟨ne, hne⟩ : ∃ ne, ne = (l0.erase z).length := ⟨_, rfl⟩
          rw [← hne] at hcl ⊢
          have hnen : ne + 1 = n := by rw [hne, List.length_erase_of_mem HMEM.out]; have := HN.out; omega
          have HNE := Lib.hid hne.symm; have HINL := Lib.hid hinl; have HCL := Lib.hid hcl; have HNEN := Lib.hid hnen
          have HB2 : Hid (Below w.heap.size w w2) := Lib.hid (HB1.out.trans (hb2.mono HB1.out.size))
          have hne1 : 1 ≤ ne := by omega
          clear hne hinl hcl hown2 hb2 hnen
          have hIa : ∀ wx, Keep [] w2 wx → IntsIn wx wx.heap.size (some ⟨b, off, none⟩) l0 := fun wx hk => (H0.out.below (HB2.out.trans (hk.below HB2.out.size (by simp)))).more (by have := HB2.out.size; have := hk.size; omega)
          have hIl : ∀ wx, Keep [] w2 wx → IntsIn wx wx.heap.size al (l0.erase z) := fun wx hk => (HINL.out.keep (fun k hk2 => hk.block k hk2 (by simp))).more hk.size
          have hcz : ∀ wx, Keep [] w2 wx → wx.cell? ⟨b, off + k, none⟩ = some (.int .i64 z) := fun wx hk => ((HB2.out.trans (hk.below HB2.out.size (by simp))).cell (p := ⟨b, off + k, none⟩) hbb).trans HCELL.out
          have HIA := Lib.hid hIa; have HIL := Lib.hid hIl; have HCZ := Lib.hid hcz
          clear hIa hIl hcz hcell1
          have hlne : l0 ≠ [] := by intro e; rw [e] at hil; simp at hil
          have hene : l0.erase z ≠ [] := by intro e; have h10 : ne = 0 := (by rw [← HNE.out, e]; rfl); omega
          have hge : Good (l0.erase z) := ⟨by rw [HNE.out]; have := HNEN.out; omega, fun x hx => HG.out.2.1 x (List.mem_of_mem_erase hx), HG.out.2.2.erase z⟩
          have HLNE := Lib.hid hlne; have HENE := Lib.hid hene; have HGE := Lib.hid hge
          clear hlne hene hge
          go_wp2
          go_loopw [10, 11, 12, 13, 14, 15, 16, 17, 18] (fun i _ _ _ _ _ _ _ _ wr => PartsRel w2 nk i wr) (fun i _ _ _ _ _ _ _ _ _ => nk - (intOf i).toNat)
          case atStart => exact ⟨0, by omega, rfl, Keep.refl _ _⟩
          case round =>
            obtain ⟨j, hj, rfl, hkj⟩ := hrel
            have HKJ := Lib.hid hkj; clear hkj
            by_cases hex : j < nk ∧ j < 20
            · obtain ⟨hj1, hj2⟩ := hex
              have hj1i : (j : Int) < (nk : Int) := by omega
              have hj2i : (j : Int) < 20 := by omega
              have hj0 : (0 : Int) ≤ (j : Int) := by omega
              have hjl : j < l2.length := by rw [HNK.out]; exact hj1
              obtain ⟨bk, ok, rfl, hbk, hck⟩ := H2.out.at_ hjl
              obtain ⟨key, hkey⟩ : ∃ key, key = l2[j] := ⟨_, rfl⟩
              rw [← hkey] at hck
              have hcy : ∀ wx, Keep [] w2 wx → wx.cell? ⟨bk, ok + j, none⟩ = some (.int .i64 key) := fun wx hk => ((HB2.out.trans (hk.below HB2.out.size (by simp))).cell (p := ⟨bk, ok + j, none⟩) hbk).trans hck
              have HCY := Lib.hid hcy
              clear hkey hck hcy
              have hcr := HCY.out _ HKJ.out
              by_cases hkr : 0 ≤ key ∧ key ≤ 1000000
              · obtain ⟨hk0, hk1⟩ := hkr
                go_wp2_with fail
                refine (cOwner_any _ n c0 l0 key _ HN.out (HIA.out _ HKJ.out) HZ2.out).mono ?_
                rintro e w3 ⟨hb3, ⟨_, _, _, _, rfl⟩ | ⟨hno, _⟩⟩
                rotate_left
                · exact absurd ⟨HG.out, hk0, hk1, HLNE.out⟩ hno
                have HK3 : Hid (Keep [] w2 w3) := Lib.hid (HKJ.out.trans (Keep.of_below hb3 (Nat.le_refl _)))
                clear hb3 hcr
                have hcr := HCY.out _ HK3.out
                go_wp2_with fail
                refine (cOwner_any _ ne cl (l0.erase z) key _ HNE.out (HIL.out _ HK3.out) HCL.out).mono ?_
                rintro e w4 ⟨hb4, ⟨_, _, _, _, rfl⟩ | ⟨hno, _⟩⟩
                rotate_left
                · exact absurd ⟨HGE.out, hk0, hk1, HENE.out⟩ hno
                have HK4 : Hid (Keep [] w2 w4) := Lib.hid (HK3.out.trans (Keep.of_below hb4 (Nat.le_refl _)))
                clear hb4 hcr
                have hcr := HCY.out _ HK4.out
                have hpo : ownO (plc key) l0 ≠ z → ownO (plc key) (l0.erase z) = ownO (plc key) l0 := fun h => parts_own HENE.out h
                obtain ⟨oa, hoa⟩ : ∃ oa, oa = ownO (plc key) l0 := ⟨_, rfl⟩
                obtain ⟨ob, hob⟩ : ∃ ob, ob = ownO (plc key) (l0.erase z) := ⟨_, rfl⟩
                rw [← hoa, ← hob] at hpo
                rw [← hoa, ← hob]
                have HPO := Lib.hid hpo
                clear hoa hob hpo
                go_wp2_with fail
                refine (cRank_any _ n c0 l0 key _ HN.out (HIA.out _ HK4.out) HZ2.out).mono ?_
                rintro e w5 ⟨hb5, ⟨_, _, _, a5, c5, xs, rfl, hp5, hs5, hin5⟩ | ⟨hno, _⟩⟩
                rotate_left
                · exact absurd ⟨HG.out, hk0, hk1⟩ hno
                have HK5 : Hid (Keep [] w2 w5) := Lib.hid (HK4.out.trans (Keep.of_below hb5 (Nat.le_refl _)))
                clear hb5 hcr
                have hcr := HCY.out _ HK5.out
                rw [HN.out]
                have hxl : 0 < xs.length := by rw [hp5.length_eq, HN.out]; omega
                obtain ⟨b5, off5, rfl, hbb5, hcell5⟩ := hin5.at_ hxl
                rw [Nat.add_zero] at hcell5
                have HP5 := Lib.hid hp5
                have HS5 : Hid (xs.Pairwise (leR key)) := Lib.hid (srt_pair (by rw [hp5.length_eq]; exact hs5))
                have HXL := Lib.hid hxl; have HC5 := Lib.hid hcell5
                clear hp5 hs5 hin5 hcell5
                go_wp2_with fail
                refine (cRank_any _ ne cl (l0.erase z) key _ HNE.out (HIL.out _ HK5.out) HCL.out).mono ?_
                rintro e w6 ⟨hb6, ⟨_, _, _, a6, c6, ys, rfl, hp6, hs6, hin6⟩ | ⟨hno, _⟩⟩
                rotate_left
                · exact absurd ⟨HGE.out, hk0, hk1⟩ hno
                have hyx : ys = xs.erase z := srt_uniq ys (xs.erase z) (hp6.trans (HP5.out.symm.erase z)) (srt_pair (by rw [hp6.length_eq]; exact hs6)) (HS5.out.sublist List.erase_sublist)
                subst hyx
                have hyl : 0 < (xs.erase z).length := by rw [hp6.length_eq, HNE.out]; omega
                obtain ⟨b6, off6, rfl, hbb6, hcell6⟩ := hin6.at_ hyl
                rw [Nat.add_zero] at hcell6
                have HK6 : Hid (Keep [] w2 w6) := Lib.hid (HK5.out.trans (Keep.of_below hb6 (Nat.le_refl _)))
                have hcell5 := (hb6.cell (p := ⟨b5, off5, none⟩) hbb5).trans HC5.out
                have hph := parts_head HXL.out hyl (z := z)
                rw [HNE.out]
                clear hp6 hs6 hin6 hb6 hcr
                have hcr := HCY.out _ HK6.out
                have hcz := HCZ.out _ HK6.out
                obtain ⟨y, hy⟩ : ∃ y, y = xs[0]'HXL.out := ⟨_, rfl⟩
                obtain ⟨y', hy'⟩ : ∃ y', y' = (xs.erase z)[0]'hyl := ⟨_, rfl⟩
                rw [← hy, ← hy'] at hph
                rw [← hy] at hcell5
                rw [← hy'] at hcell6
                have HPH := Lib.hid hph
                clear hy hy' hph
                go_wp2_with fail
                refine (tin_yes _ _ _ _ hk0 hk1).mono ?_
                rintro e w7 ⟨rfl, rfl⟩
                go_wp2
                by_cases e1 : oa = z
                · subst e1
                  by_cases e2 : y = oa
                  · subst e2
                    go_quiet (fail)
                    go_wp2
                    go_roundw
                    case rel => exact ⟨j + 1, by omega, by simp, HK6.out.drewN _⟩
                    case measure => simp [intOf]; omega
                  · have e3 := HPH.out e2
                    subst e3
                    have b2 := bne_iff_ne.2 e2
                    go_quiet (fail)
                    go_wp2
                    go_roundw
                    case rel => exact ⟨j + 1, by omega, by simp, HK6.out.drewN _⟩
                    case measure => simp [intOf]; omega
                · have e4 := HPO.out e1
                  subst e4
                  have b1 := bne_iff_ne.2 e1
                  by_cases e2 : y = z
                  · subst e2
                    go_quiet (fail)
                    go_wp2
                    go_roundw
                    case rel => exact ⟨j + 1, by omega, by simp, HK6.out.drewN _⟩
                    case measure => simp [intOf]; omega
                  · have e3 := HPH.out e2
                    subst e3
                    have b2 := bne_iff_ne.2 e2
                    go_quiet (fail)
                    go_wp2
                    go_roundw
                    case rel => exact ⟨j + 1, by omega, by simp, HK6.out.drewN _⟩
                    case measure => simp [intOf]; omega
              · have hkr2 : key < 0 ∨ 1000000 < key := by omega
                have HKR := Lib.hid hkr2
                have hkn : ¬ (Good l0 ∧ 0 ≤ key ∧ key ≤ 1000000) := fun h => hkr ⟨h.2.1, h.2.2⟩
                have HKN := Lib.hid hkr
                clear hkr hkr2 hkn
                go_wp2_with fail
                refine (cOwner_any _ n c0 l0 key _ HN.out (HIA.out _ HKJ.out) HZ2.out).mono ?_
                rintro e w3 ⟨hb3, ⟨_, h1, h2, _, rfl⟩ | ⟨_, er3, rfl⟩⟩
                · exact absurd ⟨h1, h2⟩ HKN.out
                have HK3 : Hid (Keep [] w2 w3) := Lib.hid (HKJ.out.trans (Keep.of_below hb3 (Nat.le_refl _)))
                clear hb3 hcr
                have hcr := HCY.out _ HK3.out
                go_wp2_with fail
                refine (cOwner_any _ ne cl (l0.erase z) key _ HNE.out (HIL.out _ HK3.out) HCL.out).mono ?_
                rintro e w4 ⟨hb4, ⟨_, h1, h2, _, rfl⟩ | ⟨_, er4, rfl⟩⟩
                · exact absurd ⟨h1, h2⟩ HKN.out
                have HK4 : Hid (Keep [] w2 w4) := Lib.hid (HK3.out.trans (Keep.of_below hb4 (Nat.le_refl _)))
                clear hb4 hcr
                have hcr := HCY.out _ HK4.out
                go_wp2_with fail
                refine (cRank_any _ n c0 l0 key _ HN.out (HIA.out _ HK4.out) HZ2.out).mono ?_
                rintro e w5 ⟨hb5, ⟨_, h1, h2, _⟩ | ⟨_, er5, rfl⟩⟩
                · exact absurd ⟨h1, h2⟩ HKN.out
                have HK5 : Hid (Keep [] w2 w5) := Lib.hid (HK4.out.trans (Keep.of_below hb5 (Nat.le_refl _)))
                clear hb5 hcr
                have hcr := HCY.out _ HK5.out
                go_wp2_with fail
                refine (cRank_any _ ne cl (l0.erase z) key _ HNE.out (HIL.out _ HK5.out) HCL.out).mono ?_
                rintro e w6 ⟨hb6, ⟨_, h1, h2, _⟩ | ⟨_, er6, rfl⟩⟩
                · exact absurd ⟨h1, h2⟩ HKN.out
                have HK6 : Hid (Keep [] w2 w6) := Lib.hid (HK5.out.trans (Keep.of_below hb6 (Nat.le_refl _)))
                clear hb6 hcr
                have hcr := HCY.out _ HK6.out
                go_wp2_with fail
                refine (tin_no _ _ _ _ HKR.out).mono ?_
                rintro e w7 ⟨rfl, rfl⟩
                go_wp2
                go_roundw
                case rel => exact ⟨j + 1, by omega, by simp, HK6.out⟩
                case measure => simp [intOf]; omega
            · have hexit : nk ≤ j ∨ (j < nk ∧ 20 ≤ j) := by omega
              clear hex
              rcases hexit with hex | ⟨hex, hex2⟩
              · have h1 : ¬ (j : Int) < (nk : Int) := by omega
                go_wp2
                go_ret
                exact ⟨rfl, HB2.out.trans (HKJ.out.below HB2.out.size (by simp))⟩
              · have h1 : (j : Int) < (nk : Int) := by omega
                have h2 : ¬ (j : Int) < 20 := by omega
                go_wp2
                go_ret
                exact ⟨rfl, HB2.out.trans (HKJ.out.below HB2.out.size (by simp))⟩
      · have hk2 : x1 < 0 ∨ (n : Int) - 1 < x1 := by omega
        have HK := Lib.hid hk2; clear hkin hk2
        go_wp2_with fail
        refine (tin_no _ _ _ _ HK.out).mono ?_
        rintro e w' ⟨rfl, rfl⟩
        go_wp2
        go_ret
        exact ⟨rfl, HB1.out⟩
    · go_wp2
      go_ret
      exact ⟨rfl, HB1.out⟩
  exact absurd ⟨HG5.out, by decide, by decide, by decide⟩ hno
end Go.Proofs.Ythldhbcidcmmaaa
