/-
  SplitSame: the walk.
-/
import Derived.Test.YthldhbcidcmmaaaSplitFindsWalk
namespace Go.Proofs.Ythldhbcidcmmaaa
open Go.RowKit

theorem up_eq : ∀ {xs ys : List Int}, Up xs → Up ys → xs.Perm ys → xs = ys
  | [], ys, _, _, h => (List.nil_perm.1 h).symm
  | x :: xs, [], _, _, h => absurd h.length_eq (by simp)
  | x :: xs, y :: ys, h1, h2, h => by
    unfold Up at h1 h2
    rw [List.pairwise_cons] at h1 h2
    have hx : x ∈ y :: ys := h.mem_iff.1 (by simp)
    have hy : y ∈ x :: xs := h.mem_iff.2 (by simp)
    have e : x = y := by
      rcases List.mem_cons.1 hx with e | hx
      · exact e
      · rcases List.mem_cons.1 hy with e | hy
        · exact e.symm
        · have := h1.1 y hy
          have := h2.1 x hx
          omega
    subst e
    rw [up_eq (xs := xs) (ys := ys) h1.2 h2.2 ((List.perm_cons x).1 h)]
/-- A key of a table comes into a part of it. -/
theorem part_room {S T l : List Int} {x : Int} {D i : Nat} {deep : Nat → Nat} (hd : Dir S S D deep) (hD : D ≤ 6) (hb : ∀ y ∈ S, y ≤ 1000000) (hp : S.Perm l) (hi : i < l.length) (hx : x = l[i]) (hT : T.Perm (l.drop (i + 1))) : addE T x = 0 := by
  have hdrop : l.drop i = l[i] :: l.drop (i + 1) := List.drop_eq_getElem_cons hi
  have hxl : x ∈ l := by rw [hx]; exact List.getElem_mem hi
  have hxS : x ∈ S := hp.mem_iff.2 hxl
  have hnd : l.Nodup := hp.nodup_iff.1 (hd.up.imp (fun h => by omega))
  have hnd2 : (l.drop i).Nodup := hnd.sublist (List.drop_sublist i l)
  rw [hdrop, List.nodup_cons, ← hx] at hnd2
  refine addE_zero.2 ⟨hd.pos x hxS, hb x hxS, fun hm => hnd2.1 (hT.mem_iff.1 hm), ?_⟩
  unfold room
  have h1 : (cls (l.drop i) x 6).length ≤ (cls l x 6).length := by
    unfold cls
    exact ((List.drop_sublist i l).filter _).length_le
  have h2 : (cls l x 6).length = (cls S x 6).length := by
    unfold cls
    exact ((hp.filter _).length_eq).symm
  have h3 : (cls S x 6).length ≤ 3 := by
    obtain ⟨k, rfl⟩ := Int.eq_ofNat_of_zero_le (hd.pos x hxS)
    exact Nat.le_trans (cls_len_down (by have := hd.le k; omega)) (hd.few k)
  have h4 : (cls (l.drop i) x 6).length = (cls T x 6).length + 1 := by
    rw [hdrop, ← hx]
    unfold cls
    rw [List.filter_cons, if_pos (by simp), List.length_cons]
    have := (hT.filter (fun k => k % 2 ^ 6 == x % 2 ^ 6)).length_eq
    omega
  omega

def TwoTabs (w wr : World) (s t : Nat) (S T : List Int) : Prop :=
  ∃ O1 O2 : Nat → Prop, Tab O1 wr s S ∧ Tab O2 wr t T ∧ (∀ x, x < wr.heap.size → O1 x → ¬ O2 x) ∧ (∀ x, x < w.heap.size → ¬ O1 x ∧ ¬ O2 x) ∧ Below w.heap.size w wr
theorem TwoTabs.addS {w wr w' : World} {s t : Nat} {S' T : List Int} {O1 O2 : Nat → Prop} (h2 : Tab O2 wr t T) (hd : ∀ x, x < wr.heap.size → O1 x → ¬ O2 x) (hlo : ∀ x, x < w.heap.size → ¬ O1 x ∧ ¬ O2 x) (hb : Below w.heap.size w wr)
    (h1 : Tab O1 w' s S') (hk : KeepP O1 wr w') : TwoTabs w w' s t S' T := by
  refine ⟨O1, _, h1, h2.away hk (fun x hx h2x h1x => hd x hx h1x h2x), fun x hx h1x h2x => ?_, fun x hx => ⟨(hlo x hx).1, fun h => (hlo x hx).2 h.1⟩, hb.trans (hk.toBelow hb.size (fun x hx => (hlo x hx).1))⟩
  rcases h2x.2 with h | h
  · exact hd x h h1x h2x.1
  · omega
theorem TwoTabs.addT {w wr w' : World} {s t : Nat} {S T' : List Int} {O1 O2 : Nat → Prop} (h1 : Tab O1 wr s S) (hd : ∀ x, x < wr.heap.size → O1 x → ¬ O2 x) (hlo : ∀ x, x < w.heap.size → ¬ O1 x ∧ ¬ O2 x) (hb : Below w.heap.size w wr)
    (h2 : Tab O2 w' t T') (hk : KeepP O2 wr w') : TwoTabs w w' s t S T' := by
  refine ⟨_, O2, h1.away hk (fun x hx h1x h2x => hd x hx h1x h2x), h2, fun x hx h1x h2x => ?_, fun x hx => ⟨fun h => (hlo x hx).1 h.1, (hlo x hx).2⟩, hb.trans (hk.toBelow hb.size (fun x hx => (hlo x hx).2))⟩
  rcases h1x.2 with h | h
  · exact hd x h h1x.1 h2x
  · omega
def SameRel1 (w : World) (s t : Nat) (l : List Int) (i : Value) (wr : World) : Prop := ∃ (j : Nat) (S : List Int), j ≤ l.length ∧ j ≤ 40 ∧ i = .int .i64 j ∧ TwoTabs w wr s t S [] ∧ S.Perm (l.take j)
def SameRel2 (w : World) (s t : Nat) (S l : List Int) (i : Value) (wr : World) : Prop := ∃ (j : Nat) (T : List Int), j ≤ l.length ∧ i = .int .i64 ((j : Int) - 1) ∧ TwoTabs w wr s t S T ∧ T.Perm (l.drop j)

set_option maxHeartbeats 8000000 in
set_option maxRecDepth 100000 in
theorem splitSame_walk (a0 : Option Addr) (c0 : Nat) (l0 : List Int) (w : World) (h0 : IntsIn w w.heap.size a0 l0) (_ : ∀ y ∈ l0, I64 y) (m0 : Reached l0) :
    Calls Try.prog 7 #[.slice a0 l0.length c0] w fun e w' => e = .returned (.bool true) ∧ Below w.heap.size w w' := by
  unfold Reached reachBytes at m0
  have H0 := Lib.hid h0
  obtain ⟨n, hn⟩ : ∃ n, l0.length = n := ⟨_, rfl⟩
  rw [hn] at m0 ⊢
  have HN := Lib.hid hn
  have hnb : (n : Int) ≤ 1000000000000000 := by omega
  clear h0 hn
  go_enter Try.func7, Try.ntmps7
  go_wp2_with fail
  refine (splitFact_any _).mono ?_
  rintro e w1 ⟨rfl, hb1⟩
  have HB1 := Lib.hid hb1
  clear hb1
  go_wp2_with fail
  refine (tNew_any _).mono ?_
  rintro e w2 ⟨s, rfl, h2, hb2⟩
  have H2 := Lib.hid h2; have HB2 := Lib.hid hb2
  clear h2 hb2
  go_wp2_with fail
  refine (tNew_any _).mono ?_
  rintro e w3 ⟨t, rfl, h3, hb3⟩
  have HST : Hid (TwoTabs w w3 s t [] []) := Lib.hid (by
    have hs1 := HB1.out.size
    have hs2 := HB2.out.size
    have hkp : KeepP (fun x => w2.heap.size ≤ x) w2 w3 := ⟨hb3.os, hb3.tape, hb3.output, hb3.size, fun x hx _ => hb3.block x hx⟩
    refine ⟨_, _, H2.out.away hkp (fun x hx _ h => by omega), h3, fun x hx h1 h2 => ?_, fun x hx => ⟨fun h => ?_, fun h => ?_⟩, (HB1.out.trans (HB2.out.mono hs1)).trans (hb3.mono (by omega))⟩
    · rcases h1.2 with h | h <;> omega
    · have := h.1; omega
    · omega)
  clear h3 hb3
  go_wp2
  go_loopw [6] (fun i wr => SameRel1 w s t l0 i wr) (fun i _ => n - (intOf i).toNat)
  case atStart => exact ⟨0, [], by omega, by omega, rfl, HST.out, by simp⟩
  case round =>
    obtain ⟨j, S, hj, hj40, rfl, htw, hp⟩ := hrel
    rw [HN.out] at hj
    obtain ⟨O1, O2, hS, hT, hdj, hlo, hbel⟩ := htw
    have HS := Lib.hid hS; have HT := Lib.hid hT; have HDJ := Lib.hid hdj; have HLO := Lib.hid hlo; have HBEL := Lib.hid hbel; have HP := Lib.hid hp
    clear hS hT hdj hlo hp
    by_cases hlt : j < n ∧ j < 40
    · obtain ⟨hlt, hlt40⟩ := hlt
      have hjl : j < l0.length := by rw [HN.out]; exact hlt
      obtain ⟨b, off, rfl, hb, hc⟩ := H0.out.at_ hjl
      have HTK := Lib.hid (List.take_succ_eq_append_getElem hjl)
      obtain ⟨x, hx⟩ : ∃ x, x = l0[j] := ⟨_, rfl⟩
      rw [← hx] at hc HTK
      have hcw := (hbel.cell (p := ⟨b, off + j, none⟩) hb).trans hc
      have hji : (j : Int) < (n : Int) := by omega
      have hj40i : (j : Int) < 40 := by omega
      have hj0 : (0 : Int) ≤ (j : Int) := by omega
      clear hx hc hbel
      obtain ⟨k, hk⟩ : ∃ k, addE S x = k := ⟨_, rfl⟩
      by_cases h0 : k = 0
      · subst h0
        have HK := Lib.hid hk
        clear hk
        go_wp2_with fail
        refine (tAdd_yes x HS.out HK.out).mono ?_
        rintro e w4 ⟨rfl, h4, hk4⟩
        have HNX := Lib.hid (TwoTabs.addS HT.out HDJ.out HLO.out HBEL.out h4 hk4)
        have HPX : Hid ((insK x S).Perm (l0.take (j + 1))) := Lib.hid (by
          rw [HTK.out]
          exact (insK_perm x S).trans ((HP.out.cons x).trans (List.perm_append_comm (l₁ := [x]) (l₂ := l0.take j))))
        clear h4 hk4 hcw
        go_wp2
        go_roundw
        case rel => exact ⟨j + 1, _, by rw [HN.out]; exact hlt, by omega, by simp, HNX.out, HPX.out⟩
        case measure => simp [intOf]; omega
      · have HK := Lib.hid hk
        have HK0 := Lib.hid h0
        clear hk h0
        go_wp2_with fail
        refine (tAdd_no x k HS.out HK.out HK0.out).mono ?_
        rintro e w4 ⟨rfl, h4, hk4⟩
        have HB4 : Hid (Below w.heap.size w w4) := Lib.hid (HBEL.out.trans (hk4.toBelow HBEL.out.size (fun x hx => (HLO.out x hx).1)))
        clear h4 hk4 hcw
        go_wp2
        go_ret
        exact ⟨rfl, HB4.out⟩
    · by_cases hn40 : n ≤ 40
      · obtain rfl : j = n := by omega
        have hjj : ¬ (j : Int) < (j : Int) := by omega
        have hj40n : ¬ (40 : Int) < (j : Int) := by omega
        have HPA : Hid (S.Perm l0) := Lib.hid (by have := HP.out; rwa [List.take_of_length_le (by rw [HN.out]; exact Nat.le_refl _)] at this)
        obtain ⟨D, deep, _, hdir, hD6⟩ := HS.out.open_
        have HDIR := Lib.hid hdir
        have HSB := Lib.hid HS.out.up
        have HTW : Hid (TwoTabs w wr s t S []) := Lib.hid ⟨O1, O2, HS.out, HT.out, HDJ.out, HLO.out, HBEL.out⟩
        clear hdir hbel
        obtain ⟨wq, rfl⟩ : ∃ wq, wq = wr := ⟨_, rfl⟩
        go_wp2
        go_loopw [7] (fun i wr => SameRel2 w s t S l0 i wr) (fun i _ => (intOf i + 1).toNat)
        case atStart => exact ⟨j, [], by rw [HN.out]; exact Nat.le_refl _, rfl, HTW.out, by rw [List.drop_of_length_le (by rw [HN.out]; exact Nat.le_refl _)]⟩
        case round =>
          obtain ⟨q, T, hq, rfl, htw, hp⟩ := hrel
          rw [HN.out] at hq
          obtain ⟨O1', O2', hS, hT, hdj, hlo, hbel⟩ := htw
          have HS2 := Lib.hid hS; have HT2 := Lib.hid hT; have HDJ2 := Lib.hid hdj; have HLO2 := Lib.hid hlo; have HBEL2 := Lib.hid hbel; have HP2 := Lib.hid hp
          clear hS hT hdj hlo hp
          by_cases hq0 : q = 0
          · subst hq0
            have HEQ : Hid (T = S) := Lib.hid (up_eq HT2.out.up.1 HS2.out.up.1 (HP2.out.trans (by rw [List.drop_zero]; exact HPA.out.symm)))
            obtain ⟨D1, deep1, hT1, hd1, hD1⟩ := HS2.out.open_
            obtain ⟨D2, deep2, hT2, hd2, hD2⟩ := HT2.out.open_
            rw [HEQ.out] at hT2 hd2
            obtain rfl := hd1.depth_eq hd2
            have HDE := Lib.hid (fun i => hd1.deep_eq hd2 i)
            have HX : Hid (∀ w', Below wr.heap.size wr w' → TabD O1' w' s S D1 deep1 ∧ TabD O2' w' t S D1 deep2) := Lib.hid fun w' hb => ⟨hT1.bel hb, hT2.bel hb⟩
            have HT1 := Lib.hid hT1; have HTT2 := Lib.hid hT2; have HD1 := Lib.hid hd1
            have hD10 : (0 : Int) ≤ (D1 : Int) := by omega
            have hD16 : (D1 : Int) ≤ 6 := by omega
            obtain ⟨N, hN⟩ : ∃ N, N = 2 ^ D1 := ⟨_, rfl⟩
            have hN64 : N ≤ 64 := by
              have : 2 ^ D1 ≤ 2 ^ 6 := Nat.pow_le_pow_right (by decide) (by omega)
              omega
            have HNN := Lib.hid hN
            clear hT1 hT2 hd1 hd2 hN hbel
            obtain ⟨w5, rfl⟩ : ∃ w5, w5 = wr := ⟨_, rfl⟩
            go_wp2_with fail
            refine HT1.out.depth.mono ?_
            rintro e w' ⟨rfl, rfl⟩
            go_wp2_with fail
            refine HTT2.out.depth.mono ?_
            rintro e w' ⟨rfl, rfl⟩
            go_wp2_with fail
            refine HT1.out.depth.mono ?_
            rintro e w' ⟨rfl, rfl⟩
            go_wp2_with fail
            refine (in_yes _ _ _ _ hD10 hD16).mono ?_
            rintro e w' ⟨rfl, rfl⟩
            go_wp2
            go_loop [8, 9] (fun p i => PowRel D1 p i) (fun _ i => D1 - (intOf i).toNat)
            case atStart => exact ⟨0, by omega, rfl, rfl⟩
            case round =>
              obtain ⟨k, hk, rfl, rfl⟩ := hrel
              have hp : 2 ^ k ≤ 2 ^ 6 := Nat.pow_le_pow_right (by decide) (by omega)
              have hs2 : 2 ^ (k + 1) = 2 ^ k * 2 := Nat.pow_succ ..
              obtain ⟨z, hz⟩ : ∃ z, z = 2 ^ k := ⟨_, rfl⟩
              rw [← hz] at hs2 hp ⊢
              have HZ := Lib.hid hz; have HS3 := Lib.hid hs2
              clear hz hs2
              by_cases hlt3 : k < D1
              · have hki : (k : Int) < (D1 : Int) := by omega
                go_wp2_with (go_at_call 22; refine HT1.out.depth.mono ?_; rintro e w' ⟨rfl, rfl⟩)
                go_round
                case rel => exact ⟨k + 1, hlt3, by simp, by rw [HS3.out]; go_num⟩
                case measure => simp [intOf]; omega
              · obtain rfl : k = D1 := by omega
                obtain rfl : z = N := by rw [HZ.out, HNN.out]
                go_wp2_with (go_at_call 22; refine HT1.out.depth.mono ?_; rintro e w' ⟨rfl, rfl⟩)
                go_loopw [10, 11, 12, 13, 14] (fun i _ _ _ _ wr => BelRel w5 z i wr) (fun i _ _ _ _ _ => z - (intOf i).toNat)
                case atStart => exact ⟨0, by omega, rfl, Below.refl _ _⟩
                case round =>
                  obtain ⟨i, hi4, rfl, hbi⟩ := hrel
                  have HBI := Lib.hid hbi
                  have HXI := Lib.hid (HX.out _ hbi)
                  clear hbi
                  by_cases hlt4 : i < z
                  · have hii : (i : Int) < (z : Int) := by omega
                    have hi0 : (0 : Int) ≤ (i : Int) := by omega
                    go_wp2_with fail
                    refine (HXI.out.1.page i (by rw [← HNN.out]; exact hlt4)).mono ?_
                    rintro e w7 ⟨a7, c7, rfl, hown7, hb7⟩
                    have hbt7 : Below w5.heap.size w5 w7 := HBI.out.trans (hb7.mono HBI.out.size)
                    have HX7 := Lib.hid (HX.out _ hbt7)
                    have HBT7 := Lib.hid hbt7; have HO7 := Lib.hid hown7
                    clear hown7 hb7 hbt7
                    go_wp2_with fail
                    refine (HX7.out.2.page i (by rw [← HNN.out]; exact hlt4)).mono ?_
                    rintro e w8 ⟨a8, c8, rfl, hown8, hb8⟩
                    rw [← HDE.out i] at hown8 ⊢
                    have hown7 := HO7.out.keep fun g hg => hb8.block g (World.ownsRow.lt HO7.out g hg).2
                    have hl73 := HD1.out.few i
                    obtain ⟨l7, hl7⟩ : ∃ l7, l7 = cls S i (deep1 i) := ⟨_, rfl⟩
                    rw [← hl7] at hown7 hown8 hl73 ⊢
                    obtain ⟨m7, hm7⟩ : ∃ m7, l7.length = m7 := ⟨_, rfl⟩
                    rw [hm7] at hown7 hown8 hl73 ⊢
                    obtain ⟨aq, cq, eq, hin7⟩ := hown7.shape
                    obtain ⟨ar, cr, er, hin8⟩ := hown8.shape
                    have hi7 : IntsIn w8 w8.heap.size a7 l7 := by
                      simp only [Value.slice.injEq] at eq
                      rw [eq.1]; exact hin7
                    have hi8 : IntsIn w8 w8.heap.size a8 l7 := by
                      simp only [Value.slice.injEq] at er
                      rw [er.1]; exact hin8
                    obtain ⟨ei, hei⟩ : ∃ ei, ei = deep1 i := ⟨_, rfl⟩
                    rw [← hei]
                    have HI7 := Lib.hid hi7; have HI8 := Lib.hid hi8; have HM7 := Lib.hid hm7
                    have HBT8 : Hid (Below w5.heap.size w5 w8) := Lib.hid (HBT7.out.trans (hb8.mono HBT7.out.size))
                    clear hown7 hown8 hb8 hl7 hm7 eq er hin7 hin8 hi7 hi8 hei
                    go_wp2_with fail
                    refine (ints_same_keep a7 a8 m7 c7 c8 _ _ l7 _ HM7.out HI7.out HI8.out (by unfold maxLen; omega)).mono ?_
                    rintro e w9 ⟨rfl, hk9⟩
                    have HB9 : Hid (Below w5.heap.size w5 w9) := Lib.hid (HBT8.out.trans (hk9.below HBT8.out.size (by simp)))
                    clear hk9
                    go_wp2
                    go_roundw
                    case rel => exact ⟨i + 1, hlt4, by simp, HB9.out⟩
                    case measure => simp [intOf]; omega
                  · go_wp2
                    go_ret
                    exact ⟨rfl, HBEL2.out.trans (HBI.out.mono HBEL2.out.size)⟩
          · have hql : q - 1 < l0.length := by rw [HN.out]; omega
            obtain ⟨b, off, rfl, hb, hc⟩ := H0.out.at_ hql
            obtain ⟨q1, hq1⟩ : ∃ q1, q1 = q - 1 := ⟨_, rfl⟩
            have HDR : Hid (l0.drop q1 = l0[q - 1] :: l0.drop q) := Lib.hid (by rw [hq1, List.drop_eq_getElem_cons hql, Nat.sub_add_cancel (by omega)])
            have HAE : Hid (addE T l0[q - 1] = 0) := Lib.hid (part_room HDIR.out hD6 (fun y hy => (HSB.out.2 y hy).2) HPA.out hql rfl (by rw [Nat.sub_add_cancel (by omega)]; exact HP2.out))
            obtain ⟨x, hx⟩ : ∃ x, x = l0[q - 1] := ⟨_, rfl⟩
            rw [← hx] at hc HDR HAE
            rw [← hq1] at hc
            have hcw := (hbel.cell (p := ⟨b, off + q1, none⟩) hb).trans hc
            have hqi : (q : Int) - 1 = (q1 : Int) := by omega
            rw [hqi]
            have hq1j : (q1 : Int) < (j : Int) := by omega
            have hq10 : (0 : Int) ≤ (q1 : Int) := by omega
            have HQ1 := Lib.hid hq1
            clear hx hc hbel hqi hq1
            go_wp2_with fail
            refine (tAdd_yes x HT2.out HAE.out).mono ?_
            rintro e w4 ⟨rfl, h4, hk4⟩
            have HNX := Lib.hid (TwoTabs.addT HS2.out HDJ2.out HLO2.out HBEL2.out h4 hk4)
            have HPX : Hid ((insK x T).Perm (l0.drop q1)) := Lib.hid (by
              rw [HDR.out]
              exact (insK_perm x T).trans (HP2.out.cons x))
            clear h4 hk4 hcw
            go_wp2
            go_roundw
            case rel => exact ⟨q1, _, by have := HN.out; omega, rfl, HNX.out, HPX.out⟩
            case measure => simp [intOf]
      · have hj40e : j = 40 := by omega
        subst hj40e
        have hn40i : (40 : Int) < (n : Int) := by omega
        clear hlt hbel
        go_wp2
        go_ret
        exact ⟨rfl, HBEL.out⟩
end Go.Proofs.Ythldhbcidcmmaaa
