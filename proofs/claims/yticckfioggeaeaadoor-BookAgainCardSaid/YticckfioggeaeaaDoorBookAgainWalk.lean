/-
  BookAgain: the walk (printed by wip/gen_bookagain.py).
-/
import Derived.Test.YticckfioggeaeaaDoorBookTwo
import Derived.Deep.RegionHeld3
set_option linter.unusedVariables false
set_option linter.unusedSimpArgs false
set_option linter.unnecessarySimpa false
set_option linter.unusedVariables false
namespace Go.Proofs.YticckfioggeaeaaDoor
open Go.RowKit

theorem RowsIn.more {w : World} {B B' : Nat} {a : Option Addr} {xss : List (List Int)} (h : RowsIn w B a xss) (hB : B ≤ B') : RowsIn w B' a xss := fun hn => by
  obtain ⟨b, off, e, hb, hc⟩ := h hn
  refine ⟨b, off, e, by omega, fun i x hx => ?_⟩
  obtain ⟨a', c', h1, h2⟩ := hc i x hx
  exact ⟨a', c', h1, h2.more hB⟩
theorem text_small {slots : Nat} {s : Bk} (h : BkOk slots s) : s.text.length ≤ 2000 := by have := h.text; have := h.many; omega
def AgPost (w : World) (e : Ending) (w' : World) : Prop := e = .returned (.bool true) ∧ Below w.heap.size w w'
set_option maxHeartbeats 8000000 in
set_option maxRecDepth 1000000 in
theorem again_any (x0 : Int) (a : Option Addr) (c : Nat) (xss : List (List Int)) (kk vv : Int) (w : World) (hx : RowsIn w w.heap.size a xss) (hn : xss.length ≤ maxLen) (ht : Tab w) (he : Errs w) :
    Calls Tryd.prog 6 #[.int .i64 x0, .slice a xss.length c, .int .i64 kk, .int .i64 vv] w (AgPost w) := by
  have HT := Lib.hid ht; have HE := Lib.hid he; have HX := Lib.hid hx; have HN := Lib.hid hn
  obtain ⟨n, hnn⟩ : ∃ n, n = xss.length := ⟨_, rfl⟩
  rw [← hnn]
  have HNN := Lib.hid hnn
  clear ht he hx hn hnn
  go_enter Tryd.func6, Tryd.ntmps6
  go_wp2_with fail
  refine (fact_any _ HT.out).mono ?_
  rintro e w1 ⟨rfl, hb1⟩
  have HB1 := Lib.hid hb1
  clear hb1
  go_wp2_with fail
  have htold := told_any x0 a c xss w1 ((HX.out.below HB1.out).more HB1.out.size) HN.out (HT.out.below HB1.out (Nat.le_refl _))
  rw [← HNN.out] at htold
  refine htold.mono ?_
  clear htold
  rintro e w2 ⟨hb2, ⟨hno, rfl⟩ | ⟨m, rfl, h1, h8, b, rfl, hbk⟩⟩
  · have HB2 := Lib.hid (HB1.out.trans (hb2.mono HB1.out.size))
    have hc : x0 < 1 ∨ (1 ≤ x0 ∧ 8 < x0) := by omega
    clear hb2 hno
    rcases hc with h | ⟨h0, h⟩
    all_goals
      go_wp2
      go_ret
      exact ⟨rfl, HB2.out⟩
  · have HB2 := Lib.hid (HB1.out.trans (hb2.mono HB1.out.size))
    have HBK := Lib.hid hbk
    clear hb2 hbk
    obtain ⟨s, hs⟩ : ∃ s, s = runB m (xss.take 70) := ⟨_, rfl⟩
    rw [← hs] at HBK
    have hok := HBK.out.ok.1
    have HAG : Hid (openL m bk0 (lns s.text) = (s, ((s.many : Nat) : Int), 0)) := Lib.hid (by rw [hs]; exact open_again h1 _)
    have htx := text_small hok
    have hkl : s.keys.length ≤ 8 := by have := hok.len; rw [show s.keys.length = s.M.length by unfold Bk.keys; rw [List.length_map]]; omega
    clear hs hok
    go_wp2_with fail
    refine (text_any w2 HBK.out).mono ?_
    rintro e w3 ⟨rfl, hb3, hk3⟩
    have HBK3 := Lib.hid hb3
    have HB3 : Hid (Below w.heap.size w w3) := Lib.hid (HB2.out.trans (hk3.toBelow HB2.out.size (fun x hx h => by have := HB1.out.size; omega)))
    clear hb3 hk3
    go_wp2_with fail
    refine (open_any m s.text w3 (HT.out.below HB3.out (Nat.le_refl _)) (HE.out.below HB3.out (Nat.le_refl _))).mono ?_
    rintro e w4 ⟨hb4, ⟨hno, _⟩ | ⟨m', hm', _, _, ⟨hl, _⟩ | ⟨_, ⟨he, _⟩ | ⟨_, b2, rfl, hbk2⟩⟩⟩⟩
    · exact absurd ⟨by omega, by omega⟩ hno
    · omega
    · obtain rfl : m = m' := by omega
      rw [HAG.out] at he
      exact absurd rfl he
    obtain rfl : m = m' := by omega
    rw [HAG.out] at hbk2 ⊢
    have HD : Hid (DX w w4 b2 b m s s) := Lib.hid (DX.start HBK3.out (fun x hx h => by have := HB1.out.size; omega) HB3.out hb4 hbk2).swap
    clear hb4 hbk2 hm'
    obtain ⟨nk, hnk⟩ : ∃ nk, nk = s.keys.length := ⟨_, rfl⟩
    rw [← hnk] at hkl
    have HNK := Lib.hid hnk.symm
    clear hnk
    have hkm : nk ≤ maxLen := by unfold maxLen; omega
    go_wp2_with fail
    refine (dkeys w w4 b2 b m s s HD.out HNK.out).mono ?_
    rintro e w5 ⟨a5, c5, rfl, hi5, hd5, _⟩
    have HI5 := Lib.hid hi5; have HD5 := Lib.hid hd5
    clear hi5 hd5
    go_wp2_with fail
    refine (dkeys w w5 b b2 m s s HD5.out.swap HNK.out).mono ?_
    rintro e w6 ⟨a6, c6, rfl, hi6, hd6, hb6⟩
    have HI6 := Lib.hid hi6; have HI5' := Lib.hid (HI5.out.below hb6); have HD6 := Lib.hid hd6.swap
    clear hi6 hd6 hb6
    go_wp2_with fail
    refine (ints_same_keep a5 a6 nk c5 c6 _ _ s.keys _ HNK.out HI5'.out HI6.out hkm).mono ?_
    rintro e w7 ⟨rfl, hk7⟩
    have HD7 := Lib.hid (HD6.out.keep0 hk7)
    clear hk7
    go_wp2_with fail
    refine (dtext w w7 b2 b m s s HD7.out).mono ?_
    rintro e w8 ⟨rfl, hd8⟩
    have HD8 := Lib.hid hd8
    clear hd8
    go_wp2_with fail
    refine (dtext w w8 b b2 m s s HD8.out.swap).mono ?_
    rintro e w9 ⟨rfl, hd9⟩
    have HD9 := Lib.hid hd9.swap
    clear hd9
    go_wp2_with fail
    refine (dput w w9 b b2 m s s kk vv HD9.out.swap HT.out).mono ?_
    rintro e w10 ⟨rfl, hd10⟩
    have HD10 := Lib.hid hd10
    go_wp2_with fail
    refine (dput w w10 b2 b m s (putS m s kk vv) kk vv HD10.out.swap HT.out).mono ?_
    rintro e w11 ⟨rfl, hd11⟩
    clear hd10
    obtain ⟨p, hp⟩ : ∃ p, p = putV m s kk vv := ⟨_, rfl⟩
    obtain ⟨e1, he1⟩ : ∃ e1, e1 = putE s kk vv := ⟨_, rfl⟩
    obtain ⟨s1, hs1⟩ : ∃ s1, s1 = putS m s kk vv := ⟨_, rfl⟩
    rw [← hp, ← he1]
    rw [← hs1] at hd11
    have HD11 := Lib.hid hd11
    clear hp he1 hs1 hd11 HD10
    go_wp2_with fail
    refine (dget w w11 b b2 m s1 s1 kk HD11.out.swap HT.out).mono ?_
    rintro e w12 ⟨rfl, hd12⟩
    have HD12 := Lib.hid hd12
    go_wp2_with fail
    refine (dget w w12 b2 b m s1 (getS s1 kk) kk HD12.out.swap HT.out).mono ?_
    rintro e w13 ⟨rfl, hd13⟩
    clear hd12
    obtain ⟨q, hq⟩ : ∃ q, q = getV s1 kk := ⟨_, rfl⟩
    obtain ⟨e2, he2⟩ : ∃ e2, e2 = getE s1 kk := ⟨_, rfl⟩
    obtain ⟨t, ht⟩ : ∃ t, t = getS s1 kk := ⟨_, rfl⟩
    rw [← hq, ← he2]
    rw [← ht] at hd13
    have HD13 := Lib.hid hd13
    clear hq he2 ht hd13 HD12 HNK hkl hkm
    obtain ⟨nt, hnt⟩ : ∃ nt, nt = t.keys.length := ⟨_, rfl⟩
    have HNT := Lib.hid hnt.symm
    have hkt : nt ≤ maxLen := by
      obtain ⟨O1, O2, d⟩ := HD13.out
      have h5 := d.k1.ok.1.len
      rw [hnt, show t.keys.length = t.M.length by unfold Bk.keys; rw [List.length_map]]
      unfold maxLen
      omega
    clear hnt
    have hcase : (e1 = 0 ∨ e1 ≠ 0) ∧ (e2 = 0 ∨ e2 ≠ 0) := ⟨Classical.em _, Classical.em _⟩
    obtain ⟨hc1, hc2⟩ := hcase
    rcases hc1 with h1e | h1e <;> rcases hc2 with h2e | h2e
    · rw [h1e, h2e, errw_zero]
      clear h1e h2e
      go_wp2
      go_region_held3 (fun w' => True)
        (first | trivial | fail)
        (first
          | (go_at_call_of 13 (Value.pointer (some ⟨b2, 0, none⟩)); refine (dkeys w w13.drew b2 b m t t HD13.out.drew HNT.out).mono ?_; rintro e w14 ⟨a14, c14, rfl, hi14, hd14, _⟩; have HI14 := Lib.hid hi14; have HD14 := Lib.hid hd14; clear hi14 hd14)
          | (go_at_call_of 13 (Value.pointer (some ⟨b, 0, none⟩)); refine (dkeys w w14 b b2 m t t HD14.out.swap HNT.out).mono ?_; rintro e w15 ⟨a15, c15, rfl, hi15, hd15, hb15⟩; have HI15 := Lib.hid hi15; have HI14' := Lib.hid (HI14.out.below hb15); have HD15 := Lib.hid hd15.swap; clear hi15 hd15 hb15)
          | (go_at_call 12; refine (ints_same_keep a14 a15 nt c14 c15 _ _ t.keys _ HNT.out HI14'.out HI15.out hkt).mono ?_; rintro e w16 ⟨rfl, hk16⟩; have HD16 := Lib.hid (HD15.out.keep0 hk16); clear hk16)
          | (go_at_call_of 17 (Value.pointer (some ⟨b2, 0, none⟩)); refine (dtext w w16 b2 b m t t HD16.out).mono ?_; rintro e w17 ⟨rfl, hd17⟩; have HD17 := Lib.hid hd17; clear hd17)
          | (go_at_call_of 17 (Value.pointer (some ⟨b, 0, none⟩)); refine (dtext w w17 b b2 m t t HD17.out.swap).mono ?_; rintro e w18 ⟨rfl, hd18⟩; have HD18 := Lib.hid hd18.swap; clear hd18))
      go_wp2
      go_ret
      exact ⟨rfl, HD18.out.bel⟩
    · rw [h1e, errw_of h2e, errw_zero]
      clear h1e h2e
      go_wp2
      go_region_held3 (fun w' => True)
        (first | trivial | fail)
        (first
          | (go_at_call_of 13 (Value.pointer (some ⟨b2, 0, none⟩)); refine (dkeys w w13.drew b2 b m t t HD13.out.drew HNT.out).mono ?_; rintro e w14 ⟨a14, c14, rfl, hi14, hd14, _⟩; have HI14 := Lib.hid hi14; have HD14 := Lib.hid hd14; clear hi14 hd14)
          | (go_at_call_of 13 (Value.pointer (some ⟨b, 0, none⟩)); refine (dkeys w w14 b b2 m t t HD14.out.swap HNT.out).mono ?_; rintro e w15 ⟨a15, c15, rfl, hi15, hd15, hb15⟩; have HI15 := Lib.hid hi15; have HI14' := Lib.hid (HI14.out.below hb15); have HD15 := Lib.hid hd15.swap; clear hi15 hd15 hb15)
          | (go_at_call 12; refine (ints_same_keep a14 a15 nt c14 c15 _ _ t.keys _ HNT.out HI14'.out HI15.out hkt).mono ?_; rintro e w16 ⟨rfl, hk16⟩; have HD16 := Lib.hid (HD15.out.keep0 hk16); clear hk16)
          | (go_at_call_of 17 (Value.pointer (some ⟨b2, 0, none⟩)); refine (dtext w w16 b2 b m t t HD16.out).mono ?_; rintro e w17 ⟨rfl, hd17⟩; have HD17 := Lib.hid hd17; clear hd17)
          | (go_at_call_of 17 (Value.pointer (some ⟨b, 0, none⟩)); refine (dtext w w17 b b2 m t t HD17.out.swap).mono ?_; rintro e w18 ⟨rfl, hd18⟩; have HD18 := Lib.hid hd18.swap; clear hd18))
      go_wp2
      go_ret
      exact ⟨rfl, HD18.out.bel⟩
    · rw [h2e, errw_of h1e, errw_zero]
      clear h1e h2e
      go_wp2
      go_region_held3 (fun w' => True)
        (first | trivial | fail)
        (first
          | (go_at_call_of 13 (Value.pointer (some ⟨b2, 0, none⟩)); refine (dkeys w w13.drew b2 b m t t HD13.out.drew HNT.out).mono ?_; rintro e w14 ⟨a14, c14, rfl, hi14, hd14, _⟩; have HI14 := Lib.hid hi14; have HD14 := Lib.hid hd14; clear hi14 hd14)
          | (go_at_call_of 13 (Value.pointer (some ⟨b, 0, none⟩)); refine (dkeys w w14 b b2 m t t HD14.out.swap HNT.out).mono ?_; rintro e w15 ⟨a15, c15, rfl, hi15, hd15, hb15⟩; have HI15 := Lib.hid hi15; have HI14' := Lib.hid (HI14.out.below hb15); have HD15 := Lib.hid hd15.swap; clear hi15 hd15 hb15)
          | (go_at_call 12; refine (ints_same_keep a14 a15 nt c14 c15 _ _ t.keys _ HNT.out HI14'.out HI15.out hkt).mono ?_; rintro e w16 ⟨rfl, hk16⟩; have HD16 := Lib.hid (HD15.out.keep0 hk16); clear hk16)
          | (go_at_call_of 17 (Value.pointer (some ⟨b2, 0, none⟩)); refine (dtext w w16 b2 b m t t HD16.out).mono ?_; rintro e w17 ⟨rfl, hd17⟩; have HD17 := Lib.hid hd17; clear hd17)
          | (go_at_call_of 17 (Value.pointer (some ⟨b, 0, none⟩)); refine (dtext w w17 b b2 m t t HD17.out.swap).mono ?_; rintro e w18 ⟨rfl, hd18⟩; have HD18 := Lib.hid hd18.swap; clear hd18))
      go_wp2
      go_ret
      exact ⟨rfl, HD18.out.bel⟩
    · rw [errw_of h1e, errw_of h2e]
      clear h1e h2e
      go_wp2
      go_region_held3 (fun w' => True)
        (first | trivial | fail)
        (first
          | (go_at_call_of 13 (Value.pointer (some ⟨b2, 0, none⟩)); refine (dkeys w w13.drew b2 b m t t HD13.out.drew HNT.out).mono ?_; rintro e w14 ⟨a14, c14, rfl, hi14, hd14, _⟩; have HI14 := Lib.hid hi14; have HD14 := Lib.hid hd14; clear hi14 hd14)
          | (go_at_call_of 13 (Value.pointer (some ⟨b, 0, none⟩)); refine (dkeys w w14 b b2 m t t HD14.out.swap HNT.out).mono ?_; rintro e w15 ⟨a15, c15, rfl, hi15, hd15, hb15⟩; have HI15 := Lib.hid hi15; have HI14' := Lib.hid (HI14.out.below hb15); have HD15 := Lib.hid hd15.swap; clear hi15 hd15 hb15)
          | (go_at_call 12; refine (ints_same_keep a14 a15 nt c14 c15 _ _ t.keys _ HNT.out HI14'.out HI15.out hkt).mono ?_; rintro e w16 ⟨rfl, hk16⟩; have HD16 := Lib.hid (HD15.out.keep0 hk16); clear hk16)
          | (go_at_call_of 17 (Value.pointer (some ⟨b2, 0, none⟩)); refine (dtext w w16 b2 b m t t HD16.out).mono ?_; rintro e w17 ⟨rfl, hd17⟩; have HD17 := Lib.hid hd17; clear hd17)
          | (go_at_call_of 17 (Value.pointer (some ⟨b, 0, none⟩)); refine (dtext w w17 b b2 m t t HD17.out.swap).mono ?_; rintro e w18 ⟨rfl, hd18⟩; have HD18 := Lib.hid hd18.swap; clear hd18))
      go_wp2
      go_ret
      exact ⟨rfl, HD18.out.bel⟩
theorem bookAgain_walk (x0 : Int) (a1 : Option Addr) (c1 : Nat) (l1 : List (List Int)) (x2 x3 : Int) (w : World) (_ : I64 x0) (h1 : RowsIn w w.heap.size a1 l1) (_ : ∀ r ∈ l1, r.length ≤ maxLen ∧ ∀ y ∈ r, I64 y) (m1 : l1.length ≤ maxLen) (_ : I64 x2) (_ : I64 x3) (hg : Tab w ∧ Errs w) :
    Calls Tryd.prog 6 #[.int .i64 x0, .slice a1 l1.length c1, .int .i64 x2, .int .i64 x3] w fun e w' => e = .returned (.bool true) ∧ Below w.heap.size w w' := again_any x0 a1 c1 l1 x2 x3 w h1 m1 hg.1 hg.2
end Go.Proofs.YticckfioggeaeaaDoor
