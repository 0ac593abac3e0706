/-
  The reference's Put joined; its Get, by their contracts (printed by wip/gen_bookref5.py).
-/
import Derived.Test.YticckfioggeaeaaGreatDoorBookRef4
set_option linter.unusedVariables false
set_option linter.unusedSimpArgs false
set_option linter.unnecessarySimpa false
set_option linter.unusedVariables false
namespace Go.Proofs.YticckfioggeaeaaGreatDoor
open Go.RowKit

theorem rPut_any (slots : Nat) (s : Bk) (X : Value) (k v : Int) (w : World) (h : RB4 w slots s X) (hok : BkOk slots s) (h8 : slots ≤ 8) (h1 : 1 ≤ slots) :
    Calls Tryz.prog 53 #[X, .int .i64 k, .int .i64 v] w (RPutPost w slots (putS slots s k v) (putV slots s k v) (putE s k v)) := by
  by_cases hr : okPut k v
  · by_cases hm : s.many = 60
    · have e : putE s k v = 4 := by unfold putE; rw [if_neg (by simpa using hr), if_pos hm]
      have e1 : putS slots s k v = s := by unfold putS; rw [e, if_neg (by decide)]
      have e2 : putV slots s k v = 0 := by unfold putV; rw [e, if_neg (by decide)]
      rw [e, e1, e2]
      exact rPut_log slots s X k v w h hr hm
    · have e : putE s k v = 0 := by unfold putE; rw [if_neg (by simpa using hr), if_neg hm]
      have e1 : putS slots s k v = putB slots s k v := by unfold putS; rw [if_pos e]
      have e2 : putV slots s k v = letGo slots s k := by unfold putV; rw [if_pos e]
      rw [e, e1, e2]
      by_cases hf : fullFor slots s k
      · exact rPut_out slots s X k v w h hr hok h8 hm hf h1
      · have e3 : letGo slots s k = -1 := by unfold letGo; rw [if_neg hf]
        rw [e3]
        exact rPut_in slots s X k v w h hr hok h8 hm hf
  · have e : putE s k v = 1 := by unfold putE; rw [if_pos hr]
    have e1 : putS slots s k v = s := by unfold putS; rw [e, if_neg (by decide)]
    have e2 : putV slots s k v = 0 := by unfold putV; rw [e, if_neg (by decide)]
    rw [e, e1, e2]
    exact rPut_range slots s X k v w h hr

set_option maxHeartbeats 4000000 in
set_option maxRecDepth 100000 in
theorem rGet_none (slots : Nat) (s : Bk) (X : Value) (k : Int) (w : World) (h : RB4 w slots s X) (hok : BkOk slots s) (h8 : slots ≤ 8) (hk : k ∉ s.keys) :
    Calls Tryz.prog 54 #[X, .int .i64 k] w (RPutPost w slots s 0 5) := by
  obtain ⟨aK, aV, nK, nV, cK, cV, rfl, hK, hV, hkl, hvl⟩ := h
  have HP := Lib.hid (miss_at hk).1
  have hn8 : nK ≤ 8 := by have := hok.len; rw [← hkl, keysLen]; omega
  obtain ⟨w1, hw1⟩ : ∃ w1, w1 = (w.alloc (.cells #[.int .i64 slots, .slice aK nK cK, .slice aV nV cV, .string ⟨s.text.toArray⟩, .int .i64 s.many] 24)).alloc (.cells #[.int .i64 0, .slice none 0 0, .slice none 0 0, .string ⟨#[]⟩, .int .i64 0] 24) := ⟨_, rfl⟩
  have hd1 := RB.start (slots := slots) (txt := s.text) (many := (s.many : Int)) w hK hV hkl hvl
  rw [← hw1] at hd1
  have HD1 := Lib.hid hd1; have HW1 := Lib.hid hw1
  clear hd1 hw1 hK hV hkl hvl
  obtain ⟨x0, x1, x2, x3, x4, f0, f1, f2, f3, f4⟩ := HD1.out.cells
  obtain ⟨y0, y1, y2, y3, y4, g0, g1, g2, g3, g4⟩ := HD1.out.rcells
  go_enter Tryz.func54, Tryz.ntmps54
  go_upto_region 1 with fail
  rw [← HW1.out]
  go_wp2_with fail
  refine (rPlace aK nK cK _ s.keys k _ HD1.out.kl (own_in HD1.out.K) (by omega)).mono ?_
  rintro e w2 ⟨rfl, rfl⟩
  rw [HP.out]
  go_wp2
  have HDE := HD1
  (try simp only [Exit.inBlock, Exit.then])
  refine bodyPost_ret (results_cell3 rfl _ _ (w.heap.size + 1) 24 _ _ rfl (blk5 HDE.out.res _ _ _ _ _) Tryz.underlying24 rfl info_rstore) rfl ?_
  have hd := HDE.out.done (.int .i64 slots) (.slice aK nK cK) (.slice aV nV cV) (.string ⟨s.text.toArray⟩) (.int .i64 s.many)
  exact ⟨_, rfl, ⟨aK, aV, nK, nV, cK, cV, rfl, hd.1, hd.2.1, HDE.out.kl, HDE.out.vl⟩, hd.2.2⟩
set_option maxHeartbeats 4000000 in
set_option maxRecDepth 100000 in
theorem rGet_log (slots : Nat) (s : Bk) (X : Value) (k : Int) (w : World) (h : RB4 w slots s X) (hok : BkOk slots s) (h8 : slots ≤ 8) (hk : k ∈ s.keys) (hm : s.many = 60) :
    Calls Tryz.prog 54 #[X, .int .i64 k] w (RPutPost w slots s 0 4) := by
  obtain ⟨aK, aV, nK, nV, cK, cV, rfl, hK, hV, hkl, hvl⟩ := h
  obtain ⟨i, hi, hp, _⟩ := hit_at hok.nod hk
  have HP := Lib.hid hp
  have hn8 : nK ≤ 8 := by have := hok.len; rw [← hkl, keysLen]; omega
  have hi0 : ¬ (i : Int) < 0 := by omega
  have hmi : (60 : Int) ≤ (s.many : Int) := by omega
  clear hp hm hi
  obtain ⟨w1, hw1⟩ : ∃ w1, w1 = (w.alloc (.cells #[.int .i64 slots, .slice aK nK cK, .slice aV nV cV, .string ⟨s.text.toArray⟩, .int .i64 s.many] 24)).alloc (.cells #[.int .i64 0, .slice none 0 0, .slice none 0 0, .string ⟨#[]⟩, .int .i64 0] 24) := ⟨_, rfl⟩
  have hd1 := RB.start (slots := slots) (txt := s.text) (many := (s.many : Int)) w hK hV hkl hvl
  rw [← hw1] at hd1
  have HD1 := Lib.hid hd1; have HW1 := Lib.hid hw1
  clear hd1 hw1 hK hV hkl hvl
  obtain ⟨x0, x1, x2, x3, x4, f0, f1, f2, f3, f4⟩ := HD1.out.cells
  obtain ⟨y0, y1, y2, y3, y4, g0, g1, g2, g3, g4⟩ := HD1.out.rcells
  go_enter Tryz.func54, Tryz.ntmps54
  go_upto_region 1 with fail
  rw [← HW1.out]
  go_wp2_with fail
  refine (rPlace aK nK cK _ s.keys k _ HD1.out.kl (own_in HD1.out.K) (by omega)).mono ?_
  rintro e w2 ⟨rfl, rfl⟩
  rw [HP.out]
  go_wp2
  have HDE := HD1
  (try simp only [Exit.inBlock, Exit.then])
  refine bodyPost_ret (results_cell3 rfl _ _ (w.heap.size + 1) 24 _ _ rfl (blk5 HDE.out.res _ _ _ _ _) Tryz.underlying24 rfl info_rstore) rfl ?_
  have hd := HDE.out.done (.int .i64 slots) (.slice aK nK cK) (.slice aV nV cV) (.string ⟨s.text.toArray⟩) (.int .i64 s.many)
  exact ⟨_, rfl, ⟨aK, aV, nK, nV, cK, cV, rfl, hd.1, hd.2.1, HDE.out.kl, HDE.out.vl⟩, hd.2.2⟩
set_option maxHeartbeats 4000000 in
set_option maxRecDepth 100000 in
theorem rGet_some (slots : Nat) (s : Bk) (X : Value) (k : Int) (w : World) (h : RB4 w slots s X) (hok : BkOk slots s) (h8 : slots ≤ 8) (hk : k ∈ s.keys) (hm : s.many ≠ 60) :
    Calls Tryz.prog 54 #[X, .int .i64 k] w (RPutPost w slots (getB s k) (valOf s k) 0) := by
  obtain ⟨aK, aV, nK, nV, cK, cV, rfl, hK, hV, hkl, hvl⟩ := h
  obtain ⟨i, hi, hp, _, _, hvi⟩ := hit_at hok.nod hk
  obtain ⟨⟨hk0, hk1⟩, hv0, hv1⟩ := hok.rng _ (valOf_mem hk)
  have HP := Lib.hid hp
  have hnK : nK = s.M.length := by rw [← hkl, keysLen]
  have hnV : nV = s.M.length := by rw [← hvl, List.length_map]
  have hn8 : nK ≤ 8 := by have := hok.len; omega
  have hi0 : ¬ (i : Int) < 0 := by omega
  have hi0' : (0 : Int) ≤ (i : Int) := by omega
  have hiV : (i : Int) < (nV : Int) := by omega
  have hmany := hok.many
  have hmi : ¬ (60 : Int) ≤ (s.many : Int) := by omega
  have htx : s.text.length ≤ 2000 := by have := hok.text; omega
  have HND := Lib.hid hok.nod
  have HL8 : Hid (s.M.length ≤ 8) := Lib.hid (by omega)
  obtain ⟨y, hy⟩ : ∃ y, y = valOf s k := ⟨_, rfl⟩
  have hil : i < (s.M.map (·.2)).length := by rw [List.length_map]; exact hi
  rw [List.getElem?_eq_getElem hil] at hvi
  obtain ⟨b, off, rfl, hbB, hc⟩ := (own_in hV).at_ hil
  rw [Option.some.inj hvi, ← hy] at hc
  have HY := Lib.hid hy
  have HKL := Lib.hid hkl; have HVL := Lib.hid hvl
  replace hk0 : 0 ≤ k := hk0
  replace hk1 : k ≤ 1000000 := hk1
  clear hp hm hi hvi hy hk hok hil hnK hnV hv0 hv1
  have HG : Hid ((getB s k).M = (k, valOf s k) :: s.M.filter (fun p => p.1 != k)) := Lib.hid rfl
  rw [← HY.out]
  obtain ⟨w1, hw1⟩ : ∃ w1, w1 = (w.alloc (.cells #[.int .i64 slots, .slice aK nK cK, .slice (some ⟨b, off, none⟩) nV cV, .string ⟨s.text.toArray⟩, .int .i64 s.many] 24)).alloc (.cells #[.int .i64 0, .slice none 0 0, .slice none 0 0, .string ⟨#[]⟩, .int .i64 0] 24) := ⟨_, rfl⟩
  have hd1 := RB.start (slots := slots) (txt := s.text) (many := (s.many : Int)) w hK hV hkl hvl
  rw [← hw1] at hd1
  have HD1 := Lib.hid hd1; have HW1 := Lib.hid hw1
  have hc1 : w1.cell? ⟨b, off + i, none⟩ = some (.int .i64 y) := by exact (World.cell?_of_block (hd1.bel.block b hbB)).trans hc
  have HC := Lib.hid hc1
  clear hc1 hc
  clear hd1 hw1 hK hV hkl hvl
  obtain ⟨x0, x1, x2, x3, x4, f0, f1, f2, f3, f4⟩ := HD1.out.cells
  obtain ⟨y0, y1, y2, y3, y4, g0, g1, g2, g3, g4⟩ := HD1.out.rcells
  go_enter Tryz.func54, Tryz.ntmps54
  go_upto_region 1 with fail
  rw [← HW1.out]
  go_wp2_with fail
  refine (rPlace aK nK cK _ s.keys k _ HD1.out.kl (own_in HD1.out.K) (by omega)).mono ?_
  rintro e w2 ⟨rfl, rfl⟩
  rw [HP.out]
  have c1 := HC.out
  go_upto_region 7 with fail
  have HFR : Hid (∀ w', OwnInts w' 0 (.slice aK nK cK) s.keys → OwnInts w' 0 (.slice (some ⟨b, off, none⟩) nV cV) (s.M.map (·.2)) → Calls Tryz.prog 80 #[rVal slots aK (some ⟨b, off, none⟩) nK nV cK cV s.text s.many, .int .i64 k, .int .i64 y] w' (RPost w' slots (getB s k).keys ((getB s k).M.map (·.2)) s.text s.many)) := Lib.hid fun w' h1 h2 => by
    rw [HY.out]
    exact rFront slots s s.keys (s.M.map (·.2)) s.M _ k (valOf s k) w' ⟨aK, _, _, _, cK, cV, rfl, h1, h2, HKL.out, HVL.out⟩ rfl rfl HND.out HL8.out
  clear c1
  go_wp2_with fail
  refine (HFR.out _ HD1.out.K HD1.out.V).mono ?_
  rintro e wf ⟨Xf, rfl, ⟨aF, aG, nF, nG, cF, cG, rfl, hKF, hVF, hlF, hlG⟩, hbf⟩
  have HDf := Lib.hid (HD1.out.below hbf)
  have HKF := Lib.hid hKF; have HVF := Lib.hid hVF; have HLF := Lib.hid hlF; have HLG := Lib.hid hlG
  clear hKF hVF hlF hlG hbf x0 x1 x2 x3 x4 f0 f1 f2 f3 f4 y0 y1 y2 y3 y4 g0 g1 g2 g3 g4
  obtain ⟨x0, x1, x2, x3, x4, f0, f1, f2, f3, f4⟩ := HDf.out.cells
  go_upto_region 8 with fail
  obtain ⟨wg, hwg⟩ : ∃ w', w' = set5 wf w.heap.size (.int .i64 slots) (.slice aF nF cF) (.slice aG nG cG) (.string ⟨s.text.toArray⟩) (.int .i64 s.many) := ⟨_, rfl⟩
  have hdg := HDf.out.setAll (slots' := slots) (txt' := s.text) (many' := s.many) HKF.out HVF.out HLF.out HLG.out
  rw [← hwg] at hdg
  rw [show ((((wf.setCell ⟨w.heap.size, 0, none⟩ (.int .i64 slots)).setCell ⟨w.heap.size, 1, none⟩ (.slice aF nF cF)).setCell ⟨w.heap.size, 2, none⟩ (.slice aG nG cG)).setCell ⟨w.heap.size, 3, none⟩ (.string ⟨s.text.toArray⟩)).setCell ⟨w.heap.size, 4, none⟩ (.int .i64 s.many) = wg from hwg.symm]
  have HDg := Lib.hid hdg
  clear hdg hwg x0 x1 x2 x3 x4 f0 f1 f2 f3 f4
  have HSx : Hid (∀ w', Keep [] wg w' → w'.cell? ⟨w.heap.size, 0, none⟩ = some (.int .i64 slots) ∧ w'.cell? ⟨w.heap.size, 1, none⟩ = some (.slice aF nF cF) ∧ w'.cell? ⟨w.heap.size, 2, none⟩ = some (.slice aG nG cG) ∧ w'.cell? ⟨w.heap.size, 3, none⟩ = some (.string ⟨s.text.toArray⟩) ∧ w'.cell? ⟨w.heap.size, 4, none⟩ = some (.int .i64 s.many)) := Lib.hid fun w' hk => by
    have := (HDg.out.keep hk).cells
    exact ⟨this.1, this.2.1, this.2.2.1, this.2.2.2.1, this.2.2.2.2.1⟩
  have hil1 := itoa_len (n := k) (k := 7) hk0 (by decide) (by omega)
  have q1 : ¬ 9223372036854775807 < 2 + (Lib.itoa k).length := by omega
  have HWP : Hid ((⟨#[103, 32]⟩ : ByteArray) ++ ⟨(Lib.itoa k).toArray⟩ = ⟨(wordG k).toArray⟩) := Lib.hid (by
    have e : wordG k = [103, 32] ++ Lib.itoa k := by unfold wordG; simp
    rw [e, ← str_cat])
  have HRS : Hid (∀ w', Keep [] wg w' → RSt w' slots (getB s k).keys ((getB s k).M.map (·.2)) s.text s.many (rVal slots aF aG nF nG cF cG s.text s.many)) := Lib.hid fun w' hk => ⟨aF, aG, nF, nG, cF, cG, rfl, (HDg.out.keep hk).K, (HDg.out.keep hk).V, HLF.out, HLG.out⟩
  have HWL : Hid ((wordG k).length ≤ 100) := Lib.hid (by have := wordG_len (k := k) ⟨hk0, hk1⟩; omega)
  obtain ⟨y0, y1, y2, y3, y4, g0, g1, g2, g3, g4⟩ := HDg.out.rcells
  go_wp2
  go_region_held3 (fun w' => w'.cell? ⟨w.heap.size, 0, none⟩ = some (.int .i64 slots) ∧ w'.cell? ⟨w.heap.size, 1, none⟩ = some (.slice aF nF cF) ∧ w'.cell? ⟨w.heap.size, 2, none⟩ = some (.slice aG nG cG) ∧ w'.cell? ⟨w.heap.size, 3, none⟩ = some (.string ⟨s.text.toArray⟩) ∧ w'.cell? ⟨w.heap.size, 4, none⟩ = some (.int .i64 s.many))
    (first | exact HSx.out _ (Keep.refl _ _).drew | exact HSx.out _ HKd.out | exact HDd.out.xres _ _ _ _ _ | fail)
    (first
      | (go_at_call 21; refine (rdigits_int _ (by omega) (by omega) _).mono ?_; rintro e w2 ⟨rfl, rfl⟩)
      | (go_at_call 81; rw [HWP.out]; refine (rDown slots _ _ s.text s.many _ (wordG k) _ (HRS.out _ (Keep.refl _ _).drew) HWL.out htx (by omega) (by omega)).mono ?_; rintro e wd ⟨Xd, rfl, ⟨aD, aE, nD, nE, cD, cE, rfl, hKD, hVD, hlD, hlE⟩, hbd⟩; have HKd : Hid (Keep [] wg wd) := Lib.hid ((Keep.refl _ _).drew.trans (Keep.of_below hbd (Nat.le_refl _))); have HKD := Lib.hid hKD; have HVD := Lib.hid hVD; have HLD := Lib.hid hlD; have HLE := Lib.hid hlE; have HDd := Lib.hid (HDg.out.keep HKd.out); clear hKD hVD hlD hlE hbd y0 y1 y2 y3 y4 g0 g1 g2 g3 g4; (obtain ⟨y0, y1, y2, y3, y4, g0, g1, g2, g3, g4⟩ := HDd.out.rcells)))
  have HDE := HDd
  clear y0 y1 y2 y3 y4 g0 g1 g2 g3 g4
  go_wp2
  (try simp only [Exit.inBlock, Exit.then])
  refine bodyPost_ret (results_cell3 rfl _ _ (w.heap.size + 1) 24 _ _ rfl (blk5 HDE.out.res _ _ _ _ _) Tryz.underlying24 rfl info_rstore) rfl ?_
  have hk := keep5 wd (w.heap.size + 1) (.int .i64 slots) (.slice aD nD cD) (.slice aE nE cE) (.string ⟨(s.text ++ lineOf (wordG k)).toArray⟩) (.int .i64 ((s.many : Int) + 1))
  have hd := HDE.out.done (.int .i64 slots) (.slice aD nD cD) (.slice aE nE cE) (.string ⟨(s.text ++ lineOf (wordG k)).toArray⟩) (.int .i64 ((s.many : Int) + 1))
  have hmc : (((getB s k).many : Nat) : Int) = (s.many : Int) + 1 := by simp [getB]
  refine ⟨_, rfl, ?_, hd.2.2⟩
  unfold RB4
  rw [hmc]
  exact ⟨aD, aE, nD, nE, cD, cE, rfl, own_keep1 HKD.out hk HDE.out.res (by decide), own_keep1 HVD.out hk HDE.out.res (by decide), HLD.out, HLE.out⟩

theorem rGet_any (slots : Nat) (s : Bk) (X : Value) (k : Int) (w : World) (h : RB4 w slots s X) (hok : BkOk slots s) (h8 : slots ≤ 8) :
    Calls Tryz.prog 54 #[X, .int .i64 k] w (RPutPost w slots (getS s k) (getV s k) (getE s k)) := by
  by_cases hk : k ∈ s.keys
  · by_cases hm : s.many = 60
    · have e : getE s k = 4 := by unfold getE; rw [if_neg (by simpa using hk), if_pos hm]
      have e1 : getS s k = s := by unfold getS; rw [e, if_neg (by decide)]
      have e2 : getV s k = 0 := by unfold getV; rw [e, if_neg (by decide)]
      rw [e, e1, e2]
      exact rGet_log slots s X k w h hok h8 hk hm
    · have e : getE s k = 0 := by unfold getE; rw [if_neg (by simpa using hk), if_neg hm]
      have e1 : getS s k = getB s k := by unfold getS; rw [if_pos e]
      have e2 : getV s k = valOf s k := by unfold getV; rw [if_pos e]
      rw [e, e1, e2]
      exact rGet_some slots s X k w h hok h8 hk hm
  · have e : getE s k = 5 := by unfold getE; rw [if_pos hk]
    have e1 : getS s k = s := by unfold getS; rw [e, if_neg (by decide)]
    have e2 : getV s k = 0 := by unfold getV; rw [e, if_neg (by decide)]
    rw [e, e1, e2]
    exact rGet_none slots s X k w h hok h8 hk
end Go.Proofs.YticckfioggeaeaaGreatDoor
