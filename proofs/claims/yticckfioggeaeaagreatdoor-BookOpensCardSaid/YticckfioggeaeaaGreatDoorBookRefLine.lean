/-
  The reference's Line, by its contract (printed by wip/gen_bookrefline.py).
-/
import Derived.Test.YticckfioggeaeaaGreatDoorBookRef5
import Derived.Test.YticckfioggeaeaaGreatDoorGO
import Derived.Test.YticckfioggeaeaaGreatDoorBookRefCut
import Derived.Deep.DeepCutAuto
import Derived.BigRegion
import Derived.Deep.RegionHeld3
set_option linter.unusedVariables false
set_option linter.unusedSimpArgs false
set_option linter.unnecessarySimpa false
set_option linter.unusedVariables false
namespace Go.Proofs.YticckfioggeaeaaGreatDoor
open Go.RowKit

def RLinePost (w : World) (slots : Nat) (s : Bk) (l : List UInt8) (e : Ending) (w' : World) : Prop := ∃ X, e = .returned (.tuple #[X, .int .i64 (lineM slots s l).2]) ∧ RB4 w' slots (lineM slots s l).1 X ∧ Below w.heap.size w w'
theorem rl_post {w w' : World} {slots : Nat} {s s' : Bk} {l : List UInt8} {e : Int} {X : Value} (h : lineM slots s l = (s', e)) (hr : RB4 w' slots s' X) (hb : Below w.heap.size w w') : RLinePost w slots s l (.returned (.tuple #[X, .int .i64 e])) w' := by
  unfold RLinePost
  rw [h]
  exact ⟨X, rfl, hr, hb⟩
theorem last_step {l : List UInt8} {j : Nat} (hj : j < l.length) (hn : 32 ∉ l.drop (j + 1)) (h : l[j] = 32) : lastCut l = some (l.take j, l.drop (j + 1)) := by
  conv => lhs; rw [show l = l.take j ++ 32 :: l.drop (j + 1) by rw [← h, List.getElem_cons_drop, List.take_append_drop]]
  exact lastCut_mk _ _ hn
theorem RB.rb4 {w0 w : World} {h slots : Nat} {s : Bk} {aK aV : Option Addr} {nK nV cK cV : Nat} (k : RB w0 w h (slots : Nat) aK aV nK nV cK cV s.keys (s.M.map (·.2)) s.text s.many) : RB4 w slots s (rVal slots aK aV nK nV cK cV s.text s.many) := ⟨aK, aV, nK, nV, cK, cV, rfl, k.K, k.V, k.kl, k.vl⟩
set_option maxHeartbeats 4000000 in
set_option maxRecDepth 100000 in
theorem rLine (slots : Nat) (s : Bk) (X : Value) (l : List UInt8) (hl : l.length ≤ 3000) (w : World) (h : RB4 w slots s X) (hok : BkOk slots s) (h8 : slots ≤ 8) (h1 : 1 ≤ slots) :
    Calls Tryz.prog 30 #[X, .string ⟨l.toArray⟩] w (RLinePost w slots s l) := by
  have hsz : (⟨l.toArray⟩ : ByteArray).size = l.length := by simp [ByteArray.size]
  obtain ⟨aK, aV, nK, nV, cK, cV, rfl, hK, hV, hkl, hvl⟩ := h
  obtain ⟨w1, hw1⟩ : ∃ w1, w1 = (w.alloc (.cells #[.int .i64 slots, .slice aK nK cK, .slice aV nV cV, .string ⟨s.text.toArray⟩, .int .i64 s.many] 24)).alloc (.cells #[.int .i64 0, .slice none 0 0, .slice none 0 0, .string ⟨#[]⟩, .int .i64 0] 24) := ⟨_, rfl⟩
  have hd1 := RB.start (slots := slots) (txt := s.text) (many := (s.many : Int)) w hK hV hkl hvl
  rw [← hw1] at hd1
  have HD1 := Lib.hid hd1; have HW1 := Lib.hid hw1
  clear hd1 hw1 hK hV hkl hvl
  have HOK := Lib.hid hok
  clear hok
  go_enter Tryz.func30, Tryz.ntmps30
  go_upto_region 1 with fail
  rw [← HW1.out]
  go_wp2
  go_loop [6] (fun v => ∃ j : Nat, j ≤ l.length ∧ v = .int .i64 ((j : Int) - 1) ∧ 32 ∉ l.drop j) (fun v => (intOf v + 1).toNat)
  case atStart => exact ⟨l.length, Nat.le_refl _, rfl, by simp⟩
  case round =>
    obtain ⟨j, hj, rfl, hno⟩ := hrel
    have HNO := Lib.hid hno
    clear hno
    rcases Nat.eq_zero_or_pos j with rfl | hjp
    · have HL : Hid (lineM slots s l = (s, 2)) := Lib.hid (by
        have := HNO.out
        rw [List.drop_zero] at this
        unfold lineM; rw [lastCut_no this])
      rw [show ((0 : Nat) : Int) - 1 = -1 from rfl]
      obtain ⟨x0, x1, x2, x3, x4, f0, f1, f2, f3, f4⟩ := HD1.out.cells
      obtain ⟨y0, y1, y2, y3, y4, g0, g1, g2, g3, g4⟩ := HD1.out.rcells
      go_wp2
      refine bodyPost_ret (results_cell2 rfl _ _ (w.heap.size + 1) 24 _ _ rfl (blk5 HD1.out.res _ _ _ _ _) Tryz.underlying24 rfl info_rstore) rfl ?_
      have hd := HD1.out.done (.int .i64 slots) (.slice aK nK cK) (.slice aV nV cV) (.string ⟨s.text.toArray⟩) (.int .i64 s.many)
      exact rl_post HL.out ⟨aK, aV, nK, nV, cK, cV, rfl, hd.1, hd.2.1, HD1.out.kl, HD1.out.vl⟩ hd.2.2
    · obtain ⟨i, rfl⟩ : ∃ i, j = i + 1 := ⟨j - 1, by omega⟩
      have hil : i < l.length := by omega
      rw [show ((i + 1 : Nat) : Int) - 1 = (i : Int) by omega]
      have hi0 : (0 : Int) ≤ (i : Int) := by omega
      have hili : (i : Int) < (l.length : Int) := by omega
      have his : i < (⟨l.toArray⟩ : ByteArray).size := by rw [hsz]; exact hil
      have hatb : (⟨l.toArray⟩ : ByteArray)[i]'his = l[i] := rfl
      by_cases hz : l[i] = 32
      · obtain ⟨a, ha⟩ : ∃ a, a = l.take i := ⟨_, rfl⟩
        obtain ⟨c, hc⟩ : ∃ c, c = l.drop (i + 1) := ⟨_, rfl⟩
        have hla : a.length = i := by rw [ha, List.length_take, Nat.min_eq_left (by omega)]
        have hlc : lastCut l = some (a, c) := by rw [ha, hc]; exact last_step hil HNO.out hz
        have e : l = a ++ 32 :: c := by rw [ha, hc, ← hz, List.getElem_cons_drop, List.take_append_drop]
        have hq : ((((⟨l.toArray⟩ : ByteArray)[i]'his).toNat : Int) != 32) = false := by rw [hatb, hz]; rfl
        have HE := Lib.hid e; have HC := Lib.hid hlc; have HLA := Lib.hid hla
        have hex1 : (⟨l.toArray⟩ : ByteArray).extract (i + 1) l.length = ⟨c.toArray⟩ := by
          have h2 := ext_right a c 32
          rw [← e, hla] at h2
          rw [show l.length = i + (c.length + 1) by rw [e, List.length_append, List.length_cons, hla]]
          exact h2
        have hex2 : (⟨l.toArray⟩ : ByteArray).extract 0 i = ⟨a.toArray⟩ := by
          have h2 := ext_left a (32 :: c)
          rw [← e, hla] at h2
          exact h2
        have HX1 := Lib.hid hex1; have HX2 := Lib.hid hex2
        have ha3 : a.length ≤ 3000 := by omega
        have hc3 : c.length ≤ 3000 := by rw [hc, List.length_drop]; omega
        clear ha hc hla hlc e hex1 hex2 hatb hz HNO
        go_wp2_with fail
        rw [HX1.out]
        refine (rNumber c (by omega) _).mono ?_
        rintro e w2 ⟨v1, rfl, hv1, rfl⟩
        cases hn : numberM c with
        | none =>
          have HL : Hid (lineM slots s l = (s, 2)) := Lib.hid (by unfold lineM; rw [HC.out]; simp only; rw [hn])
          clear hv1 hn
          obtain ⟨x0, x1, x2, x3, x4, f0, f1, f2, f3, f4⟩ := HD1.out.cells
          obtain ⟨y0, y1, y2, y3, y4, g0, g1, g2, g3, g4⟩ := HD1.out.rcells
          go_wp2
          refine bodyPost_ret (results_cell2 rfl _ _ (w.heap.size + 1) 24 _ _ rfl (blk5 HD1.out.res _ _ _ _ _) Tryz.underlying24 rfl info_rstore) rfl ?_
          have hd := HD1.out.done (.int .i64 slots) (.slice aK nK cK) (.slice aV nV cV) (.string ⟨s.text.toArray⟩) (.int .i64 s.many)
          exact rl_post HL.out ⟨aK, aV, nK, nV, cK, cV, rfl, hd.1, hd.2.1, HD1.out.kl, HD1.out.vl⟩ hd.2.2
        | some n =>
          obtain rfl := hv1 n hn
          have HL : Hid (lineM slots s l = if v1 ≠ (sumB a : Nat) then (s, 6) else match numsM (cutAt 32 a).tail with | none => (s, 2) | some nums => opM slots s ((cutAt 32 a).headD []) nums) := Lib.hid (lineM_some HC.out hn)
          clear hv1 hn
          obtain ⟨su, hsu⟩ : ∃ su : Nat, su = sumB a := ⟨_, rfl⟩
          rw [← hsu] at HL
          have HSU := Lib.hid hsu
          clear hsu
          go_wp2_with fail
          rw [HX2.out]
          refine (rsum_l a su _ HSU.out.symm (by omega)).mono ?_
          rintro e w2 ⟨rfl, rfl⟩
          by_cases hse : v1 = (su : Int)
          · have HL2 : Hid (lineM slots s l = match numsM (cutAt 32 a).tail with | none => (s, 2) | some nums => opM slots s ((cutAt 32 a).headD []) nums) := Lib.hid (by rw [HL.out, if_neg (by simpa using hse)])
            have hse' : (v1 != (su : Int)) = false := by simpa using hse
            clear HL hse
            go_wp2_with fail
            rw [HX2.out]
            refine (rCut 32 a (by omega) _).mono ?_
            rintro e w3 ⟨v3, rfl, ho3, hb3⟩
            have HD3 := Lib.hid (HD1.out.below hb3)
            obtain ⟨hd, T, hP⟩ := List.exists_cons_of_ne_nil (cutAt_ne 32 a)
            obtain ⟨m, hm⟩ : ∃ m, m = T.length := ⟨_, rfl⟩
            have HM := Lib.hid hm
            have HXL : Hid (∀ x ∈ T, x.length ≤ 100000) := Lib.hid fun x hx => by have := cutAt_small 32 a x (by rw [hP]; simp [hx]); omega
            have hcl : m ≤ 3000 := by
              have h1 := cutAt_len 32 a
              have h2 := List.count_le_length (a := (32 : UInt8)) (l := a)
              have h3 : (cutAt 32 a).length = m + 1 := by rw [hP, List.length_cons, hm]
              omega
            rw [hP] at ho3 HL2
            obtain ⟨p0, c3, hv3, hp0, hcell⟩ := ho3.shape (by simp)
            rw [List.length_cons, ← hm] at hv3
            subst hv3
            have HCL : Hid (∀ (wr : World), Below w3.heap.size w3 wr → ∀ (q : Nat) (x : List UInt8), (hd :: T)[q]? = some x → wr.cell? ⟨p0, q, none⟩ = some (strV x)) := Lib.hid fun wr hb q x hx => (hb.cell (p := ⟨p0, q, none⟩) hp0).trans (hcell q x hx)
            have HL3 : Hid (lineM slots s l = match numsM T with | none => (s, 2) | some nums => opM slots s hd nums) := Lib.hid HL2.out
            clear hm hP ho3 hb3 hp0 hcell HL2
            go_wp2
            go_loopw [10, 11] (fun v10 v11 wr => ∃ (k : Nat) (ns : List Int) (xA : Value), k ≤ m ∧ v11 = .int .i64 ((k : Int) + 1) ∧ numsM (T.take k) = some ns ∧ ns.length = k ∧ xA = v10 ∧ OwnInts wr w3.heap.size xA ns ∧ Below w3.heap.size w3 wr) (fun _ v11 _ => m + 1 - (intOf v11).toNat)
            case atStart => exact ⟨0, [], _, Nat.zero_le _, rfl, rfl, rfl, rfl, OwnInts.nil _ _, Below.refl _ _⟩
            case round =>
              obtain ⟨k, ns, v10, hk, rfl, hns, hnl, rfl, hown, hbel⟩ := hrel
              have HNS := Lib.hid hns; have HNL := Lib.hid hnl; have HO := Lib.hid hown; have HBL := Lib.hid hbel
              clear hns hnl hown hbel
              have hk0 : (0 : Int) ≤ (k : Int) := by omega
              by_cases hlt : k < m
              · have hki : (k : Int) < (m : Int) := by omega
                obtain ⟨x, hx⟩ : ∃ x, x = T[k]'(by rw [← HM.out]; exact hlt) := ⟨_, rfl⟩
                have HX := Lib.hid hx
                have hcell : wr.cell? ⟨p0, k + 1, none⟩ = some (strV x) := HCL.out wr HBL.out (k + 1) x (by rw [List.getElem?_cons_succ, List.getElem?_eq_getElem (by rw [← HM.out]; exact hlt), hx])
                have hxl : x.length ≤ 100000 := HXL.out x (by rw [hx]; exact List.getElem_mem _)
                clear hx
                go_wp2_with fail
                refine (rNumber x hxl _).mono ?_
                rintro e w4 ⟨n4, rfl, hn4, rfl⟩
                cases hnx : numberM x with
                | none =>
                  have HL4 : Hid (lineM slots s l = (s, 2)) := Lib.hid (by rw [HL3.out, numsM_none T x (by rw [HX.out]; exact List.getElem_mem _) hnx])
                  have HDr := Lib.hid (HD3.out.below HBL.out)
                  clear hn4 hnx hcell
                  obtain ⟨x0, x1, x2, x3, x4, f0, f1, f2, f3, f4⟩ := HDr.out.cells
                  obtain ⟨y0, y1, y2, y3, y4, g0, g1, g2, g3, g4⟩ := HDr.out.rcells
                  go_wp2
                  refine bodyPost_ret (results_cell2 rfl _ _ (w.heap.size + 1) 24 _ _ rfl (blk5 HDr.out.res _ _ _ _ _) Tryz.underlying24 rfl info_rstore) rfl ?_
                  have hd := HDr.out.done (.int .i64 slots) (.slice aK nK cK) (.slice aV nV cV) (.string ⟨s.text.toArray⟩) (.int .i64 s.many)
                  exact rl_post HL4.out ⟨aK, aV, nK, nV, cK, cV, rfl, hd.1, hd.2.1, HDr.out.kl, HDr.out.vl⟩ hd.2.2
                | some n5 =>
                  obtain rfl := hn4 n5 hnx
                  have HNS1 : Hid (numsM (T.take (k + 1)) = some (ns ++ [n4])) := Lib.hid (by
                    rw [List.take_succ_eq_append_getElem (by rw [← HM.out]; exact hlt), ← HX.out]
                    exact numsM_snoc _ _ _ _ HNS.out hnx)
                  have HOW : Hid (∀ o, (wr.alloc o).ownsRow w3.heap.size 3 1 v10 ns.length (ints ns)) := Lib.hid fun o => (HO.out.keep fun g hg => Below.heap_alloc _ _ _ (World.ownsRow.lt HO.out g hg).2 : OwnInts (wr.alloc o) w3.heap.size v10 ns)
                  have hns3 : ns.length ≤ 3000 := by rw [HNL.out]; omega
                  have hszw := HBL.out.size
                  obtain ⟨i0, hi', hz0, hz1, hz2⟩ := info_parts info_int
                  clear hn4 hnx hcell
                  go_wp2_with (at_builtin; refine wpList_append_own_at _ rfl (.tmp 75) (.tmp 77) 22 rfl w3.heap.size 3 i0 (.int .i64 0) 1 8 Tryz.underlying22 hi' hz0 hz1 hz2 rfl (by decide) _ _ _ rfl (HOW.out _) ⟨wr.heap.size, 0, none⟩ 1 1 [.int .i64 n4] rfl rfl (by intro p u hp; match p, hp with | 0, hp => simp at hp; subst hp; simp [Addr.add]) (by intro u hu; simp at hu; subst hu; rfl) (by unfold maxLen; omega) (by omega) (by simp; omega) ?_; intro v9' w6 hown' hgrow _ hat; have HO6 : Hid (OwnInts w6 w3.heap.size v9' (ns ++ [n4])) := Lib.hid (by unfold OwnInts; simpa [ints] using hown'); have HBL6 : Hid (Below w3.heap.size w3 w6) := Lib.hid ((HBL.out.alloc HBL.out.size _).grown hgrow (by simp; omega) (fun g hg => (World.ownsRow.lt HO.out g hg).1)); clear hown' hgrow hat)
                  go_roundw
                  case rel => exact ⟨k + 1, ns ++ [n4], _, hlt, by simp, HNS1.out, by rw [List.length_append, HNL.out]; rfl, rfl, HO6.out, HBL6.out⟩
                  case measure => simp [intOf]; omega
              · obtain rfl : k = m := by omega
                have HLo : Hid (lineM slots s l = opM slots s hd ns) := Lib.hid (by
                  rw [HL3.out]
                  have h2 := HNS.out
                  rw [HM.out, List.take_length] at h2
                  rw [h2])
                have HDr := Lib.hid (HD3.out.below HBL.out)
                obtain ⟨a9, c9, hv9, hin9⟩ := HO.out.shape
                rw [HNL.out] at hv9
                subst hv9
                have HIN := Lib.hid hin9
                have hd0 : wr.cell? ⟨p0, 0, none⟩ = some (strV hd) := HCL.out wr HBL.out 0 hd rfl
                clear hin9 HL3 HNS
                by_cases e1 : hd = [112]
                · subst e1
                  by_cases e2 : k = 2
                  · subst e2
                    obtain ⟨x, y, rfl⟩ : ∃ x y, ns = [x, y] := by
                      match ns, HNL.out with
                      | [x, y], _ => exact ⟨x, y, rfl⟩
                    have HL4 : Hid (lineM slots s l = (putS slots s x y, putE s x y)) := Lib.hid (by rw [HLo.out]; simp [opM])
                    obtain ⟨g9, o9, rfl, hg9, hc9⟩ := HIN.out (by simp)
                    have z0 : wr.cell? ⟨g9, o9, none⟩ = some (.int .i64 x) := hc9 0 x rfl
                    have z1 : wr.cell? ⟨g9, o9 + 1, none⟩ = some (.int .i64 y) := hc9 1 y rfl
                    go_upto_region 21 with fail
                    have hrd : ∀ wx, Keep [] wr wx → (wx.cell? ⟨w.heap.size, 0, none⟩ = some (.int .i64 slots) ∧ wx.cell? ⟨w.heap.size, 1, none⟩ = some (.slice aK nK cK) ∧ wx.cell? ⟨w.heap.size, 2, none⟩ = some (.slice aV nV cV) ∧ wx.cell? ⟨w.heap.size, 3, none⟩ = some (.string ⟨s.text.toArray⟩) ∧ wx.cell? ⟨w.heap.size, 4, none⟩ = some (.int .i64 s.many)) ∧ wx.cell? ⟨g9, o9, none⟩ = some (.int .i64 x) ∧ wx.cell? ⟨g9, o9 + 1, none⟩ = some (.int .i64 y) := fun wx hk => by
                      obtain ⟨x0, x1, x2, x3, x4, _⟩ := (HDr.out.keep hk).cells
                      exact ⟨⟨x0, x1, x2, x3, x4⟩, (hk.cell (p := ⟨g9, o9, none⟩) hg9 (by simp)).trans z0, (hk.cell (p := ⟨g9, o9 + 1, none⟩) hg9 (by simp)).trans z1⟩
                    have HRD := Lib.hid hrd
                    clear hrd
                    go_cut [14, 15, 16] (fun yA yB yC wx => CutR wr slots (putS slots s x y) wx yA ∧ yB = .int .i64 (putV slots s x y) ∧ yC = .int .i64 (putE s x y))
                    case first =>
                      go_region_held3 (fun w' => (w'.cell? ⟨w.heap.size, 0, none⟩ = some (.int .i64 slots) ∧ w'.cell? ⟨w.heap.size, 1, none⟩ = some (.slice aK nK cK) ∧ w'.cell? ⟨w.heap.size, 2, none⟩ = some (.slice aV nV cV) ∧ w'.cell? ⟨w.heap.size, 3, none⟩ = some (.string ⟨s.text.toArray⟩) ∧ w'.cell? ⟨w.heap.size, 4, none⟩ = some (.int .i64 s.many)) ∧ w'.cell? ⟨g9, o9, none⟩ = some (.int .i64 x) ∧ w'.cell? ⟨g9, o9 + 1, none⟩ = some (.int .i64 y))
                        (first | (refine HRD.out _ ?_; first | with_reducible exact HK3.out | with_reducible exact HK3.out.alloc _ | with_reducible exact (Keep.refl [] wr).drew | with_reducible exact ((Keep.refl [] wr).alloc _).drew | with_reducible exact ((Keep.refl [] wr).drew).alloc _ | with_reducible exact keep_new5 HK3.out _ _ _ _ _) | fail)
                        (first
                        | (go_at_call 53; refine (rPut_any slots s _ x y _ (HDr.out.keep (by first | exact (Keep.refl [] wr).drew | exact ((Keep.refl [] wr).drew).alloc _ | exact ((Keep.refl [] wr).alloc _).drew)).rb4 HOK.out h8 h1).mono ?_; rintro e w4 ⟨X4, rfl, ⟨aK4, aV4, nK4, nV4, cK4, cV4, rfl, hK4, hV4, hkl4, hvl4⟩, hb4⟩; (try (have hyb := ((Blk.new wr 24 [.int .i64 0, .slice none 0 0, .slice none 0 0, .string ⟨#[]⟩, .int .i64 0]).drew).below hb4 (by simp); have y0 := hyb.cell_ (i := 0) (v := .int .i64 0) rfl; have y1 := hyb.cell_ (i := 1) (v := .slice none 0 0) rfl; have y2 := hyb.cell_ (i := 2) (v := .slice none 0 0) rfl; have y3 := hyb.cell_ (i := 3) (v := .string ⟨#[]⟩) rfl; have y4 := hyb.cell_ (i := 4) (v := .int .i64 0) rfl; have fy0 := hyb.free 0; have fy1 := hyb.free 1; have fy2 := hyb.free 2; have fy3 := hyb.free 3; have fy4 := hyb.free 4; have HYB := Lib.hid hyb; clear hyb)); have HK3 : Hid (Keep [] wr w4) := (by first | exact Lib.hid (((Keep.refl [] wr).drew).trans (Keep.of_below hb4 (Nat.le_refl _))) | exact Lib.hid ((((Keep.refl [] wr).alloc _).drew).trans (Keep.of_below hb4 (Nat.le_refl _))) | exact Lib.hid ((((Keep.refl [] wr).drew).alloc _).trans (Keep.of_below hb4 (Nat.le_refl _)))); have HK4 := Lib.hid hK4; have HV4 := Lib.hid hV4; have HKL4 := Lib.hid hkl4; have HVL4 := Lib.hid hvl4; clear hK4 hV4 hkl4 hvl4 hb4)
                        | fail)
                      all_goals
                        (try go_wp2)
                        go_meet
                      all_goals first
                        | with_reducible exact ⟨CutR.behind HK4.out HV4.out HKL4.out HVL4.out (HK3.out.below (Nat.le_refl _) (by simp)), rfl, rfl⟩
                        | with_reducible exact ⟨CutR.ahead HYB.out HK4.out HV4.out HKL4.out HVL4.out (HK3.out.below (Nat.le_refl _) (by simp)), rfl, rfl⟩
                    case rest =>
                      obtain ⟨⟨q, aK4, aV4, nK4, nV4, cK4, cV4, rfl, hbx4, hq4, hbl4⟩, rfl, rfl⟩ := hcut
                      have HBX4 := Lib.hid hbx4; have HQ4 := Lib.hid hq4; have HBL4 := Lib.hid hbl4
                      clear hbx4 hq4 hbl4
                      have HDc := Lib.hid (HDr.out.keep (Keep.of_below (F := []) HBL4.out (Nat.le_refl _)))
                      obtain ⟨x0, x1, x2, x3, x4, f0, f1, f2, f3, f4⟩ := HBX4.out.cells
                      obtain ⟨y0, y1, y2, y3, y4, g0, g1, g2, g3, g4⟩ := HDc.out.rcells
                      go_wp2
                      refine bodyPost_ret (results_cell2 rfl _ _ (w.heap.size + 1) 24 _ _ rfl (blk5 HDc.out.res _ _ _ _ _) Tryz.underlying24 rfl info_rstore) rfl ?_
                      have hk5 := keep5 wc (w.heap.size + 1) (.int .i64 slots) (.slice aK4 nK4 cK4) (.slice aV4 nV4 cV4) (.string ⟨(putS slots s x y).text.toArray⟩) (.int .i64 (putS slots s x y).many)
                      exact rl_post HL4.out ⟨aK4, aV4, nK4, nV4, cK4, cV4, rfl, own_keep1 HBX4.out.K hk5 HDc.out.res (by decide), own_keep1 HBX4.out.V hk5 HDc.out.res (by decide), HBX4.out.kl, HBX4.out.vl⟩ (HDc.out.bel.trans (hk5.below (by have := HDc.out.bel.size; omega) (by simp)))
                  · have HL4 : Hid (lineM slots s l = (s, 2)) := Lib.hid (by rw [HLo.out]; unfold opM; rw [HNL.out, if_neg (fun h => e2 h.2), if_neg (fun h => absurd h.1 (by decide))])
                    have e2' : ((k : Int) == 2) = false := beq_eq_false_iff_ne.2 (by omega)
                    obtain ⟨x0, x1, x2, x3, x4, f0, f1, f2, f3, f4⟩ := HDr.out.cells
                    obtain ⟨y0, y1, y2, y3, y4, g0, g1, g2, g3, g4⟩ := HDr.out.rcells
                    go_wp2
                    refine bodyPost_ret (results_cell2 rfl _ _ (w.heap.size + 1) 24 _ _ rfl (blk5 HDr.out.res _ _ _ _ _) Tryz.underlying24 rfl info_rstore) rfl ?_
                    have hd := HDr.out.done (.int .i64 slots) (.slice aK nK cK) (.slice aV nV cV) (.string ⟨s.text.toArray⟩) (.int .i64 s.many)
                    exact rl_post HL4.out ⟨aK, aV, nK, nV, cK, cV, rfl, hd.1, hd.2.1, HDr.out.kl, HDr.out.vl⟩ hd.2.2
                · have e1' : (hd == [112]) = false := beq_eq_false_iff_ne.2 e1
                  by_cases e3 : hd = [103]
                  · subst e3
                    by_cases e2 : k = 1
                    · subst e2
                      obtain ⟨x, rfl⟩ : ∃ x, ns = [x] := by
                        match ns, HNL.out with
                        | [x], _ => exact ⟨x, rfl⟩
                      have HL4 : Hid (lineM slots s l = (getS s x, getE s x)) := Lib.hid (by rw [HLo.out]; simp [opM])
                      obtain ⟨g9, o9, rfl, hg9, hc9⟩ := HIN.out (by simp)
                      have z0 : wr.cell? ⟨g9, o9, none⟩ = some (.int .i64 x) := hc9 0 x rfl
                      go_upto_region 24 with fail
                      have hrd : ∀ wx, Keep [] wr wx → (wx.cell? ⟨w.heap.size, 0, none⟩ = some (.int .i64 slots) ∧ wx.cell? ⟨w.heap.size, 1, none⟩ = some (.slice aK nK cK) ∧ wx.cell? ⟨w.heap.size, 2, none⟩ = some (.slice aV nV cV) ∧ wx.cell? ⟨w.heap.size, 3, none⟩ = some (.string ⟨s.text.toArray⟩) ∧ wx.cell? ⟨w.heap.size, 4, none⟩ = some (.int .i64 s.many)) ∧ wx.cell? ⟨g9, o9, none⟩ = some (.int .i64 x) := fun wx hk => by
                        obtain ⟨x0, x1, x2, x3, x4, _⟩ := (HDr.out.keep hk).cells
                        exact ⟨⟨x0, x1, x2, x3, x4⟩, (hk.cell (p := ⟨g9, o9, none⟩) hg9 (by simp)).trans z0⟩
                      have HRD := Lib.hid hrd
                      clear hrd
                      go_cut [17, 18, 19] (fun yA yB yC wx => CutR wr slots (getS s x) wx yA ∧ yB = .int .i64 (getV s x) ∧ yC = .int .i64 (getE s x))
                      case first =>
                        go_region_held3 (fun w' => (w'.cell? ⟨w.heap.size, 0, none⟩ = some (.int .i64 slots) ∧ w'.cell? ⟨w.heap.size, 1, none⟩ = some (.slice aK nK cK) ∧ w'.cell? ⟨w.heap.size, 2, none⟩ = some (.slice aV nV cV) ∧ w'.cell? ⟨w.heap.size, 3, none⟩ = some (.string ⟨s.text.toArray⟩) ∧ w'.cell? ⟨w.heap.size, 4, none⟩ = some (.int .i64 s.many)) ∧ w'.cell? ⟨g9, o9, none⟩ = some (.int .i64 x))
                          (first | (refine HRD.out _ ?_; first | with_reducible exact HK3.out | with_reducible exact HK3.out.alloc _ | with_reducible exact (Keep.refl [] wr).drew | with_reducible exact ((Keep.refl [] wr).alloc _).drew | with_reducible exact ((Keep.refl [] wr).drew).alloc _ | with_reducible exact keep_new5 HK3.out _ _ _ _ _) | fail)
                          (first
                          | (go_at_call 54; refine (rGet_any slots s _ x _ (HDr.out.keep (by first | exact (Keep.refl [] wr).drew | exact ((Keep.refl [] wr).drew).alloc _ | exact ((Keep.refl [] wr).alloc _).drew)).rb4 HOK.out h8).mono ?_; rintro e w4 ⟨X4, rfl, ⟨aK4, aV4, nK4, nV4, cK4, cV4, rfl, hK4, hV4, hkl4, hvl4⟩, hb4⟩; (try (have hyb := ((Blk.new wr 24 [.int .i64 0, .slice none 0 0, .slice none 0 0, .string ⟨#[]⟩, .int .i64 0]).drew).below hb4 (by simp); have y0 := hyb.cell_ (i := 0) (v := .int .i64 0) rfl; have y1 := hyb.cell_ (i := 1) (v := .slice none 0 0) rfl; have y2 := hyb.cell_ (i := 2) (v := .slice none 0 0) rfl; have y3 := hyb.cell_ (i := 3) (v := .string ⟨#[]⟩) rfl; have y4 := hyb.cell_ (i := 4) (v := .int .i64 0) rfl; have fy0 := hyb.free 0; have fy1 := hyb.free 1; have fy2 := hyb.free 2; have fy3 := hyb.free 3; have fy4 := hyb.free 4; have HYB := Lib.hid hyb; clear hyb)); have HK3 : Hid (Keep [] wr w4) := (by first | exact Lib.hid (((Keep.refl [] wr).drew).trans (Keep.of_below hb4 (Nat.le_refl _))) | exact Lib.hid ((((Keep.refl [] wr).alloc _).drew).trans (Keep.of_below hb4 (Nat.le_refl _))) | exact Lib.hid ((((Keep.refl [] wr).drew).alloc _).trans (Keep.of_below hb4 (Nat.le_refl _)))); have HK4 := Lib.hid hK4; have HV4 := Lib.hid hV4; have HKL4 := Lib.hid hkl4; have HVL4 := Lib.hid hvl4; clear hK4 hV4 hkl4 hvl4 hb4)
                          | fail)
                        all_goals
                          (try go_wp2)
                          go_meet
                        all_goals first
                          | with_reducible exact ⟨CutR.behind HK4.out HV4.out HKL4.out HVL4.out (HK3.out.below (Nat.le_refl _) (by simp)), rfl, rfl⟩
                          | with_reducible exact ⟨CutR.ahead HYB.out HK4.out HV4.out HKL4.out HVL4.out (HK3.out.below (Nat.le_refl _) (by simp)), rfl, rfl⟩
                      case rest =>
                        obtain ⟨⟨q, aK4, aV4, nK4, nV4, cK4, cV4, rfl, hbx4, hq4, hbl4⟩, rfl, rfl⟩ := hcut
                        have HBX4 := Lib.hid hbx4; have HQ4 := Lib.hid hq4; have HBL4 := Lib.hid hbl4
                        clear hbx4 hq4 hbl4
                        have HDc := Lib.hid (HDr.out.keep (Keep.of_below (F := []) HBL4.out (Nat.le_refl _)))
                        obtain ⟨x0, x1, x2, x3, x4, f0, f1, f2, f3, f4⟩ := HBX4.out.cells
                        obtain ⟨y0, y1, y2, y3, y4, g0, g1, g2, g3, g4⟩ := HDc.out.rcells
                        go_wp2
                        refine bodyPost_ret (results_cell2 rfl _ _ (w.heap.size + 1) 24 _ _ rfl (blk5 HDc.out.res _ _ _ _ _) Tryz.underlying24 rfl info_rstore) rfl ?_
                        have hk5 := keep5 wc (w.heap.size + 1) (.int .i64 slots) (.slice aK4 nK4 cK4) (.slice aV4 nV4 cV4) (.string ⟨(getS s x).text.toArray⟩) (.int .i64 (getS s x).many)
                        exact rl_post HL4.out ⟨aK4, aV4, nK4, nV4, cK4, cV4, rfl, own_keep1 HBX4.out.K hk5 HDc.out.res (by decide), own_keep1 HBX4.out.V hk5 HDc.out.res (by decide), HBX4.out.kl, HBX4.out.vl⟩ (HDc.out.bel.trans (hk5.below (by have := HDc.out.bel.size; omega) (by simp)))
                    · have HL4 : Hid (lineM slots s l = (s, 2)) := Lib.hid (by rw [HLo.out]; unfold opM; rw [HNL.out, if_neg (fun h => absurd h.1 (by decide)), if_neg (fun h => e2 h.2)])
                      have e2' : ((k : Int) == 1) = false := beq_eq_false_iff_ne.2 (by omega)
                      obtain ⟨x0, x1, x2, x3, x4, f0, f1, f2, f3, f4⟩ := HDr.out.cells
                      obtain ⟨y0, y1, y2, y3, y4, g0, g1, g2, g3, g4⟩ := HDr.out.rcells
                      go_wp2
                      refine bodyPost_ret (results_cell2 rfl _ _ (w.heap.size + 1) 24 _ _ rfl (blk5 HDr.out.res _ _ _ _ _) Tryz.underlying24 rfl info_rstore) rfl ?_
                      have hd := HDr.out.done (.int .i64 slots) (.slice aK nK cK) (.slice aV nV cV) (.string ⟨s.text.toArray⟩) (.int .i64 s.many)
                      exact rl_post HL4.out ⟨aK, aV, nK, nV, cK, cV, rfl, hd.1, hd.2.1, HDr.out.kl, HDr.out.vl⟩ hd.2.2
                  · have HL4 : Hid (lineM slots s l = (s, 2)) := Lib.hid (by rw [HLo.out]; unfold opM; rw [if_neg (fun h => e1 h.1), if_neg (fun h => e3 h.1)])
                    have e3' : (hd == [103]) = false := beq_eq_false_iff_ne.2 e3
                    obtain ⟨x0, x1, x2, x3, x4, f0, f1, f2, f3, f4⟩ := HDr.out.cells
                    obtain ⟨y0, y1, y2, y3, y4, g0, g1, g2, g3, g4⟩ := HDr.out.rcells
                    go_wp2
                    refine bodyPost_ret (results_cell2 rfl _ _ (w.heap.size + 1) 24 _ _ rfl (blk5 HDr.out.res _ _ _ _ _) Tryz.underlying24 rfl info_rstore) rfl ?_
                    have hd := HDr.out.done (.int .i64 slots) (.slice aK nK cK) (.slice aV nV cV) (.string ⟨s.text.toArray⟩) (.int .i64 s.many)
                    exact rl_post HL4.out ⟨aK, aV, nK, nV, cK, cV, rfl, hd.1, hd.2.1, HDr.out.kl, HDr.out.vl⟩ hd.2.2
          · have HL2 : Hid (lineM slots s l = (s, 6)) := Lib.hid (by rw [HL.out, if_pos hse])
            have hse' : (v1 != (su : Int)) = true := by simpa using hse
            clear HL hse
            obtain ⟨x0, x1, x2, x3, x4, f0, f1, f2, f3, f4⟩ := HD1.out.cells
            obtain ⟨y0, y1, y2, y3, y4, g0, g1, g2, g3, g4⟩ := HD1.out.rcells
            go_wp2
            refine bodyPost_ret (results_cell2 rfl _ _ (w.heap.size + 1) 24 _ _ rfl (blk5 HD1.out.res _ _ _ _ _) Tryz.underlying24 rfl info_rstore) rfl ?_
            have hd := HD1.out.done (.int .i64 slots) (.slice aK nK cK) (.slice aV nV cV) (.string ⟨s.text.toArray⟩) (.int .i64 s.many)
            exact rl_post HL2.out ⟨aK, aV, nK, nV, cK, cV, rfl, hd.1, hd.2.1, HD1.out.kl, HD1.out.vl⟩ hd.2.2
      · have hq : ((((⟨l.toArray⟩ : ByteArray)[i]'his).toNat : Int) != 32) = true := by
          rw [hatb]
          refine bne_iff_ne.2 fun e => hz (UInt8.toNat_inj.1 ?_)
          have : (32 : UInt8).toNat = 32 := rfl
          omega
        have HNO2 : Hid (32 ∉ l.drop i) := Lib.hid (by
          rw [List.drop_eq_getElem_cons hil, List.mem_cons]
          rintro (h | h)
          · exact hz h.symm
          · exact HNO.out h)
        clear hatb hz
        go_wp2
        go_round
        case rel => exact ⟨i, by omega, rfl, HNO2.out⟩
        case measure => simp [intOf]
end Go.Proofs.YticckfioggeaeaaGreatDoor
