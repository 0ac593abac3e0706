/-
  The reference's answer to a line of a session, by its contract (printed by wip/gen_refanswer.py).
-/
import Derived.Test.YticckfioggeaeaaGreatDoorBookRefOpen
import Derived.Test.YticckfioggeaeaaGreatDoorGG
import Derived.Test.YticckfioggeaeaaGreatDoorDeskWords
import Derived.Test.YticckfioggeaeaaGreatDoorDeskLine
import Derived.Test.YticckfioggeaeaaGreatDoorGI
import Derived.Deep.RegionHeld3
set_option linter.unusedVariables false
set_option linter.unusedSimpArgs false
set_option linter.unnecessarySimpa false
set_option linter.unusedVariables false
namespace Go.Proofs.YticckfioggeaeaaGreatDoor
open Go.RowKit

def RAnsPost (w : World) (s : Bk) (l : List UInt8) (e : Ending) (w' : World) : Prop := ∃ X, e = .returned (.tuple #[X, .string ⟨(answerM s l).2.toArray⟩]) ∧ RB4 w' 3 (answerM s l).1 X ∧ Below w.heap.size w w'
theorem ra_post {w w' : World} {s s' : Bk} {l a : List UInt8} {X : Value} (h : answerM s l = (s', a)) (hr : RB4 w' 3 s' X) (hb : Below w.heap.size w w') : RAnsPost w s l (.returned (.tuple #[X, .string ⟨a.toArray⟩])) w' := by
  unfold RAnsPost
  rw [h]
  exact ⟨X, rfl, hr, hb⟩
theorem ra_post2 {w w' : World} {s s' : Bk} {l a : List UInt8} {X V : Value} (h : answerM s l = (s', a)) (hv : V = .string ⟨a.toArray⟩) (hr : RB4 w' 3 s' X) (hb : Below w.heap.size w w') : RAnsPost w s l (.returned (.tuple #[X, V])) w' := by
  subst hv
  exact ra_post h hr hb
theorem crash_open {s : Bk} (hc : Come s) (n : Int) : ∃ m : Nat, m ≤ 60 ∧ openS 3 (s.text.take n.toNat) = (3, (crashO s n).1, (m : Int), 0) ∧ crashM s n = ((crashO s n).1, sFound ++ Lib.itoa (m : Int)) := by
  obtain ⟨c1, c2, m, c3, c4⟩ := hc.crash n
  refine ⟨m, c4, ?_, by unfold crashM; rw [if_pos c2, c3]⟩
  have hl : ¬ 2000 < (s.text.take n.toNat).length := by rw [List.length_take]; have h1 := hc.ok.text; have h2 := hc.ok.many; omega
  unfold openS
  rw [if_neg (by decide), if_neg hl]
  have e : openL (3 : Int).toNat bk0 (lns (s.text.take n.toNat)) = crashO s n := rfl
  rw [e, if_neg (by simpa using c2), c3]
  rfl
set_option maxHeartbeats 8000000 in
set_option maxRecDepth 100000 in
theorem rAnswer (s : Bk) (X : Value) (l : List UInt8) (hl : l.length ≤ 3000) (w : World) (h : RB4 w 3 s X) (hc : Come s) :
    Calls Tryz.prog 43 #[X, .string ⟨l.toArray⟩] w (RAnsPost w s l) := by
  obtain ⟨aK, aV, nK, nV, cK, cV, rfl, hK, hV, hkl, hvl⟩ := h
  have HCM := Lib.hid hc; have HOK := Lib.hid hc.ok
  obtain ⟨w1, hw1⟩ : ∃ w1, w1 = (w.alloc (.cells #[.int .i64 3, .slice aK nK cK, .slice aV nV cV, .string ⟨s.text.toArray⟩, .int .i64 s.many] 24)).alloc (.cells #[.int .i64 0, .slice none 0 0, .slice none 0 0, .string ⟨#[]⟩, .int .i64 0] 24) := ⟨_, rfl⟩
  have hd1 := RB.start (slots := 3) (txt := s.text) (many := (s.many : Int)) w hK hV hkl hvl
  rw [← hw1] at hd1
  have HD1 := Lib.hid hd1; have HW1 := Lib.hid hw1
  clear hd1 hw1 hK hV hkl hvl hc
  go_enter Tryz.func43, Tryz.ntmps43
  go_upto_region 1 with fail
  rw [← HW1.out]
  go_wp2_with fail
  refine (rCut 32 l (by omega) _).mono ?_
  rintro e w3 ⟨v3, rfl, ho3, hb3⟩
  have HD3 := Lib.hid (HD1.out.below hb3)
  obtain ⟨hd, T, hP⟩ := List.exists_cons_of_ne_nil (cutAt_ne 32 l)
  have HA : Hid (answerM s l = match wordsM T with | none => (s, sBad) | some ns => doM s hd ns) := Lib.hid (by unfold answerM; rw [hP]; rfl)
  obtain ⟨m, hm⟩ : ∃ m, m = T.length := ⟨_, rfl⟩
  have HM := Lib.hid hm
  have HXL : Hid (∀ x ∈ T, x.length ≤ 100000) := Lib.hid fun x hx => by have := cutAt_small 32 l x (by rw [hP]; simp [hx]); omega
  have hcl : m ≤ 3000 := by
    have h1 := cutAt_len 32 l
    have h2 := List.count_le_length (a := (32 : UInt8)) (l := l)
    have h3 : (cutAt 32 l).length = m + 1 := by rw [hP, List.length_cons, hm]
    omega
  rw [hP] at ho3
  obtain ⟨p0, c3, hv3, hp0, hcell⟩ := ho3.shape (by simp)
  rw [List.length_cons, ← hm] at hv3
  subst hv3
  have HCL : Hid (∀ (wr : World), Below w3.heap.size w3 wr → ∀ (q : Nat) (x : List UInt8), (hd :: T)[q]? = some x → wr.cell? ⟨p0, q, none⟩ = some (strV x)) := Lib.hid fun wr hb q x hx => (hb.cell (p := ⟨p0, q, none⟩) hp0).trans (hcell q x hx)
  clear hm hP ho3 hb3 hp0 hcell
  go_wp2
  go_loopw [7, 8] (fun v7 v8 wr => ∃ (k : Nat) (ns : List Int) (xA : Value), k ≤ m ∧ v8 = .int .i64 ((k : Int) + 1) ∧ wordsM (T.take k) = some ns ∧ ns.length = k ∧ xA = v7 ∧ OwnInts wr w3.heap.size xA ns ∧ Below w3.heap.size w3 wr) (fun _ v8 _ => m + 1 - (intOf v8).toNat)
  case atStart => exact ⟨0, [], _, Nat.zero_le _, rfl, rfl, rfl, rfl, OwnInts.nil _ _, Below.refl _ _⟩
  case round =>
    obtain ⟨k, ns, v7, hk, rfl, hns, hnl, rfl, hown, hbel⟩ := hrel
    have HNS := Lib.hid hns; have HNL := Lib.hid hnl; have HO := Lib.hid hown; have HBL := Lib.hid hbel
    clear hns hnl hown hbel
    have HDr := Lib.hid (HD3.out.below HBL.out)
    have hk0 : (0 : Int) ≤ (k : Int) := by omega
    by_cases hlt : k < m
    · have hki : (k : Int) < (m : Int) := by omega
      have hkt : k < T.length := by rw [← HM.out]; exact hlt
      obtain ⟨x, hx⟩ : ∃ x, x = T[k]'hkt := ⟨_, rfl⟩
      have HX := Lib.hid hx
      have hcell : wr.cell? ⟨p0, k + 1, none⟩ = some (strV x) := HCL.out wr HBL.out (k + 1) x (by rw [List.getElem?_cons_succ, List.getElem?_eq_getElem hkt, hx])
      have hxm : x ∈ T := by rw [hx]; exact List.getElem_mem _
      have hxl : x.length ≤ 100000 := HXL.out x hxm
      have HXM := Lib.hid hxm
      clear hx hxm
      have hsx : (⟨x.toArray⟩ : ByteArray).size = x.length := by simp [ByteArray.size]
      go_wp2_with fail
      refine (rNumber x hxl _).mono ?_
      rintro e w4 ⟨n4, rfl, hn4, rfl⟩
      cases hnx : numberM x with
      | none =>
        have HL4 : Hid (answerM s l = (s, sBad)) := Lib.hid (by rw [HA.out, wordsM_none T x HXM.out (.inl hnx)])
        clear hn4 hnx
        obtain ⟨x0, x1, x2, x3, x4, f0, f1, f2, f3, f4⟩ := HDr.out.cells
        obtain ⟨y0, y1, y2, y3, y4, g0, g1, g2, g3, g4⟩ := HDr.out.rcells
        go_wp2
        refine bodyPost_ret (results_cell2 rfl _ _ (w.heap.size + 1) 24 _ _ rfl (blk5 HDr.out.res _ _ _ _ _) Tryz.underlying24 rfl info_rstore) rfl ?_
        have hd := HDr.out.done (.int .i64 3) (.slice aK nK cK) (.slice aV nV cV) (.string ⟨s.text.toArray⟩) (.int .i64 s.many)
        exact ra_post HL4.out ⟨aK, aV, nK, nV, cK, cV, rfl, hd.1, hd.2.1, HDr.out.kl, HDr.out.vl⟩ hd.2.2
      | some n5 =>
        obtain rfl := hn4 n5 hnx
        by_cases h7 : 7 < x.length
        · have h7' : (7 : Int) < (x.length : Int) := by omega
          have HL4 : Hid (answerM s l = (s, sBad)) := Lib.hid (by rw [HA.out, wordsM_none T x HXM.out (.inr h7)])
          clear hn4 hnx
          obtain ⟨x0, x1, x2, x3, x4, f0, f1, f2, f3, f4⟩ := HDr.out.cells
          obtain ⟨y0, y1, y2, y3, y4, g0, g1, g2, g3, g4⟩ := HDr.out.rcells
          go_wp2
          refine bodyPost_ret (results_cell2 rfl _ _ (w.heap.size + 1) 24 _ _ rfl (blk5 HDr.out.res _ _ _ _ _) Tryz.underlying24 rfl info_rstore) rfl ?_
          have hd := HDr.out.done (.int .i64 3) (.slice aK nK cK) (.slice aV nV cV) (.string ⟨s.text.toArray⟩) (.int .i64 s.many)
          exact ra_post HL4.out ⟨aK, aV, nK, nV, cK, cV, rfl, hd.1, hd.2.1, HDr.out.kl, HDr.out.vl⟩ hd.2.2
        · have h7' : ¬ (7 : Int) < (x.length : Int) := by omega
          have HNS1 : Hid (wordsM (T.take (k + 1)) = some (ns ++ [n4])) := Lib.hid (by
            rw [List.take_succ_eq_append_getElem hkt, ← HX.out]
            exact wordsM_snoc _ _ _ _ HNS.out hnx (by omega))
          have HOW : Hid (∀ o, (wr.alloc o).ownsRow w3.heap.size 3 1 v7 ns.length (ints ns)) := Lib.hid fun o => (HO.out.keep fun g hg => Below.heap_alloc _ _ _ (World.ownsRow.lt HO.out g hg).2 : OwnInts (wr.alloc o) w3.heap.size v7 ns)
          have hns3 : ns.length ≤ 3000 := by rw [HNL.out]; omega
          have hszw := HBL.out.size
          obtain ⟨i0, hi', hz0, hz1, hz2⟩ := info_parts info_int
          clear hn4 hnx
          go_wp2_with (at_builtin; refine wpList_append_own_at _ rfl (.tmp 50) (.tmp 52) 22 rfl w3.heap.size 3 i0 (.int .i64 0) 1 8 Tryz.underlying22 hi' hz0 hz1 hz2 rfl (by decide) _ _ _ rfl (HOW.out _) ⟨wr.heap.size, 0, none⟩ 1 1 [.int .i64 n4] rfl rfl (by intro p u hp; match p, hp with | 0, hp => simp at hp; subst hp; simp [Addr.add]) (by intro u hu; simp at hu; subst hu; rfl) (by unfold maxLen; omega) (by omega) (by simp; omega) ?_; intro v9' w6 hown' hgrow _ hat; have HO6 : Hid (OwnInts w6 w3.heap.size v9' (ns ++ [n4])) := Lib.hid (by unfold OwnInts; simpa [ints] using hown'); have HBL6 : Hid (Below w3.heap.size w3 w6) := Lib.hid ((HBL.out.alloc HBL.out.size _).grown hgrow (by simp; omega) (fun g hg => (World.ownsRow.lt HO.out g hg).1)); clear hown' hgrow hat)
          go_roundw
          case rel => exact ⟨k + 1, ns ++ [n4], _, hlt, by simp, HNS1.out, by rw [List.length_append, HNL.out]; rfl, rfl, HO6.out, HBL6.out⟩
          case measure => simp [intOf]; omega
    · obtain rfl : k = m := by omega
      have hwn : wordsM T = some ns := by
        have h2 := HNS.out
        rw [HM.out, List.take_length] at h2
        exact h2
      have HLo : Hid (answerM s l = doM s hd ns) := Lib.hid (by rw [HA.out, hwn])
      have HRG := Lib.hid (wordsM_rng T ns hwn)
      obtain ⟨a9, c9, hv9, hin9⟩ := HO.out.shape
      rw [HNL.out] at hv9
      subst hv9
      have HIN := Lib.hid hin9
      have hd0 : wr.cell? ⟨p0, 0, none⟩ = some (strV hd) := HCL.out wr HBL.out 0 hd rfl
      clear hin9 HA HNS hwn
      by_cases q0 : hd = [112, 117, 116]
      · subst q0
        by_cases e2 : k = 2
        · subst e2
          obtain ⟨x, y, rfl⟩ : ∃ x y, ns = [x, y] := by
            match ns, HNL.out with
            | [x, y], _ => exact ⟨x, y, rfl⟩
          obtain ⟨s2, hs2⟩ : ∃ s2, s2 = putS 3 s x y := ⟨_, rfl⟩
          obtain ⟨er, her⟩ : ∃ er, er = putE s x y := ⟨_, rfl⟩
          obtain ⟨out, hout⟩ : ∃ out, out = putV 3 s x y := ⟨_, rfl⟩
          have HL4 : Hid (answerM s l = (s2, if er = 0 ∧ 0 ≤ out then sOk ++ 32 :: Lib.itoa out else nameOf er)) := Lib.hid (by rw [HLo.out, hs2, her, hout]; simp [doM]; rfl)
          have HPUT : Hid (∀ wx Y, RB4 wx 3 s Y → Calls Tryz.prog 53 #[Y, .int .i64 x, .int .i64 y] wx (RPutPost wx 3 s2 out er)) := Lib.hid fun wx Y hy => by rw [hs2, her, hout]; exact rPut_any 3 s Y x y wx hy HOK.out (by decide) (by decide)
          have hvr := putV_rng HOK.out x y
          rw [← hout] at hvr
          have HEE := Lib.hid (errs_put s x y)
          rw [← her] at HEE
          obtain ⟨hv0, hv1⟩ := hvr
          clear hs2 her hout HLo
          obtain ⟨g9, o9, rfl, hg9, hc9⟩ := HIN.out (by simp)
          have z0 : wr.cell? ⟨g9, o9, none⟩ = some (.int .i64 x) := hc9 0 x rfl
          have z1 : wr.cell? ⟨g9, o9 + 1, none⟩ = some (.int .i64 y) := hc9 1 y rfl
          go_upto_region 11 with fail
          have hrd : ∀ wx, Keep [] wr wx → (wx.cell? ⟨w.heap.size, 0, none⟩ = some (.int .i64 3) ∧ wx.cell? ⟨w.heap.size, 1, none⟩ = some (.slice aK nK cK) ∧ wx.cell? ⟨w.heap.size, 2, none⟩ = some (.slice aV nV cV) ∧ wx.cell? ⟨w.heap.size, 3, none⟩ = some (.string ⟨s.text.toArray⟩) ∧ wx.cell? ⟨w.heap.size, 4, none⟩ = some (.int .i64 s.many)) ∧ wx.cell? ⟨g9, o9, none⟩ = some (.int .i64 x) ∧ wx.cell? ⟨g9, o9 + 1, none⟩ = some (.int .i64 y) := fun wx hk => by
            obtain ⟨x0, x1, x2, x3, x4, _⟩ := (HDr.out.keep hk).cells
            exact ⟨⟨x0, x1, x2, x3, x4⟩, (hk.cell (p := ⟨g9, o9, none⟩) hg9 (by simp)).trans z0, (hk.cell (p := ⟨g9, o9 + 1, none⟩) hg9 (by simp)).trans z1⟩
          have HRD := Lib.hid hrd
          clear hrd
          go_cut [11, 12, 13] (fun yA yB yC wx => CutR wr 3 s2 wx yA ∧ yB = .int .i64 out ∧ yC = .int .i64 er)
          case first =>
            go_region_held3 (fun w' => (w'.cell? ⟨w.heap.size, 0, none⟩ = some (.int .i64 3) ∧ w'.cell? ⟨w.heap.size, 1, none⟩ = some (.slice aK nK cK) ∧ w'.cell? ⟨w.heap.size, 2, none⟩ = some (.slice aV nV cV) ∧ w'.cell? ⟨w.heap.size, 3, none⟩ = some (.string ⟨s.text.toArray⟩) ∧ w'.cell? ⟨w.heap.size, 4, none⟩ = some (.int .i64 s.many)) ∧ w'.cell? ⟨g9, o9, none⟩ = some (.int .i64 x) ∧ w'.cell? ⟨g9, o9 + 1, none⟩ = some (.int .i64 y))
              (first | (refine HRD.out _ ?_; first | with_reducible exact HK3.out | with_reducible exact HK3.out.alloc _ | with_reducible exact (Keep.refl [] wr).drew | with_reducible exact ((Keep.refl [] wr).alloc _).drew | with_reducible exact ((Keep.refl [] wr).drew).alloc _ | with_reducible exact keep_new5 HK3.out _ _ _ _ _) | fail)
              (first
              | (go_at_call 53; refine (HPUT.out _ _ (HDr.out.keep (by first | exact (Keep.refl [] wr).drew | exact ((Keep.refl [] wr).drew).alloc _ | exact ((Keep.refl [] wr).alloc _).drew)).rb4).mono ?_; rintro e w4 ⟨X4, rfl, ⟨aK4, aV4, nK4, nV4, cK4, cV4, rfl, hK4, hV4, hkl4, hvl4⟩, hb4⟩; (try (have hyb := ((Blk.new wr 24 [.int .i64 0, .slice none 0 0, .slice none 0 0, .string ⟨#[]⟩, .int .i64 0]).drew).below hb4 (by simp); have y0 := hyb.cell_ (i := 0) (v := .int .i64 0) rfl; have y1 := hyb.cell_ (i := 1) (v := .slice none 0 0) rfl; have y2 := hyb.cell_ (i := 2) (v := .slice none 0 0) rfl; have y3 := hyb.cell_ (i := 3) (v := .string ⟨#[]⟩) rfl; have y4 := hyb.cell_ (i := 4) (v := .int .i64 0) rfl; have fy0 := hyb.free 0; have fy1 := hyb.free 1; have fy2 := hyb.free 2; have fy3 := hyb.free 3; have fy4 := hyb.free 4; have HYB := Lib.hid hyb; clear hyb)); have HK3 : Hid (Keep [] wr w4) := (by first | exact Lib.hid (((Keep.refl [] wr).drew).trans (Keep.of_below hb4 (Nat.le_refl _))) | exact Lib.hid ((((Keep.refl [] wr).alloc _).drew).trans (Keep.of_below hb4 (Nat.le_refl _))) | exact Lib.hid ((((Keep.refl [] wr).drew).alloc _).trans (Keep.of_below hb4 (Nat.le_refl _)))); have HK4 := Lib.hid hK4; have HV4 := Lib.hid hV4; have HKL4 := Lib.hid hkl4; have HVL4 := Lib.hid hvl4; clear hK4 hV4 hkl4 hvl4 hb4)
              | fail)
            all_goals
              (try go_wp2)
              go_meet
            all_goals first
              | with_reducible exact ⟨CutR.behind HK4.out HV4.out HKL4.out HVL4.out (HK3.out.below (Nat.le_refl _) (by simp)), rfl, rfl⟩
              | with_reducible exact ⟨CutR.ahead HYB.out HK4.out HV4.out HKL4.out HVL4.out (HK3.out.below (Nat.le_refl _) (by simp)), rfl, rfl⟩
          case rest =>
            obtain ⟨⟨q, aK4, aV4, nK4, nV4, cK4, cV4, rfl, hbx4, hq4, hbl4⟩, rfl, rfl⟩ := hcut
            have HBX4 := Lib.hid hbx4; have HQ4 := Lib.hid hq4; have HBL4 := Lib.hid hbl4
            clear hbx4 hq4 hbl4
            have HDc := Lib.hid (HDr.out.keep (Keep.of_below (F := []) HBL4.out (Nat.le_refl _)))
            have hqn : w.heap.size + 1 < q := by have h1 := HDr.out.res.lt; have h2 := HQ4.out; omega
            by_cases he : er = 0
            · subst he
              by_cases ho : 0 ≤ out
              · have HL5 : Hid (answerM s l = (s2, sOk ++ 32 :: Lib.itoa out)) := Lib.hid (by rw [HL4.out, if_pos ⟨rfl, ho⟩])
                have hil := (itoa_plain ho (by omega)).2
                have hbd : ¬ 9223372036854775807 < 3 + (Lib.itoa out).length := by omega
                go_upto_region 13 with fail
                have HC : Hid (∀ wx, Keep [w.heap.size + 1] wc wx → wx.cell? ⟨q, 0, none⟩ = some (.int .i64 3) ∧ wx.cell? ⟨q, 1, none⟩ = some (.slice aK4 nK4 cK4) ∧ wx.cell? ⟨q, 2, none⟩ = some (.slice aV4 nV4 cV4) ∧ wx.cell? ⟨q, 3, none⟩ = some (.string ⟨s2.text.toArray⟩) ∧ wx.cell? ⟨q, 4, none⟩ = some (.int .i64 s2.many)) := Lib.hid fun wx hk => by
                  have hb := HBX4.out.box.keep hk (by simp; omega)
                  exact ⟨hb.cell_ (i := 0) rfl, hb.cell_ (i := 1) rfl, hb.cell_ (i := 2) rfl, hb.cell_ (i := 3) rfl, hb.cell_ (i := 4) rfl⟩
                obtain ⟨y0, y1, y2, y3, y4, g0, g1, g2, g3, g4⟩ := HDc.out.rcells
                obtain ⟨x0, x1, x2, x3, x4⟩ := HC.out wc (Keep.refl _ _)
                go_region_held3 (fun w' => w'.cell? ⟨q, 0, none⟩ = some (.int .i64 3) ∧ w'.cell? ⟨q, 1, none⟩ = some (.slice aK4 nK4 cK4) ∧ w'.cell? ⟨q, 2, none⟩ = some (.slice aV4 nV4 cV4) ∧ w'.cell? ⟨q, 3, none⟩ = some (.string ⟨s2.text.toArray⟩) ∧ w'.cell? ⟨q, 4, none⟩ = some (.int .i64 s2.many))
                  (first | (refine HC.out _ ?_; first | with_reducible exact (Keep.refl [w.heap.size + 1] wc).drew | with_reducible exact (keep5 wc (w.heap.size + 1) _ _ _ _ _).drew) | fail)
                  (first | (go_at_call 21; refine (rdigits_int out ho (by omega) _).mono ?_; rintro e wz ⟨rfl, rfl⟩) | fail)
                all_goals
                  go_wp2
                  refine bodyPost_ret (results_cell2 rfl _ _ (w.heap.size + 1) 24 _ _ rfl (blk5 HDc.out.res _ _ _ _ _).drew Tryz.underlying24 rfl info_rstore) rfl ?_
                  have hk5 := (keep5 wc (w.heap.size + 1) (.int .i64 3) (.slice aK4 nK4 cK4) (.slice aV4 nV4 cV4) (.string ⟨s2.text.toArray⟩) (.int .i64 s2.many)).drew
                  exact ra_post2 HL5.out (by show Value.string _ = _; exact congrArg Value.string (by rw [show (⟨#[111, 107, 32]⟩ : ByteArray) = ⟨[111, 107, 32].toArray⟩ from rfl, str_cat]; rfl)) ⟨aK4, aV4, nK4, nV4, cK4, cV4, rfl, own_keep1 HBX4.out.K hk5 HDc.out.res (by decide), own_keep1 HBX4.out.V hk5 HDc.out.res (by decide), HBX4.out.kl, HBX4.out.vl⟩ (HDc.out.bel.trans (hk5.below (by have := HDc.out.bel.size; omega) (by simp)))
              · have HL5 : Hid (answerM s l = (s2, nameOf 0)) := Lib.hid (by rw [HL4.out, if_neg (fun h => ho h.2)])
                go_upto_region 14 with fail
                have HC : Hid (∀ wx, Keep [w.heap.size + 1] wc wx → wx.cell? ⟨q, 0, none⟩ = some (.int .i64 3) ∧ wx.cell? ⟨q, 1, none⟩ = some (.slice aK4 nK4 cK4) ∧ wx.cell? ⟨q, 2, none⟩ = some (.slice aV4 nV4 cV4) ∧ wx.cell? ⟨q, 3, none⟩ = some (.string ⟨s2.text.toArray⟩) ∧ wx.cell? ⟨q, 4, none⟩ = some (.int .i64 s2.many)) := Lib.hid fun wx hk => by
                  have hb := HBX4.out.box.keep hk (by simp; omega)
                  exact ⟨hb.cell_ (i := 0) rfl, hb.cell_ (i := 1) rfl, hb.cell_ (i := 2) rfl, hb.cell_ (i := 3) rfl, hb.cell_ (i := 4) rfl⟩
                obtain ⟨y0, y1, y2, y3, y4, g0, g1, g2, g3, g4⟩ := HDc.out.rcells
                obtain ⟨x0, x1, x2, x3, x4⟩ := HC.out wc (Keep.refl _ _)
                go_region_held3 (fun w' => w'.cell? ⟨q, 0, none⟩ = some (.int .i64 3) ∧ w'.cell? ⟨q, 1, none⟩ = some (.slice aK4 nK4 cK4) ∧ w'.cell? ⟨q, 2, none⟩ = some (.slice aV4 nV4 cV4) ∧ w'.cell? ⟨q, 3, none⟩ = some (.string ⟨s2.text.toArray⟩) ∧ w'.cell? ⟨q, 4, none⟩ = some (.int .i64 s2.many))
                  (first | (refine HC.out _ ?_; first | with_reducible exact (Keep.refl [w.heap.size + 1] wc).drew | with_reducible exact (keep5 wc (w.heap.size + 1) _ _ _ _ _).drew) | fail)
                  (first | (go_at_call 74; refine (rcalled 0 (.inl rfl) _).mono ?_; rintro e wz ⟨rfl, rfl⟩) | fail)
                all_goals
                  go_wp2
                  refine bodyPost_ret (results_cell2 rfl _ _ (w.heap.size + 1) 24 _ _ rfl (blk5 HDc.out.res _ _ _ _ _).drew Tryz.underlying24 rfl info_rstore) rfl ?_
                  have hk5 := (keep5 wc (w.heap.size + 1) (.int .i64 3) (.slice aK4 nK4 cK4) (.slice aV4 nV4 cV4) (.string ⟨s2.text.toArray⟩) (.int .i64 s2.many)).drew
                  exact ra_post2 HL5.out (rfl) ⟨aK4, aV4, nK4, nV4, cK4, cV4, rfl, own_keep1 HBX4.out.K hk5 HDc.out.res (by decide), own_keep1 HBX4.out.V hk5 HDc.out.res (by decide), HBX4.out.kl, HBX4.out.vl⟩ (HDc.out.bel.trans (hk5.below (by have := HDc.out.bel.size; omega) (by simp)))
            · have HL5 : Hid (answerM s l = (s2, nameOf er)) := Lib.hid (by rw [HL4.out, if_neg (fun h => he h.1)])
              have he2 : (er == 0) = false := beq_eq_false_iff_ne.2 he
              go_upto_region 14 with fail
              have HC : Hid (∀ wx, Keep [w.heap.size + 1] wc wx → wx.cell? ⟨q, 0, none⟩ = some (.int .i64 3) ∧ wx.cell? ⟨q, 1, none⟩ = some (.slice aK4 nK4 cK4) ∧ wx.cell? ⟨q, 2, none⟩ = some (.slice aV4 nV4 cV4) ∧ wx.cell? ⟨q, 3, none⟩ = some (.string ⟨s2.text.toArray⟩) ∧ wx.cell? ⟨q, 4, none⟩ = some (.int .i64 s2.many)) := Lib.hid fun wx hk => by
                have hb := HBX4.out.box.keep hk (by simp; omega)
                exact ⟨hb.cell_ (i := 0) rfl, hb.cell_ (i := 1) rfl, hb.cell_ (i := 2) rfl, hb.cell_ (i := 3) rfl, hb.cell_ (i := 4) rfl⟩
              obtain ⟨y0, y1, y2, y3, y4, g0, g1, g2, g3, g4⟩ := HDc.out.rcells
              obtain ⟨x0, x1, x2, x3, x4⟩ := HC.out wc (Keep.refl _ _)
              go_region_held3 (fun w' => w'.cell? ⟨q, 0, none⟩ = some (.int .i64 3) ∧ w'.cell? ⟨q, 1, none⟩ = some (.slice aK4 nK4 cK4) ∧ w'.cell? ⟨q, 2, none⟩ = some (.slice aV4 nV4 cV4) ∧ w'.cell? ⟨q, 3, none⟩ = some (.string ⟨s2.text.toArray⟩) ∧ w'.cell? ⟨q, 4, none⟩ = some (.int .i64 s2.many))
                (first | (refine HC.out _ ?_; first | with_reducible exact (Keep.refl [w.heap.size + 1] wc).drew | with_reducible exact (keep5 wc (w.heap.size + 1) _ _ _ _ _).drew) | fail)
                (first | (go_at_call 74; refine (rcalled er HEE.out _).mono ?_; rintro e wz ⟨rfl, rfl⟩) | fail)
              all_goals
                go_wp2
                refine bodyPost_ret (results_cell2 rfl _ _ (w.heap.size + 1) 24 _ _ rfl (blk5 HDc.out.res _ _ _ _ _).drew Tryz.underlying24 rfl info_rstore) rfl ?_
                have hk5 := (keep5 wc (w.heap.size + 1) (.int .i64 3) (.slice aK4 nK4 cK4) (.slice aV4 nV4 cV4) (.string ⟨s2.text.toArray⟩) (.int .i64 s2.many)).drew
                exact ra_post2 HL5.out (rfl) ⟨aK4, aV4, nK4, nV4, cK4, cV4, rfl, own_keep1 HBX4.out.K hk5 HDc.out.res (by decide), own_keep1 HBX4.out.V hk5 HDc.out.res (by decide), HBX4.out.kl, HBX4.out.vl⟩ (HDc.out.bel.trans (hk5.below (by have := HDc.out.bel.size; omega) (by simp)))
        · have HL4 : Hid (answerM s l = (s, sBad)) := Lib.hid (by rw [HLo.out]; unfold doM; rw [HNL.out, if_neg (fun h => e2 h.2), if_neg (fun h => absurd h.1 (by decide)), if_neg (fun h => absurd h.1 (by decide)), if_neg (fun h => absurd h.1 (by decide))])
          have e2' : ((k : Int) == 2) = false := beq_eq_false_iff_ne.2 (by omega)
          obtain ⟨x0, x1, x2, x3, x4, f0, f1, f2, f3, f4⟩ := HDr.out.cells
          obtain ⟨y0, y1, y2, y3, y4, g0, g1, g2, g3, g4⟩ := HDr.out.rcells
          go_wp2
          refine bodyPost_ret (results_cell2 rfl _ _ (w.heap.size + 1) 24 _ _ rfl (blk5 HDr.out.res _ _ _ _ _) Tryz.underlying24 rfl info_rstore) rfl ?_
          have hd := HDr.out.done (.int .i64 3) (.slice aK nK cK) (.slice aV nV cV) (.string ⟨s.text.toArray⟩) (.int .i64 s.many)
          exact ra_post HL4.out ⟨aK, aV, nK, nV, cK, cV, rfl, hd.1, hd.2.1, HDr.out.kl, HDr.out.vl⟩ hd.2.2
      · have q0' : (hd == [112, 117, 116]) = false := beq_eq_false_iff_ne.2 q0
        by_cases q1 : hd = [103, 101, 116]
        · subst q1
          by_cases e2 : k = 1
          · subst e2
            obtain ⟨x, rfl⟩ : ∃ x, ns = [x] := by
              match ns, HNL.out with
              | [x], _ => exact ⟨x, rfl⟩
            obtain ⟨s2, hs2⟩ : ∃ s2, s2 = getS s x := ⟨_, rfl⟩
            obtain ⟨er, her⟩ : ∃ er, er = getE s x := ⟨_, rfl⟩
            obtain ⟨out, hout⟩ : ∃ out, out = getV s x := ⟨_, rfl⟩
            have HL4 : Hid (answerM s l = (s2, if er = 0 then Lib.itoa out else nameOf er)) := Lib.hid (by rw [HLo.out, hs2, her, hout]; unfold doM; rw [if_neg (fun h => absurd h.1 (by decide)), if_pos ⟨rfl, rfl⟩]; rfl)
            have HSE : Hid (er ≠ 0 → s2 = s) := Lib.hid (by rw [hs2, her]; intro h; unfold getS; rw [if_neg h])
            have HGET : Hid (∀ wx Y, RB4 wx 3 s Y → Calls Tryz.prog 54 #[Y, .int .i64 x] wx (RPutPost wx 3 s2 out er)) := Lib.hid fun wx Y hy => by rw [hs2, her, hout]; exact rGet_any 3 s Y x wx hy HOK.out (by decide)
            have hvr := getV_rng HOK.out x
            rw [← hout] at hvr
            have HEE := Lib.hid (errs_get s x)
            rw [← her] at HEE
            obtain ⟨hv0, hv1⟩ := hvr
            clear hs2 her hout HLo
            obtain ⟨g9, o9, rfl, hg9, hc9⟩ := HIN.out (by simp)
            have z0 : wr.cell? ⟨g9, o9, none⟩ = some (.int .i64 x) := hc9 0 x rfl
            go_upto_region 16 with fail
            have hrd : ∀ wx, Keep [] wr wx → (wx.cell? ⟨w.heap.size, 0, none⟩ = some (.int .i64 3) ∧ wx.cell? ⟨w.heap.size, 1, none⟩ = some (.slice aK nK cK) ∧ wx.cell? ⟨w.heap.size, 2, none⟩ = some (.slice aV nV cV) ∧ wx.cell? ⟨w.heap.size, 3, none⟩ = some (.string ⟨s.text.toArray⟩) ∧ wx.cell? ⟨w.heap.size, 4, none⟩ = some (.int .i64 s.many)) ∧ wx.cell? ⟨g9, o9, none⟩ = some (.int .i64 x) := fun wx hk => by
              obtain ⟨x0, x1, x2, x3, x4, _⟩ := (HDr.out.keep hk).cells
              exact ⟨⟨x0, x1, x2, x3, x4⟩, (hk.cell (p := ⟨g9, o9, none⟩) hg9 (by simp)).trans z0⟩
            have HRD := Lib.hid hrd
            clear hrd
            go_cut [14, 15, 16] (fun yA yB yC wx => CutR wr 3 s2 wx yA ∧ yB = .int .i64 out ∧ yC = .int .i64 er)
            case first =>
              go_region_held3 (fun w' => (w'.cell? ⟨w.heap.size, 0, none⟩ = some (.int .i64 3) ∧ w'.cell? ⟨w.heap.size, 1, none⟩ = some (.slice aK nK cK) ∧ w'.cell? ⟨w.heap.size, 2, none⟩ = some (.slice aV nV cV) ∧ w'.cell? ⟨w.heap.size, 3, none⟩ = some (.string ⟨s.text.toArray⟩) ∧ w'.cell? ⟨w.heap.size, 4, none⟩ = some (.int .i64 s.many)) ∧ w'.cell? ⟨g9, o9, none⟩ = some (.int .i64 x))
                (first | (refine HRD.out _ ?_; first | with_reducible exact HK3.out | with_reducible exact HK3.out.alloc _ | with_reducible exact (Keep.refl [] wr).drew | with_reducible exact ((Keep.refl [] wr).alloc _).drew | with_reducible exact ((Keep.refl [] wr).drew).alloc _ | with_reducible exact keep_new5 HK3.out _ _ _ _ _) | fail)
                (first
                | (go_at_call 54; refine (HGET.out _ _ (HDr.out.keep (by first | exact (Keep.refl [] wr).drew | exact ((Keep.refl [] wr).drew).alloc _ | exact ((Keep.refl [] wr).alloc _).drew)).rb4).mono ?_; rintro e w4 ⟨X4, rfl, ⟨aK4, aV4, nK4, nV4, cK4, cV4, rfl, hK4, hV4, hkl4, hvl4⟩, hb4⟩; (try (have hyb := ((Blk.new wr 24 [.int .i64 0, .slice none 0 0, .slice none 0 0, .string ⟨#[]⟩, .int .i64 0]).drew).below hb4 (by simp); have y0 := hyb.cell_ (i := 0) (v := .int .i64 0) rfl; have y1 := hyb.cell_ (i := 1) (v := .slice none 0 0) rfl; have y2 := hyb.cell_ (i := 2) (v := .slice none 0 0) rfl; have y3 := hyb.cell_ (i := 3) (v := .string ⟨#[]⟩) rfl; have y4 := hyb.cell_ (i := 4) (v := .int .i64 0) rfl; have fy0 := hyb.free 0; have fy1 := hyb.free 1; have fy2 := hyb.free 2; have fy3 := hyb.free 3; have fy4 := hyb.free 4; have HYB := Lib.hid hyb; clear hyb)); have HK3 : Hid (Keep [] wr w4) := (by first | exact Lib.hid (((Keep.refl [] wr).drew).trans (Keep.of_below hb4 (Nat.le_refl _))) | exact Lib.hid ((((Keep.refl [] wr).alloc _).drew).trans (Keep.of_below hb4 (Nat.le_refl _))) | exact Lib.hid ((((Keep.refl [] wr).drew).alloc _).trans (Keep.of_below hb4 (Nat.le_refl _)))); have HK4 := Lib.hid hK4; have HV4 := Lib.hid hV4; have HKL4 := Lib.hid hkl4; have HVL4 := Lib.hid hvl4; clear hK4 hV4 hkl4 hvl4 hb4)
                | fail)
              all_goals
                (try go_wp2)
                go_meet
              all_goals first
                | with_reducible exact ⟨CutR.behind HK4.out HV4.out HKL4.out HVL4.out (HK3.out.below (Nat.le_refl _) (by simp)), rfl, rfl⟩
                | with_reducible exact ⟨CutR.ahead HYB.out HK4.out HV4.out HKL4.out HVL4.out (HK3.out.below (Nat.le_refl _) (by simp)), rfl, rfl⟩
            case rest =>
              obtain ⟨⟨q, aK4, aV4, nK4, nV4, cK4, cV4, rfl, hbx4, hq4, hbl4⟩, rfl, rfl⟩ := hcut
              have HBX4 := Lib.hid hbx4; have HQ4 := Lib.hid hq4; have HBL4 := Lib.hid hbl4
              clear hbx4 hq4 hbl4
              have HDc := Lib.hid (HDr.out.keep (Keep.of_below (F := []) HBL4.out (Nat.le_refl _)))
              have hqn : w.heap.size + 1 < q := by have h1 := HDr.out.res.lt; have h2 := HQ4.out; omega
              by_cases he : er = 0
              · subst he
                have HL5 : Hid (answerM s l = (s2, Lib.itoa out)) := Lib.hid (by rw [HL4.out, if_pos rfl])
                go_upto_region 19 with fail
                have HC : Hid (∀ wx, Keep [w.heap.size + 1] wc wx → wx.cell? ⟨q, 0, none⟩ = some (.int .i64 3) ∧ wx.cell? ⟨q, 1, none⟩ = some (.slice aK4 nK4 cK4) ∧ wx.cell? ⟨q, 2, none⟩ = some (.slice aV4 nV4 cV4) ∧ wx.cell? ⟨q, 3, none⟩ = some (.string ⟨s2.text.toArray⟩) ∧ wx.cell? ⟨q, 4, none⟩ = some (.int .i64 s2.many)) := Lib.hid fun wx hk => by
                  have hb := HBX4.out.box.keep hk (by simp; omega)
                  exact ⟨hb.cell_ (i := 0) rfl, hb.cell_ (i := 1) rfl, hb.cell_ (i := 2) rfl, hb.cell_ (i := 3) rfl, hb.cell_ (i := 4) rfl⟩
                obtain ⟨y0, y1, y2, y3, y4, g0, g1, g2, g3, g4⟩ := HDc.out.rcells
                obtain ⟨x0, x1, x2, x3, x4⟩ := HC.out wc (Keep.refl _ _)
                go_region_held3 (fun w' => w'.cell? ⟨q, 0, none⟩ = some (.int .i64 3) ∧ w'.cell? ⟨q, 1, none⟩ = some (.slice aK4 nK4 cK4) ∧ w'.cell? ⟨q, 2, none⟩ = some (.slice aV4 nV4 cV4) ∧ w'.cell? ⟨q, 3, none⟩ = some (.string ⟨s2.text.toArray⟩) ∧ w'.cell? ⟨q, 4, none⟩ = some (.int .i64 s2.many))
                  (first | (refine HC.out _ ?_; first | with_reducible exact (Keep.refl [w.heap.size + 1] wc).drew | with_reducible exact (keep5 wc (w.heap.size + 1) _ _ _ _ _).drew) | fail)
                  (first | (go_at_call 21; refine (rdigits_int out (by omega) (by omega) _).mono ?_; rintro e wz ⟨rfl, rfl⟩) | fail)
                all_goals
                  go_wp2
                  refine bodyPost_ret (results_cell2 rfl _ _ (w.heap.size + 1) 24 _ _ rfl (blk5 HDc.out.res _ _ _ _ _).drew Tryz.underlying24 rfl info_rstore) rfl ?_
                  have hk5 := (keep5 wc (w.heap.size + 1) (.int .i64 3) (.slice aK4 nK4 cK4) (.slice aV4 nV4 cV4) (.string ⟨s2.text.toArray⟩) (.int .i64 s2.many)).drew
                  exact ra_post2 HL5.out (rfl) ⟨aK4, aV4, nK4, nV4, cK4, cV4, rfl, own_keep1 HBX4.out.K hk5 HDc.out.res (by decide), own_keep1 HBX4.out.V hk5 HDc.out.res (by decide), HBX4.out.kl, HBX4.out.vl⟩ (HDc.out.bel.trans (hk5.below (by have := HDc.out.bel.size; omega) (by simp)))
              · have HL5 : Hid (answerM s l = (s, nameOf er)) := Lib.hid (by rw [HL4.out, if_neg he, HSE.out he])
                have he2 : (er != 0) = true := bne_iff_ne.2 he
                go_upto_region 18 with fail
                have HC : Hid (∀ wx, Keep [w.heap.size + 1] wc wx → wx.cell? ⟨w.heap.size, 0, none⟩ = some (.int .i64 3) ∧ wx.cell? ⟨w.heap.size, 1, none⟩ = some (.slice aK nK cK) ∧ wx.cell? ⟨w.heap.size, 2, none⟩ = some (.slice aV nV cV) ∧ wx.cell? ⟨w.heap.size, 3, none⟩ = some (.string ⟨s.text.toArray⟩) ∧ wx.cell? ⟨w.heap.size, 4, none⟩ = some (.int .i64 s.many)) := Lib.hid fun wx hk => by
                  have hb := HDc.out.box.keep hk (by simp)
                  exact ⟨hb.cell_ (i := 0) rfl, hb.cell_ (i := 1) rfl, hb.cell_ (i := 2) rfl, hb.cell_ (i := 3) rfl, hb.cell_ (i := 4) rfl⟩
                obtain ⟨y0, y1, y2, y3, y4, g0, g1, g2, g3, g4⟩ := HDc.out.rcells
                obtain ⟨x0, x1, x2, x3, x4⟩ := HC.out wc (Keep.refl _ _)
                go_region_held3 (fun w' => w'.cell? ⟨w.heap.size, 0, none⟩ = some (.int .i64 3) ∧ w'.cell? ⟨w.heap.size, 1, none⟩ = some (.slice aK nK cK) ∧ w'.cell? ⟨w.heap.size, 2, none⟩ = some (.slice aV nV cV) ∧ w'.cell? ⟨w.heap.size, 3, none⟩ = some (.string ⟨s.text.toArray⟩) ∧ w'.cell? ⟨w.heap.size, 4, none⟩ = some (.int .i64 s.many))
                  (first | (refine HC.out _ ?_; first | with_reducible exact (Keep.refl [w.heap.size + 1] wc).drew | with_reducible exact (keep5 wc (w.heap.size + 1) _ _ _ _ _).drew) | fail)
                  (first | (go_at_call 74; refine (rcalled er HEE.out _).mono ?_; rintro e wz ⟨rfl, rfl⟩) | fail)
                all_goals
                  go_wp2
                  refine bodyPost_ret (results_cell2 rfl _ _ (w.heap.size + 1) 24 _ _ rfl (blk5 HDc.out.res _ _ _ _ _).drew Tryz.underlying24 rfl info_rstore) rfl ?_
                  have hk5 := (keep5 wc (w.heap.size + 1) (.int .i64 3) (.slice aK nK cK) (.slice aV nV cV) (.string ⟨s.text.toArray⟩) (.int .i64 s.many)).drew
                  exact ra_post2 HL5.out (rfl) ⟨aK, aV, nK, nV, cK, cV, rfl, own_keep1 HDc.out.K hk5 HDc.out.res (by decide), own_keep1 HDc.out.V hk5 HDc.out.res (by decide), HDc.out.kl, HDc.out.vl⟩ (HDc.out.bel.trans (hk5.below (by have := HDc.out.bel.size; omega) (by simp)))
          · have HL4 : Hid (answerM s l = (s, sBad)) := Lib.hid (by rw [HLo.out]; unfold doM; rw [HNL.out, if_neg (fun h => absurd h.1 (by decide)), if_neg (fun h => e2 h.2), if_neg (fun h => absurd h.1 (by decide)), if_neg (fun h => absurd h.1 (by decide))])
            have e2' : ((k : Int) == 1) = false := beq_eq_false_iff_ne.2 (by omega)
            obtain ⟨x0, x1, x2, x3, x4, f0, f1, f2, f3, f4⟩ := HDr.out.cells
            obtain ⟨y0, y1, y2, y3, y4, g0, g1, g2, g3, g4⟩ := HDr.out.rcells
            go_wp2
            refine bodyPost_ret (results_cell2 rfl _ _ (w.heap.size + 1) 24 _ _ rfl (blk5 HDr.out.res _ _ _ _ _) Tryz.underlying24 rfl info_rstore) rfl ?_
            have hd := HDr.out.done (.int .i64 3) (.slice aK nK cK) (.slice aV nV cV) (.string ⟨s.text.toArray⟩) (.int .i64 s.many)
            exact ra_post HL4.out ⟨aK, aV, nK, nV, cK, cV, rfl, hd.1, hd.2.1, HDr.out.kl, HDr.out.vl⟩ hd.2.2
        · have q1' : (hd == [103, 101, 116]) = false := beq_eq_false_iff_ne.2 q1
          by_cases q2 : hd = [107, 101, 121, 115]
          · subst q2
            by_cases e2 : k = 0
            · skip
              obtain rfl : ns = [] := List.length_eq_zero_iff.1 (by rw [HNL.out]; exact e2)
              have e2' : ((k : Int) == 0) = true := beq_iff_eq.2 (by omega)
              have HL4 : Hid (answerM s l = (s, sKeys ++ keysA s.keys)) := Lib.hid (by rw [HLo.out]; unfold doM; rw [if_neg (fun h => absurd h.1 (by decide)), if_neg (fun h => absurd h.1 (by decide)), if_pos ⟨rfl, rfl⟩])
              clear e2
              have HKR := Lib.hid (keys_rng HOK.out)
              have HKI := Lib.hid (own_in HDr.out.K)
              have HN := Lib.hid HDr.out.kl
              have hn3 : nK ≤ 3 := by rw [← HN.out]; have := HOK.out.len; simpa [Bk.keys] using this
              obtain ⟨x0, x1, x2, x3, x4, f0, f1, f2, f3, f4⟩ := HDr.out.cells
              clear HLo
              go_wp2
              go_loop [17, 18] (fun v17 v18 => ∃ j : Nat, j ≤ nK ∧ v18 = .int .i64 j ∧ v17 = .string ⟨(sKeys ++ keysA (s.keys.take j)).toArray⟩) (fun _ v18 => nK - (intOf v18).toNat)
              case atStart => exact ⟨0, Nat.zero_le _, rfl, rfl⟩
              case round =>
                obtain ⟨j, hj, rfl, rfl⟩ := hrel
                by_cases hlt : j < nK
                · have hjk : j < s.keys.length := by rw [HN.out]; exact hlt
                  obtain ⟨bx, off, rfl, hbb, hcx⟩ := HKI.out.at_ hjk
                  obtain ⟨kk, hk⟩ : ∃ kk, kk = s.keys[j] := ⟨_, rfl⟩
                  rw [← hk] at hcx
                  have hkr := HKR.out kk (by rw [hk]; exact List.getElem_mem _)
                  have HNX : Hid (keysA (s.keys.take (j + 1)) = keysA (s.keys.take j) ++ (32 :: Lib.itoa kk)) := Lib.hid (by rw [List.take_succ_eq_append_getElem hjk, ← hk, keysA_snoc])
                  have hkl := (keysA_plain (s.keys.take j) (fun y hy => HKR.out y (List.mem_of_mem_take hy))).2
                  rw [List.length_take] at hkl
                  obtain ⟨hk0, hk1⟩ := hkr
                  have hil := (itoa_plain hk0 (by omega)).2
                  have hsl : sKeys.length = 4 := rfl
                  have hjn : (j : Int) < (nK : Int) := by omega
                  have hj0 : (0 : Int) ≤ (j : Int) := by omega
                  have hbd1 : ¬ 9223372036854775807 < 1 + (Lib.itoa kk).length := by omega
                  have hbd2 : ¬ 9223372036854775807 < (sKeys ++ keysA (s.keys.take j)).length + (1 + (Lib.itoa kk).length) := by rw [List.length_append]; omega
                  have hbd3 : ¬ 9223372036854775807 < sKeys.length + (keysA (s.keys.take j)).length + (1 + (Lib.itoa kk).length) := by omega
                  have hbd4 : ¬ 9223372036854775807 < 4 + (keysA (s.keys.take j)).length + (1 + (Lib.itoa kk).length) := by omega
                  clear hk hkl
                  go_wp2_with (go_at_call 21; refine (rdigits_int kk hk0 (by omega) _).mono ?_; rintro e wz ⟨rfl, rfl⟩)
                  go_round
                  case rel =>
                    refine ⟨j + 1, hlt, by simp, ?_⟩
                    rw [HNX.out, show (⟨#[32]⟩ : ByteArray) = ⟨[32].toArray⟩ from rfl, str_cat, str_cat]
                    simp
                  case measure => simp [intOf]; omega
                · obtain rfl : j = nK := by omega
                  have e : s.keys.take j = s.keys := List.take_of_length_le (by rw [HN.out]; omega)
                  rw [e]
                  obtain ⟨y0, y1, y2, y3, y4, g0, g1, g2, g3, g4⟩ := HDr.out.rcells
                  go_wp2
                  refine bodyPost_ret (results_cell2 rfl _ _ (w.heap.size + 1) 24 _ _ rfl (blk5 HDr.out.res _ _ _ _ _) Tryz.underlying24 rfl info_rstore) rfl ?_
                  have hd := HDr.out.done (.int .i64 3) (.slice aK j cK) (.slice aV nV cV) (.string ⟨s.text.toArray⟩) (.int .i64 s.many)
                  exact ra_post HL4.out ⟨aK, aV, j, nV, cK, cV, rfl, hd.1, hd.2.1, HDr.out.kl, HDr.out.vl⟩ hd.2.2
            · have HL4 : Hid (answerM s l = (s, sBad)) := Lib.hid (by rw [HLo.out]; unfold doM; rw [HNL.out, if_neg (fun h => absurd h.1 (by decide)), if_neg (fun h => absurd h.1 (by decide)), if_neg (fun h => e2 h.2), if_neg (fun h => absurd h.1 (by decide))])
              have e2' : ((k : Int) == 0) = false := beq_eq_false_iff_ne.2 (by omega)
              obtain ⟨x0, x1, x2, x3, x4, f0, f1, f2, f3, f4⟩ := HDr.out.cells
              obtain ⟨y0, y1, y2, y3, y4, g0, g1, g2, g3, g4⟩ := HDr.out.rcells
              go_wp2
              refine bodyPost_ret (results_cell2 rfl _ _ (w.heap.size + 1) 24 _ _ rfl (blk5 HDr.out.res _ _ _ _ _) Tryz.underlying24 rfl info_rstore) rfl ?_
              have hd := HDr.out.done (.int .i64 3) (.slice aK nK cK) (.slice aV nV cV) (.string ⟨s.text.toArray⟩) (.int .i64 s.many)
              exact ra_post HL4.out ⟨aK, aV, nK, nV, cK, cV, rfl, hd.1, hd.2.1, HDr.out.kl, HDr.out.vl⟩ hd.2.2
          · have q2' : (hd == [107, 101, 121, 115]) = false := beq_eq_false_iff_ne.2 q2
            by_cases q3 : hd = [99, 114, 97, 115, 104]
            · subst q3
              by_cases e2 : k = 1
              · subst e2
                obtain ⟨x, rfl⟩ : ∃ x, ns = [x] := by
                  match ns, HNL.out with
                  | [x], _ => exact ⟨x, rfl⟩
                obtain ⟨hx0, hx9⟩ := HRG.out x (by simp)
                obtain ⟨u, rfl⟩ := Int.eq_ofNat_of_zero_le hx0
                obtain ⟨s2, hs2⟩ : ∃ s2, s2 = (crashO s (u : Int)).1 := ⟨_, rfl⟩
                obtain ⟨m, hm60, hop, hcm⟩ := crash_open HCM.out (u : Int)
                have HL4 : Hid (answerM s l = (s2, sFound ++ Lib.itoa (m : Int))) := Lib.hid (by rw [HLo.out]; unfold doM; rw [if_neg (fun h => absurd h.1 (by decide)), if_neg (fun h => absurd h.1 (by decide)), if_neg (fun h => absurd h.1 (by decide)), if_pos ⟨rfl, rfl⟩, hs2, ← hcm]; rfl)
                have HCO2 : Hid (∀ wx, Calls Tryz.prog 11 #[.int .i64 3, .string ⟨(s.text.take u).toArray⟩] wx (RPutPost wx 3 s2 m 0)) := Lib.hid fun wx => by
                  have h1 := rOpen_any 3 (s.text.take u) wx
                  rw [show openS 3 (s.text.take u) = _ from hop, ← hs2] at h1
                  exact h1
                obtain ⟨g9, o9, rfl, hg9, hc9⟩ := HIN.out (by simp)
                have z0 : wr.cell? ⟨g9, o9, none⟩ = some (.int .i64 u) := hc9 0 u rfl
                obtain ⟨x0, x1, x2, x3, x4, f0, f1, f2, f3, f4⟩ := HDr.out.cells
                obtain ⟨y0, y1, y2, y3, y4, g0, g1, g2, g3, g4⟩ := HDr.out.rcells
                have hsz : (⟨s.text.toArray⟩ : ByteArray).size = s.text.length := by simp [ByteArray.size]
                have hil := (itoa_plain (n := (m : Int)) (by omega) (by omega)).2
                have hbd : ¬ 9223372036854775807 < 6 + (Lib.itoa (m : Int)).length := by omega
                have hm0 : (0 : Int) ≤ (m : Int) := by omega
                have htx : s.text.length ≤ 2000 := by have h1 := HOK.out.text; have h2 := HOK.out.many; omega
                clear hs2 hop hcm HLo
                by_cases hgt : (s.text.length : Int) < (u : Int)
                · have hex : (⟨s.text.toArray⟩ : ByteArray).extract 0 s.text.length = ⟨(s.text.take u).toArray⟩ := by
                    have h2 := ext_left s.text []
                    rw [List.append_nil] at h2
                    rw [h2, List.take_of_length_le (by omega)]
                  have HEX := Lib.hid hex
                  have HCO : Hid (∀ wx, Calls Tryz.prog 11 #[.int .i64 3, .string ⟨s.text.toArray⟩] wx (RPutPost wx 3 s2 m 0)) := Lib.hid fun wx => by
                    have h1 := HCO2.out wx
                    rw [List.take_of_length_le (by omega)] at h1
                    exact h1
                  clear hex
                  go_wp2_with fail
                  rw [HEX.out]
                  refine (HCO2.out _).mono ?_
                  rintro e w4 ⟨X4, rfl, ⟨aK4, aV4, nK4, nV4, cK4, cV4, rfl, hK4, hV4, hkl4, hvl4⟩, hb4⟩
                  have HB4 := Lib.hid hb4
                  obtain ⟨wc, hwc⟩ : ∃ wc, wc = w4.alloc (.cells #[.int .i64 3, .slice aK4 nK4 cK4, .slice aV4 nV4 cV4, .string ⟨s2.text.toArray⟩, .int .i64 s2.many] 24) := ⟨_, rfl⟩
                  obtain ⟨q, hq⟩ : ∃ q, q = w4.heap.size := ⟨_, rfl⟩
                  have hqn : w.heap.size + 1 < q := by have h1 := HDr.out.res.lt; have h2 := hb4.size; omega
                  have hbx : BX wc q 3 s2 aK4 aV4 nK4 nV4 cK4 cV4 := by rw [hwc, hq]; exact BX.new (slots := 3) hK4 hV4 hkl4 hvl4
                  have hdc : RB w wc w.heap.size 3 aK aV nK nV cK cV s.keys (s.M.map (·.2)) s.text s.many := by rw [hwc]; exact HDr.out.keep ((Keep.of_below (F := []) hb4 (Nat.le_refl _)).alloc _)
                  have HBX4 := Lib.hid hbx
                  have HDc := Lib.hid hdc
                  have HWC := Lib.hid hwc
                  have HQ := Lib.hid hq
                  clear hK4 hV4 hkl4 hvl4 hb4 hwc hq hbx hdc
                  go_upto_region 34 with fail
                  rw [← HWC.out, ← HQ.out]
                  have HC : Hid (∀ wx, Keep [w.heap.size + 1] wc wx → wx.cell? ⟨q, 0, none⟩ = some (.int .i64 3) ∧ wx.cell? ⟨q, 1, none⟩ = some (.slice aK4 nK4 cK4) ∧ wx.cell? ⟨q, 2, none⟩ = some (.slice aV4 nV4 cV4) ∧ wx.cell? ⟨q, 3, none⟩ = some (.string ⟨s2.text.toArray⟩) ∧ wx.cell? ⟨q, 4, none⟩ = some (.int .i64 s2.many)) := Lib.hid fun wx hk => by
                    have hb := HBX4.out.box.keep hk (by simp; omega)
                    exact ⟨hb.cell_ (i := 0) rfl, hb.cell_ (i := 1) rfl, hb.cell_ (i := 2) rfl, hb.cell_ (i := 3) rfl, hb.cell_ (i := 4) rfl⟩
                  obtain ⟨y0, y1, y2, y3, y4, g0, g1, g2, g3, g4⟩ := HDc.out.rcells
                  obtain ⟨x0, x1, x2, x3, x4⟩ := HC.out wc (Keep.refl _ _)
                  go_region_held3 (fun w' => w'.cell? ⟨q, 0, none⟩ = some (.int .i64 3) ∧ w'.cell? ⟨q, 1, none⟩ = some (.slice aK4 nK4 cK4) ∧ w'.cell? ⟨q, 2, none⟩ = some (.slice aV4 nV4 cV4) ∧ w'.cell? ⟨q, 3, none⟩ = some (.string ⟨s2.text.toArray⟩) ∧ w'.cell? ⟨q, 4, none⟩ = some (.int .i64 s2.many))
                    (first | (refine HC.out _ ?_; first | with_reducible exact (Keep.refl [w.heap.size + 1] wc).drew | with_reducible exact (keep5 wc (w.heap.size + 1) _ _ _ _ _).drew) | fail)
                    (first | (go_at_call 21; refine (rdigits_int (m : Int) (by omega) (by omega) _).mono ?_; rintro e wz ⟨rfl, rfl⟩) | fail)
                  all_goals
                    go_wp2
                    refine bodyPost_ret (results_cell2 rfl _ _ (w.heap.size + 1) 24 _ _ rfl (blk5 HDc.out.res _ _ _ _ _).drew Tryz.underlying24 rfl info_rstore) rfl ?_
                    have hk5 := (keep5 wc (w.heap.size + 1) (.int .i64 3) (.slice aK4 nK4 cK4) (.slice aV4 nV4 cV4) (.string ⟨s2.text.toArray⟩) (.int .i64 s2.many)).drew
                    exact ra_post2 HL4.out (by show Value.string _ = _; exact congrArg Value.string (by rw [show (⟨#[102, 111, 117, 110, 100, 32]⟩ : ByteArray) = ⟨[102, 111, 117, 110, 100, 32].toArray⟩ from rfl, str_cat]; rfl)) ⟨aK4, aV4, nK4, nV4, cK4, cV4, rfl, own_keep1 HBX4.out.K hk5 HDc.out.res (by decide), own_keep1 HBX4.out.V hk5 HDc.out.res (by decide), HBX4.out.kl, HBX4.out.vl⟩ (HDc.out.bel.trans (hk5.below (by have := HDc.out.bel.size; omega) (by simp)))
                · have hle : u ≤ s.text.length := by omega
                  have hex : (⟨s.text.toArray⟩ : ByteArray).extract 0 u = ⟨(s.text.take u).toArray⟩ := by
                    have h2 := ext_left (s.text.take u) (s.text.drop u)
                    rw [List.take_append_drop, List.length_take, Nat.min_eq_left hle] at h2
                    exact h2
                  have HEX := Lib.hid hex
                  have HCO : Hid (∀ wx, Calls Tryz.prog 11 #[.int .i64 3, .string ((⟨s.text.toArray⟩ : ByteArray).extract 0 u)] wx (RPutPost wx 3 s2 m 0)) := Lib.hid fun wx => by rw [HEX.out]; exact HCO2.out wx
                  clear hex
                  go_wp2_with fail
                  rw [HEX.out]
                  refine (HCO2.out _).mono ?_
                  rintro e w4 ⟨X4, rfl, ⟨aK4, aV4, nK4, nV4, cK4, cV4, rfl, hK4, hV4, hkl4, hvl4⟩, hb4⟩
                  have HB4 := Lib.hid hb4
                  obtain ⟨wc, hwc⟩ : ∃ wc, wc = w4.alloc (.cells #[.int .i64 3, .slice aK4 nK4 cK4, .slice aV4 nV4 cV4, .string ⟨s2.text.toArray⟩, .int .i64 s2.many] 24) := ⟨_, rfl⟩
                  obtain ⟨q, hq⟩ : ∃ q, q = w4.heap.size := ⟨_, rfl⟩
                  have hqn : w.heap.size + 1 < q := by have h1 := HDr.out.res.lt; have h2 := hb4.size; omega
                  have hbx : BX wc q 3 s2 aK4 aV4 nK4 nV4 cK4 cV4 := by rw [hwc, hq]; exact BX.new (slots := 3) hK4 hV4 hkl4 hvl4
                  have hdc : RB w wc w.heap.size 3 aK aV nK nV cK cV s.keys (s.M.map (·.2)) s.text s.many := by rw [hwc]; exact HDr.out.keep ((Keep.of_below (F := []) hb4 (Nat.le_refl _)).alloc _)
                  have HBX4 := Lib.hid hbx
                  have HDc := Lib.hid hdc
                  have HWC := Lib.hid hwc
                  have HQ := Lib.hid hq
                  clear hK4 hV4 hkl4 hvl4 hb4 hwc hq hbx hdc
                  go_upto_region 34 with fail
                  rw [← HWC.out, ← HQ.out]
                  have HC : Hid (∀ wx, Keep [w.heap.size + 1] wc wx → wx.cell? ⟨q, 0, none⟩ = some (.int .i64 3) ∧ wx.cell? ⟨q, 1, none⟩ = some (.slice aK4 nK4 cK4) ∧ wx.cell? ⟨q, 2, none⟩ = some (.slice aV4 nV4 cV4) ∧ wx.cell? ⟨q, 3, none⟩ = some (.string ⟨s2.text.toArray⟩) ∧ wx.cell? ⟨q, 4, none⟩ = some (.int .i64 s2.many)) := Lib.hid fun wx hk => by
                    have hb := HBX4.out.box.keep hk (by simp; omega)
                    exact ⟨hb.cell_ (i := 0) rfl, hb.cell_ (i := 1) rfl, hb.cell_ (i := 2) rfl, hb.cell_ (i := 3) rfl, hb.cell_ (i := 4) rfl⟩
                  obtain ⟨y0, y1, y2, y3, y4, g0, g1, g2, g3, g4⟩ := HDc.out.rcells
                  obtain ⟨x0, x1, x2, x3, x4⟩ := HC.out wc (Keep.refl _ _)
                  go_region_held3 (fun w' => w'.cell? ⟨q, 0, none⟩ = some (.int .i64 3) ∧ w'.cell? ⟨q, 1, none⟩ = some (.slice aK4 nK4 cK4) ∧ w'.cell? ⟨q, 2, none⟩ = some (.slice aV4 nV4 cV4) ∧ w'.cell? ⟨q, 3, none⟩ = some (.string ⟨s2.text.toArray⟩) ∧ w'.cell? ⟨q, 4, none⟩ = some (.int .i64 s2.many))
                    (first | (refine HC.out _ ?_; first | with_reducible exact (Keep.refl [w.heap.size + 1] wc).drew | with_reducible exact (keep5 wc (w.heap.size + 1) _ _ _ _ _).drew) | fail)
                    (first | (go_at_call 21; refine (rdigits_int (m : Int) (by omega) (by omega) _).mono ?_; rintro e wz ⟨rfl, rfl⟩) | fail)
                  all_goals
                    go_wp2
                    refine bodyPost_ret (results_cell2 rfl _ _ (w.heap.size + 1) 24 _ _ rfl (blk5 HDc.out.res _ _ _ _ _).drew Tryz.underlying24 rfl info_rstore) rfl ?_
                    have hk5 := (keep5 wc (w.heap.size + 1) (.int .i64 3) (.slice aK4 nK4 cK4) (.slice aV4 nV4 cV4) (.string ⟨s2.text.toArray⟩) (.int .i64 s2.many)).drew
                    exact ra_post2 HL4.out (by show Value.string _ = _; exact congrArg Value.string (by rw [show (⟨#[102, 111, 117, 110, 100, 32]⟩ : ByteArray) = ⟨[102, 111, 117, 110, 100, 32].toArray⟩ from rfl, str_cat]; rfl)) ⟨aK4, aV4, nK4, nV4, cK4, cV4, rfl, own_keep1 HBX4.out.K hk5 HDc.out.res (by decide), own_keep1 HBX4.out.V hk5 HDc.out.res (by decide), HBX4.out.kl, HBX4.out.vl⟩ (HDc.out.bel.trans (hk5.below (by have := HDc.out.bel.size; omega) (by simp)))
              · have HL4 : Hid (answerM s l = (s, sBad)) := Lib.hid (by rw [HLo.out]; unfold doM; rw [HNL.out, if_neg (fun h => absurd h.1 (by decide)), if_neg (fun h => absurd h.1 (by decide)), if_neg (fun h => absurd h.1 (by decide)), if_neg (fun h => e2 h.2)])
                have e2' : ((k : Int) == 1) = false := beq_eq_false_iff_ne.2 (by omega)
                obtain ⟨x0, x1, x2, x3, x4, f0, f1, f2, f3, f4⟩ := HDr.out.cells
                obtain ⟨y0, y1, y2, y3, y4, g0, g1, g2, g3, g4⟩ := HDr.out.rcells
                go_wp2
                refine bodyPost_ret (results_cell2 rfl _ _ (w.heap.size + 1) 24 _ _ rfl (blk5 HDr.out.res _ _ _ _ _) Tryz.underlying24 rfl info_rstore) rfl ?_
                have hd := HDr.out.done (.int .i64 3) (.slice aK nK cK) (.slice aV nV cV) (.string ⟨s.text.toArray⟩) (.int .i64 s.many)
                exact ra_post HL4.out ⟨aK, aV, nK, nV, cK, cV, rfl, hd.1, hd.2.1, HDr.out.kl, HDr.out.vl⟩ hd.2.2
            · have q3' : (hd == [99, 114, 97, 115, 104]) = false := beq_eq_false_iff_ne.2 q3
              have HL4 : Hid (answerM s l = (s, sBad)) := Lib.hid (by rw [HLo.out]; unfold doM; rw [if_neg (fun h => q0 h.1), if_neg (fun h => q1 h.1), if_neg (fun h => q2 h.1), if_neg (fun h => q3 h.1)])
              obtain ⟨x0, x1, x2, x3, x4, f0, f1, f2, f3, f4⟩ := HDr.out.cells
              obtain ⟨y0, y1, y2, y3, y4, g0, g1, g2, g3, g4⟩ := HDr.out.rcells
              go_wp2
              refine bodyPost_ret (results_cell2 rfl _ _ (w.heap.size + 1) 24 _ _ rfl (blk5 HDr.out.res _ _ _ _ _) Tryz.underlying24 rfl info_rstore) rfl ?_
              have hd := HDr.out.done (.int .i64 3) (.slice aK nK cK) (.slice aV nV cV) (.string ⟨s.text.toArray⟩) (.int .i64 s.many)
              exact ra_post HL4.out ⟨aK, aV, nK, nV, cK, cV, rfl, hd.1, hd.2.1, HDr.out.kl, HDr.out.vl⟩ hd.2.2
end Go.Proofs.YticckfioggeaeaaGreatDoor
