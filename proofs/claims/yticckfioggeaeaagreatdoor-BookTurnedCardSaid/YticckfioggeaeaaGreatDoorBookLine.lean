/-
  (*Store).line, by its contract.
-/
import Derived.Test.YticckfioggeaeaaGreatDoorBookSplit
import Derived.Test.YticckfioggeaeaaGreatDoorGH
import Derived.Deep.DeepCutAuto
import Derived.Deep.RegionWith
set_option linter.unusedVariables false
set_option linter.unusedSimpArgs false
set_option linter.unnecessarySimpa false
set_option linter.unusedVariables false
namespace Go.Proofs.YticckfioggeaeaaGreatDoor
open Go.RowKit

def LinePost (O : Nat → Prop) (w : World) (b slots : Nat) (s : Bk) (l : List UInt8) (e : Ending) (w' : World) : Prop :=
  e = .returned (errw (lineM slots s l).2) ∧ BookAt O w' b slots (lineM slots s l).1 ∧ KeepP O w w'
theorem lineM_some {slots : Nat} {s : Bk} {l a c : List UInt8} {n : Int} (h : lastCut l = some (a, c)) (hn : numberM c = some n) : lineM slots s l = if n ≠ (sumB a : Nat) then (s, 6) else match numsM (cutAt 32 a).tail with | none => (s, 2) | some nums => opM slots s ((cutAt 32 a).headD []) nums := by
  unfold lineM
  rw [h]
  show (match numberM c with
    | none => (s, 2)
    | some n => if n ≠ (sumB a : Nat) then (s, 6) else
      match numsM (cutAt 32 a).tail with
      | none => (s, 2)
      | some nums => opM slots s ((cutAt 32 a).headD []) nums) = _
  rw [hn]
theorem numsM_snoc : ∀ (l : List (List UInt8)) (x : List UInt8) (ns : List Int) (n : Int), numsM l = some ns → numberM x = some n → numsM (l ++ [x]) = some (ns ++ [n])
  | [], x, ns, n, h, hx => by
    simp only [numsM, Option.some.injEq] at h
    subst h
    simp [numsM, hx]
  | w :: l, x, ns, n, h, hx => by
    rw [numsM] at h
    cases hw : numberM w with
    | none => rw [hw] at h; cases h
    | some m =>
      rw [hw] at h
      simp only at h
      cases hl : numsM l with
      | none => rw [hl] at h; cases h
      | some ms =>
        rw [hl] at h
        simp only [Option.some.injEq] at h
        subst h
        rw [List.cons_append, numsM, hw, numsM_snoc l x ms n hl hx]
        rfl
theorem numsM_none : ∀ (l : List (List UInt8)) (x : List UInt8), x ∈ l → numberM x = none → numsM l = none
  | w :: l, x, hm, hx => by
    rw [numsM]
    rcases List.mem_cons.1 hm with rfl | hm
    · rw [hx]
    · rw [numsM_none l x hm hx]
      cases numberM w <;> rfl
theorem cutAt_small (c : UInt8) : ∀ (l x : List UInt8), x ∈ cutAt c l → x.length ≤ l.length
  | [], x, h => by simp [cutAt] at h; simp [h]
  | y :: l, x, h => by
    have ih := cutAt_small c l
    rw [cutAt] at h
    split at h
    · rcases List.mem_cons.1 h with rfl | h
      · simp
      · have := ih x h; simp; omega
    · obtain ⟨q, t, e⟩ := cutAt_parts c l
      rw [e] at h ih
      rcases List.mem_cons.1 h with rfl | h
      · have := ih q (by simp); simp; omega
      · have := ih x (by simp at h; simp [h]); simp; omega
theorem drewB (w : World) : Below w.heap.size w w.drew := ⟨rfl, rfl, rfl, Nat.le_refl _, fun _ _ => rfl⟩
theorem ba_ext {x y : ByteArray} (h : x.data.toList = y.data.toList) : x = y := ByteArray.ext (Array.ext' h)
theorem ext_left (a r : List UInt8) : (⟨(a ++ r).toArray⟩ : ByteArray).extract 0 a.length = ⟨a.toArray⟩ := by
  apply ba_ext
  rw [ByteArray.data_extract, Array.toList_extract]
  simp
theorem ext_right (a r : List UInt8) (x : UInt8) : (⟨(a ++ x :: r).toArray⟩ : ByteArray).extract (a.length + 1) (a.length + (r.length + 1)) = ⟨r.toArray⟩ := by
  apply ba_ext
  rw [ByteArray.data_extract, Array.toList_extract]
  simp only [List.extract_eq_take_drop]
  rw [show a.length + (r.length + 1) - (a.length + 1) = r.length by omega, show a ++ x :: r = (a ++ [x]) ++ r by simp, show a.length + 1 = (a ++ [x]).length by simp, List.drop_left, List.take_length]
set_option maxHeartbeats 4000000 in
set_option maxRecDepth 100000 in
theorem line_any {O : Nat → Prop} (b slots : Nat) (s : Bk) (l : List UInt8) (w : World) (hl : l.length ≤ 3000) (h : BookAt O w b slots s) (ht : Tab w) (he : Errs w) :
    Calls Tryz.prog 33 #[.pointer (some ⟨b, 0, none⟩), .string ⟨l.toArray⟩] w (LinePost O w b slots s l) := by
  obtain ⟨i0, hi, hz0, hz1, hz2⟩ := info_parts info_int
  have hsz : (⟨l.toArray⟩ : ByteArray).size = l.length := by simp [ByteArray.size]
  have HB := Lib.hid h; have HT := Lib.hid ht; have HE := Lib.hid he
  clear h ht he
  rcases last_split l with ⟨h1, h2⟩ | ⟨a, c, rfl, h1, h2⟩
  · have HL : Hid (lineM slots s l = (s, 2)) := Lib.hid (by unfold lineM; rw [h1])
    have HI := Lib.hid h2
    clear h1 h2
    go_enter Tryz.func33, Tryz.ntmps33
    go_wp2_with fail
    refine (Tryz.strings_LastIndexByte ⟨l.toArray⟩ 32 (by omega) _).mono ?_
    rintro e w' ⟨rfl, rfl⟩
    rw [HI.out]
    go_wp2
    go_ret
    exact ⟨by rw [HL.out]; rfl, by rw [HL.out]; exact HB.out, KeepP.refl _ _⟩
  · have HI := Lib.hid h2
    have HC := Lib.hid h1
    have hac : a.length ≤ 3000 ∧ c.length ≤ 3000 ∧ a.length + (c.length + 1) ≤ 3000 := by simp at hl; omega
    obtain ⟨ha3, hc3, hac⟩ := hac
    clear h1 h2 hl
    go_enter Tryz.func33, Tryz.ntmps33
    go_wp2_with fail
    refine (Tryz.strings_LastIndexByte ⟨(a ++ 32 :: c).toArray⟩ 32 (by rw [hsz, List.length_append, List.length_cons]; omega) _).mono ?_
    rintro e w' ⟨rfl, rfl⟩
    rw [HI.out]
    clear HI
    have hsz2 : (⟨(a ++ 32 :: c).toArray⟩ : ByteArray).size = a.length + (c.length + 1) := by simp [ByteArray.size]
    have hi0 : (0 : Int) ≤ (a.length : Int) := by omega
    go_wp2_with fail
    rw [ext_right]
    refine (number_any c (by omega) _ HE.out HT.out).mono ?_
    rintro e w1 ⟨v1, rfl, hv1, hb1⟩
    have HB1 := Lib.hid (HB.out.below hb1); have HT1 := Lib.hid (HT.out.below hb1 (Nat.le_refl _)); have HE1 := Lib.hid (HE.out.below hb1 (Nat.le_refl _)); have HK1 : Hid (KeepP O w' w1) := Lib.hid (KeepP.of_below hb1 (Nat.le_refl _))
    clear hb1
    cases hn : numberM c with
    | none =>
      have HL : Hid (lineM slots s (a ++ 32 :: c) = (s, 2)) := Lib.hid (by unfold lineM; rw [HC.out]; simp only; rw [hn])
      clear hv1 hn
      go_wp2
      go_ret
      exact ⟨by rw [HL.out]; rfl, by rw [HL.out]; exact HB1.out, HK1.out⟩
    | some n =>
      obtain rfl := hv1 n hn
      have HL : Hid (lineM slots s (a ++ 32 :: c) = if v1 ≠ (sumB a : Nat) then (s, 6) else match numsM (cutAt 32 a).tail with | none => (s, 2) | some nums => opM slots s ((cutAt 32 a).headD []) nums) := Lib.hid (lineM_some HC.out hn)
      clear hv1 hn
      go_wp2_with fail
      rw [ext_left]
      refine (sum_any ⟨a.toArray⟩ _ (by simp [ByteArray.size]; omega)).mono ?_
      rintro e w2 ⟨rfl, hb2⟩
      have HB2 := Lib.hid (HB1.out.below hb2); have HT2 := Lib.hid (HT1.out.below hb2 (Nat.le_refl _)); have HE2 := Lib.hid (HE1.out.below hb2 (Nat.le_refl _)); have HK2 : Hid (KeepP O w' w2) := Lib.hid (HK1.out.trans (KeepP.of_below hb2 (Nat.le_refl _)))
      clear hb2
      rw [show (⟨a.toArray⟩ : ByteArray).data.toList = a by simp]
      obtain ⟨su, hsu⟩ : ∃ su : Nat, su = sumB a := ⟨_, rfl⟩
      rw [← hsu] at HL ⊢
      by_cases hse : v1 = (su : Int)
      · have HL2 : Hid (lineM slots s (a ++ 32 :: c) = match numsM (cutAt 32 a).tail with | none => (s, 2) | some nums => opM slots s ((cutAt 32 a).headD []) nums) := Lib.hid (by rw [HL.out, if_neg (by simpa using hse)])
        have hse' : (v1 != (su : Int)) = false := by simpa using hse
        clear HL hse hsu
        go_wp2_with fail
        rw [ext_left]
        refine (split_any a (by omega) _).mono ?_
        rintro e w3 ⟨rfl, hw3⟩
        obtain ⟨hd, T, hP⟩ := List.exists_cons_of_ne_nil (cutAt_ne 32 a)
        have HP := Lib.hid hP
        have HBLK : Hid (Blk w3 w2.heap.size 9 ((hd :: T).map strV)) := Lib.hid (by rw [hw3, ← HP.out]; exact Blk.new w2 9 _)
        have hb3 : Below w2.heap.size w2 w3 := by rw [hw3]; exact (Below.refl _ w2).alloc (Nat.le_refl _) _
        have HB3 := Lib.hid (HB2.out.below hb3); have HT3 := Lib.hid (HT2.out.below hb3 (Nat.le_refl _)); have HE3 := Lib.hid (HE2.out.below hb3 (Nat.le_refl _)); have HK3 : Hid (KeepP O w' w3) := Lib.hid (HK2.out.trans (KeepP.of_below hb3 (Nat.le_refl _)))
        obtain ⟨p0, hp0⟩ : ∃ p0, p0 = w2.heap.size := ⟨_, rfl⟩
        obtain ⟨m, hm⟩ : ∃ m, m = T.length := ⟨_, rfl⟩
        have HM := Lib.hid hm
        have HXL : Hid (∀ x ∈ T, x.length ≤ 100000) := Lib.hid fun x hx => by have := cutAt_small 32 a x (by rw [hP]; simp [hx]); omega
        have hlen : (cutAt 32 a).length = m + 1 := by rw [hP, List.length_cons, hm]
        have hcl : m ≤ 3000 := by
          have h1 := cutAt_len 32 a
          have h2 := List.count_le_length (a := (32 : UInt8)) (l := a)
          omega
        rw [hlen, ← hp0]
        rw [← hp0] at HBLK
        rw [HP.out] at HL2
        have HL3 : Hid (lineM slots s (a ++ 32 :: c) = match numsM T with | none => (s, 2) | some nums => opM slots s hd nums) := Lib.hid HL2.out
        clear hb3 hw3 hp0 hm hlen hP HL2
        have HD0 := Lib.hid (HBLK.out.cell_ (i := 0) (v := strV hd) rfl)
        rcases Nat.eq_zero_or_pos m with rfl | hmp
        · have hT : T = [] := List.eq_nil_of_length_eq_zero HM.out.symm
          have HL4 : Hid (lineM slots s (a ++ 32 :: c) = (s, 2)) := Lib.hid (by rw [HL3.out, hT]; simp [numsM, opM])
          clear HL3 hT
          go_wp2
          go_loopw [9, 45] (fun v9 v45 wr => v9 = .slice none 0 0 ∧ v45 = .int .i64 0 ∧ wr = w3) (fun _ _ _ => 0)
          case atStart => exact ⟨rfl, rfl, rfl⟩
          case round =>
            obtain ⟨rfl, rfl, rfl⟩ := hrel
            have hd0 := HD0.out
            by_cases e1 : hd = [112]
            · subst e1
              go_wp2
              go_ret
              exact ⟨by rw [HL4.out]; rfl, by rw [HL4.out]; exact HB3.out, HK3.out⟩
            · have e1' : (hd == [112]) = false := beq_eq_false_iff_ne.2 e1
              by_cases e2 : hd = [103]
              · subst e2
                go_wp2
                go_ret
                exact ⟨by rw [HL4.out]; rfl, by rw [HL4.out]; exact HB3.out, HK3.out⟩
              · have e2' : (hd == [103]) = false := beq_eq_false_iff_ne.2 e2
                go_wp2
                go_ret
                exact ⟨by rw [HL4.out]; rfl, by rw [HL4.out]; exact HB3.out, HK3.out⟩
        have hmp' : ¬ m = 0 := by omega
        go_wp2
        go_loopw [9, 45] (fun v9 v45 wr => ∃ (k : Nat) (ns : List Int) (xA : Value), k ≤ m ∧ v45 = .int .i64 k ∧ numsM (T.take k) = some ns ∧ ns.length = k ∧ xA = v9 ∧ OwnInts wr w3.heap.size xA ns ∧ Below w3.heap.size w3 wr) (fun _ v45 _ => m - (intOf v45).toNat)
        case atStart => exact ⟨0, [], _, Nat.zero_le _, rfl, rfl, rfl, rfl, OwnInts.nil _ _, Below.refl _ _⟩
        case round =>
          obtain ⟨k, ns, v9, hk, rfl, hns, hnl, rfl, hown, hbel⟩ := hrel
          have HNS := Lib.hid hns; have HNL := Lib.hid hnl; have HO := Lib.hid hown; have HBL := Lib.hid hbel
          clear hns hnl hown hbel
          have hk0 : (0 : Int) ≤ (k : Int) := by omega
          by_cases hlt : k < m
          · have hki : (k : Int) < (m : Int) := by omega
            obtain ⟨x, hx⟩ : ∃ x, x = T[k]'(by rw [← HM.out]; exact hlt) := ⟨_, rfl⟩
            have HX := Lib.hid hx
            have hcell : wr.cell? ⟨p0, 1 + k, none⟩ = some (strV x) := by
              refine (HBL.out.cell (p := ⟨p0, 1 + k, none⟩) HBLK.out.lt).trans (HBLK.out.cell_ ?_)
              rw [Nat.add_comm, List.map_cons, List.getElem?_cons_succ, List.getElem?_map, List.getElem?_eq_getElem (by rw [← HM.out]; exact hlt), hx]
              rfl
            clear hx
            have HTW := Lib.hid (HT3.out.below HBL.out (Nat.le_refl _)); have HEW := Lib.hid (HE3.out.below HBL.out (Nat.le_refl _))
            have hxl : x.length ≤ 100000 := HXL.out x (by rw [HX.out]; exact List.getElem_mem _)
            go_wp2_with fail
            refine (number_any x hxl _ HEW.out HTW.out).mono ?_
            rintro e w4 ⟨n4, rfl, hn4, hb4⟩
            have HBL4 : Hid (Below w3.heap.size w3 w4) := Lib.hid (HBL.out.trans (hb4.mono HBL.out.size))
            have HO4 : Hid (OwnInts w4 w3.heap.size v9 ns) := Lib.hid (HO.out.keep fun g hg => hb4.block g (World.ownsRow.lt HO.out g hg).2)
            clear hb4
            cases hnx : numberM x with
            | none =>
              have HL4 : Hid (lineM slots s (a ++ 32 :: c) = (s, 2)) := Lib.hid (by rw [HL3.out, numsM_none T x (by rw [HX.out]; exact List.getElem_mem _) hnx])
              clear hn4 hnx
              go_wp2
              go_ret
              exact ⟨by rw [HL4.out]; rfl, by rw [HL4.out]; exact HB3.out.below HBL4.out, HK3.out.trans (KeepP.of_below HBL4.out (Nat.le_refl _))⟩
            | some n5 =>
              obtain rfl := hn4 n5 hnx
              have HNS1 : Hid (numsM (T.take (k + 1)) = some (ns ++ [n4])) := Lib.hid (by
                rw [List.take_succ_eq_append_getElem (by rw [← HM.out]; exact hlt), ← HX.out]
                exact numsM_snoc _ _ _ _ HNS.out hnx)
              have HOW : Hid (∀ o, (w4.alloc o).ownsRow w3.heap.size 3 1 v9 ns.length (ints ns)) := Lib.hid fun o => (HO4.out.keep fun g hg => Below.heap_alloc _ _ _ (World.ownsRow.lt HO4.out g hg).2 : OwnInts (w4.alloc o) w3.heap.size v9 ns)
              have hns3 : ns.length ≤ 3000 := by rw [HNL.out]; omega
              have hszw := HBL4.out.size
              clear hn4 hnx
              go_wp2_with (at_builtin; refine wpList_append_own_at _ rfl (.tmp 57) (.tmp 59) 22 rfl w3.heap.size 3 i0 (.int .i64 0) 1 8 Tryz.underlying22 hi hz0 hz1 hz2 rfl (by decide) _ _ _ rfl (HOW.out _) ⟨w4.heap.size, 0, none⟩ 1 1 [.int .i64 n4] rfl rfl (by intro p u hp; match p, hp with | 0, hp => simp at hp; subst hp; simp [Addr.add]) (by intro u hu; simp at hu; subst hu; rfl) (by unfold maxLen; omega) (by omega) (by simp; omega) ?_; intro v9' w6 hown' hgrow _ hat; have HO6 : Hid (OwnInts w6 w3.heap.size v9' (ns ++ [n4])) := Lib.hid (by unfold OwnInts; simpa [ints] using hown'); have HBL6 : Hid (Below w3.heap.size w3 w6) := Lib.hid ((HBL4.out.alloc HBL4.out.size _).grown hgrow (by simp; omega) (fun g hg => (World.ownsRow.lt HO4.out g hg).1)); clear hown' hgrow hat)
              go_roundw
              case rel => exact ⟨k + 1, ns ++ [n4], _, hlt, by simp, HNS1.out, by rw [List.length_append, HNL.out]; rfl, rfl, HO6.out, HBL6.out⟩
              case measure => simp [intOf]; omega
          · obtain rfl : k = m := by omega
            have HLo : Hid (lineM slots s (a ++ 32 :: c) = opM slots s hd ns) := Lib.hid (by
              rw [HL3.out]
              have h2 := HNS.out
              rw [HM.out, List.take_length] at h2
              rw [h2])
            have HBW : Hid (BookAt O wr b slots s) := Lib.hid (HB3.out.below HBL.out)
            have HTW := Lib.hid (HT3.out.below HBL.out (Nat.le_refl _))
            have HKW : Hid (KeepP O w' wr) := Lib.hid (HK3.out.trans (KeepP.of_below HBL.out (Nat.le_refl _)))
            obtain ⟨a9, c9, hv9, hin9⟩ := HO.out.shape
            rw [HNL.out] at hv9
            subst hv9
            have HIN := Lib.hid hin9
            have hd0 : wr.cell? ⟨p0, 0, none⟩ = some (strV hd) := (HBL.out.cell (p := ⟨p0, 0, none⟩) HBLK.out.lt).trans HD0.out
            clear hin9 HL3 HNS
            by_cases e1 : hd = [112]
            · subst e1
              by_cases e2 : k = 2
              · subst e2
                obtain ⟨x, y, rfl⟩ : ∃ x y, ns = [x, y] := by
                  match ns, HNL.out with
                  | [x, y], _ => exact ⟨x, y, rfl⟩
                have HL4 : Hid (lineM slots s (a ++ 32 :: c) = (putS slots s x y, putE s x y)) := Lib.hid (by rw [HLo.out]; simp [opM])
                obtain ⟨g9, o9, rfl, hg9, hc9⟩ := HIN.out (by simp)
                have z0 : wr.drew.cell? ⟨g9, o9, none⟩ = some (.int .i64 x) := hc9 0 x rfl
                have z1 : wr.drew.cell? ⟨g9, o9 + 1, none⟩ = some (.int .i64 y) := hc9 1 y rfl
                go_upto_region 22 with fail
                go_region_with (first | (go_at_call 24; refine (put_any b slots s x y _ (HBW.out.below (drewB wr)) (HTW.out.below (drewB wr) (Nat.le_refl _))).mono ?_; rintro e w7 ⟨rfl, hb7, hk7⟩; have HB7 := Lib.hid hb7; have HK7 : Hid (KeepP O w' w7) := Lib.hid ((HKW.out.trans (KeepP.of_below (drewB wr) (Nat.le_refl _))).trans hk7); clear hb7 hk7))
                all_goals
                  go_wp2
                  go_ret
                  exact ⟨ret_eq (show errw (putE s x y) = errw (lineM slots s (a ++ 32 :: c)).2 by rw [HL4.out]), by rw [HL4.out]; exact HB7.out, HK7.out⟩
              · have HL4 : Hid (lineM slots s (a ++ 32 :: c) = (s, 2)) := Lib.hid (by rw [HLo.out]; unfold opM; rw [HNL.out, if_neg (fun h => e2 h.2), if_neg (fun h => absurd h.1 (by decide))])
                have e2' : ((k : Int) == 2) = false := beq_eq_false_iff_ne.2 (by omega)
                go_wp2
                go_ret
                exact ⟨by rw [HL4.out]; rfl, by rw [HL4.out]; exact HBW.out, HKW.out⟩
            · have e1' : (hd == [112]) = false := beq_eq_false_iff_ne.2 e1
              by_cases e3 : hd = [103]
              · subst e3
                by_cases e2 : k = 1
                · subst e2
                  obtain ⟨x, rfl⟩ : ∃ x, ns = [x] := by
                    match ns, HNL.out with
                    | [x], _ => exact ⟨x, rfl⟩
                  have HL4 : Hid (lineM slots s (a ++ 32 :: c) = (getS s x, getE s x)) := Lib.hid (by rw [HLo.out]; simp [opM])
                  obtain ⟨g9, o9, rfl, hg9, hc9⟩ := HIN.out (by simp)
                  have z0 : wr.cell? ⟨g9, o9, none⟩ = some (.int .i64 x) := hc9 0 x rfl
                  go_wp2_with fail
                  refine (get_any b slots s x _ HBW.out HTW.out).mono ?_
                  rintro e w7 ⟨rfl, hb7, hk7⟩
                  have HB7 := Lib.hid hb7
                  have HK7 : Hid (KeepP O w' w7) := Lib.hid (HKW.out.trans hk7)
                  clear hb7 hk7
                  go_wp2
                  go_ret
                  exact ⟨ret_eq (show errw (getE s x) = errw (lineM slots s (a ++ 32 :: c)).2 by rw [HL4.out]), by rw [HL4.out]; exact HB7.out, HK7.out⟩
                · have HL4 : Hid (lineM slots s (a ++ 32 :: c) = (s, 2)) := Lib.hid (by rw [HLo.out]; unfold opM; rw [HNL.out, if_neg (fun h => absurd h.1 (by decide)), if_neg (fun h => e2 h.2)])
                  have e2' : ((k : Int) == 1) = false := beq_eq_false_iff_ne.2 (by omega)
                  go_wp2
                  go_ret
                  exact ⟨by rw [HL4.out]; rfl, by rw [HL4.out]; exact HBW.out, HKW.out⟩
              · have HL4 : Hid (lineM slots s (a ++ 32 :: c) = (s, 2)) := Lib.hid (by rw [HLo.out]; unfold opM; rw [if_neg (fun h => e1 h.1), if_neg (fun h => e3 h.1)])
                have e3' : (hd == [103]) = false := beq_eq_false_iff_ne.2 e3
                go_wp2
                go_ret
                exact ⟨by rw [HL4.out]; rfl, by rw [HL4.out]; exact HBW.out, HKW.out⟩
      · have HL2 : Hid (lineM slots s (a ++ 32 :: c) = (s, 6)) := Lib.hid (by rw [HL.out, if_pos hse])
        have hse' : (v1 != (su : Int)) = true := by simpa using hse
        clear HL hse hsu
        go_wp2
        go_ret
        exact ⟨by rw [HL2.out]; rfl, by rw [HL2.out]; exact HB2.out, HK2.out⟩
end Go.Proofs.YticckfioggeaeaaGreatDoor
