/-
  BookTurned: the walk.
-/
import Derived.Test.YticckfioggeaeaaGreatDoorBookTwo
import Derived.Test.YticckfioggeaeaaGreatDoorBookTurnedLaw
import Derived.Test.YticckfioggeaeaaGreatDoorErrIsB
import Derived.Deep.RegionWith
import Derived.Laws.IdiomStrings
set_option linter.unusedVariables false
set_option linter.unusedSimpArgs false
set_option linter.unnecessarySimpa false
set_option linter.unusedVariables false
namespace Go.Proofs.YticckfioggeaeaaGreatDoor
open Go.RowKit

theorem RowsIn.more2 {w : World} {B B' : Nat} {a : Option Addr} {xss : List (List Int)} (h : RowsIn w B a xss) (hB : B ≤ B') : RowsIn w B' a xss := fun hn => by
  obtain ⟨b, off, e, hb, hc⟩ := h hn
  refine ⟨b, off, e, by omega, fun i x hx => ?_⟩
  obtain ⟨a', c', h1, h2⟩ := hc i x hx
  exact ⟨a', c', h1, h2.more hB⟩
theorem text_small2 {slots : Nat} {s : Bk} (h : BkOk slots s) : s.text.length ≤ 2000 := by have := h.text; have := h.many; omega
theorem count_take2 {t : List UInt8} {i : Nat} (hi : i < t.length) : (t.take (i + 1)).count 10 = (t.take i).count 10 + (if t[i] = 10 then 1 else 0) := by
  rw [List.take_succ_eq_append_getElem hi, List.count_append, List.count_singleton]
  by_cases h : t[i] = 10
  · rw [if_pos h, if_pos (by simpa using h)]
  · rw [if_neg h, if_neg (by simpa using h)]
def TuPost (w : World) (e : Ending) (w' : World) : Prop := e = .returned (.bool true) ∧ Below w.heap.size w w'
set_option maxHeartbeats 8000000 in
set_option maxRecDepth 1000000 in
theorem turned_any (x0 : Int) (a : Option Addr) (c : Nat) (xss : List (List Int)) (i : Int) (cb : UInt8) (w : World) (hx : RowsIn w w.heap.size a xss) (hn : xss.length ≤ maxLen) (ht : Tab w) (he : Errs w) (hg : Handle w) :
    Calls Tryz.prog 4 #[.int .i64 x0, .slice a xss.length c, .int .i64 i, .int .u8 cb.toNat] w (TuPost w) := by
  have HT := Lib.hid ht; have HE := Lib.hid he; have HX := Lib.hid hx; have HN := Lib.hid hn; have HG := Lib.hid hg
  obtain ⟨n, hnn⟩ : ∃ n, n = xss.length := ⟨_, rfl⟩
  rw [← hnn]
  have HNN := Lib.hid hnn
  have HGL := Lib.hid hg.lt
  clear ht he hx hn hnn hg
  go_enter Tryz.func4, Tryz.ntmps4
  go_wp2_with fail
  refine (fact_any _ HT.out).mono ?_
  rintro e w1 ⟨rfl, hb1⟩
  have HB1 := Lib.hid hb1
  clear hb1
  go_wp2_with fail
  have htold := told_any x0 a c xss w1 ((HX.out.below HB1.out).more2 HB1.out.size) HN.out (HT.out.below HB1.out (Nat.le_refl _))
  rw [← HNN.out] at htold
  refine htold.mono ?_
  clear htold
  rintro e w2 ⟨hb2, ⟨hno, rfl⟩ | ⟨m, rfl, h1, h8, b, rfl, hbk⟩⟩
  · have HB2 := Lib.hid (HB1.out.trans (hb2.mono HB1.out.size))
    have hc : x0 < 1 ∨ (1 ≤ x0 ∧ 8 < x0) := by omega
    clear hb2 hno
    rcases hc with h | ⟨h0, h⟩
    all_goals
      go_wp2
      go_ret
      exact ⟨rfl, HB2.out⟩
  · have HB2 := Lib.hid (HB1.out.trans (hb2.mono HB1.out.size))
    have HBK := Lib.hid hbk
    clear hb2 hbk
    obtain ⟨s, hs⟩ : ∃ s, s = runB m (xss.take 70) := ⟨_, rfl⟩
    rw [← hs] at HBK
    have hok := HBK.out.ok.1
    have htx := text_small2 hok
    have HS := Lib.hid hs
    clear hs hok
    go_wp2_with fail
    refine (text_any w2 HBK.out).mono ?_
    rintro e w3 ⟨rfl, hb3, hk3⟩
    have HB3 : Hid (Below w.heap.size w w3) := Lib.hid (HB2.out.trans (hk3.toBelow HB2.out.size (fun x hx h => by have := HB1.out.size; omega)))
    clear hb3 hk3 HBK
    obtain ⟨t, htt⟩ : ∃ t, t = s.text := ⟨_, rfl⟩
    rw [← htt] at htx ⊢
    have HTT := Lib.hid htt
    clear htt
    have hsz : (⟨t.toArray⟩ : ByteArray).size = t.length := by simp [ByteArray.size]
    have hcase : i < 0 ∨ (0 ≤ i ∧ (t.length : Int) ≤ i) ∨ (0 ≤ i ∧ i < (t.length : Int)) := by omega
    rcases hcase with h | ⟨h0, h⟩ | ⟨h0, hlt0⟩
    · go_wp2
      go_ret
      exact ⟨rfl, HB3.out⟩
    · go_wp2
      go_ret
      exact ⟨rfl, HB3.out⟩
    · obtain ⟨k, rfl⟩ := Int.eq_ofNat_of_zero_le h0
      have hkl : k < t.length := by omega
      have hks : k < (⟨t.toArray⟩ : ByteArray).size := by rw [hsz]; exact hkl
      have hat0 : (⟨t.toArray⟩ : ByteArray)[k]'hks = t[k] := rfl
      have ten : (10 : UInt8).toNat = 10 := rfl
      by_cases e1 : t[k] = 10
      · have q1 : ((((⟨t.toArray⟩ : ByteArray)[k]'hks).toNat : Int) == 10) = true := by rw [hat0, e1]; rfl
        clear hat0
        go_wp2
        go_ret
        exact ⟨rfl, HB3.out⟩
      have q1 : ((((⟨t.toArray⟩ : ByteArray)[k]'hks).toNat : Int) == 10) = false := by
        rw [hat0]
        exact beq_eq_false_iff_ne.2 fun e => e1 (UInt8.toNat_inj.1 (by omega))
      by_cases e2 : cb = 10
      · have q2 : ((cb.toNat : Int) == 10) = true := by rw [e2]; rfl
        clear hat0
        go_wp2
        go_ret
        exact ⟨rfl, HB3.out⟩
      have q2 : ((cb.toNat : Int) == 10) = false := beq_eq_false_iff_ne.2 fun e => e2 (UInt8.toNat_inj.1 (by omega))
      by_cases e3 : t[k] = cb
      · have q3 : ((((⟨t.toArray⟩ : ByteArray)[k]'hks).toNat : Int) == (cb.toNat : Int)) = true := by rw [hat0, e3]; simp
        clear hat0
        go_wp2
        go_ret
        exact ⟨rfl, HB3.out⟩
      have q3 : ((((⟨t.toArray⟩ : ByteArray)[k]'hks).toNat : Int) == (cb.toNat : Int)) = false := by
        rw [hat0]
        exact beq_eq_false_iff_ne.2 fun e => e3 (UInt8.toNat_inj.1 (by omega))
      have HOT : Hid (∃ x e, openL m bk0 (lns (t.set k cb)) = (x, (((t.take k).count 10 + 1 : Nat) : Int), e) ∧ (e = 2 ∨ e = 6)) := Lib.hid (by
        have h9 := open_turned h1 (xss.take 70) k cb
        rw [← HS.out, ← HTT.out] at h9
        exact h9 hkl e1 e2 (fun e => e3 e.symm))
      clear hat0 e1 e2 e3
      go_wp2
      clear q1 q2 q3
      go_loop [13, 14] (fun v i => ∃ j : Nat, j ≤ k ∧ i = .int .i64 j ∧ v = .int .i64 ((t.take j).count 10 + 1 : Nat)) (fun _ i => k - (intOf i).toNat)
      case atStart => exact ⟨0, Nat.zero_le _, rfl, by simp⟩
      case round =>
        obtain ⟨j, hj, rfl, rfl⟩ := hrel
        by_cases hlt : j < k
        · have hjk : (j : Int) < (k : Int) := by omega
          have hj0 : (0 : Int) ≤ (j : Int) := by omega
          have hjt : j < t.length := by omega
          have HCT := Lib.hid (count_take2 hjt)
          have hcl : (t.take j).count 10 ≤ 2000 := by
            have := List.count_le_length (a := (10 : UInt8)) (l := t.take j)
            rw [List.length_take] at this
            omega
          have hjs : j < (⟨t.toArray⟩ : ByteArray).size := by rw [hsz]; exact hjt
          have hat : (⟨t.toArray⟩ : ByteArray)[j]'hjs = t[j] := rfl
          by_cases hc : t[j] = 10
          · have hq : ((((⟨t.toArray⟩ : ByteArray)[j]'hjs).toNat : Int) == 10) = true := by rw [hat, hc]; rfl
            have HCT2 : Hid ((t.take (j + 1)).count 10 = (t.take j).count 10 + 1) := Lib.hid (by rw [HCT.out, if_pos hc])
            clear HCT hat hc
            go_wp2
            exact ⟨⟨j + 1, hlt, by simp, by rw [HCT2.out]; simp⟩, by simp [intOf]; omega⟩
          · have hq : ((((⟨t.toArray⟩ : ByteArray)[j]'hjs).toNat : Int) == 10) = false := by
              rw [hat]
              refine beq_eq_false_iff_ne.2 fun e => hc (UInt8.toNat_inj.1 ?_)
              omega
            have HCT2 : Hid ((t.take (j + 1)).count 10 = (t.take j).count 10) := Lib.hid (by rw [HCT.out, if_neg hc]; rfl)
            clear HCT hat hc
            go_wp2
            exact ⟨⟨j + 1, hlt, by simp, by rw [HCT2.out]⟩, by simp [intOf]; omega⟩
        · obtain rfl : j = k := by omega
          obtain ⟨x, er, hot, her⟩ := HOT.out
          obtain ⟨at_, hat⟩ : ∃ at_, at_ = (t.take j).count 10 + 1 := ⟨_, rfl⟩
          rw [← hat] at hot ⊢
          have hat2 : at_ ≤ 2001 := by
            have := List.count_le_length (a := (10 : UInt8)) (l := t.take j)
            rw [List.length_take] at this
            omega
          have HOT2 := Lib.hid hot
          clear hat hot HOT
          have hj0 : (0 : Int) ≤ (j : Int) := by omega
          have hex1 : (⟨t.toArray⟩ : ByteArray).extract 0 j = ⟨(t.take j).toArray⟩ := by
            have h2 := ext_left (t.take j) (t.drop j)
            rw [List.take_append_drop, List.length_take, Nat.min_eq_left (by omega)] at h2
            exact h2
          have hex2 : (⟨t.toArray⟩ : ByteArray).extract (j + 1) t.length = ⟨(t.drop (j + 1)).toArray⟩ := by
            have h2 := ext_right (t.take j) (t.drop (j + 1)) t[j]
            rw [List.getElem_cons_drop, List.take_append_drop, List.length_take, Nat.min_eq_left (by omega), List.length_drop, show j + (t.length - (j + 1) + 1) = t.length by omega] at h2
            exact h2
          have hjl : j ≤ t.length := by omega
          have hw1 : IntKind.i64.wrap ((j : Int) + 1) = (j : Int) + 1 := IntWalk.i64_in _ (by omega)
          have hnt : ((j : Int) + 1).toNat = j + 1 := by omega
          have hb1 : ¬ 9223372036854775807 < j + 1 := by omega
          have hb2 : ¬ 9223372036854775807 < j + 1 + (t.length - (j + 1)) := by omega
          have hjl1 : j + 1 ≤ t.length := by omega
          have hj1 : (j : Int) + 1 ≤ (t.length : Int) := by omega
          have hj10 : (0 : Int) ≤ (j : Int) + 1 := by omega
          have HX1 := Lib.hid hex1; have HX2 := Lib.hid hex2
          clear hex1 hex2
          have hc1 : ∀ W : World, W.cell? ⟨w3.heap.size, 0, none⟩ = some (.int .u8 cb.toNat) → (Go.convert 41 9 (.slice (some ⟨w3.heap.size, 0, none⟩) 1 1)).run Tryz.prog W = .ok (.string ⟨#[cb]⟩) W := fun W hW =>
            run_convert_bytes_back W _ _ 5 ⟨w3.heap.size, 0, none⟩ 1 [cb] Tryz.underlying41 Tryz.underlying5 Tryz.underlying9 (fun j hj => by simp at hj; subst hj; exact hW)
          have c1 := hc1 (w3.alloc (.cells #[.int .u8 cb.toNat] 5)).drew (by simp [go_sem])
          have c2 := hc1 (w3.drew.alloc (.cells #[.int .u8 cb.toNat] 5)) (by simp [go_sem])
          have HB4 : Hid (∀ W : World, Keep [] w3 W → Below w.heap.size w W) := Lib.hid fun W hk => HB3.out.trans (hk.below HB3.out.size (by simp))
          have HXX : Hid ((⟨t.toArray⟩ : ByteArray).extract 0 j ++ ⟨#[cb]⟩ ++ (⟨t.toArray⟩ : ByteArray).extract (j + 1) t.length = ⟨(t.set j cb).toArray⟩) := Lib.hid (by
            rw [HX1.out, HX2.out, show (⟨#[cb]⟩ : ByteArray) = ⟨[cb].toArray⟩ from rfl, str_cat, str_cat, List.set_eq_take_append_cons_drop, if_pos (by omega)]
            simp)
          have HOP : Hid (∀ (e : Ending) (w0 w' : World), ((¬ (1 ≤ (m : Int) ∧ (m : Int) ≤ 8) ∧ e = .returned (.tuple #[.pointer none, .int .i64 0, errv 1])) ∨
             ∃ n : Nat, (m : Int) = n ∧ 1 ≤ n ∧ n ≤ 8 ∧
              ((2000 < (t.set j cb).length ∧ e = .returned (.tuple #[.pointer none, .int .i64 0, errv 4])) ∨
               ((t.set j cb).length ≤ 2000 ∧ (((openL n bk0 (lns (t.set j cb))).2.2 ≠ 0 ∧ e = .returned (.tuple #[.pointer none, .int .i64 (openL n bk0 (lns (t.set j cb))).2.1, errv (openL n bk0 (lns (t.set j cb))).2.2])) ∨
                ((openL n bk0 (lns (t.set j cb))).2.2 = 0 ∧ ∃ b, e = .returned (.tuple #[.pointer (some ⟨b, 0, none⟩), .int .i64 (openL n bk0 (lns (t.set j cb))).2.1, .nilIface]) ∧ BookAt (fun x => w0.heap.size ≤ x) w' b n (openL n bk0 (lns (t.set j cb))).1))))) → ∃ v10, e = .returned (.tuple #[v10, .int .i64 at_, errv er])) := Lib.hid (by
            rintro e w0 w' (⟨hno, _⟩ | ⟨m', hm', _, _, ⟨hl, _⟩ | ⟨_, ⟨_, he⟩ | ⟨he, _⟩⟩⟩)
            · exact absurd ⟨by omega, by omega⟩ hno
            · rw [List.length_set] at hl; omega
            · obtain rfl : m = m' := by omega
              rw [HOT2.out] at he
              exact ⟨_, he⟩
            · obtain rfl : m = m' := by omega
              rw [HOT2.out] at he
              rcases her with rfl | rfl <;> exact absurd he (by simp))
          go_upto_region 16 with fail
          go_region_with (first | (go_at_call 12; rw [HXX.out]; refine (open_any m (t.set j cb) _ (HT.out.below (HB4.out _ (by first | exact ((Keep.refl [] w3).alloc _).drew | exact ((Keep.refl [] w3).drew).alloc _)) (Nat.le_refl _)) (HE.out.below (HB4.out _ (by first | exact ((Keep.refl [] w3).alloc _).drew | exact ((Keep.refl [] w3).drew).alloc _)) (Nat.le_refl _))).mono ?_; rintro e w4 ⟨hb4, hp4⟩; obtain ⟨v10, rfl⟩ : ∃ v10, e = .returned (.tuple #[v10, .int .i64 at_, errv er]) := HOP.out _ _ _ hp4; have HB5 : Hid (Below w.heap.size w w4) := Lib.hid ((HB4.out _ (by first | exact ((Keep.refl [] w3).alloc _).drew | exact ((Keep.refl [] w3).drew).alloc _)).trans (hb4.mono (HB4.out _ (by first | exact ((Keep.refl [] w3).alloc _).drew | exact ((Keep.refl [] w3).drew).alloc _)).size)); clear hb4 hp4))
          have hgw4 : Handle w4 := HG.out.below HB5.out HGL.out
          have HG4 := Lib.hid hgw4
          clear hgw4 c1 c2
          rcases her with rfl | rfl
          · go_wp2_with (go_at_call 13; refine (eError_some 2 2 _ HG4.out).mono ?_; rintro e w7 ⟨rfl, hb7⟩; have HB7 := Lib.hid hb7; clear hb7)
            go_ret
            exact ⟨rfl, HB5.out.trans (HB7.out.mono HB5.out.size)⟩
          · go_wp2_with fail
            refine (eError_some 6 2 _ HG4.out).mono ?_
            rintro e w7 ⟨rfl, hb7⟩
            have HB7 := Lib.hid (HB5.out.trans (hb7.mono HB5.out.size))
            have hgw7 : Handle w7 := HG.out.below HB7.out HGL.out
            have HG7 := Lib.hid hgw7
            have h62 : ((6 : Int) == 2) = false := rfl
            clear hgw7 hb7
            go_wp2_with (go_at_call 13; refine (eError_some 6 6 _ HG7.out).mono ?_; rintro e w8 ⟨rfl, hb8⟩; have HB8 := Lib.hid hb8; clear hb8)
            go_ret
            exact ⟨rfl, HB7.out.trans (HB8.out.mono HB7.out.size)⟩

theorem u8_of {x : Int} (h : (Lit.int .u8 x).wf = true) : ∃ c : UInt8, x = c.toNat := by
  have h2 : 0 ≤ x ∧ x ≤ 255 := by
    simp [Lit.wf, IntKind.min, IntKind.max, IntKind.signed, IntKind.bits] at h
    omega
  refine ⟨UInt8.ofNat x.toNat, ?_⟩
  rw [UInt8.toNat_ofNat']
  omega
theorem bookTurned_walk (x0 : Int) (a1 : Option Addr) (c1 : Nat) (l1 : List (List Int)) (x2 x3 : Int) (w : World) (_ : I64 x0) (h1 : RowsIn w w.heap.size a1 l1) (_ : ∀ r ∈ l1, r.length ≤ maxLen ∧ ∀ y ∈ r, I64 y) (m1 : l1.length ≤ maxLen) (_ : I64 x2) (h3 : (Lit.int .u8 x3).wf = true) (hg : Tab w ∧ Errs w ∧ Handle w) :
    Calls Tryz.prog 4 #[.int .i64 x0, .slice a1 l1.length c1, .int .i64 x2, .int .u8 x3] w fun e w' => e = .returned (.bool true) ∧ Below w.heap.size w w' := by
  obtain ⟨c, rfl⟩ := u8_of h3
  exact turned_any x0 a1 c1 l1 x2 c w h1 m1 hg.1 hg.2.1 hg.2.2
end Go.Proofs.YticckfioggeaeaaGreatDoor
