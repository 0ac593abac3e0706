/-
  DeskBegins: the walk.
-/
import Derived.Test.YticckfioggeaeaaGreatDoorDeskRun
import Derived.Test.YticckfioggeaeaaGreatDoorGB
import Derived.Test.YticckfioggeaeaaGreatDoorGA
set_option linter.unusedVariables false
set_option linter.unusedSimpArgs false
set_option linter.unnecessarySimpa false
set_option linter.unusedVariables false
namespace Go.Proofs.YticckfioggeaeaaGreatDoor
open Go.RowKit

def DkPost (w : World) (e : Ending) (w' : World) : Prop := e = .returned (.bool true) ∧ Below w.heap.size w w'
structure Env (w W : World) : Prop where
  bel : Below w.heap.size w W
  t : Tab w
  e : Errs w
  h : Handle w
theorem Env.run {w W : World} (v : Env w W) (text : List UInt8) : Calls Tryz.prog 19 #[.string ⟨text.toArray⟩] W fun e W' => e = .returned (.string ⟨(runM text).toArray⟩) ∧ Env w W' := by
  refine (run_any text W (v.t.below v.bel (Nat.le_refl _)) (v.e.below v.bel (Nat.le_refl _)) (v.h.below v.bel v.h.lt)).mono ?_
  rintro e W' ⟨rfl, hb⟩
  exact ⟨rfl, v.bel.trans (hb.mono v.bel.size), v.t, v.e, v.h⟩
theorem Env.keys {w W : World} (v : Env w W) : Calls Tryz.prog 19 #[.string ⟨#[107, 101, 121, 115]⟩] W fun e W' => e = .returned (.string ⟨#[107, 101, 121, 115, 10]⟩) ∧ Env w W' := by
  have h := v.run sKeys
  rw [run_keys] at h
  exact h
set_option maxHeartbeats 4000000 in
set_option maxRecDepth 100000 in
theorem deskBegins_any (text : List UInt8) (k0 : Int) (w : World) (hg : Tab w ∧ Errs w ∧ Handle w) :
    Calls Tryz.prog 6 #[.string ⟨text.toArray⟩, .int .i64 k0] w (DkPost w) := by
  have HV : Hid (Env w w) := Lib.hid ⟨Below.refl _ _, hg.1, hg.2.1, hg.2.2⟩
  have hsz : (⟨text.toArray⟩ : ByteArray).size = text.length := by simp [ByteArray.size]
  clear hg
  go_enter Tryz.func6, Tryz.ntmps6
  go_wp2_with fail
  refine HV.out.keys.mono ?_
  rintro e w1 ⟨rfl, hv1⟩
  have HV1 := Lib.hid hv1
  clear hv1
  have hcase : 3000 < text.length ∨ (text.length ≤ 3000 ∧ k0 < 0) ∨ (text.length ≤ 3000 ∧ 0 ≤ k0 ∧ (text.length : Int) < k0) ∨ (text.length ≤ 3000 ∧ 0 ≤ k0 ∧ k0 ≤ (text.length : Int)) := by omega
  rcases hcase with h | ⟨h, h2⟩ | ⟨h, h2, h3⟩ | ⟨h, h2, h3⟩
  · have hi : (3000 : Int) < (text.length : Int) := by omega
    go_wp2
    go_ret
    exact ⟨rfl, HV1.out.bel⟩
  · have hi : ¬ (3000 : Int) < (text.length : Int) := by omega
    go_wp2
    go_ret
    exact ⟨rfl, HV1.out.bel⟩
  · have hi : ¬ (3000 : Int) < (text.length : Int) := by omega
    go_wp2
    go_ret
    exact ⟨rfl, HV1.out.bel⟩
  · have hi : ¬ (3000 : Int) < (text.length : Int) := by omega
    obtain ⟨k, rfl⟩ := Int.eq_ofNat_of_zero_le h2
    have hkl : k ≤ text.length := by omega
    go_wp2
    go_loop [1] (fun v => ∃ j : Nat, j ≤ k ∧ v = .int .i64 j) (fun v => (intOf v).toNat)
    case atStart => exact ⟨k, Nat.le_refl _, rfl⟩
    case round =>
      obtain ⟨j, hj, rfl⟩ := hrel
      rcases Nat.eq_zero_or_pos j with rfl | hjp
      · obtain ⟨j, hj0⟩ : ∃ j : Nat, j = 0 := ⟨0, rfl⟩
        have HE : Hid (Ended (text.take j)) := Lib.hid (ended_take (by omega) (.inl hj0))
        obtain ⟨hb1, hb2⟩ := begins_law text j h HE.out
        have hr1 := runM_len (text.take j)
        have hr2 := runM_len text
        obtain ⟨x, hx⟩ : ∃ x, x = runM (text.take j) := ⟨_, rfl⟩
        obtain ⟨y, hy⟩ : ∃ y, y = runM text := ⟨_, rfl⟩
        rw [← hx, ← hy] at hb1 hb2
        rw [← hx] at hr1
        rw [← hy] at hr2
        have HX := Lib.hid hx; have HY := Lib.hid hy; have HB2 := Lib.hid hb2
        clear hx hy hb2
        have hxi : (x.length : Int) ≤ (y.length : Int) := by omega
        have hex : (⟨text.toArray⟩ : ByteArray).extract 0 j = ⟨(text.take j).toArray⟩ := by
          have h2 := ext_left (text.take j) (text.drop j)
          rw [List.take_append_drop, List.length_take, Nat.min_eq_left (by omega)] at h2
          exact h2
        have hey : (⟨y.toArray⟩ : ByteArray).extract 0 x.length = ⟨x.toArray⟩ := by
          have h2 := ext_left (y.take x.length) (y.drop x.length)
          rw [List.take_append_drop, List.length_take, Nat.min_eq_left hb1, HB2.out] at h2
          exact h2
        have HEX := Lib.hid hex
        clear hex
        have hsx : (⟨x.toArray⟩ : ByteArray).size = x.length := by simp [ByteArray.size]
        have hsy : (⟨y.toArray⟩ : ByteArray).size = y.length := by simp [ByteArray.size]
        have HX0 : Hid (x = runM []) := Lib.hid (by rw [HX.out, hj0, List.take_zero])
        clear HX
        have HX := HX0
        clear HX0 HEX HE hj0
        go_wp2_with fail
        rw [show ByteArray.empty = ⟨([] : List UInt8).toArray⟩ from rfl]
        refine (HV1.out.run _).mono ?_
        rintro e w2 ⟨rfl, hv2⟩
        rw [← HX.out]
        have HV2 := Lib.hid hv2
        clear hv2
        go_wp2_with fail
        refine (HV2.out.run text).mono ?_
        rintro e w3 ⟨rfl, hv3⟩
        rw [← HY.out]
        have HV3 := Lib.hid hv3
        clear hv3
        go_wp2
        go_ret
        exact ⟨rfl, HV3.out.bel⟩
      · obtain ⟨i, rfl⟩ : ∃ i, j = i + 1 := ⟨j - 1, by omega⟩
        have hit : i < text.length := by omega
        have his : i < (⟨text.toArray⟩ : ByteArray).size := by rw [hsz]; exact hit
        have hat : (⟨text.toArray⟩ : ByteArray)[i]'his = text[i] := rfl
        have hi0 : (0 : Int) ≤ (i : Int) := by omega
        have hil : (i : Int) < (text.length : Int) := by omega
        have hsub : ((i + 1 : Nat) : Int) - 1 = (i : Int) := by omega
        have hpos : (0 : Int) < ((i + 1 : Nat) : Int) := by omega
        by_cases h10 : text[i] = 10
        · have hq : ((((⟨text.toArray⟩ : ByteArray)[i]'his).toNat : Int) != 10) = false := by rw [hat, h10]; rfl
          have HE : Hid (Ended (text.take (i + 1))) := Lib.hid (ended_take (by omega) (.inr ⟨by omega, h10⟩))
          obtain ⟨j, hjj⟩ : ∃ j : Nat, j = i + 1 := ⟨_, rfl⟩
          rw [← hjj] at HE hsub hpos ⊢
          have hj1 : (0 : Int) ≤ (j : Int) := by omega
          have hjl : (j : Int) ≤ (text.length : Int) := by omega
          have hjl2 : j ≤ text.length := by omega
          clear hat hjj
          obtain ⟨hb1, hb2⟩ := begins_law text j h HE.out
          have hr1 := runM_len (text.take j)
          have hr2 := runM_len text
          obtain ⟨x, hx⟩ : ∃ x, x = runM (text.take j) := ⟨_, rfl⟩
          obtain ⟨y, hy⟩ : ∃ y, y = runM text := ⟨_, rfl⟩
          rw [← hx, ← hy] at hb1 hb2
          rw [← hx] at hr1
          rw [← hy] at hr2
          have HX := Lib.hid hx; have HY := Lib.hid hy; have HB2 := Lib.hid hb2
          clear hx hy hb2
          have hxi : (x.length : Int) ≤ (y.length : Int) := by omega
          have hex : (⟨text.toArray⟩ : ByteArray).extract 0 j = ⟨(text.take j).toArray⟩ := by
            have h2 := ext_left (text.take j) (text.drop j)
            rw [List.take_append_drop, List.length_take, Nat.min_eq_left (by omega)] at h2
            exact h2
          have hey : (⟨y.toArray⟩ : ByteArray).extract 0 x.length = ⟨x.toArray⟩ := by
            have h2 := ext_left (y.take x.length) (y.drop x.length)
            rw [List.take_append_drop, List.length_take, Nat.min_eq_left hb1, HB2.out] at h2
            exact h2
          have HEX := Lib.hid hex
          clear hex
          have hsx : (⟨x.toArray⟩ : ByteArray).size = x.length := by simp [ByteArray.size]
          have hsy : (⟨y.toArray⟩ : ByteArray).size = y.length := by simp [ByteArray.size]
          clear HE
          go_wp2_with fail
          rw [HEX.out]
          refine (HV1.out.run _).mono ?_
          rintro e w2 ⟨rfl, hv2⟩
          rw [← HX.out]
          have HV2 := Lib.hid hv2
          clear hv2
          go_wp2_with fail
          refine (HV2.out.run text).mono ?_
          rintro e w3 ⟨rfl, hv3⟩
          rw [← HY.out]
          have HV3 := Lib.hid hv3
          clear hv3
          go_wp2
          go_ret
          exact ⟨rfl, HV3.out.bel⟩
        · have hq : ((((⟨text.toArray⟩ : ByteArray)[i]'his).toNat : Int) != 10) = true := by
            rw [hat]
            refine bne_iff_ne.2 fun e => h10 (UInt8.toNat_inj.1 ?_)
            have : (10 : UInt8).toNat = 10 := rfl
            omega
          clear hat
          go_wp2
          exact ⟨⟨i, by omega, by simp⟩, by simp [intOf]⟩
theorem deskBegins_walk (x0 : ByteArray) (x1 : Int) (w : World) (_ : x0.size ≤ maxLen) (_ : I64 x1) (hg : Tab w ∧ Errs w ∧ Handle w) :
    Calls Tryz.prog 6 #[.string x0, .int .i64 x1] w fun e w' => e = .returned (.bool true) ∧ Below w.heap.size w w' := by
  have h := deskBegins_any x0.data.toList x1 w hg
  rw [show (⟨x0.data.toList.toArray⟩ : ByteArray) = x0 from ByteArray.ext (by simp)] at h
  exact h
end Go.Proofs.YticckfioggeaeaaGreatDoor
