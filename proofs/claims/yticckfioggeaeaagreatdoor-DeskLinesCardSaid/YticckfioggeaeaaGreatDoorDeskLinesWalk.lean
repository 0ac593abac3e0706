/-
  DeskLines: the walk.
-/
import Derived.Test.YticckfioggeaeaaGreatDoorDeskBeginsWalk
set_option linter.unusedVariables false
set_option linter.unusedSimpArgs false
set_option linter.unnecessarySimpa false
set_option linter.unusedVariables false
namespace Go.Proofs.YticckfioggeaeaaGreatDoor
open Go.RowKit

theorem count_take3 {t : List UInt8} {i : Nat} (hi : i < t.length) : (t.take (i + 1)).count 10 = (t.take i).count 10 + (if t[i] = 10 then 1 else 0) := by
  rw [List.take_succ_eq_append_getElem hi, List.count_append, List.count_singleton]
  by_cases h : t[i] = 10
  · rw [if_pos h, if_pos (by simpa using h)]
  · rw [if_neg h, if_neg (by simpa using h)]
def lcount (text : List UInt8) (j : Nat) : Nat := (text.take j).count 10 + if text ≠ [] ∧ j = text.length ∧ text.getLast? ≠ some 10 then 1 else 0
theorem lcount_zero (text : List UInt8) : lcount text 0 = 0 := by
  unfold lcount
  rw [if_neg]
  · simp
  · rintro ⟨h1, h2, _⟩
    exact h1 (List.length_eq_zero_iff.1 h2.symm)
theorem lcount_step {text : List UInt8} {i : Nat} (hi : i < text.length) : lcount text (i + 1) = lcount text i + (if text[i] = 10 ∨ i = text.length - 1 then 1 else 0) := by
  have hne : text ≠ [] := fun e => by rw [e] at hi; simp at hi
  have h := lines_step hi
  unfold lcount
  have e1 : (if text ≠ [] ∧ i + 1 = text.length ∧ text.getLast? ≠ some 10 then 1 else 0) = (if i + 1 = text.length ∧ text.getLast? ≠ some 10 then 1 else 0) := by
    by_cases h2 : i + 1 = text.length ∧ text.getLast? ≠ some 10
    · rw [if_pos h2, if_pos ⟨hne, h2⟩]
    · rw [if_neg h2, if_neg (fun h => h2 h.2)]
  have e2 : (if text ≠ [] ∧ i = text.length ∧ text.getLast? ≠ some 10 then 1 else 0) = (if i = text.length ∧ text.getLast? ≠ some 10 then 1 else 0) := by
    by_cases h2 : i = text.length ∧ text.getLast? ≠ some 10
    · rw [if_pos h2, if_pos ⟨hne, h2⟩]
    · rw [if_neg h2, if_neg (fun h => h2 h.2)]
  rw [e1, e2]
  exact h
theorem lcount_le (text : List UInt8) (j : Nat) : lcount text j ≤ text.length + 1 := by
  unfold lcount
  have h1 := List.count_le_length (a := (10 : UInt8)) (l := text.take j)
  rw [List.length_take] at h1
  split <;> omega
theorem lcount_end (text : List UInt8) (h : text.length ≤ 3000) : (runM text).count 10 = lcount text text.length := by
  rw [(lines_law text h).1]
  unfold lcount
  rw [List.take_length]
  congr 1
  by_cases h2 : text ≠ [] ∧ text.getLast? ≠ some 10
  · rw [if_pos h2, if_pos ⟨h2.1, rfl, h2.2⟩]
  · rw [if_neg h2, if_neg (fun h => h2 ⟨h.1, h.2.2⟩)]
theorem Env.fact {w W : World} (v : Env w W) : Calls Tryz.prog 19 #[.string ⟨#[112, 117, 116, 32, 49, 32, 50, 10, 10, 98]⟩] W fun e W' => e = .returned (.string ⟨#[111, 107, 10, 98, 97, 100, 10, 98, 97, 100, 10]⟩) ∧ Env w W' := by
  have h := v.run [112, 117, 116, 32, 49, 32, 50, 10, 10, 98]
  rw [run_fact] at h
  exact h
set_option maxHeartbeats 4000000 in
set_option maxRecDepth 100000 in
theorem deskLines_any (text : List UInt8) (hml : text.length ≤ maxLen) (w : World) (hg : Tab w ∧ Errs w ∧ Handle w) :
    Calls Tryz.prog 7 #[.string ⟨text.toArray⟩] w (DkPost w) := by
  have HV : Hid (Env w w) := Lib.hid ⟨Below.refl _ _, hg.1, hg.2.1, hg.2.2⟩
  have hsz : (⟨text.toArray⟩ : ByteArray).size = text.length := by simp [ByteArray.size]
  have ten : (10 : UInt8).toNat = 10 := rfl
  clear hg
  go_enter Tryz.func7, Tryz.ntmps7
  go_wp2_with fail
  refine HV.out.fact.mono ?_
  rintro e w1 ⟨rfl, hv1⟩
  have HV1 := Lib.hid hv1
  clear hv1
  go_wp2_with fail
  refine (HV1.out.run text).mono ?_
  rintro e w2 ⟨rfl, hv2⟩
  have HV2 := Lib.hid hv2
  clear hv2
  by_cases h : 3000 < text.length
  · have hi : (3000 : Int) < (text.length : Int) := by omega
    have hr : runM text = [116, 111, 111, 32, 108, 111, 110, 103, 10] := by unfold runM; rw [if_pos h]; rfl
    rw [hr]
    go_wp2
    go_ret
    exact ⟨rfl, HV2.out.bel⟩
  · have hi : ¬ (3000 : Int) < (text.length : Int) := by omega
    have hend := lcount_end text (by omega)
    obtain ⟨-, hE⟩ := lines_law text (by omega)
    have hrl := runM_len text
    obtain ⟨x, hx⟩ : ∃ x, x = runM text := ⟨_, rfl⟩
    rw [← hx] at hend hE hrl ⊢
    have HEND := Lib.hid hend; have HEX := Lib.hid hE
    have hsx : (⟨x.toArray⟩ : ByteArray).size = x.length := by simp [ByteArray.size]
    clear hx hend hE
    obtain ⟨n, hn⟩ : ∃ n, n = text.length := ⟨_, rfl⟩
    rw [← hn] at hsz hi h HEND
    have HN := Lib.hid hn
    clear hn hml
    go_wp2
    go_loop [5, 6] (fun v5 v6 => ∃ j : Nat, j ≤ n ∧ v6 = .int .i64 j ∧ v5 = .int .i64 (lcount text j : Nat)) (fun _ v6 => n - (intOf v6).toNat)
    case atStart => exact ⟨0, Nat.zero_le _, rfl, by rw [lcount_zero]; rfl⟩
    case round =>
      obtain ⟨j, hj, rfl, rfl⟩ := hrel
      by_cases hlt : j < n
      · have hjn : (j : Int) < (n : Int) := by omega
        have hj0 : (0 : Int) ≤ (j : Int) := by omega
        have hjt : j < text.length := by rw [← HN.out]; exact hlt
        have hjs : j < (⟨text.toArray⟩ : ByteArray).size := by rw [hsz]; exact hlt
        have hat : (⟨text.toArray⟩ : ByteArray)[j]'hjs = text[j] := rfl
        have HST := Lib.hid (lcount_step hjt)
        have hle := lcount_le text j
        rw [← HN.out] at hle HST
        obtain ⟨c, hc⟩ : ∃ c, c = lcount text j := ⟨_, rfl⟩
        rw [← hc] at HST hle ⊢
        clear hc
        have hwn : IntKind.i64.wrap ((n : Int) - 1) = (n : Int) - 1 := IntWalk.i64_in _ (by omega)
        by_cases hc : text[j] = 10
        · have hq : ((((⟨text.toArray⟩ : ByteArray)[j]'hjs).toNat : Int) == 10) = true := by rw [hat, hc]; rfl
          have HST2 : Hid (lcount text (j + 1) = c + 1) := Lib.hid (by rw [HST.out, if_pos (.inl hc)])
          clear HST hat hc
          go_wp2
          exact ⟨⟨j + 1, hlt, by simp, by rw [HST2.out]; simp⟩, by simp [intOf]; omega⟩
        · have hq : ((((⟨text.toArray⟩ : ByteArray)[j]'hjs).toNat : Int) == 10) = false := by
            rw [hat]
            exact beq_eq_false_iff_ne.2 fun e => hc (UInt8.toNat_inj.1 (by omega))
          by_cases hl : (j : Int) = (n : Int) - 1
          · have HST2 : Hid (lcount text (j + 1) = c + 1) := Lib.hid (by rw [HST.out, if_pos (.inr (by omega))])
            have hl2 : ((j : Int) == (n : Int) - 1) = true := by simpa using hl
            clear HST hat hc hl
            go_wp2
            exact ⟨⟨j + 1, hlt, by simp, by rw [HST2.out]; simp⟩, by simp [intOf]; omega⟩
          · have HST2 : Hid (lcount text (j + 1) = c) := Lib.hid (by rw [HST.out, if_neg (fun h => h.elim hc (by omega))]; rfl)
            have hl2 : ((j : Int) == (n : Int) - 1) = false := beq_eq_false_iff_ne.2 hl
            clear HST hat hc hl
            go_wp2
            exact ⟨⟨j + 1, hlt, by simp, by rw [HST2.out]⟩, by simp [intOf]; omega⟩
      · obtain rfl : j = n := by omega
        obtain ⟨c, hc⟩ : ∃ c, c = lcount text j := ⟨_, rfl⟩
        have hle := lcount_le text j
        rw [← hc] at HEND hle ⊢
        clear hc
        obtain ⟨m, hm⟩ : ∃ m, m = x.length := ⟨_, rfl⟩
        rw [← hm] at hsx hrl
        have HM := Lib.hid hm
        clear hm
        go_wp2
        go_loop [7, 8] (fun v7 v8 => ∃ i : Nat, i ≤ m ∧ v8 = .int .i64 i ∧ v7 = .int .i64 ((x.take i).count 10 : Nat)) (fun _ v8 => m - (intOf v8).toNat)
        case atStart => exact ⟨0, Nat.zero_le _, rfl, by simp⟩
        case round =>
          obtain ⟨i, hi2, rfl, rfl⟩ := hrel
          by_cases hlt2 : i < m
          · have him : (i : Int) < (m : Int) := by omega
            have hi0 : (0 : Int) ≤ (i : Int) := by omega
            have hix : i < x.length := by rw [← HM.out]; exact hlt2
            have his : i < (⟨x.toArray⟩ : ByteArray).size := by rw [hsx]; exact hlt2
            have hat : (⟨x.toArray⟩ : ByteArray)[i]'his = x[i] := rfl
            have HCT := Lib.hid (count_take3 hix)
            have hcl : (x.take i).count 10 ≤ 200000 := by
              have := List.count_le_length (a := (10 : UInt8)) (l := x.take i)
              rw [List.length_take] at this
              omega
            by_cases hc : x[i] = 10
            · have hq : ((((⟨x.toArray⟩ : ByteArray)[i]'his).toNat : Int) == 10) = true := by rw [hat, hc]; rfl
              have HCT2 : Hid ((x.take (i + 1)).count 10 = (x.take i).count 10 + 1) := Lib.hid (by rw [HCT.out, if_pos hc])
              clear HCT hat hc
              go_wp2
              exact ⟨⟨i + 1, hlt2, by simp, by rw [HCT2.out]; simp⟩, by simp [intOf]; omega⟩
            · have hq : ((((⟨x.toArray⟩ : ByteArray)[i]'his).toNat : Int) == 10) = false := by
                rw [hat]
                exact beq_eq_false_iff_ne.2 fun e => hc (UInt8.toNat_inj.1 (by omega))
              have HCT2 : Hid ((x.take (i + 1)).count 10 = (x.take i).count 10) := Lib.hid (by rw [HCT.out, if_neg hc]; rfl)
              clear HCT hat hc
              go_wp2
              exact ⟨⟨i + 1, hlt2, by simp, by rw [HCT2.out]⟩, by simp [intOf]; omega⟩
          · obtain rfl : i = m := by omega
            have hct : (x.take i).count 10 = c := by rw [List.take_of_length_le (by rw [← HM.out]; omega)]; exact HEND.out
            rw [hct]
            clear hct
            have hcc : ((c : Int) == (c : Int)) = true := by simp
            rcases Nat.eq_zero_or_pos i with h0 | hp
            · have hi0 : ((i : Int) == 0) = true := by simp [h0]
              go_wp2
              go_ret
              exact ⟨rfl, HV2.out.bel⟩
            · have hi0 : ((i : Int) == 0) = false := beq_eq_false_iff_ne.2 (by omega)
              obtain ⟨q, rfl⟩ : ∃ q, i = q + 1 := ⟨i - 1, by omega⟩
              have hqs : q < (⟨x.toArray⟩ : ByteArray).size := by rw [hsx]; omega
              have hqx : q < x.length := by rw [← HM.out]; omega
              have hat : (⟨x.toArray⟩ : ByteArray)[q]'hqs = x[q] := rfl
              have hx10 : x[q] = 10 := by
                rcases HEX.out with e | ⟨t, e⟩
                · have := HM.out; rw [e] at this; simp at this
                · have hlq : q = t.length := by have h3 := HM.out; rw [e] at h3; simp at h3; omega
                  subst hlq
                  simp only [e]
                  simp
              have hq : ((((⟨x.toArray⟩ : ByteArray)[q]'hqs).toNat : Int) == 10) = true := by rw [hat, hx10]; rfl
              have hsub : ((q + 1 : Nat) : Int) - 1 = (q : Int) := by omega
              have hq0 : (0 : Int) ≤ (q : Int) := by omega
              have hqi : (q : Int) < ((q + 1 : Nat) : Int) := by omega
              have hwq : IntKind.i64.wrap (q : Int) = (q : Int) := IntWalk.i64_in _ (by omega)
              clear hat hx10
              go_wp2
              go_ret
              exact ⟨rfl, HV2.out.bel⟩
theorem deskLines_walk (x0 : ByteArray) (w : World) (h0 : x0.size ≤ maxLen) (hg : Tab w ∧ Errs w ∧ Handle w) :
    Calls Tryz.prog 7 #[.string x0] w fun e w' => e = .returned (.bool true) ∧ Below w.heap.size w w' := by
  have h := deskLines_any x0.data.toList (by rw [show x0.data.toList.length = x0.size from (Lib.size_eq x0).symm]; exact h0) w hg
  rw [show (⟨x0.data.toList.toArray⟩ : ByteArray) = x0 from ByteArray.ext (by simp)] at h
  exact h
end Go.Proofs.YticckfioggeaeaaGreatDoor
