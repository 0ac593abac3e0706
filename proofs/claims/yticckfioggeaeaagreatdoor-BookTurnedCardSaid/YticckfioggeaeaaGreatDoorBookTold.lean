/-
  told, by its contract.
-/
import Derived.Test.YticckfioggeaeaaGreatDoorBookOpen
import Derived.Test.YticckfioggeaeaaGreatDoorGL
import Derived.Test.YticckfioggeaeaaGreatDoorGA
import Derived.Deep.DeepCutAuto
set_option linter.unusedVariables false
set_option linter.unusedSimpArgs false
set_option linter.unnecessarySimpa false
set_option linter.unusedVariables false
namespace Go.Proofs.YticckfioggeaeaaGreatDoor
open Go.RowKit

def ToldPostB (w : World) (slots : Int) (xss : List (List Int)) (e : Ending) (w' : World) : Prop :=
  Below w.heap.size w w' ∧
  ((¬ (1 ≤ slots ∧ slots ≤ 8) ∧ e = .returned (.tuple #[.pointer none, .bool false])) ∨
   ∃ n : Nat, slots = n ∧ 1 ≤ n ∧ n ≤ 8 ∧ ∃ b, e = .returned (.tuple #[.pointer (some ⟨b, 0, none⟩), .bool true]) ∧ BookAt (fun x => w.heap.size ≤ x) w' b n (runB n (xss.take 70)))
set_option maxHeartbeats 1000000 in
set_option maxRecDepth 100000 in
theorem told_no (n : Int) (h : ¬ (1 ≤ n ∧ n ≤ 8)) (v : Value) (xss : List (List Int)) (w : World) :
    Calls Tryz.prog 18 #[.int .i64 n, v] w (ToldPostB w n xss) := by
  have HC := Lib.hid h
  clear h
  go_enter Tryz.func18, Tryz.ntmps18
  go_wp2_with fail
  refine (new_no n _ HC.out).mono ?_
  rintro e w2 ⟨rfl, rfl⟩
  go_wp2
  go_ret2
  exact ⟨Below.refl _ _, .inl ⟨HC.out, rfl⟩⟩
def TdRel (w : World) (b slots n : Nat) (xss : List (List Int)) (i : Value) (wr : World) : Prop := ∃ (j : Nat) (O : Nat → Prop), j ≤ n ∧ j ≤ 70 ∧ i = .int .i64 j ∧ KS w wr O b slots (runB slots (xss.take j)) []
theorem run_take {slots : Nat} {xss : List (List Int)} {j : Nat} (hj : j < xss.length) : runB slots (xss.take (j + 1)) = stepB slots (runB slots (xss.take j)) xss[j] := by
  unfold runB
  rw [List.take_succ_eq_append_getElem hj, List.foldl_append]
  rfl
set_option maxHeartbeats 4000000 in
set_option maxRecDepth 1000000 in
theorem told_yes (slots : Nat) (h1 : 1 ≤ slots) (h8 : slots ≤ 8) (a : Option Addr) (c : Nat) (xss : List (List Int)) (w : World) (hx : RowsIn w w.heap.size a xss) (hn : xss.length ≤ maxLen) (ht : Tab w) :
    Calls Tryz.prog 18 #[.int .i64 slots, .slice a xss.length c] w (ToldPostB w slots xss) := by
  have HT := Lib.hid ht; have HX := Lib.hid hx; have HN := Lib.hid hn
  obtain ⟨n, hnn⟩ : ∃ n, n = xss.length := ⟨_, rfl⟩
  rw [← hnn]
  have HNN := Lib.hid hnn
  clear ht hx hn hnn
  go_enter Tryz.func18, Tryz.ntmps18
  go_wp2_with fail
  refine (new_yes slots _ h1 h8).mono ?_
  rintro e w2 ⟨b, rfl, hb2, _, hbel2⟩
  have HKS : Hid (∃ O, KS w w2 O b slots bk0 []) := Lib.hid ⟨_, ⟨hb2, by simp, by simp, List.Pairwise.nil, hbel2, fun x hx ho => by omega⟩⟩
  clear hb2 hbel2
  go_wp2
  go_loopw [8] (fun i wr => TdRel w b slots n xss i wr) (fun i _ => n - (intOf i).toNat)
  case atStart =>
    obtain ⟨O, hks⟩ := HKS.out
    exact ⟨0, O, by omega, by omega, rfl, hks⟩
  case round =>
    obtain ⟨j, O, hj, hj7, rfl, hks⟩ := hrel
    have HK := Lib.hid hks
    clear hks HKS
    by_cases hlt : j < n ∧ j < 70
    · obtain ⟨hlt, hlt7⟩ := hlt
      obtain ⟨bx, off, a', c', rfl, hbB, hcell, hrow⟩ := HX.out.at_ (by rw [← HNN.out]; exact hlt : j < xss.length)
      have HRT : Hid (runB slots (xss.take (j + 1)) = stepB slots (runB slots (xss.take j)) (xss[j]'(by rw [← HNN.out]; exact hlt))) := Lib.hid (run_take _)
      obtain ⟨l, hl⟩ : ∃ l, l = xss[j]'(by rw [← HNN.out]; exact hlt) := ⟨_, rfl⟩
      obtain ⟨m, hm⟩ : ∃ m, m = l.length := ⟨_, rfl⟩
      rw [← hl] at hrow HRT
      rw [← hl, ← hm] at hcell
      have HC0 : Hid (∀ w' : World, Below w.heap.size w w' → w'.cell? ⟨bx, off + j, none⟩ = some (.slice a' m c')) := Lib.hid fun w' hb => (hb.cell (p := ⟨bx, off + j, none⟩) hbB).trans hcell
      have HR := Lib.hid hrow
      obtain ⟨s, hs⟩ : ∃ s, s = runB slots (xss.take j) := ⟨_, rfl⟩
      rw [← hs] at HK HRT
      clear hl hcell hrow hs
      have hj70 : (j : Int) < 70 := by omega
      have hjn : (j : Int) < (n : Int) := by omega
      have hj0 : (0 : Int) ≤ (j : Int) := by omega
      have hcell2 := HC0.out _ HK.out.bel
      by_cases hm2 : m = 2
      · subst hm2
        obtain ⟨x, y, rfl⟩ : ∃ x y, l = [x, y] := by
          match l, hm with
          | [x, y], _ => exact ⟨x, y, rfl⟩
        obtain ⟨b3, off3, rfl, hb3, hc3⟩ := HR.out (by simp)
        have HC3 : Hid (∀ w' : World, Below w.heap.size w w' → w'.cell? ⟨bx, off + j, none⟩ = some (.slice (some ⟨b3, off3, none⟩) 2 c') ∧ w'.cell? ⟨b3, off3, none⟩ = some (.int .i64 x) ∧ w'.cell? ⟨b3, off3 + 1, none⟩ = some (.int .i64 y)) := Lib.hid fun w' hb => ⟨HC0.out w' hb, (hb.cell (p := ⟨b3, off3, none⟩) hb3).trans (hc3 0 x rfl), (hb.cell (p := ⟨b3, off3 + 1, none⟩) hb3).trans (hc3 1 y rfl)⟩
        have HRT2 : Hid (runB slots (xss.take (j + 1)) = putS slots s x y) := Lib.hid HRT.out
        clear hc3 hm HR HRT
        go_upto_region 8 with fail
        clear hcell2
        go_region_held3 (fun w' => w'.cell? ⟨bx, off + j, none⟩ = some (.slice (some ⟨b3, off3, none⟩) 2 c') ∧ w'.cell? ⟨b3, off3, none⟩ = some (.int .i64 x) ∧ w'.cell? ⟨b3, off3 + 1, none⟩ = some (.int .i64 y))
          (first | exact HC3.out _ (KS.below HK.out (drewB wr)).bel | exact HC3.out _ HK3.out.bel | fail)
          (first | (go_at_call 24; refine (put_any b slots s x y _ (KS.below HK.out (drewB wr)).bk ((KS.below HK.out (drewB wr)).tab HT.out)).mono ?_; rintro e w3 ⟨rfl, hb3', hk3⟩; have HK3 := Lib.hid ((KS.below HK.out (drewB wr)).book hb3' hk3); clear hb3' hk3))
        go_wp2
        go_roundw
        case rel => exact ⟨j + 1, _, hlt, by omega, by simp, by rw [HRT2.out]; exact HK3.out⟩
        case measure => simp [intOf]; omega
      · have hm2' : ((m : Int) == 2) = false := beq_eq_false_iff_ne.2 (by omega)
        by_cases hm1 : m = 1
        · subst hm1
          obtain ⟨x, rfl⟩ : ∃ x, l = [x] := by
            match l, hm with
            | [x], _ => exact ⟨x, rfl⟩
          obtain ⟨b3, off3, rfl, hb3, hc3⟩ := HR.out (by simp)
          have hy0 := (HK.out.bel.cell (p := ⟨b3, off3, none⟩) hb3).trans (hc3 0 x rfl)
          have HRT2 : Hid (runB slots (xss.take (j + 1)) = getS s x) := Lib.hid HRT.out
          clear hc3 hm HR hm2 hm2' HRT
          go_wp2_with fail
          refine (get_any b slots s x _ HK.out.bk (HK.out.tab HT.out)).mono ?_
          rintro e w3 ⟨rfl, hb3', hk3⟩
          have HK3 := Lib.hid (HK.out.book hb3' hk3)
          clear hb3' hk3 hy0 hcell2
          go_wp2
          go_roundw
          case rel => exact ⟨j + 1, _, hlt, by omega, by simp, by rw [HRT2.out]; exact HK3.out⟩
          case measure => simp [intOf]; omega
        · have hm1' : ((m : Int) == 1) = false := beq_eq_false_iff_ne.2 (by omega)
          have HRT2 : Hid (runB slots (xss.take (j + 1)) = s) := Lib.hid (by
            rw [HRT.out]
            match l, hm with
            | [], _ => rfl
            | [x], hm => simp at hm; omega
            | [x, y], hm => simp at hm; omega
            | x :: y :: z :: r, _ => rfl)
          go_wp2
          go_roundw
          case rel => exact ⟨j + 1, _, hlt, by omega, by simp, by rw [HRT2.out]; exact HK.out⟩
          case measure => simp [intOf]; omega
    · have HFIN : Hid (runB slots (xss.take j) = runB slots (xss.take 70)) := Lib.hid (by
        by_cases h7 : j = 70
        · rw [h7]
        · rw [List.take_of_length_le (by rw [← HNN.out]; omega), List.take_of_length_le (by rw [← HNN.out]; omega)])
      have hend : (¬ j < n) ∨ (j < n ∧ ¬ j < 70) := by omega
      rcases hend with hend | ⟨hend1, hend⟩
      · have hji : ¬ (j : Int) < (n : Int) := by omega
        go_wp2
        go_ret2
        exact ⟨HK.out.bel, .inr ⟨slots, rfl, h1, h8, b, rfl, by rw [← HFIN.out]; exact HK.out.bk.mono fun x hx => Nat.le_of_not_lt fun hl => HK.out.lo x hl hx⟩⟩
      · have hji : (j : Int) < (n : Int) := by omega
        have hji2 : ¬ (j : Int) < 70 := by omega
        go_wp2
        go_ret2
        exact ⟨HK.out.bel, .inr ⟨slots, rfl, h1, h8, b, rfl, by rw [← HFIN.out]; exact HK.out.bk.mono fun x hx => Nat.le_of_not_lt fun hl => HK.out.lo x hl hx⟩⟩
theorem told_any (x0 : Int) (a : Option Addr) (c : Nat) (xss : List (List Int)) (w : World) (hx : RowsIn w w.heap.size a xss) (hn : xss.length ≤ maxLen) (ht : Tab w) :
    Calls Tryz.prog 18 #[.int .i64 x0, .slice a xss.length c] w (ToldPostB w x0 xss) := by
  by_cases h : 1 ≤ x0 ∧ x0 ≤ 8
  · obtain ⟨d, rfl⟩ := Int.eq_ofNat_of_zero_le (show 0 ≤ x0 by omega)
    exact told_yes d (by omega) (by omega) a c xss w hx hn ht
  · exact told_no x0 h _ xss w
end Go.Proofs.YticckfioggeaeaaGreatDoor
