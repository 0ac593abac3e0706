/-
  split: same, split, by their contracts.
-/
import Derived.Test.YthldhbcidcmmaaaDoorSplit2
import Derived.LaidEqlPtr
namespace Go.Proofs.YthldhbcidcmmaaaDoor
open Go.RowKit

/-! ### same -/
def SamePost (w : World) (b : Bool) (e : Ending) (w' : World) : Prop := e = .returned (.bool b) ∧ Keep [] w w'
def allSame (l : List Nat) (d : Nat) : Prop := ∀ x ∈ l, x % 2 ^ d = l.headD 0 % 2 ^ d
instance (l : List Nat) (d : Nat) : Decidable (allSame l d) := by unfold allSame; infer_instance
def natI (l : List Nat) : List Int := l.map fun (k : Nat) => (k : Int)
def SameRel (w : World) (l : List Nat) (d : Nat) (i : Value) (wr : World) : Prop := ∃ j : Nat, j ≤ l.length ∧ i = .int .i64 j ∧ (∀ x ∈ l.take j, x % 2 ^ d = l.headD 0 % 2 ^ d) ∧ Keep [] w wr

set_option maxHeartbeats 1000000 in
set_option maxRecDepth 100000 in
theorem same_any (a : Option Addr) (n c : Nat) (l : List Nat) (d : Nat) (w : World) (hl : l.length = n) (h : IntsIn w w.heap.size a (natI l)) (h0 : 0 < n) (hn : n ≤ 1000) (hb : ∀ x ∈ l, x ≤ 1000000) (hd : d ≤ 30) :
    Calls Tryd.prog 35 #[.slice a n c, .int .i64 d] w (SamePost w (decide (allSame l d))) := by
  have HL := Lib.hid hl; have HB := Lib.hid hb; have H := Lib.hid h; clear hl hb h
  have hnl : (natI l).length = n := by unfold natI; rw [List.length_map]; exact HL.out
  obtain ⟨b, off, rfl, hbb, hc0⟩ := H.out.at_ (i := 0) (by rw [hnl]; exact h0)
  have h0l : 0 < l.length := by rw [HL.out]; exact h0
  obtain ⟨k0, hk0⟩ : ∃ k0, k0 = l.headD 0 := ⟨_, rfl⟩
  have hk0b : k0 ≤ 1000000 := by
    rw [hk0]
    cases l with
    | nil => simp at h0l
    | cons x r => exact HB.out x (by simp)
  have hcell0 : w.cell? ⟨b, off, none⟩ = some (.int .i64 k0) := by
    rw [Nat.add_zero] at hc0
    rw [hc0, hk0]
    cases l with
    | nil => simp at h0l
    | cons x r => simp [natI]
  have HK0 := Lib.hid hk0
  obtain ⟨nn, hnn⟩ : ∃ nn, nn = 2 ^ d := ⟨_, rfl⟩
  obtain ⟨mm, hmm⟩ : ∃ mm, mm = 2 ^ d - 1 := ⟨_, rfl⟩
  have hn30 : 2 ^ d ≤ 2 ^ 30 := Nat.pow_le_pow_right (by decide) hd
  have hsh : IntKind.i64.wrap ((2 : Int) ^ d) = (nn : Int) := by
    rw [← pow_cast, ← hnn]
    exact IntWalk.i64_in _ (by omega)
  have hs1 : IntKind.i64.wrap ((nn : Int) - 1) = (mm : Int) := by
    have : 0 < nn := by rw [hnn]; exact Nat.pow_pos (by decide)
    rw [show (nn : Int) - 1 = (mm : Int) by omega]
    exact IntWalk.i64_in _ (by omega)
  have HBIT : Hid (∀ x : Nat, x ≤ 1000000 → bits .xor .i64 (x : Int) (k0 : Int) = ((x ^^^ k0 : Nat) : Int) ∧ bits .and .i64 ((x ^^^ k0 : Nat) : Int) (mm : Int) = (((x ^^^ k0) % 2 ^ d : Nat) : Int)) := Lib.hid fun x hx => by
    have hlt : x ^^^ k0 < 2 ^ 20 := Nat.xor_lt_two_pow (by omega) (by omega)
    refine ⟨i64_xor_nat x k0 (by omega) (by omega), ?_⟩
    rw [hmm]
    exact mask_i64 (x ^^^ k0) d hd (by omega)
  have HCELL0 := Lib.hid hcell0
  clear hcell0 hc0 hk0 hnn hmm hn30
  go_enter Tryd.func35, Tryd.ntmps35
  go_wp2
  go_loopw [6, 9] (fun _ i wr => SameRel w l d i wr) (fun _ i _ => n - (intOf i).toNat)
  case atStart => exact ⟨0, by omega, rfl, by simp, Keep.refl _ _⟩
  case round =>
    obtain ⟨j, hj, rfl, hall, hkr⟩ := hrel
    have HA := Lib.hid hall; have HKR := Lib.hid hkr
    have hjn : j ≤ n := by have := HL.out; omega
    clear hall
    by_cases hlt : j < n
    · have hjl : j < l.length := by rw [HL.out]; exact hlt
      have hjl2 : j < (natI l).length := by rw [hnl]; exact hlt
      obtain ⟨b', off', e', hb', hcx⟩ := H.out.at_ hjl2
      simp only [Option.some.injEq, Addr.mk.injEq] at e'
      obtain ⟨rfl, rfl, _⟩ := e'
      have hxb := HB.out _ (List.getElem_mem hjl)
      have HTS : Hid (l.take (j + 1) = l.take j ++ [l[j]]) := Lib.hid (List.take_succ_eq_append_getElem hjl)
      have hmem := List.getElem_mem hjl
      obtain ⟨x, hx⟩ : ∃ x, x = l[j] := ⟨_, rfl⟩
      have hxc : (natI l)[j] = (x : Int) := by rw [hx]; simp [natI]
      rw [hxc] at hcx
      rw [← hx] at hxb HTS hmem
      have HMEM := Lib.hid hmem
      have hcw := (hkr.cell (p := ⟨b, off + j, none⟩) hb' (by simp)).trans hcx
      have hcw0 := (hkr.cell (p := ⟨b, off, none⟩) hbb (by simp)).trans HCELL0.out
      obtain ⟨hq1, hq2⟩ := HBIT.out x hxb
      have hji : (j : Int) < (n : Int) := by omega
      have hj0 : (0 : Int) ≤ (j : Int) := by omega
      have hn0 : (0 : Int) < (n : Int) := by omega
      obtain ⟨r, hr⟩ : ∃ r, (x ^^^ k0) % 2 ^ d = r := ⟨_, rfl⟩
      rw [hr] at hq2
      have HX := Lib.hid (xor_mod x k0 d)
      have HR := Lib.hid hr
      clear hx hxc hcx hkr hmem hr
      by_cases e : r = 0
      · have HE : Hid (x % 2 ^ d = k0 % 2 ^ d) := Lib.hid (HX.out.1 (by rw [HR.out]; exact e))
        have hre : (((r : Nat) : Int) != 0) = false := by rw [e]; rfl
        have HRE := Lib.hid e
        clear e
        go_wp2
        go_quiet (fail)
        go_wp2
        go_roundw
        case rel => exact ⟨j + 1, hjl, by simp, fun y hy => by
          rw [HTS.out, List.mem_append, List.mem_singleton] at hy
          rcases hy with hy | rfl
          · exact HA.out y hy
          · rw [← HK0.out]; exact HE.out, HKR.out.drewN _⟩
        case measure => simp [intOf]; omega
      · have HE : Hid (¬ x % 2 ^ d = k0 % 2 ^ d) := Lib.hid fun hh => e (by rw [← HR.out]; exact HX.out.2 hh)
        have hre : (((r : Nat) : Int) != 0) = true := by rw [bne_iff_ne]; omega
        have HV : Hid (decide (allSame l d) = false) := Lib.hid (by
          have : ¬ allSame l d := fun hs => HE.out (by rw [HK0.out]; exact hs x HMEM.out)
          simpa using this)
        clear e
        go_wp2
        go_quiet (fail)
        go_wp2
        go_ret
        exact ⟨ret_bool HV.out.symm, HKR.out.drewN _⟩
    · obtain rfl : j = n := by omega
      have HV : Hid (decide (allSame l d) = true) := Lib.hid (by
        have : allSame l d := fun x hx => HA.out x (by rw [List.take_of_length_le (by rw [HL.out]; exact Nat.le_refl _)]; exact hx)
        simpa using this)
      go_wp2
      go_ret
      exact ⟨ret_bool HV.out.symm, HKR.out⟩
end Go.Proofs.YthldhbcidcmmaaaDoor
