/-
  Arguments, opened to what the walks ask.
-/
import Derived.Test.YticckfioggeaeaaGreatDoorCore
import Derived.ProofKit
import Derived.OpenShut
import Derived.ShutString
import Derived.ChangeOld
import Derived.Below
import Derived.SizedLaws
import Derived.Deep.Matrix
namespace Go.Proofs.YticckfioggeaeaaGreatDoor
open Go.ChangeShapes Go.WideShapes Go.ChangeAt Go.RowKit

theorem own : ownKnob Tryz.prog.godebug = none := by kernel_rfl
theorem laidOut : laidOutB Tryz.prog = true := by kernel_rfl
theorem cellsInt : Tryz.prog.cellsOf 3 = 1 := by kernel_rfl
theorem bytesInt : Tryz.prog.bytesOf 3 = 8 := by kernel_rfl

/-- A number fits an int. -/
def I64 (x : Int) : Prop := (Lit.int .i64 x).wf = true
theorem I64.bd {x : Int} (h : I64 x) : -9223372036854775808 ≤ x ∧ x ≤ 9223372036854775807 := bounds_i64 h
/-- A list of ints is no longer than what can be read. -/
def Reached (l : List Int) : Prop := l.length * 8 ≤ reachBytes

section
variable {H : Type} {enc : TypeId × Value → H} {w : World} {fuel : Nat} {a : Option Addr} {n c : Nat} {x : DataW H × List MemPlace}

theorem intsIn_of (z : List Int) (ad : Addr) (len : Nat) (hl : len ≤ z.length) (hc : ∀ i, i < z.length → w.cell? (ad.add i) = some (.int .i64 (z.getD i 0))) : IntsIn w w.heap.size (some ad) (z.take len) := fun hn => by
  have h0 : 0 < z.length := by rw [List.length_take] at hn; omega
  obtain ⟨b, off, spot⟩ := ad
  have hs : spot = none := by simpa [Addr.add] using World.cell?_spot (hc 0 h0)
  subst hs
  refine ⟨b, off, rfl, World.block_lt_of_cell? w _ (by simpa [Addr.add] using hc 0 h0), fun i y hy => ?_⟩
  have hi : i < len := by have := (List.getElem?_eq_some_iff.1 hy).1; rw [List.length_take] at this; omega
  rw [List.getElem?_take_of_lt hi] at hy
  have := hc i (by omega)
  rw [add_addr] at this
  rw [this]
  simp [List.getD, hy]

theorem open_ints_arg (h : DataW.trod enc Tryz.prog w 0 (fun _ => true) true fuel 22 [.slice a n c] = some x) :
    ∃ l : List Int, n = l.length ∧ IntsIn w w.heap.size a l ∧ (∀ y ∈ l, I64 y) ∧ ((x.1 = .nil ∧ l = []) ∨ ∃ spare, x.1 = .slice (lits .i64 l) spare) := by
  rcases open_ints Tryz.underlying22 Tryz.underlying3 cellsInt h with ⟨hcs, hx⟩ | ⟨ad, len, cap, z, hcs, _, hl, _, hz, hx, hcell, hwz⟩
  · simp at hcs
    obtain ⟨rfl, rfl, rfl⟩ := hcs
    exact ⟨[], rfl, fun h => by simp at h, by simp, .inl ⟨by rw [hx], rfl⟩⟩
  · simp at hcs
    obtain ⟨rfl, rfl, rfl⟩ := hcs
    simp only [if_true] at hz
    refine ⟨z.take n, by simp; omega, intsIn_of z ad n (by omega) hcell, fun y hy => hwz y (List.mem_of_mem_take hy), .inr ⟨_, by rw [hx]⟩⟩

theorem open_ints_zero (h : DataW.trod enc Tryz.prog w 0 (fun _ => true) true fuel 22 [.slice a n c] = some x) : a = none → c = 0 := by
  rcases open_ints Tryz.underlying22 Tryz.underlying3 cellsInt h with ⟨hcs, _⟩ | ⟨ad, len, cap, z, hcs, _⟩
  · simp at hcs
    intro _
    exact hcs.2.2
  · simp at hcs
    intro h
    rw [hcs.1] at h
    cases h

theorem open_rows_arg (h : DataW.trod enc Tryz.prog w 0 (fun _ => true) true fuel 37 [.slice a n c] = some x) :
    ∃ l : List (List Int), n = l.length ∧ RowsIn w w.heap.size a l ∧ (∀ r ∈ l, r.length ≤ maxLen ∧ ∀ y ∈ r, I64 y) ∧ l.length ≤ maxLen := by
  rcases Deep.open_int_rows Tryz.underlying37 Tryz.underlying22 Tryz.underlying3 (by kernel_rfl) cellsInt h with ⟨hcs, hx⟩ | ⟨ad, len, cap, A, L, C, Z, hcs, _, hl, hm, _, hrows⟩
  · simp at hcs
    obtain ⟨rfl, rfl, rfl⟩ := hcs
    exact ⟨[], rfl, fun h => by simp at h, by simp, by simp⟩
  · simp at hcs
    obtain ⟨rfl, rfl, rfl⟩ := hcs
    refine ⟨(List.range n).map fun r => (Z r).take (L r), by simp, fun hn => ?_, ?_, by simp; omega⟩
    · have hn' : 0 < n := by simpa using hn
      obtain ⟨b, off, spot⟩ := ad
      have h0 := (hrows 0 (by omega)).1
      have hs : spot = none := by simpa [Addr.add] using World.cell?_spot h0
      subst hs
      refine ⟨b, off, rfl, World.block_lt_of_cell? w _ (by simpa [Addr.add] using h0), fun i y hy => ?_⟩
      simp only [List.getElem?_map, Option.map_eq_some_iff] at hy
      obtain ⟨r, hr, rfl⟩ := hy
      have hi : i < n := by have := (List.getElem?_eq_some_iff.1 hr).1; simpa using this
      obtain rfl : r = i := by rw [List.getElem?_range hi] at hr; exact (Option.some.inj hr).symm
      obtain ⟨h1, h2, _, h3, _, h4, h5⟩ := hrows r (by omega)
      rw [add_addr] at h1
      refine ⟨A r, C r, by rw [h1, List.length_take, Nat.min_eq_left (by omega)], ?_⟩
      cases hA : A r with
      | none =>
        have := h4 hA
        intro hp
        rw [List.length_take] at hp
        omega
      | some a' =>
        obtain ⟨_, h6⟩ := h5 a' hA
        exact intsIn_of (Z r) a' (L r) (by omega) (fun i hi => h6 i (by omega))
    · intro r hr
      obtain ⟨i, hi, rfl⟩ := List.mem_map.1 hr
      have hi' := List.mem_range.1 hi
      obtain ⟨_, h2, h7, h3, h8, _⟩ := hrows i (by omega)
      exact ⟨by rw [List.length_take]; omega, fun y hy => h8 y (List.mem_of_mem_take hy)⟩
end
end Go.Proofs.YticckfioggeaeaaGreatDoor
