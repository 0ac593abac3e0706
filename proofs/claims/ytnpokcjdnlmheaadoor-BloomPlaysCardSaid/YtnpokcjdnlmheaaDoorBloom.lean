/-
  A filter of bits: New, Add, Has, by their contracts.
-/
import Derived.Test.YtnpokcjdnlmheaaDoorHash
import Derived.StillTailTactics
import Derived.Outline
namespace Go.Proofs.YtnpokcjdnlmheaaDoor
open Go.RowKit

theorem info_bool : (Tryd.prog.info? 4).map (fun i => (i.zero, i.size, i.bytes)) = some (some (.bool false), 1, 1) := by kernel_rfl

def bools (l : List Bool) : List Value := l.map Value.bool
theorem bools_get {l : List Bool} {i : Nat} {x : Bool} (h : l[i]? = some x) : (bools l)[i]? = some (.bool x) := by simp [bools, h]
theorem bools_set (l : List Bool) (i : Nat) (x : Bool) : (bools l).set i (.bool x) = bools (l.set i x) := by simp [bools, List.map_set]

structure FilterAt (w : World) (b g : Nat) (bits : List Bool) (hashes : Nat) : Prop where
  top : Blk w b 73 [.slice (some ⟨g, 0, none⟩) bits.length bits.length, .int .i64 hashes]
  arr : Blk w g 4 (bools bits)

section
variable {w w' : World} {b g : Nat} {bits : List Bool} {hashes : Nat} {F : List Nat}
theorem FilterAt.keep (h : FilterAt w b g bits hashes) (hk : Keep F w w') (hF : b ∉ F ∧ g ∉ F) : FilterAt w' b g bits hashes := ⟨h.top.keep hk hF.1, h.arr.keep hk hF.2⟩
theorem FilterAt.below {B : Nat} (h : FilterAt w b g bits hashes) (hk : Below B w w') (hB : w.heap.size ≤ B) : FilterAt w' b g bits hashes := h.keep (Keep.of_below hk hB) (F := []) (by simp)
theorem FilterAt.ne (h : FilterAt w b g bits hashes) : b ≠ g := h.top.ne h.arr (by decide)
theorem FilterAt.set (h : FilterAt w b g bits hashes) (i : Nat) (x : Bool) : FilterAt (w.setCell ⟨g, i, none⟩ (.bool x)) b g (bits.set i x) hashes :=
  ⟨by simpa using h.top.far (by simpa using h.ne) _, by have := h.arr.set i (.bool x); rwa [bools_set] at this⟩
theorem FilterAt.cell_ (h : FilterAt w b g bits hashes) {i : Nat} (hi : i < bits.length) : w.cell? ⟨g, i, none⟩ = some (.bool (bits.getD i false)) ∧ w.frozen? ⟨g, i, none⟩ = false := by
  refine ⟨h.arr.cell_ (bools_get ?_), h.arr.free i⟩
  simp [List.getD, List.getElem?_eq_getElem hi]
end

theorem bloomNew_no (bits hashes : Int) (w : World) (h : ¬ (1 ≤ bits ∧ bits ≤ 128 ∧ 1 ≤ hashes ∧ hashes ≤ 4)) :
    Calls Tryd.prog 15 #[.int .i64 bits, .int .i64 hashes] w fun e w' => e = .returned (.tuple #[.pointer none, errv 1]) ∧ w = w' := by
  by_cases h1 : 1 ≤ bits ∧ bits ≤ 128
  · have h2 : hashes < 1 ∨ 4 < hashes := by omega
    obtain ⟨h3, h4⟩ := h1
    clear h
    go_enter Tryd.func15, Tryd.ntmps15
    go_wp2_with (first
      | (go_at_call 32; refine (within_yes _ _ _ _ (by omega) (by omega)).mono ?_; rintro e w' ⟨rfl, rfl⟩)
      | (go_at_call 32; refine (within_no _ _ _ _ (by omega)).mono ?_; rintro e w' ⟨rfl, rfl⟩))
    go_ret2
    exact ⟨rfl, rfl⟩
  · have h2 : bits < 1 ∨ 128 < bits := by omega
    clear h1 h
    go_enter Tryd.func15, Tryd.ntmps15
    go_wp2_with (go_at_call 32; refine (within_no _ _ _ _ (by omega)).mono ?_; rintro e w' ⟨rfl, rfl⟩)
    go_ret2
    exact ⟨rfl, rfl⟩

def NewBloom (w : World) (n hashes : Nat) (e : Ending) (w' : World) : Prop :=
  e = .returned (.tuple #[.pointer (some ⟨w.heap.size + 1, 0, none⟩), .nilIface]) ∧ FilterAt w' (w.heap.size + 1) w.heap.size (List.replicate n false) hashes ∧ Below w.heap.size w w'

theorem bloomNew_yes (n hashes : Nat) (w : World) (h1 : 1 ≤ (n : Int)) (h2 : (n : Int) ≤ 128) (h3 : 1 ≤ (hashes : Int)) (h4 : (hashes : Int) ≤ 4) :
    Calls Tryd.prog 15 #[.int .i64 n, .int .i64 hashes] w (NewBloom w n hashes) := by
  have hmk := fun wx => run_make_blk (P := Tryd.prog) 71 4 (.bool false) 1 Tryd.underlying71 info_bool rfl n (by omega) (by omega) wx
  go_enter Tryd.func15, Tryd.ntmps15
  go_wp2_with (first
    | (go_at_call 32; refine (within_yes _ _ _ _ (by omega) (by omega)).mono ?_; rintro e w' ⟨rfl, rfl⟩))
  go_ret2
  have hz : (Array.replicate n (Value.bool false)) = (bools (List.replicate n false)).toArray := by simp [bools]
  refine ⟨rfl, ⟨?_, ?_⟩, ((Below.refl _ _).alloc (Nat.le_refl _) _).alloc (by simp) _⟩
  · have := Blk.new (w.alloc (.cells (List.replicate n (Value.bool false)).toArray 4)) 73 [.slice (some ⟨w.heap.size, 0, none⟩) n n, .int .i64 hashes]
    simpa using this
  · refine Blk.alloc ?_ _
    rw [hz]
    exact Blk.new _ _ _

theorem check_yes (key : Int) (w : World) (h1 : 0 ≤ key) (h2 : key ≤ 1000000) : Calls Tryd.prog 36 #[.int .i64 key] w fun e w' => e = .returned .nilIface ∧ w = w' := by
  go_enter Tryd.func36, Tryd.ntmps36
  go_wp2_with (go_at_call 32; refine (within_yes _ _ _ _ (by omega) (by omega)).mono ?_; rintro e w' ⟨rfl, rfl⟩)
  go_ret
  exact ⟨rfl, rfl⟩
theorem check_no (key : Int) (w : World) (h : key < 0 ∨ 1000000 < key) : Calls Tryd.prog 36 #[.int .i64 key] w fun e w' => e = .returned (errv 1) ∧ w = w' := by
  go_enter Tryd.func36, Tryd.ntmps36
  go_wp2_with (go_at_call 32; refine (within_no _ _ _ _ (by omega)).mono ?_; rintro e w' ⟨rfl, rfl⟩)
  go_ret
  exact ⟨rfl, rfl⟩

/-- The first k hashes of a key set. -/
def setK (key : Int) (n : Nat) : Nat → List Bool → List Bool
  | 0, bits => bits
  | k + 1, bits => (setK key n k bits).set (hashN key k n) true
theorem setK_len (key : Int) (n k : Nat) (bits : List Bool) : (setK key n k bits).length = bits.length := by
  induction k with
  | zero => rfl
  | succ k ih => simp [setK, ih]

theorem bloomAdd_no (b : Nat) (key : Int) (w : World) (h : key < 0 ∨ 1000000 < key) :
    Calls Tryd.prog 18 #[.pointer (some ⟨b, 0, none⟩), .int .i64 key] w fun e w' => e = .returned (errv 1) ∧ w = w' := by
  go_enter Tryd.func18, Tryd.ntmps18
  go_wp2_with (go_at_call 36; refine (check_no _ _ h).mono ?_; rintro e w' ⟨rfl, rfl⟩)
  go_ret
  exact ⟨rfl, rfl⟩

def AddBloom (w : World) (b g : Nat) (bits : List Bool) (hashes : Nat) (key : Int) (e : Ending) (w' : World) : Prop :=
  e = .returned .nilIface ∧ FilterAt w' b g (setK key bits.length hashes bits) hashes ∧ Keep [g] w w'

set_option maxRecDepth 100000 in
theorem bloomAdd_yes (b g : Nat) (bits : List Bool) (hashes : Nat) (key : Int) (w : World) (hf : FilterAt w b g bits hashes) (h1 : 0 ≤ key) (h2 : key ≤ 1000000) (h3 : 1 ≤ (bits.length : Int)) (h4 : (bits.length : Int) ≤ 128) (h5 : (hashes : Int) ≤ 4) :
    Calls Tryd.prog 18 #[.pointer (some ⟨b, 0, none⟩), .int .i64 key] w (AddBloom w b g bits hashes key) := by
  have hc1 := hf.top.cell_ (i := 1) rfl
  go_enter Tryd.func18, Tryd.ntmps18
  go_wp2_with (go_at_call 36; refine (check_yes _ _ h1 h2).mono ?_; rintro e w' ⟨rfl, rfl⟩)
  go_loopw [16] (fun i wr => ∃ k : Nat, k ≤ hashes ∧ i = .int .i64 k ∧ FilterAt wr b g (setK key bits.length k bits) hashes ∧ Keep [g] w wr) (fun i _ => hashes - (intOf i).toNat)
  case atStart => exact ⟨0, Nat.zero_le _, rfl, hf, Keep.refl _ _⟩
  case round =>
    obtain ⟨k, hk, rfl, hw, hkk⟩ := hrel
    have hc0 := hw.top.cell_ (i := 0) rfl
    rw [setK_len] at hc0
    by_cases hlt : k < hashes
    · have hh := hashN_lt key k bits.length (by omega)
      have hh0 : (0 : Int) ≤ (hashN key k bits.length : Int) := by omega
      have hh1 : (hashN key k bits.length : Int) < (bits.length : Int) := by omega
      obtain ⟨hx, hfz⟩ := hw.cell_ (i := hashN key k bits.length) (by rw [setK_len]; exact hh)
      have HW := Lib.hid hw; clear hw
      go_wp2
      go_still_tail 13, (by kernel_rfl)
      still_call (still_eq (hash_any key k bits.length _ (by omega) h1 h2 h3 h4))
      repeat still_step
      refine wpStill_nil ?_
      go_wp2
      go_roundw
      case rel => exact ⟨k + 1, hlt, by go_num, by exact ((HW.out.keep (Keep.refl [] wr).drew (by simp)).set _ true), hkk.drew.set (fun _ => by simp) _⟩
      case measure => simp [intOf]; omega
    · go_wp2
      go_ret
      obtain rfl : k = hashes := by omega
      exact ⟨rfl, hw, hkk⟩
end Go.Proofs.YtnpokcjdnlmheaaDoor
