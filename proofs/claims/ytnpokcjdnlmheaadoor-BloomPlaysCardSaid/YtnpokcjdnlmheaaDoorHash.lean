/-
  core.Hash, by its contract.
-/
import Derived.Test.YtnpokcjdnlmheaaDoorCore
namespace Go.Proofs.YtnpokcjdnlmheaaDoor
open Go.RowKit
/-! ### core.Hash -/
def hashA (i : Nat) : Int := match i with | 0 => 7 | 1 => 11 | 2 => 13 | _ => 17
def hashB (i : Nat) : Int := match i with | 0 => 3 | 1 => 5 | 2 => 1 | _ => 9
def hashN (key : Int) (i m : Nat) : Nat := ((key * hashA i + key / m * hashB i + i) % m).toNat
theorem hashN_lt (key : Int) (i m : Nat) (hm : 0 < m) : hashN key i m < m := by
  unfold hashN
  have h1 := Int.emod_nonneg (key * hashA i + key / m * hashB i + i) (b := (m : Int)) (by omega)
  have h2 := Int.emod_lt_of_pos (key * hashA i + key / m * hashB i + i) (b := (m : Int)) (by omega)
  omega
theorem hashN_int (key : Int) (i m : Nat) (hm : 0 < m) : ((hashN key i m : Nat) : Int) = (key * hashA i + key / m * hashB i + i) % m := by
  unfold hashN
  have h1 := Int.emod_nonneg (key * hashA i + key / m * hashB i + i) (b := (m : Int)) (by omega)
  omega
theorem quot_bd (key : Int) (m : Nat) (h1 : 0 ≤ key) (h2 : key ≤ 1000000) : 0 ≤ key / (m : Int) ∧ key / (m : Int) ≤ 1000000 := by
  constructor
  · exact Int.ediv_nonneg h1 (by omega)
  · have := Int.ediv_le_self (m : Int) h1; omega

set_option maxRecDepth 100000 in
theorem hash_0 (key : Int) (m : Nat) (w : World) (h1 : 0 ≤ key) (h2 : key ≤ 1000000) (h3 : 1 ≤ (m : Int)) (h4 : (m : Int) ≤ 128) :
    Calls Tryd.prog 37 #[.int .i64 key, .int .i64 0, .int .i64 m] w fun e w' => e = .returned (.int .i64 (hashN key 0 m : Nat)) ∧ w = w' := by
  have i0 : ∀ w, (Instr.index 81 (.agg #[.int .i64 7, .int .i64 11, .int .i64 13, .int .i64 17]) (.int .i64 0)).run Tryd.prog w = .ok (.int .i64 7) w := fun _ => by kernel_rfl
  have i1 : ∀ w, (Instr.index 81 (.agg #[.int .i64 3, .int .i64 5, .int .i64 1, .int .i64 9]) (.int .i64 0)).run Tryd.prog w = .ok (.int .i64 3) w := fun _ => by kernel_rfl
  obtain ⟨q1, q2⟩ := quot_bd key m h1 h2
  have HN := Lib.hid (hashN_int key 0 m (by omega))
  go_enter Tryd.func37, Tryd.ntmps37
  go_wp2
  go_ret
  exact ⟨ret_int (by rw [HN.out]; simp [hashA, hashB]), rfl⟩

set_option maxRecDepth 100000 in
theorem hash_1 (key : Int) (m : Nat) (w : World) (h1 : 0 ≤ key) (h2 : key ≤ 1000000) (h3 : 1 ≤ (m : Int)) (h4 : (m : Int) ≤ 128) :
    Calls Tryd.prog 37 #[.int .i64 key, .int .i64 1, .int .i64 m] w fun e w' => e = .returned (.int .i64 (hashN key 1 m : Nat)) ∧ w = w' := by
  have i0 : ∀ w, (Instr.index 81 (.agg #[.int .i64 7, .int .i64 11, .int .i64 13, .int .i64 17]) (.int .i64 1)).run Tryd.prog w = .ok (.int .i64 11) w := fun _ => by kernel_rfl
  have i1 : ∀ w, (Instr.index 81 (.agg #[.int .i64 3, .int .i64 5, .int .i64 1, .int .i64 9]) (.int .i64 1)).run Tryd.prog w = .ok (.int .i64 5) w := fun _ => by kernel_rfl
  obtain ⟨q1, q2⟩ := quot_bd key m h1 h2
  have HN := Lib.hid (hashN_int key 1 m (by omega))
  go_enter Tryd.func37, Tryd.ntmps37
  go_wp2
  go_ret
  exact ⟨ret_int (by rw [HN.out]; simp [hashA, hashB]), rfl⟩

set_option maxRecDepth 100000 in
theorem hash_2 (key : Int) (m : Nat) (w : World) (h1 : 0 ≤ key) (h2 : key ≤ 1000000) (h3 : 1 ≤ (m : Int)) (h4 : (m : Int) ≤ 128) :
    Calls Tryd.prog 37 #[.int .i64 key, .int .i64 2, .int .i64 m] w fun e w' => e = .returned (.int .i64 (hashN key 2 m : Nat)) ∧ w = w' := by
  have i0 : ∀ w, (Instr.index 81 (.agg #[.int .i64 7, .int .i64 11, .int .i64 13, .int .i64 17]) (.int .i64 2)).run Tryd.prog w = .ok (.int .i64 13) w := fun _ => by kernel_rfl
  have i1 : ∀ w, (Instr.index 81 (.agg #[.int .i64 3, .int .i64 5, .int .i64 1, .int .i64 9]) (.int .i64 2)).run Tryd.prog w = .ok (.int .i64 1) w := fun _ => by kernel_rfl
  obtain ⟨q1, q2⟩ := quot_bd key m h1 h2
  have HN := Lib.hid (hashN_int key 2 m (by omega))
  go_enter Tryd.func37, Tryd.ntmps37
  go_wp2
  go_ret
  exact ⟨ret_int (by rw [HN.out]; simp [hashA, hashB]), rfl⟩

set_option maxRecDepth 100000 in
theorem hash_3 (key : Int) (m : Nat) (w : World) (h1 : 0 ≤ key) (h2 : key ≤ 1000000) (h3 : 1 ≤ (m : Int)) (h4 : (m : Int) ≤ 128) :
    Calls Tryd.prog 37 #[.int .i64 key, .int .i64 3, .int .i64 m] w fun e w' => e = .returned (.int .i64 (hashN key 3 m : Nat)) ∧ w = w' := by
  have i0 : ∀ w, (Instr.index 81 (.agg #[.int .i64 7, .int .i64 11, .int .i64 13, .int .i64 17]) (.int .i64 3)).run Tryd.prog w = .ok (.int .i64 17) w := fun _ => by kernel_rfl
  have i1 : ∀ w, (Instr.index 81 (.agg #[.int .i64 3, .int .i64 5, .int .i64 1, .int .i64 9]) (.int .i64 3)).run Tryd.prog w = .ok (.int .i64 9) w := fun _ => by kernel_rfl
  obtain ⟨q1, q2⟩ := quot_bd key m h1 h2
  have HN := Lib.hid (hashN_int key 3 m (by omega))
  go_enter Tryd.func37, Tryd.ntmps37
  go_wp2
  go_ret
  exact ⟨ret_int (by rw [HN.out]; simp [hashA, hashB]), rfl⟩

theorem hash_any (key : Int) (k m : Nat) (w : World) (hk : k < 4) (h1 : 0 ≤ key) (h2 : key ≤ 1000000) (h3 : 1 ≤ (m : Int)) (h4 : (m : Int) ≤ 128) :
    Calls Tryd.prog 37 #[.int .i64 key, .int .i64 k, .int .i64 m] w fun e w' => e = .returned (.int .i64 (hashN key k m : Nat)) ∧ w = w' := by
  match k, hk with
  | 0, _ => exact hash_0 key m w h1 h2 h3 h4
  | 1, _ => exact hash_1 key m w h1 h2 h3 h4
  | 2, _ => exact hash_2 key m w h1 h2 h3 h4
  | 3, _ => exact hash_3 key m w h1 h2 h3 h4
end Go.Proofs.YtnpokcjdnlmheaaDoor
