/-
  book.sum, strconv.Itoa, by their contracts.
-/
import Derived.Test.YticckfioggeaeaaGreatDoorBookStr
import Derived.Test.YticckfioggeaeaaGreatDoorBookParse
import Derived.Test.YticckfioggeaeaaGreatDoorShelf
import Derived.Lib.SmallJoins
import Derived.Lib.AppendIntMem
namespace Go.Proofs.YticckfioggeaeaaGreatDoor
open Go.RowKit

/-- The table that strconv.Itoa reads. -/
def Tab (w : World) : Prop := Lib.TabIs Tryz.prog w "internal/strconv.uint64pow10" .u64 Lib.pow10Tab
theorem global_tab : Tryz.prog.globalNamed "internal/strconv.uint64pow10" = some 4 := by kernel_rfl
theorem Tab.below {w w' : World} {B : Nat} (h : Tab w) (hb : Below B w w') (hB : w.heap.size ≤ B) : Tab w' := Joins.tab_stays global_tab h hb hB
theorem itoa_any (n : Int) (h0 : -9223372036854775808 ≤ n) (h1 : n ≤ 9223372036854775807) (w : World) (ht : Tab w) :
    Calls Tryz.prog 75 #[.int .i64 n] w fun e w' => e = .returned (.string ⟨(Lib.itoa n).toArray⟩) ∧ Below w.heap.size w w' :=
  (Tryz.strconv_Itoa n h0 h1 w ht).mono fun e w' ⟨he, k, os, hw⟩ => ⟨he, by rw [hw]; exact Lib.below_grow _ w (Nat.le_refl _) k os⟩

theorem bytes_below (w : World) (e : TypeId) (s : ByteArray) : Below w.heap.size w (Lib.bytesWorld w e s) := by
  refine ⟨?_, ?_, ?_, by rw [Lib.bytesWorld_size]; omega, fun k hk => Lib.bytesWorld_at_old w e s k hk⟩
  all_goals (unfold Lib.bytesWorld World.freeze; split <;> rfl)
theorem wsum_snoc (l : List UInt8) (k : Nat) (hk : k < l.length) : wsum 0 (l.take (k + 1)) = wsum 0 (l.take k) + (k + 1) * l[k].toNat := by
  rw [List.take_succ_eq_append_getElem hk, wsum_append, List.length_take, Nat.min_eq_left (by omega)]
  simp [wsum]
theorem wsum_bd (l : List UInt8) (h : l.length ≤ 100000) (k : Nat) : wsum 0 (l.take k) ≤ 2550000000000 := by
  have h1 := wsum_le 255 (l.take k) 0 (fun c _ => by have := c.toNat_lt; omega)
  have h2 : (l.take k).length ≤ 100000 := by rw [List.length_take]; omega
  have h3 : (0 + (l.take k).length) * (l.take k).length ≤ 100000 * 100000 := Nat.mul_le_mul (by omega) h2
  have h4 := Nat.mul_le_mul_right 255 h3
  omega
set_option maxHeartbeats 1000000 in
set_option maxRecDepth 100000 in
theorem sum_any (s : ByteArray) (w : World) (hs : s.size ≤ 100000) :
    Calls Tryz.prog 60 #[.string s] w fun e w' => e = .returned (.int .i64 (sumB s.data.toList : Nat)) ∧ Below w.heap.size w w' := by
  have hcv := fun W => Lib.run_convert_string_bytes (P := Tryz.prog) W 9 41 5 s Tryz.underlying9 Tryz.underlying41 Tryz.underlying5
  have hsz := Lib.size_eq s
  obtain ⟨n, hn⟩ : ∃ n, n = s.size := ⟨_, rfl⟩
  have HBW := Lib.hid (bytes_below w 5 s)
  have HC : Hid (∀ j, j < n → (Lib.bytesWorld w 5 s).cell? ⟨w.heap.size, j, none⟩ = some (.int .u8 (s.data.toList.getD j 0).toNat)) := Lib.hid fun j hj => Lib.bytesWorld_cell w _ s j (by omega)
  have HL : Hid (s.data.toList.length = n) := Lib.hid (by omega)
  have HW : Hid (∀ k, wsum 0 (s.data.toList.take k) ≤ 2550000000000) := Lib.hid fun k => wsum_bd _ (by omega) k
  have hn5 : n ≤ 100000 := by omega
  have HN := Lib.hid hn
  clear hsz hs
  go_enter Tryz.func60, Tryz.ntmps60
  go_wp2
  rw [← HN.out]
  clear hcv hn
  generalize Lib.bytesWorld w 5 s = w1 at HBW HC ⊢
  go_loop [3, 9] (fun t i => ∃ k : Nat, k ≤ n ∧ i = .int .i64 k ∧ t = .int .i64 (wsum 0 (s.data.toList.take k) : Nat)) (fun _ i => n - (intOf i).toNat)
  case atStart => exact ⟨0, Nat.zero_le _, rfl, rfl⟩
  case round =>
    obtain ⟨k, hk, rfl, rfl⟩ := hrel
    have hw := HW.out k
    by_cases hlt : k < n
    · have hc := HC.out k hlt
      have hst := wsum_snoc s.data.toList k (by rw [HL.out]; exact hlt)
      have hgd : s.data.toList.getD k 0 = s.data.toList[k]'(by rw [HL.out]; exact hlt) := by rw [List.getD_eq_getElem?_getD, List.getElem?_eq_getElem (by rw [HL.out]; exact hlt), Option.getD_some]
      rw [hgd] at hc
      obtain ⟨c, hcc⟩ : ∃ c, c = (s.data.toList[k]'(by rw [HL.out]; exact hlt)).toNat := ⟨_, rfl⟩
      have hc255 : c < 256 := by rw [hcc]; exact UInt8.toNat_lt _
      rw [← hcc] at hc hst
      obtain ⟨t, ht⟩ : ∃ t, t = wsum 0 (s.data.toList.take k) := ⟨_, rfl⟩
      rw [← ht] at hst hw ⊢
      obtain ⟨m, hm⟩ : ∃ m, m = (k + 1) * c := ⟨_, rfl⟩
      have hmb : m ≤ 25600000 := by rw [hm]; exact Nat.le_trans (Nat.mul_le_mul (show k + 1 ≤ 100000 by omega) (show c ≤ 256 by omega)) (by decide)
      rw [← hm] at hst
      have HST := Lib.hid hst
      have hmi : ((k : Int) + 1) * (c : Int) = (m : Int) := by rw [hm]; simp
      clear hst ht hcc hgd hm
      have hki : (k : Int) < (n : Int) := by omega
      have hk0 : (0 : Int) ≤ (k : Int) := by omega
      have hwm : IntKind.i64.wrap (m : Int) = (m : Int) := IntWalk.i64_in _ (by omega)
      have hwt : IntKind.i64.wrap ((t : Int) + (m : Int)) = (t : Int) + (m : Int) := IntWalk.i64_in _ (by omega)
      go_wp2
      go_round
      case rel => exact ⟨k + 1, hlt, by go_num, congrArg (Value.int .i64) (by rw [HST.out]; simp)⟩
      case measure => simp [intOf]; omega
    · obtain rfl : k = n := by omega
      have HT : Hid (sumB s.data.toList = wsum 0 (s.data.toList.take k) % 9973) := Lib.hid (by unfold sumB; rw [List.take_of_length_le (by rw [HL.out]; omega)])
      obtain ⟨t, ht⟩ : ∃ t, t = wsum 0 (s.data.toList.take k) := ⟨_, rfl⟩
      rw [← ht] at HT hw ⊢
      clear ht
      go_wp2
      go_ret
      exact ⟨ret_int (by rw [HT.out]; omega), HBW.out⟩
end Go.Proofs.YticckfioggeaeaaGreatDoor
