/-
  Several texts in one (merged by wip/mergefix.py): BookSum, BookNumber.
-/
import Derived.Test.YticckfioggeaeaaGreatDoorGD
import Derived.Test.YticckfioggeaeaaGreatDoorGB
import Derived.Test.YticckfioggeaeaaGreatDoorShelf
import Derived.Lib.SmallJoins
import Derived.Lib.AppendIntMem
import Derived.Deep.DeepCutAuto
set_option linter.unusedVariables false
set_option linter.unusedSimpArgs false
set_option linter.unnecessarySimpa false
/-
  book.sum, strconv.Itoa, by their contracts.
-/
namespace Go.Proofs.YticckfioggeaeaaGreatDoor
open Go.RowKit

/-- The table that strconv.Itoa reads. -/
def Tab (w : World) : Prop := Lib.TabIs Tryz.prog w "internal/strconv.uint64pow10" .u64 Lib.pow10Tab
theorem global_tab : Tryz.prog.globalNamed "internal/strconv.uint64pow10" = some 4 := by kernel_rfl
theorem Tab.below {w w' : World} {B : Nat} (h : Tab w) (hb : Below B w w') (hB : w.heap.size ≤ B) : Tab w' := Joins.tab_stays global_tab h hb hB
theorem itoa_any (n : Int) (h0 : -9223372036854775808 ≤ n) (h1 : n ≤ 9223372036854775807) (w : World) (ht : Tab w) :
    Calls Tryz.prog 75 #[.int .i64 n] w fun e w' => e = .returned (.string ⟨(Lib.itoa n).toArray⟩) ∧ Below w.heap.size w w' :=
  (Tryz.strconv_Itoa n h0 h1 w ht).mono fun e w' ⟨he, k, os, hw⟩ => ⟨he, by rw [hw]; exact Lib.below_grow _ w (Nat.le_refl _) k os⟩

theorem bytes_below (w : World) (e : TypeId) (s : ByteArray) : Below w.heap.size w (Lib.bytesWorld w e s) := by
  refine ⟨?_, ?_, ?_, by rw [Lib.bytesWorld_size]; omega, fun k hk => Lib.bytesWorld_at_old w e s k hk⟩
  all_goals (unfold Lib.bytesWorld World.freeze; split <;> rfl)
theorem wsum_snoc (l : List UInt8) (k : Nat) (hk : k < l.length) : wsum 0 (l.take (k + 1)) = wsum 0 (l.take k) + (k + 1) * l[k].toNat := by
  rw [List.take_succ_eq_append_getElem hk, wsum_append, List.length_take, Nat.min_eq_left (by omega)]
  simp [wsum]
theorem wsum_bd (l : List UInt8) (h : l.length ≤ 100000) (k : Nat) : wsum 0 (l.take k) ≤ 2550000000000 := by
  have h1 := wsum_le 255 (l.take k) 0 (fun c _ => by have := c.toNat_lt; omega)
  have h2 : (l.take k).length ≤ 100000 := by rw [List.length_take]; omega
  have h3 : (0 + (l.take k).length) * (l.take k).length ≤ 100000 * 100000 := Nat.mul_le_mul (by omega) h2
  have h4 := Nat.mul_le_mul_right 255 h3
  omega
set_option maxHeartbeats 1000000 in
set_option maxRecDepth 100000 in
theorem sum_any (s : ByteArray) (w : World) (hs : s.size ≤ 100000) :
    Calls Tryz.prog 60 #[.string s] w fun e w' => e = .returned (.int .i64 (sumB s.data.toList : Nat)) ∧ Below w.heap.size w w' := by
  have hcv := fun W => Lib.run_convert_string_bytes (P := Tryz.prog) W 9 41 5 s Tryz.underlying9 Tryz.underlying41 Tryz.underlying5
  have hsz := Lib.size_eq s
  obtain ⟨n, hn⟩ : ∃ n, n = s.size := ⟨_, rfl⟩
  have HBW := Lib.hid (bytes_below w 5 s)
  have HC : Hid (∀ j, j < n → (Lib.bytesWorld w 5 s).cell? ⟨w.heap.size, j, none⟩ = some (.int .u8 (s.data.toList.getD j 0).toNat)) := Lib.hid fun j hj => Lib.bytesWorld_cell w _ s j (by omega)
  have HL : Hid (s.data.toList.length = n) := Lib.hid (by omega)
  have HW : Hid (∀ k, wsum 0 (s.data.toList.take k) ≤ 2550000000000) := Lib.hid fun k => wsum_bd _ (by omega) k
  have hn5 : n ≤ 100000 := by omega
  have HN := Lib.hid hn
  clear hsz hs
  go_enter Tryz.func60, Tryz.ntmps60
  go_wp2
  rw [← HN.out]
  clear hcv hn
  generalize Lib.bytesWorld w 5 s = w1 at HBW HC ⊢
  go_loop [3, 9] (fun t i => ∃ k : Nat, k ≤ n ∧ i = .int .i64 k ∧ t = .int .i64 (wsum 0 (s.data.toList.take k) : Nat)) (fun _ i => n - (intOf i).toNat)
  case atStart => exact ⟨0, Nat.zero_le _, rfl, rfl⟩
  case round =>
    obtain ⟨k, hk, rfl, rfl⟩ := hrel
    have hw := HW.out k
    by_cases hlt : k < n
    · have hc := HC.out k hlt
      have hst := wsum_snoc s.data.toList k (by rw [HL.out]; exact hlt)
      have hgd : s.data.toList.getD k 0 = s.data.toList[k]'(by rw [HL.out]; exact hlt) := by rw [List.getD_eq_getElem?_getD, List.getElem?_eq_getElem (by rw [HL.out]; exact hlt), Option.getD_some]
      rw [hgd] at hc
      obtain ⟨c, hcc⟩ : ∃ c, c = (s.data.toList[k]'(by rw [HL.out]; exact hlt)).toNat := ⟨_, rfl⟩
      have hc255 : c < 256 := by rw [hcc]; exact UInt8.toNat_lt _
      rw [← hcc] at hc hst
      obtain ⟨t, ht⟩ : ∃ t, t = wsum 0 (s.data.toList.take k) := ⟨_, rfl⟩
      rw [← ht] at hst hw ⊢
      obtain ⟨m, hm⟩ : ∃ m, m = (k + 1) * c := ⟨_, rfl⟩
      have hmb : m ≤ 25600000 := by rw [hm]; exact Nat.le_trans (Nat.mul_le_mul (show k + 1 ≤ 100000 by omega) (show c ≤ 256 by omega)) (by decide)
      rw [← hm] at hst
      have HST := Lib.hid hst
      have hmi : ((k : Int) + 1) * (c : Int) = (m : Int) := by rw [hm]; simp
      clear hst ht hcc hgd hm
      have hki : (k : Int) < (n : Int) := by omega
      have hk0 : (0 : Int) ≤ (k : Int) := by omega
      have hwm : IntKind.i64.wrap (m : Int) = (m : Int) := IntWalk.i64_in _ (by omega)
      have hwt : IntKind.i64.wrap ((t : Int) + (m : Int)) = (t : Int) + (m : Int) := IntWalk.i64_in _ (by omega)
      go_wp2
      go_round
      case rel => exact ⟨k + 1, hlt, by go_num, congrArg (Value.int .i64) (by rw [HST.out]; simp)⟩
      case measure => simp [intOf]; omega
    · obtain rfl : k = n := by omega
      have HT : Hid (sumB s.data.toList = wsum 0 (s.data.toList.take k) % 9973) := Lib.hid (by unfold sumB; rw [List.take_of_length_le (by rw [HL.out]; omega)])
      obtain ⟨t, ht⟩ : ∃ t, t = wsum 0 (s.data.toList.take k) := ⟨_, rfl⟩
      rw [← ht] at HT hw ⊢
      clear ht
      go_wp2
      go_ret
      exact ⟨ret_int (by rw [HT.out]; omega), HBW.out⟩
end Go.Proofs.YticckfioggeaeaaGreatDoor

/-
  book.number, by its contract.
-/
set_option linter.unusedVariables false
namespace Go.Proofs.YticckfioggeaeaaGreatDoor
open Go.RowKit

/-- The package-level errors that strconv hands back are laid. -/
def Errs (w : World) : Prop := (∃ tp p, w.var? Tryz.prog "strconv.ErrSyntax" = some #[.iface tp p]) ∧ ∃ tp p, w.var? Tryz.prog "strconv.ErrRange" = some #[.iface tp p]
theorem var_below {w w' : World} {B : Nat} {nm : String} {v : Value} (h : w.var? Tryz.prog nm = some #[v]) (hb : Below B w w') (hB : ∀ g, Tryz.prog.globalNamed nm = some g → g < B) : w'.var? Tryz.prog nm = some #[v] := by
  unfold World.var? at *
  cases hg : Tryz.prog.globalNamed nm with
  | none => rw [hg] at h; simp at h
  | some g =>
    rw [hg] at h
    simp only [Option.bind_some] at h ⊢
    rw [hb.block g (hB g hg)]
    exact h
theorem global_syn : Tryz.prog.globalNamed "strconv.ErrSyntax" = some 2 := by kernel_rfl
theorem global_rng : Tryz.prog.globalNamed "strconv.ErrRange" = some 3 := by kernel_rfl
theorem var_lt {w : World} {nm : String} {g : Nat} {cs : Array Value} (h : w.var? Tryz.prog nm = some cs) (hg : Tryz.prog.globalNamed nm = some g) : g < w.heap.size := by
  unfold World.var? at h
  rw [hg] at h
  simp only [Option.bind_some] at h
  rcases Nat.lt_or_ge g w.heap.size with h1 | h1
  · exact h1
  · rw [Array.getElem?_eq_none h1] at h; simp at h
theorem Errs.below {w w' : World} {B : Nat} (h : Errs w) (hb : Below B w w') (hB : w.heap.size ≤ B) : Errs w' := by
  obtain ⟨⟨t1, p1, h1⟩, ⟨t2, p2, h2⟩⟩ := h
  have l1 := var_lt h1 global_syn
  have l2 := var_lt h2 global_rng
  exact ⟨⟨t1, p1, var_below h1 hb (fun g hg => by rw [global_syn] at hg; injection hg with hg; omega)⟩, ⟨t2, p2, var_below h2 hb (fun g hg => by rw [global_rng] at hg; injection hg with hg; omega)⟩⟩
def AtoiPost (w : World) (l : List UInt8) (e : Ending) (w' : World) : Prop :=
  ((∃ v, Lib.atoiAll l = .ok v ∧ e = .returned (.tuple #[.int .i64 v, .nilIface])) ∨ ((∀ v, Lib.atoiAll l ≠ .ok v) ∧ ∃ v tp N, e = .returned (.tuple #[.int .i64 v, .iface tp (.pointer (some ⟨N, 0, none⟩))]))) ∧ Below w.heap.size w w'
theorem atoi_any (l : List UInt8) (hl : l.length ≤ 100000) (w : World) (he : Errs w) : Calls Tryz.prog 86 #[.string ⟨l.toArray⟩] w (AtoiPost w l) := by
  have hsz : (⟨l.toArray⟩ : ByteArray).size = l.length := by simp [ByteArray.size]
  obtain ⟨⟨t1, p1, h1⟩, ⟨t2, p2, h2⟩⟩ := he
  have hd : (⟨l.toArray⟩ : ByteArray).data.toList = l := by simp
  cases ha : Lib.atoiAll l with
  | ok v =>
    refine (Tryz.strconv_Atoi_ok ⟨l.toArray⟩ (by omega) v (by rw [hd]; exact ha) w).mono ?_
    rintro e w' ⟨rfl, rfl | ⟨t, rfl⟩⟩
    · exact ⟨.inl ⟨v, ha, rfl⟩, Below.refl _ _⟩
    · exact ⟨.inl ⟨v, ha, rfl⟩, bytes_below w _ t⟩
  | range =>
    refine (Tryz.strconv_Atoi_range_var ⟨l.toArray⟩ (by omega) (by rw [hd]; exact ha) t2 p2 w h2).mono ?_
    rintro e w' ⟨N, rfl, _, _, hb⟩
    exact ⟨.inr ⟨fun v hv => (by rw [ha] at hv; cases hv), _, _, _, rfl⟩, hb⟩
  | _ =>
    refine (Tryz.strconv_Atoi_syntax_var ⟨l.toArray⟩ (by omega) (fun v h => by rw [hd, ha] at h; cases h) (fun h => by rw [hd, ha] at h; cases h) t1 p1 w h1).mono ?_
    rintro e w' ⟨N, rfl, _, _, hb⟩
    exact ⟨.inr ⟨fun v hv => (by rw [ha] at hv; cases hv), _, _, _, rfl⟩, hb⟩
def NumberPost (w : World) (l : List UInt8) (e : Ending) (w' : World) : Prop := ∃ v, e = .returned (.tuple #[.int .i64 v, .bool (numberM l).isSome]) ∧ (∀ n, numberM l = some n → v = n) ∧ Below w.heap.size w w'
theorem bytes_inj {a b : List UInt8} (h : (⟨a.toArray⟩ : ByteArray) = ⟨b.toArray⟩) : a = b := by
  injection h with h
  simpa using h
theorem atoi_bounds {l : List UInt8} {v : Int} (h : Lib.atoiAll l = .ok v) : -9223372036854775808 ≤ v ∧ v ≤ 9223372036854775807 := by
  unfold Lib.atoiAll at h
  split at h
  · cases h
  · simp only at h
    split at h
    · cases h
    · cases h
    · split at h
      · cases h
      · split at h
        · cases h
        · injection h with h
          split at h <;> omega
theorem ret_nb {v : Int} {b c : Bool} (h : b = c) : Ending.returned (.tuple #[.int .i64 v, .bool b]) = .returned (.tuple #[.int .i64 v, .bool c]) := by rw [h]
set_option maxHeartbeats 1000000 in
set_option maxRecDepth 100000 in
theorem number_any (l : List UInt8) (hl : l.length ≤ 100000) (w : World) (he : Errs w) (ht : Tab w) : Calls Tryz.prog 59 #[.string ⟨l.toArray⟩] w (NumberPost w l) := by
  have HE := Lib.hid he; have HT := Lib.hid ht
  clear he ht
  go_enter Tryz.func59, Tryz.ntmps59
  go_wp2_with fail
  refine (atoi_any l hl _ HE.out).mono ?_
  rintro e w1 ⟨hc, hb⟩
  have HB := Lib.hid hb
  have HT1 := Lib.hid (HT.out.below hb (Nat.le_refl _))
  clear hb
  rcases hc with ⟨v, ha, rfl⟩ | ⟨ha, v, tp, N, rfl⟩
  · have hbd := atoi_bounds ha
    have HN := Lib.hid (numberM_atoi ha)
    clear ha
    by_cases h0 : 0 ≤ v
    · by_cases hs : Lib.itoa v = l
      · have HR : Hid (numberM l = some v) := Lib.hid (by rw [HN.out, if_pos ⟨h0, hs⟩])
        clear HN
        go_wp2_with fail
        refine (itoa_any v (by omega) (by omega) _ HT1.out).mono ?_
        rintro e w2 ⟨rfl, hb2⟩
        have HB2 := Lib.hid hb2
        clear hb2
        rw [hs]
        go_wp2
        go_ret2
        exact ⟨v, ret_nb (by rw [HR.out]; rfl), fun n hn => (by rw [HR.out] at hn; exact Option.some.inj hn), HB.out.trans (HB2.out.mono HB.out.size)⟩
      · have HR : Hid (numberM l = none) := Lib.hid (by rw [HN.out, if_neg (fun h => hs h.2)])
        have hse : (Lib.itoa v == l) = false := beq_eq_false_iff_ne.2 hs
        clear HN hs
        go_wp2_with fail
        refine (itoa_any v (by omega) (by omega) _ HT1.out).mono ?_
        rintro e w2 ⟨rfl, hb2⟩
        have HB2 := Lib.hid hb2
        clear hb2
        go_wp2
        go_ret2
        exact ⟨v, ret_nb (by rw [HR.out]; rfl), fun n hn => (by rw [HR.out] at hn; cases hn), HB.out.trans (HB2.out.mono HB.out.size)⟩
    · have HR : Hid (numberM l = none) := Lib.hid (by rw [HN.out, if_neg (fun h => h0 h.1)])
      clear HN
      go_wp2
      go_ret2
      exact ⟨v, ret_nb (by rw [HR.out]; rfl), fun n hn => (by rw [HR.out] at hn; cases hn), HB.out⟩
  · have HR : Hid (numberM l = none) := Lib.hid (numberM_atoi_no ha)
    clear ha
    go_wp2
    go_ret2
    exact ⟨v, ret_nb (by rw [HR.out]; rfl), fun n hn => (by rw [HR.out] at hn; cases hn), HB.out⟩
end Go.Proofs.YticckfioggeaeaaGreatDoor
