/-
  strings.Split, strings.LastIndexByte, strings.CutSuffix in the plain words.
-/
import Derived.Test.YticckfioggeaeaaGreatDoorGE
import Derived.Test.YticckfioggeaeaaGreatDoorShelf
set_option linter.unusedVariables false
set_option linter.unusedSimpArgs false
set_option linter.unnecessarySimpa false
set_option linter.unusedVariables false
namespace Go.Proofs.YticckfioggeaeaaGreatDoor
open Go.RowKit

theorem idx_split (c : UInt8) : ∀ l : List UInt8, (Lib.indexByte l c = -1 ∧ c ∉ l) ∨ ∃ a r, l = a ++ c :: r ∧ c ∉ a ∧ Lib.indexByte l c = (a.length : Nat)
  | [] => .inl ⟨rfl, by simp⟩
  | b :: l => by
    by_cases e : b = c
    · exact .inr ⟨[], l, by rw [e]; rfl, by simp, by rw [Lib.indexByte, if_pos (beq_iff_eq.2 e)]; rfl⟩
    · have e' : (b == c) = false := beq_eq_false_iff_ne.2 e
      rcases idx_split c l with ⟨h1, h2⟩ | ⟨a, r, rfl, h2, h3⟩
      · refine .inl ⟨?_, by simp [h2, show ¬ c = b from fun h => e h.symm]⟩
        rw [Lib.indexByte, e', h1]; simp
      · refine .inr ⟨b :: a, r, rfl, by simp [h2, show ¬ c = b from fun h => e h.symm], ?_⟩
        rw [Lib.indexByte, e', h3]
        have : (((a.length : Nat) : Int) == -1) = false := beq_eq_false_iff_ne.2 (by omega)
        simp [this]
theorem splitK_cut (c : UInt8) : ∀ (k : Nat) (l : List UInt8), l.count c = k → Lib.splitK [c] 0 k l = cutAt c l
  | 0, l, h => by
    have hn : c ∉ l := List.count_eq_zero.1 h
    rw [cutAt_no hn]; rfl
  | k + 1, l, h => by
    rcases idx_split c l with ⟨h1, h2⟩ | ⟨a, r, rfl, h2, h3⟩
    · rw [List.count_eq_zero.2 h2] at h; omega
    · have hr : r.count c = k := by
        rw [List.count_append, List.count_cons_self, List.count_eq_zero.2 h2] at h; omega
      rw [Lib.splitK, Lib.index_one, h3, if_neg (by simp), cutAt_app r h2, ← splitK_cut c k r hr]
      have e1 : (((a.length : Nat) : Int).toNat + 0) = a.length := by omega
      have e2 : (((a.length : Nat) : Int).toNat + [c].length) = a.length + 1 := by simp
      rw [e1, e2]
      congr 1
      · rw [List.take_left]
      · congr 1
        rw [show a ++ c :: r = (a ++ [c]) ++ r by simp, show a.length + 1 = (a ++ [c]).length by simp, List.drop_left]
abbrev strV (l : List UInt8) : Value := .string ⟨l.toArray⟩
theorem split_cells (c : UInt8) (l : List UInt8) : (Lib.splitB ⟨#[c]⟩ 0 (Lib.countB ⟨l.toArray⟩ ⟨#[c]⟩) ⟨l.toArray⟩).map Value.string = (cutAt c l).map strV := by
  have hc : Lib.countB ⟨l.toArray⟩ ⟨#[c]⟩ = l.count c := Lib.count_one c l
  have h1 : (Lib.splitB ⟨#[c]⟩ 0 (l.count c) ⟨l.toArray⟩).map (·.data.toList) = cutAt c l := (Lib.splitB_data ⟨#[c]⟩ 0 (l.count c) ⟨l.toArray⟩).trans (splitK_cut c _ l rfl)
  rw [hc, ← h1, List.map_map]
  refine List.map_congr_left fun x _ => ?_
  simp [strV]
def SplitPost (w : World) (l : List UInt8) (e : Ending) (w' : World) : Prop := e = .returned (.slice (some ⟨w.heap.size, 0, none⟩) (cutAt 32 l).length (cutAt 32 l).length) ∧ w' = w.alloc (.cells ((cutAt 32 l).map strV).toArray 9)
set_option maxHeartbeats 1000000 in
theorem split_any (l : List UInt8) (hl : l.length ≤ 100000) (w : World) : Calls Tryz.prog 61 #[.string ⟨l.toArray⟩, .string ⟨#[32]⟩] w (SplitPost w l) := by
  have hsz : (⟨l.toArray⟩ : ByteArray).size = l.length := by simp [ByteArray.size]
  have h1 : 1 ≤ (⟨#[32]⟩ : ByteArray).size := by decide
  have hlen := Lib.splitB_all ⟨#[32]⟩ h1 0 _ ⟨l.toArray⟩ rfl
  have hce := split_cells 32 l
  have hcn : Lib.countB ⟨l.toArray⟩ ⟨#[32]⟩ + 1 = (cutAt 32 l).length := by rw [← hlen, ← List.length_map (f := Value.string), hce, List.length_map]
  have c := Any.strings_genSplit_core (P := Tryz.prog) (ρ := Tryz.laysM146_ren) { Tryz.laysM146 with } Tryz.laysM146.i9 ⟨l.toArray⟩ ⟨#[32]⟩ 0 (-1) (Lib.countB ⟨l.toArray⟩ ⟨#[32]⟩ + 1) w (by omega) h1 (Nat.zero_le _)
    (fun x cs hx => by
      refine (Any.strings_Index_one (P := Tryz.prog) (ρ := Tryz.laysM146_ren) { Tryz.laysM146 with } x 32 _).mono ?_
      rintro e w' ⟨rfl, rfl⟩
      exact ⟨by rw [show Lib.indexB x ⟨#[32]⟩ = Lib.indexByte x.data.toList 32 from Lib.index_one _ _], rfl⟩)
    (by
      refine (Any.strings_Count_one (P := Tryz.prog) (ρ := Tryz.laysM146_ren) { Tryz.laysM146 with } ⟨l.toArray⟩ 32 w).mono ?_
      rintro e w' ⟨rfl, rfl⟩
      exact ⟨by rw [show Lib.countB ⟨l.toArray⟩ ⟨#[32]⟩ = l.count 32 from Lib.count_one 32 l]; simp [Lib.countByte], rfl⟩)
    (by decide) (by decide) (by rw [if_pos (by decide)]; have := Lib.countB_le ⟨#[32]⟩ h1 _ ⟨l.toArray⟩ (Nat.le_refl _); omega)
  rw [Nat.add_sub_cancel, hlen] at c
  have e2 : Lib.cellsOf (Lib.splitB ⟨#[32]⟩ 0 (Lib.countB ⟨l.toArray⟩ ⟨#[32]⟩) ⟨l.toArray⟩) (Lib.countB ⟨l.toArray⟩ ⟨#[32]⟩ + 1) = ((cutAt 32 l).map strV).toArray := by rw [← hlen, Lib.cellsOf_full, hce]
  rw [e2, hcn] at c
  have C := Lib.hid c
  clear c e2 hcn hce hlen
  go_enter Tryz.func61, Tryz.ntmps61
  go_wp2_with fail
  refine C.out.mono ?_
  rintro e w' ⟨rfl, rfl⟩
  go_wp2
  go_ret
  exact ⟨rfl, rfl⟩

/-! ### LastIndexByte -/
theorem last_split (l : List UInt8) : (lastCut l = none ∧ Lib.lastIndexByte (⟨l.toArray⟩ : ByteArray) 32 = -1) ∨ ∃ a b, l = a ++ 32 :: b ∧ lastCut l = some (a, b) ∧ Lib.lastIndexByte (⟨l.toArray⟩ : ByteArray) 32 = (a.length : Nat) := by
  have hsz : (⟨l.toArray⟩ : ByteArray).size = l.length := by simp [ByteArray.size]
  have hat : ∀ (j : Nat) (h : j < l.length), (⟨l.toArray⟩ : ByteArray).data[j]! = l[j] := fun j h => by simp [h]
  have hno : ∀ x : UInt8, ((x.toNat : Nat) : Int) ≠ 32 → x ≠ 32 := fun x h e => h (by rw [e]; rfl)
  rcases Lib.lastIndexByte_spec (⟨l.toArray⟩ : ByteArray) 32 with ⟨h1, h2⟩ | ⟨i, hi, h1, h2, h3⟩
  · refine .inl ⟨lastCut_no fun hm => ?_, h1⟩
    obtain ⟨j, hj, e⟩ := List.getElem_of_mem hm
    have := h2 j (by omega)
    rw [hat j hj] at this
    exact hno _ this e
  · have hil : i < l.length := by omega
    rw [hat i hil] at h2
    have h32 : l[i] = 32 := UInt8.toNat_inj.1 (by
      have : (32 : UInt8).toNat = 32 := rfl
      omega)
    have hl : l = l.take i ++ 32 :: l.drop (i + 1) := by
      rw [← h32, List.getElem_cons_drop, List.take_append_drop]
    refine .inr ⟨l.take i, l.drop (i + 1), hl, ?_, by rw [h1, List.length_take, Nat.min_eq_left (by omega)]⟩
    conv => lhs; rw [hl]
    refine lastCut_mk _ _ fun hm => ?_
    obtain ⟨j, hj, e⟩ := List.getElem_of_mem hm
    rw [List.getElem_drop] at e
    rw [List.length_drop] at hj
    have := h3 (i + 1 + j) (by omega) (by omega)
    rw [hat _ (by omega)] at this
    exact hno _ this e
/-! ### CutSuffix -/
theorem cut_suf (x : List UInt8) : (Lib.hasSuffix (x ++ [10]) [10] = true) ∧ Lib.trimSuffix (x ++ [10]) [10] = x := by
  have h : Lib.hasSuffix (x ++ [10]) [10] = true := by unfold Lib.hasSuffix; simp
  refine ⟨h, ?_⟩
  unfold Lib.trimSuffix
  rw [if_pos h]; simp
theorem cut_suf_no {x : List UInt8} (h : 10 ∉ x) : Lib.hasSuffix x [10] = false := by
  unfold Lib.hasSuffix
  cases he : [10].isSuffixOf x with
  | false => rfl
  | true =>
    rw [List.isSuffixOf_iff_suffix] at he
    obtain ⟨t, rfl⟩ := he
    exact absurd (by simp) h
end Go.Proofs.YticckfioggeaeaaGreatDoor
