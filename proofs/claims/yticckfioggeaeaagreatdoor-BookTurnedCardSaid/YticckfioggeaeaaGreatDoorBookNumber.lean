/-
  book.number, by its contract.
-/
import Derived.Test.YticckfioggeaeaaGreatDoorBookParse
import Derived.Test.YticckfioggeaeaaGreatDoorBookSum
import Derived.Deep.DeepCutAuto
set_option linter.unusedVariables false
namespace Go.Proofs.YticckfioggeaeaaGreatDoor
open Go.RowKit

/-- The package-level errors that strconv hands back are laid. -/
def Errs (w : World) : Prop := (∃ tp p, w.var? Tryz.prog "strconv.ErrSyntax" = some #[.iface tp p]) ∧ ∃ tp p, w.var? Tryz.prog "strconv.ErrRange" = some #[.iface tp p]
theorem var_below {w w' : World} {B : Nat} {nm : String} {v : Value} (h : w.var? Tryz.prog nm = some #[v]) (hb : Below B w w') (hB : ∀ g, Tryz.prog.globalNamed nm = some g → g < B) : w'.var? Tryz.prog nm = some #[v] := by
  unfold World.var? at *
  cases hg : Tryz.prog.globalNamed nm with
  | none => rw [hg] at h; simp at h
  | some g =>
    rw [hg] at h
    simp only [Option.bind_some] at h ⊢
    rw [hb.block g (hB g hg)]
    exact h
theorem global_syn : Tryz.prog.globalNamed "strconv.ErrSyntax" = some 2 := by kernel_rfl
theorem global_rng : Tryz.prog.globalNamed "strconv.ErrRange" = some 3 := by kernel_rfl
theorem var_lt {w : World} {nm : String} {g : Nat} {cs : Array Value} (h : w.var? Tryz.prog nm = some cs) (hg : Tryz.prog.globalNamed nm = some g) : g < w.heap.size := by
  unfold World.var? at h
  rw [hg] at h
  simp only [Option.bind_some] at h
  rcases Nat.lt_or_ge g w.heap.size with h1 | h1
  · exact h1
  · rw [Array.getElem?_eq_none h1] at h; simp at h
theorem Errs.below {w w' : World} {B : Nat} (h : Errs w) (hb : Below B w w') (hB : w.heap.size ≤ B) : Errs w' := by
  obtain ⟨⟨t1, p1, h1⟩, ⟨t2, p2, h2⟩⟩ := h
  have l1 := var_lt h1 global_syn
  have l2 := var_lt h2 global_rng
  exact ⟨⟨t1, p1, var_below h1 hb (fun g hg => by rw [global_syn] at hg; injection hg with hg; omega)⟩, ⟨t2, p2, var_below h2 hb (fun g hg => by rw [global_rng] at hg; injection hg with hg; omega)⟩⟩
def AtoiPost (w : World) (l : List UInt8) (e : Ending) (w' : World) : Prop :=
  ((∃ v, Lib.atoiAll l = .ok v ∧ e = .returned (.tuple #[.int .i64 v, .nilIface])) ∨ ((∀ v, Lib.atoiAll l ≠ .ok v) ∧ ∃ v tp N, e = .returned (.tuple #[.int .i64 v, .iface tp (.pointer (some ⟨N, 0, none⟩))]))) ∧ Below w.heap.size w w'
theorem atoi_any (l : List UInt8) (hl : l.length ≤ 100000) (w : World) (he : Errs w) : Calls Tryz.prog 86 #[.string ⟨l.toArray⟩] w (AtoiPost w l) := by
  have hsz : (⟨l.toArray⟩ : ByteArray).size = l.length := by simp [ByteArray.size]
  obtain ⟨⟨t1, p1, h1⟩, ⟨t2, p2, h2⟩⟩ := he
  have hd : (⟨l.toArray⟩ : ByteArray).data.toList = l := by simp
  cases ha : Lib.atoiAll l with
  | ok v =>
    refine (Tryz.strconv_Atoi_ok ⟨l.toArray⟩ (by omega) v (by rw [hd]; exact ha) w).mono ?_
    rintro e w' ⟨rfl, rfl | ⟨t, rfl⟩⟩
    · exact ⟨.inl ⟨v, ha, rfl⟩, Below.refl _ _⟩
    · exact ⟨.inl ⟨v, ha, rfl⟩, bytes_below w _ t⟩
  | «syntax» =>
    refine (Tryz.strconv_Atoi_syntax_var ⟨l.toArray⟩ (by omega) (by rw [hd]; exact ha) t1 p1 w h1).mono ?_
    rintro e w' ⟨N, rfl, _, _, hb⟩
    exact ⟨.inr ⟨fun v hv => (by rw [ha] at hv; cases hv), _, _, _, rfl⟩, hb⟩
  | range =>
    refine (Tryz.strconv_Atoi_range_var ⟨l.toArray⟩ (by omega) (by rw [hd]; exact ha) t2 p2 w h2).mono ?_
    rintro e w' ⟨N, rfl, _, _, hb⟩
    exact ⟨.inr ⟨fun v hv => (by rw [ha] at hv; cases hv), _, _, _, rfl⟩, hb⟩
def NumberPost (w : World) (l : List UInt8) (e : Ending) (w' : World) : Prop := ∃ v, e = .returned (.tuple #[.int .i64 v, .bool (numberM l).isSome]) ∧ (∀ n, numberM l = some n → v = n) ∧ Below w.heap.size w w'
theorem bytes_inj {a b : List UInt8} (h : (⟨a.toArray⟩ : ByteArray) = ⟨b.toArray⟩) : a = b := by
  injection h with h
  simpa using h
theorem atoi_bounds {l : List UInt8} {v : Int} (h : Lib.atoiAll l = .ok v) : -9223372036854775808 ≤ v ∧ v ≤ 9223372036854775807 := by
  unfold Lib.atoiAll at h
  split at h
  · cases h
  · simp only at h
    split at h
    · cases h
    · cases h
    · split at h
      · cases h
      · split at h
        · cases h
        · injection h with h
          split at h <;> omega
theorem ret_nb {v : Int} {b c : Bool} (h : b = c) : Ending.returned (.tuple #[.int .i64 v, .bool b]) = .returned (.tuple #[.int .i64 v, .bool c]) := by rw [h]
set_option maxHeartbeats 1000000 in
set_option maxRecDepth 100000 in
theorem number_any (l : List UInt8) (hl : l.length ≤ 100000) (w : World) (he : Errs w) (ht : Tab w) : Calls Tryz.prog 59 #[.string ⟨l.toArray⟩] w (NumberPost w l) := by
  have HE := Lib.hid he; have HT := Lib.hid ht
  clear he ht
  go_enter Tryz.func59, Tryz.ntmps59
  go_wp2_with fail
  refine (atoi_any l hl _ HE.out).mono ?_
  rintro e w1 ⟨hc, hb⟩
  have HB := Lib.hid hb
  have HT1 := Lib.hid (HT.out.below hb (Nat.le_refl _))
  clear hb
  rcases hc with ⟨v, ha, rfl⟩ | ⟨ha, v, tp, N, rfl⟩
  · have hbd := atoi_bounds ha
    have HN := Lib.hid (numberM_atoi ha)
    clear ha
    by_cases h0 : 0 ≤ v
    · by_cases hs : Lib.itoa v = l
      · have HR : Hid (numberM l = some v) := Lib.hid (by rw [HN.out, if_pos ⟨h0, hs⟩])
        clear HN
        go_wp2_with fail
        refine (itoa_any v (by omega) (by omega) _ HT1.out).mono ?_
        rintro e w2 ⟨rfl, hb2⟩
        have HB2 := Lib.hid hb2
        clear hb2
        rw [hs]
        go_wp2
        go_ret2
        exact ⟨v, ret_nb (by rw [HR.out]; rfl), fun n hn => (by rw [HR.out] at hn; exact Option.some.inj hn), HB.out.trans (HB2.out.mono HB.out.size)⟩
      · have HR : Hid (numberM l = none) := Lib.hid (by rw [HN.out, if_neg (fun h => hs h.2)])
        have hse : (Lib.itoa v == l) = false := beq_eq_false_iff_ne.2 hs
        clear HN hs
        go_wp2_with fail
        refine (itoa_any v (by omega) (by omega) _ HT1.out).mono ?_
        rintro e w2 ⟨rfl, hb2⟩
        have HB2 := Lib.hid hb2
        clear hb2
        go_wp2
        go_ret2
        exact ⟨v, ret_nb (by rw [HR.out]; rfl), fun n hn => (by rw [HR.out] at hn; cases hn), HB.out.trans (HB2.out.mono HB.out.size)⟩
    · have HR : Hid (numberM l = none) := Lib.hid (by rw [HN.out, if_neg (fun h => h0 h.1)])
      clear HN
      go_wp2
      go_ret2
      exact ⟨v, ret_nb (by rw [HR.out]; rfl), fun n hn => (by rw [HR.out] at hn; cases hn), HB.out⟩
  · have HR : Hid (numberM l = none) := Lib.hid (numberM_atoi_no ha)
    clear ha
    go_wp2
    go_ret2
    exact ⟨v, ret_nb (by rw [HR.out]; rfl), fun n hn => (by rw [HR.out] at hn; cases hn), HB.out⟩
end Go.Proofs.YticckfioggeaeaaGreatDoor
