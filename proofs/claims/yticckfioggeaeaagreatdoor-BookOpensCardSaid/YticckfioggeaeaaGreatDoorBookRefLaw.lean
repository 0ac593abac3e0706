/-
  The reference's Open: plain facts.
-/
import Derived.Test.YticckfioggeaeaaGreatDoorM02
namespace Go.Proofs.YticckfioggeaeaaGreatDoor

theorem putS_many {slots : Nat} {s : Bk} {k v : Int} (h : putE s k v = 0) : (putS slots s k v).many = s.many + 1 := by unfold putS; rw [if_pos h]; rfl
theorem getS_many {s : Bk} {k : Int} (h : getE s k = 0) : (getS s k).many = s.many + 1 := by unfold getS; rw [if_pos h]; rfl
theorem opM_ok {slots : Nat} {s : Bk} (hok : BkOk slots s) (h1 : 1 ≤ slots) (w : List UInt8) (ns : List Int) : BkOk slots (opM slots s w ns).1 ∧ ((opM slots s w ns).2 = 0 → (opM slots s w ns).1.many = s.many + 1) := by
  unfold opM
  split
  · exact ⟨hok.putS h1 _ _, putS_many⟩
  split
  · exact ⟨hok.getS _, getS_many⟩
  · exact ⟨hok, fun h => by cases h⟩
theorem lineM_ok {slots : Nat} {s : Bk} (hok : BkOk slots s) (h1 : 1 ≤ slots) (l : List UInt8) : BkOk slots (lineM slots s l).1 ∧ ((lineM slots s l).2 = 0 → (lineM slots s l).1.many = s.many + 1) := by
  unfold lineM
  cases lastCut l with
  | none => exact ⟨hok, fun h => by cases h⟩
  | some p =>
    simp only
    cases numberM p.2 with
    | none => exact ⟨hok, fun h => by cases h⟩
    | some n =>
      simp only
      split
      · exact ⟨hok, fun h => by cases h⟩
      · cases numsM (cutAt 32 p.1).tail with
        | none => exact ⟨hok, fun h => by cases h⟩
        | some ns => exact opM_ok hok h1 _ _
theorem cut_small10 (c : UInt8) : ∀ (l x : List UInt8), x ∈ cutAt c l → x.length ≤ l.length
  | [], x, h => by simp [cutAt] at h; simp [h]
  | y :: l, x, h => by
    rw [cutAt] at h
    split at h
    · rcases List.mem_cons.1 h with rfl | h
      · simp
      · have := cut_small10 c l x h; simp; omega
    · obtain ⟨w, ws, e⟩ := cutAt_parts c l
      rw [e] at h
      simp only [List.headD_cons, List.tail_cons] at h
      rcases List.mem_cons.1 h with rfl | h
      · have := cut_small10 c l w (by rw [e]; simp)
        simp; omega
      · have := cut_small10 c l x (by rw [e]; simp [h])
        simp; omega
theorem lns_get {text : List UInt8} {i : Nat} (h : i + 1 < (cutAt 10 text).length) : (lns text)[i]? = (cutAt 10 text)[i]? := by
  unfold lns
  rw [List.getElem?_dropLast, if_pos (by omega)]
/-- The reference counts lines: the state behind i of them. -/
theorem open_step {slots : Nat} {s : Bk} {ls : List (List UInt8)} {i : Nat} {l : List UInt8} (h : ls[i]? = some l) : openL slots s (ls.drop i) = if (lineM slots s l).2 ≠ 0 then (s, ((s.many : Nat) : Int) + 1, (lineM slots s l).2) else openL slots (lineM slots s l).1 (ls.drop (i + 1)) := by
  obtain ⟨hi, e⟩ := List.getElem?_eq_some_iff.1 h
  rw [List.drop_eq_getElem_cons hi, e, openL]
end Go.Proofs.YticckfioggeaeaaGreatDoor
