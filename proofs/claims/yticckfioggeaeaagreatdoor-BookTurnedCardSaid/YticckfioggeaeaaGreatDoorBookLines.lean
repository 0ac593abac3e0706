/-
  The iterator of strings.Lines, by its contract: it keeps what is left in a cell of its own.
-/
import Derived.Test.YticckfioggeaeaaGreatDoorBookLine
import Derived.RangeFuncNested
import Derived.RangeFuncBound
import Derived.RangeFuncCalls
import Derived.RangeFuncLeaves
import Derived.Shelf.Abstract
import Derived.Shelf.RegionOpen
import Derived.WalkKit
import Derived.OwnWalkIn
import Derived.TacticsInMore
import Derived.LoopNIn
import Derived.LoopIn
set_option linter.unusedVariables false
set_option linter.unusedSimpArgs false
set_option linter.unnecessarySimpa false
set_option linter.unusedVariables false
namespace Go.Proofs.YticckfioggeaeaaGreatDoor
open Go.RowKit Go.Shelf
attribute [local go_sem] Oper.semAt_some

/-- The next line, its end with it, and what is left. -/
def nextLine (l : List UInt8) : List UInt8 × List UInt8 := if 10 ∈ l then ((cutAt 10 l).headD [] ++ [10], l.drop (((cutAt 10 l).headD []).length + 1)) else (l, [])
theorem next_hit {a : List UInt8} (r : List UInt8) (h : 10 ∉ a) : nextLine (a ++ 10 :: r) = (a ++ [10], r) := by
  unfold nextLine
  rw [if_pos (by simp), cutAt_app r h]
  simp only [List.headD_cons, Prod.mk.injEq, true_and]
  rw [show a ++ 10 :: r = (a ++ [10]) ++ r by simp, show a.length + 1 = (a ++ [10]).length by simp, List.drop_left]
theorem next_miss {l : List UInt8} (h : 10 ∉ l) : nextLine l = (l, []) := by unfold nextLine; rw [if_neg h]
theorem ext_line (a r : List UInt8) (x : UInt8) : (⟨(a ++ x :: r).toArray⟩ : ByteArray).extract 0 (a.length + 1) = ⟨(a ++ [x]).toArray⟩ := by
  have := ext_left (a ++ [x]) r
  rw [List.length_append, List.length_singleton, List.append_assoc, List.singleton_append] at this
  exact this
def leftOf (c : Nat) (wr : World) : Nat := match wr.cell? ⟨c, 0, none⟩ with | some (.string s) => s.size | _ => 0
theorem leftOf_eq {c : Nat} {wr : World} {rest : List UInt8} (h : Blk wr c 9 [strV rest]) : leftOf c wr = rest.length := by
  unfold leftOf
  rw [h.cell_ (i := 0) (v := strV rest) rfl]
  simp [ByteArray.size]
set_option maxHeartbeats 4000000 in
set_option maxRecDepth 100000 in
theorem lines_any (ly c n : Nat) (hn : 3 ≤ n) (A : List UInt8 → World → Prop) (X : World → Prop)
    (hA : ∀ rest W, A rest W → Blk W c 9 [strV rest] ∧ rest.length ≤ 3000)
    (hY : ∀ rest W W1, A rest W → rest ≠ [] → Keep [c] W W1 → Blk W1 c 9 [strV (nextLine rest).2] → YieldAt Fence.wide (n - 1) Tryz.prog ly #[strV (nextLine rest).1] W1 fun e W' => (e = .returned (.bool true) ∧ A (nextLine rest).2 W') ∨ (e = .returned (.bool false) ∧ X W'))
    (text : List UInt8) (W : World) (h0 : A text W) :
    CallsIn Fence.wide n Tryz.prog 55 #[.func (.yield ly) #[] #[], .pointer (some ⟨c, 0, none⟩)] W fun e W' => (∃ v, e = .returned v) ∧ (A [] W' ∨ X W') := by
  refine callsIn_of_wp Tryz.func55 rfl trivial ?_ rfl
  simp only [Tryz.ntmps55, List.size_toArray, List.length_cons, List.length_nil, Nat.reduceAdd, Nat.reduceSub, Array.replicate_succ, Array.replicate_zero, List.push_toArray, List.append_toArray, List.nil_append, List.cons_append]
  have h1n : 1 ≤ n := by omega
  have h1n' : 1 ≤ n - 1 := by omega
  have hmx : Tryz.prog.follows .mixedOrders = true := by kernel_rfl
  gi_wp2
  gi_loopw [3] (fun _ wr => ∃ rest, A rest wr) (fun _ wr => leftOf c wr)
  case atStart => exact ⟨text, h0⟩
  case round =>
    obtain ⟨rest, ha⟩ := hrel
    obtain ⟨hb, hlen⟩ := hA rest wr ha
    have x0 : wr.cell? ⟨c, 0, none⟩ = some (.string ⟨rest.toArray⟩) := hb.cell_ (i := 0) rfl
    have f0 := hb.free 0
    have hsz : (⟨rest.toArray⟩ : ByteArray).size = rest.length := by simp [ByteArray.size]
    have HAA := Lib.hid ha; have HBB := Lib.hid hb
    clear ha hb
    rcases Classical.em (rest = []) with rfl | hne
    · gi_wp2
      go_end0
      exact ⟨⟨_, rfl⟩, .inl HAA.out⟩
    · have hpos : 0 < rest.length := List.length_pos_iff.2 hne
      have hpi : (0 : Int) < (rest.length : Int) := by omega
      rcases idx_split 10 rest with ⟨h1, h2⟩ | ⟨a, r, rfl, h2, h3⟩
      · have HI := Lib.hid h1
        have HN := Lib.hid (next_miss h2)
        clear h1 h2
        have hy0 := hY rest wr (wr.setCell ⟨c, 0, none⟩ (.string ⟨#[]⟩)) HAA.out hne ((Keep.refl _ wr).set (p := ⟨c, 0, none⟩) (fun _ => by simp) _) (by rw [HN.out]; exact HBB.out.set 0 _)
        rw [HN.out] at hy0
        obtain ⟨fn, tmps, assign, body, hy, hR⟩ := hy0
        gi_wp2_with (refine ⟨trivial, ?_⟩; gi_at_call 56; refine (callsIn_wide.2 (Tryz.strings_IndexByte ⟨rest.toArray⟩ 10 _)).mono ?_; rintro e w' ⟨rfl, rfl⟩; rw [show Lib.indexByte (⟨rest.toArray⟩ : ByteArray).data.toList (10 : Int).toNat.toUInt8 = -1 from HI.out])
        refine hR.mono ?_
        rintro e W' (⟨rfl, hA'⟩ | ⟨rfl, hX'⟩)
        · have hb' := (hA _ _ hA').1
          gi_wp2
          go_roundw
          case rel => exact ⟨_, hA'⟩
          case measure => rw [leftOf_eq hb', leftOf_eq HBB.out]; exact hpos
        · gi_wp2
          refine bodyPost_ret (results_none rfl _ _ _) rfl ?_
          exact ⟨⟨_, rfl⟩, .inr hX'⟩
      · have HI := Lib.hid h3
        have HN := Lib.hid (next_hit r h2)
        clear h2 h3
        have hy0 := hY _ wr (wr.setCell ⟨c, 0, none⟩ (.string ⟨r.toArray⟩)).drew HAA.out hne (((Keep.refl _ wr).set (p := ⟨c, 0, none⟩) (fun _ => by simp) _).drew) (by rw [HN.out]; exact (HBB.out.set 0 _).drew)
        rw [HN.out] at hy0
        obtain ⟨fn, tmps, assign, body, hy, hR⟩ := hy0
        have hsz2 : (⟨(a ++ 10 :: r).toArray⟩ : ByteArray).size = a.length + (r.length + 1) := by simp [ByteArray.size]
        have hai : (0 : Int) ≤ (a.length : Int) := by omega
        have hal : a.length + (r.length + 1) ≤ 3000 := by simp at hlen; omega
        have hal3 : a.length ≤ 3000 := by omega
        have har3 : r.length ≤ 3000 := by omega
        gi_wp2_with (refine ⟨trivial, ?_⟩; gi_at_call 56; refine (callsIn_wide.2 (Tryz.strings_IndexByte ⟨(a ++ 10 :: r).toArray⟩ 10 _)).mono ?_; rintro e w' ⟨rfl, rfl⟩; rw [show Lib.indexByte (⟨(a ++ 10 :: r).toArray⟩ : ByteArray).data.toList (10 : Int).toNat.toUInt8 = (a.length : Nat) from HI.out])
        have hw1 : IntKind.i64.wrap ((a.length : Int) + 1) = (a.length : Int) + 1 := IntWalk.i64_in _ (by omega)
        gi_region_with_o (fail)
        all_goals
          simp only [ext_line, ext_right]
          gi_wp2
          refine hR.mono ?_
          rintro e W' (⟨rfl, hA'⟩ | ⟨rfl, hX'⟩)
          · have hb' := (hA _ _ hA').1
            gi_wp2
            go_roundw
            case rel => exact ⟨_, hA'⟩
            case measure => rw [leftOf_eq hb', leftOf_eq HBB.out]; simp; omega
          · gi_wp2
            refine bodyPost_ret (results_none rfl _ _ _) rfl ?_
            exact ⟨⟨_, rfl⟩, .inr hX'⟩
end Go.Proofs.YticckfioggeaeaaGreatDoor
