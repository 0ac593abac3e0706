/-
  larderwicksame.Kepts of alike counts; the counts' closed fact; by their contracts.
-/
import Derived.Test.YtnpokcjdnlmheaaHeavySpace
import Derived.Laws.StructEq
namespace Go.Proofs.Ytnpokcjdnlmheaa
open Go.RowKit

theorem neq_kept (x : Int × Int) (w : World) : (binOp .neq 57 (.agg #[.int .i64 x.1, .int .i64 x.2]) (.agg #[.int .i64 x.1, .int .i64 x.2])).run Try.prog w = .ok (.bool false) w := by
  have u3 := Try.underlying3
  have a3 := Try.isAgg3
  have z3 := Try.sizeOf3
  have hS : Try.prog.underlying 57 = some (.struct (Try.prog.fieldsOf 57)) := by kernel_rfl
  have hp : Try.prog.stoodInHeld 57 = false := by kernel_rfl
  rw [run_neq_struct, show (10000 : Nat) = 9999 + 1 from rfl, run_equalIn_agg w 9999 57 _ _ hS hp]
  simp only [Program.fieldsOf, Try.underlying57]
  go_simp

def KeptsRel (w : World) (n : Nat) (i : Value) (wr : World) : Prop := ∃ k : Nat, k ≤ n ∧ i = .int .i64 k ∧ Keep [] w wr
set_option maxHeartbeats 1000000 in
theorem kepts_same (a b : Option Addr) (ga gb n c d : Nat) (L : List (Int × Int)) (w : World) (hl : L.length = n) (ha : 0 < n → a = some ⟨ga, 0, none⟩) (hb : 0 < n → b = some ⟨gb, 0, none⟩)
    (hga : ga < w.heap.size) (hgb : gb < w.heap.size) (hka : KIn w ga L) (hkb : KIn w gb L) (hn : n ≤ 1000) :
    Calls Try.prog 40 #[.slice a n c, .slice b n d] w fun e w' => e = .returned (.bool true) ∧ Keep [] w w' := by
  have HL := Lib.hid hl; have HA := Lib.hid ha; have HB := Lib.hid hb; have HKA := Lib.hid hka; have HKB := Lib.hid hkb; clear hl ha hb hka hkb
  have hn2 : (n : Int) ≤ 1000 := by omega
  go_enter Try.func40, Try.ntmps40
  go_wp2
  go_loopw [5] (fun i wr => KeptsRel w n i wr) (fun i _ => n - (intOf i).toNat)
  case atStart => exact ⟨0, by omega, rfl, Keep.refl _ _⟩
  case round =>
    obtain ⟨k, hk, rfl, hkr⟩ := hrel
    have HK := Lib.hid hkr; clear hkr
    by_cases hlt : k < n
    · have hkl : k < L.length := by rw [HL.out]; exact hlt
      obtain rfl := HA.out (by omega)
      obtain rfl := HB.out (by omega)
      obtain ⟨x, hx⟩ : ∃ x, x = L[k] := ⟨_, rfl⟩
      have hx2 : L[k]? = some x := by rw [hx]; exact List.getElem?_eq_getElem hkl
      obtain ⟨p0, p1⟩ := (HKA.out.keep HK.out hga (by simp)) k x hx2
      obtain ⟨q0, q1⟩ := (HKB.out.keep HK.out hgb (by simp)) k x hx2
      clear hx hx2
      have hki : (k : Int) < (n : Int) := by omega
      have hk0 : (0 : Int) ≤ (k : Int) := by omega
      have hneq := neq_kept x
      go_wp2
      go_quiet (fail)
      go_wp2
      go_roundw
      case rel => exact ⟨k + 1, hlt, by simp, HK.out.drewN _⟩
      case measure => simp [intOf]; omega
    · have hki : ¬ (k : Int) < (n : Int) := by omega
      go_wp2
      go_ret
      exact ⟨rfl, HK.out⟩

theorem mg_fact {L : List (Int × Int)} {D : Int} (h : MG 2 [1, 1, 2, 3] L D) : L = [(1, 1)] := by
  have hs := h.sum
  have hp := h.pos
  have hl := h.len
  have t1 : times [1, 1, 2, 3] 1 = 2 := by decide
  have t2 : times [1, 1, 2, 3] 2 = 1 := by decide
  have t3 : times [1, 1, 2, 3] 3 = 1 := by decide
  have o1 := h.out 1
  have o2 := h.out 2
  have o3 := h.out 3
  match L, hs, hl, h.low, o1, o2, o3 with
  | [], hs, _, _, _, _, _ => simp [sumC] at hs; omega
  | [x], hs, _, lo, o1, o2, o3 =>
    have hx := lo x (by simp)
    simp only [List.mem_singleton, forall_eq] at o1 o2 o3
    simp [sumC] at hs
    have hx1 : x.1 = 1 := by
      by_cases e : x.1 = 1
      · exact e
      · have := o1 e
        by_cases e2 : x.1 = 2
        · have := o3 (by omega); omega
        · have := o2 e2; omega
    have hD : D = 1 := by
      have := o2 (by omega)
      omega
    have hx2 : x.2 = 1 := by omega
    rw [show x = (x.1, x.2) from rfl, hx1, hx2]
  | [x, y], hs, _, lo, o1, o2, o3 =>
    exfalso
    have hx := lo x (by simp)
    have hy := lo y (by simp)
    simp [sumC] at hs
    have hD : D = 0 := by omega
    have key : ∀ k, 1 ≤ times [1, 1, 2, 3] k → x.1 = k ∨ y.1 = k := fun k hk => by
      by_cases e1 : x.1 = k
      · exact .inl e1
      · by_cases e2 : y.1 = k
        · exact .inr e2
        · have := h.out k (by intro z hz; simp at hz; rcases hz with rfl | rfl <;> assumption)
          omega
    have k1 := key 1 (by omega)
    have k2 := key 2 (by omega)
    have k3 := key 3 (by omega)
    omega
  | _ :: _ :: _ :: _, _, hl, _, _, _, _ => simp at hl

theorem kin_new (w : World) (L : List (Int × Int)) : KIn (w.alloc (.cells (ints (flat L)).toArray 57)) w.heap.size L :=
  blk_kin (rest := []) (by rw [List.append_nil]; exact Blk.new _ _ _)

set_option maxHeartbeats 1000000 in
set_option maxRecDepth 100000 in
theorem heavyFact_any (w : World) : Calls Try.prog 28 #[] w fun e w' => e = .returned (.bool true) ∧ Below w.heap.size w w' := by
  have hin : ∀ wx : World, IntsIn (wx.alloc (.cells #[.int .i64 1, .int .i64 1, .int .i64 2, .int .i64 3] 3)) (wx.alloc (.cells #[.int .i64 1, .int .i64 1, .int .i64 2, .int .i64 3] 3)).heap.size (some ⟨wx.heap.size, 0, none⟩) [1, 1, 2, 3] := fun wx _ =>
    ⟨wx.heap.size, 0, rfl, by simp, fun i x hx => by
      have := (Blk.new wx 3 (ints [1, 1, 2, 3])).cell i
      rw [Nat.zero_add]
      exact this.trans (ints_get hx)⟩
  have HIN := Lib.hid hin; clear hin
  have HS2 : Hid (spaceOf 2 [1, 1, 2, 3] = [(1, 2), (3, 2)]) := Lib.hid (by decide)
  go_enter Try.func28, Try.ntmps28
  go_wp2_with fail
  refine (keep_ok _ 4 4 2 [1, 1, 2, 3] _ rfl (HIN.out _) (by decide) (by decide) (by decide) (by decide)).mono ?_
  rintro e w1 ⟨v, L, D, rfl, hmg, hk, hb⟩
  obtain rfl := mg_fact hmg
  obtain ⟨g1, cap1, rest1, rfl, hg1, _, _, hblk1, _⟩ := hk.front (by decide)
  have HBLK1 := Lib.hid hblk1; have HB1 := Lib.hid hb
  have hsz1 := hb.size
  clear hblk1 hb hk hmg
  go_wp2_with fail
  refine (space_ok _ 4 4 2 [1, 1, 2, 3] _ rfl (HIN.out _) (by decide) (by decide) (by decide) (by decide)).mono ?_
  rintro e w2 ⟨v, rfl, hk, hb⟩
  rw [HS2.out] at hk
  obtain ⟨g2, cap2, rest2, rfl, hg2, _, _, hblk2, _⟩ := hk.front (by decide)
  have HBLK2 := Lib.hid hblk2; have HB2 := Lib.hid hb
  have hsz2 := hb.size
  have HK12 : Hid (Keep [] w1 w2) := Lib.hid (((Keep.refl [] w1).alloc _).trans (Keep.of_below hb (Nat.le_refl _)))
  clear hblk2 hb hk
  go_wp2_with fail
  refine (kepts_same _ _ g1 w2.heap.size 1 _ _ [(1, 1)] _ rfl (fun _ => rfl) (fun _ => rfl) (by have := HBLK1.out.lt; have := HK12.out.size; simp; omega) (by simp) (blk_kin ((HBLK1.out.keep HK12.out (by simp)).alloc _)) (kin_new w2 [(1, 1)]) (by decide)).mono ?_
  rintro e w3 ⟨rfl, hk3⟩
  have HK23 : Hid (Keep [] w2 w3) := Lib.hid (((Keep.refl [] w2).alloc _).trans hk3)
  have hsz3 := HK23.out.size
  clear hk3
  go_wp2_with fail
  refine (kepts_same _ _ g2 w3.heap.size 2 _ _ [(1, 2), (3, 2)] _ rfl (fun _ => rfl) (fun _ => rfl) (by have := HBLK2.out.lt; simp; omega) (by simp) (blk_kin ((HBLK2.out.keep HK23.out (by simp)).alloc _)) (kin_new w3 [(1, 2), (3, 2)]) (by decide)).mono ?_
  rintro e w4 ⟨rfl, hk4⟩
  have HK34 : Hid (Keep [] w3 w4) := Lib.hid (((Keep.refl [] w3).alloc _).trans hk4)
  clear hk4
  go_wp2
  go_ret
  have h1 : Below w.heap.size w w1 := ((Below.refl _ w).alloc (Nat.le_refl _) _).trans (HB1.out.mono (by simp))
  exact ⟨rfl, h1.trans (((HK12.out.trans HK23.out).trans HK34.out).below h1.size (by simp))⟩
end Go.Proofs.Ytnpokcjdnlmheaa
