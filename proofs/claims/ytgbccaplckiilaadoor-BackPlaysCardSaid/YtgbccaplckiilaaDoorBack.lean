/-
  Frames of a cache in memory; slices.IndexFunc over them, by its contract.
-/
import Derived.Test.YtgbccaplckiilaaDoorCore
import Derived.Test.YtgbccaplckiilaaDoorSets
import Derived.Test.YtgbccaplckiilaaDoorBackLaw
import Derived.StillTailTactics
import Derived.RegionTactic
import Derived.Deep.RegionLaw
namespace Go.Proofs.YtgbccaplckiilaaDoor
open Go.RowKit

def fr3 (f : Fr) : List Value := [.int .i64 f.1, .int .i64 f.2.1, .bool f.2.2]
def flat3 (L : List Fr) : List Value := L.flatMap fr3
theorem flat3_cons (x : Fr) (L : List Fr) : flat3 (x :: L) = .int .i64 x.1 :: .int .i64 x.2.1 :: .bool x.2.2 :: flat3 L := rfl
theorem flat3_append (L M : List Fr) : flat3 (L ++ M) = flat3 L ++ flat3 M := by simp [flat3]
theorem flat3_len : ∀ L : List Fr, (flat3 L).length = L.length * 3
  | [] => rfl
  | x :: L => by have := flat3_len L; rw [flat3_cons]; simp; omega
theorem flat3_take : ∀ (L : List Fr) (i : Nat), (flat3 L).take (i * 3) = flat3 (L.take i)
  | [], i => by simp [flat3]
  | x :: L, 0 => by simp [flat3]
  | x :: L, i + 1 => by rw [flat3_cons, show (i + 1) * 3 = i * 3 + 1 + 1 + 1 by omega]; simp [flat3_take L i, flat3_cons]
theorem flat3_drop : ∀ (L : List Fr) (i : Nat), (flat3 L).drop (i * 3) = flat3 (L.drop i)
  | [], i => by simp [flat3]
  | x :: L, 0 => by simp
  | x :: L, i + 1 => by rw [flat3_cons, show (i + 1) * 3 = i * 3 + 1 + 1 + 1 by omega]; simp [flat3_drop L i]
theorem flat3_get : ∀ (L : List Fr) (i : Nat) (x : Fr), L[i]? = some x → (flat3 L)[i * 3]? = some (.int .i64 x.1) ∧ (flat3 L)[i * 3 + 1]? = some (.int .i64 x.2.1) ∧ (flat3 L)[i * 3 + 2]? = some (.bool x.2.2)
  | [], i, x, h => by simp at h
  | y :: L, 0, x, h => by simp at h; subst h; simp [flat3_cons]
  | y :: L, i + 1, x, h => by
    have := flat3_get L i x (by simpa using h)
    rw [flat3_cons, show (i + 1) * 3 = i * 3 + 1 + 1 + 1 by omega]
    simpa using this
theorem flat3_one (L : List Fr) : ∀ v ∈ flat3 L, v.oneCell' = true := by
  intro v hv
  obtain ⟨f, _, hf⟩ := List.mem_flatMap.1 hv
  simp only [fr3, List.mem_cons, List.not_mem_nil, or_false] at hf
  rcases hf with rfl | rfl | rfl <;> rfl

/-- A slice value's address leads to the frames L. -/
def FIn (w : World) (g : Nat) (L : List Fr) : Prop := ∀ (i : Nat) (x : Fr), L[i]? = some x → w.cell? ⟨g, i * 3, none⟩ = some (.int .i64 x.1) ∧ w.cell? ⟨g, i * 3 + 1, none⟩ = some (.int .i64 x.2.1) ∧ w.cell? ⟨g, i * 3 + 2, none⟩ = some (.bool x.2.2)
theorem blk_fin {w : World} {g : Nat} {t : TypeId} {L : List Fr} {rest : List Value} (h : Blk w g t (flat3 L ++ rest)) : FIn w g L := fun i x hx => by
  have hi : i < L.length := (List.getElem?_eq_some_iff.1 hx).1
  obtain ⟨h0, h1, h2⟩ := flat3_get L i x hx
  refine ⟨h.cell_ ?_, h.cell_ ?_, h.cell_ ?_⟩
  · rw [List.getElem?_append_left (by rw [flat3_len]; omega)]; exact h0
  · rw [List.getElem?_append_left (by rw [flat3_len]; omega)]; exact h1
  · rw [List.getElem?_append_left (by rw [flat3_len]; omega)]; exact h2

theorem use1_any (key : Int) (p : Addr) (x : Fr) (w : World) (hc : w.cell? p = some (.int .i64 key)) (hp : p.block < w.heap.size) :
    Calls Tryd.prog 31 #[.agg #[.int .i64 x.1, .int .i64 x.2.1, .bool x.2.2], .pointer (some p)] w fun e w' => e = .returned (.bool (x.1 == key)) ∧ Below w.heap.size w w' := by
  have hne : p.block ≠ w.heap.size := by omega
  go_enter Tryd.func31, Tryd.ntmps31
  go_wp2
  go_ret
  exact ⟨rfl, (Below.refl _ _).alloc (Nat.le_refl _) _⟩

/-- The first place of a block, or none. -/
def IdxB (key : Int) (L : List Fr) (w : World) (e : Ending) (w' : World) : Prop :=
  Below w.heap.size w w' ∧ ((∃ (i : Nat) (x : Fr), L[i]? = some x ∧ x.1 = key ∧ (∀ j y, j < i → L[j]? = some y → y.1 ≠ key) ∧ e = .returned (.int .i64 i)) ∨ ((∀ x ∈ L, x.1 ≠ key) ∧ e = .returned (.int .i64 (-1))))
def IdxRel (key : Int) (L : List Fr) (w : World) (i : Value) (wr : World) : Prop :=
  ∃ k : Nat, k ≤ L.length ∧ i = .int .i64 k ∧ (∀ j y, j < k → L[j]? = some y → y.1 ≠ key) ∧ Below w.heap.size w wr

set_option maxHeartbeats 1000000 in
theorem idxUse (n c g : Nat) (a : Option Addr) (p : Addr) (key : Int) (L : List Fr) (w : World) (hl : L.length = n) (ha : 0 < n → a = some ⟨g, 0, none⟩) (hg : g < w.heap.size) (hk : FIn w g L) (hn : n ≤ 1000) (hc : w.cell? p = some (.int .i64 key)) (hp : p.block < w.heap.size) :
    Calls Tryd.prog 30 #[.slice a n c, .func (.func 31) #[] #[.pointer (some p)]] w (IdxB key L w) := by
  have HL := Lib.hid hl; have HK := Lib.hid hk; have HA := Lib.hid ha; clear hl hk ha
  have HC := Lib.hid hc; clear hc
  have hn2 : (n : Int) ≤ 1000 := by omega
  go_enter Tryd.func30, Tryd.ntmps30
  go_wp2
  go_loopw [5, 8] (fun _ i wr => IdxRel key L w i wr) (fun _ i _ => n - (intOf i).toNat)
  case atStart => exact ⟨0, by omega, rfl, fun j y h => by omega, Below.refl _ _⟩
  case round =>
    obtain ⟨k, hk, rfl, hno, hbel⟩ := hrel
    have HNO := Lib.hid hno; have HB := Lib.hid hbel; clear hno hbel
    have hkn : k ≤ n := by have := HL.out; omega
    by_cases hlt : k < n
    · have hkl : k < L.length := by rw [HL.out]; exact hlt
      obtain rfl := HA.out (by omega)
      have hx := List.getElem?_eq_getElem hkl
      obtain ⟨x, hxx⟩ : ∃ x, x = L[k] := ⟨_, rfl⟩
      rw [← hxx] at hx
      obtain ⟨hc0, hc1, hc2⟩ := HK.out k x hx
      have hd0 := (HB.out.cell (p := ⟨g, k * 3, none⟩) hg).trans hc0
      have hd1 := (HB.out.cell (p := ⟨g, k * 3 + 1, none⟩) hg).trans hc1
      have hd2 := (HB.out.cell (p := ⟨g, k * 3 + 2, none⟩) hg).trans hc2
      have HXX := Lib.hid hx
      clear hx hxx hc0 hc1 hc2
      have hki : (k : Int) < (n : Int) := by omega
      have hk0 : (0 : Int) ≤ (k : Int) := by omega
      obtain ⟨bv, hbv⟩ : ∃ bv, bv = (x.1 == key) := ⟨_, rfl⟩
      have HBV := Lib.hid hbv; clear hbv
      have HCW := Lib.hid ((HB.out.cell (p := p) hp).trans HC.out)
      go_wp2_with fail
      refine (use1_any key p x _ HCW.out (by have := HB.out.size; omega)).mono ?_
      rintro e w2 ⟨rfl, hb2⟩
      rw [← HBV.out]
      have HB2 := Lib.hid hb2; clear hb2
      have hbb : Below w.heap.size w w2 := HB.out.trans (HB2.out.mono HB.out.size)
      have HBB := Lib.hid hbb; clear hbb
      cases bv
      · go_wp2
        go_roundw
        case rel =>
          refine ⟨k + 1, hkl, by simp, fun j y h hy => ?_, HBB.out⟩
          rcases Nat.lt_or_ge j k with g2 | g2
          · exact HNO.out j y g2 hy
          · obtain rfl : j = k := by omega
            rw [HXX.out] at hy
            cases hy
            have := HBV.out.symm
            simpa using this
        case measure => simp [intOf]; omega
      · go_wp2
        go_ret
        exact ⟨HBB.out, .inl ⟨k, x, HXX.out, by have := HBV.out.symm; simpa using this, HNO.out, rfl⟩⟩
    · obtain rfl : k = n := by omega
      go_wp2
      go_ret
      refine ⟨HB.out, .inr ⟨fun x hx => ?_, rfl⟩⟩
      obtain ⟨j, hj, rfl⟩ := List.getElem_of_mem hx
      exact HNO.out j _ (by have := HL.out; omega) (List.getElem?_eq_getElem hj)

theorem info_frame : (Tryd.prog.info? 59).map (fun i => (i.zero, i.size, i.bytes)) = some (some (.agg #[.int .i64 0, .int .i64 0, .bool false]), 3, 24) := by kernel_rfl
end Go.Proofs.YtgbccaplckiilaaDoor
