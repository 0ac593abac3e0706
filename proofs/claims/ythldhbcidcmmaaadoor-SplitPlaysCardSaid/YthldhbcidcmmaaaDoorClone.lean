/-
  slices.Clone of ints, by its contract.
-/
import Derived.Test.YthldhbcidcmmaaaDoorCore
namespace Go.Proofs.YthldhbcidcmmaaaDoor
open Go.RowKit

set_option maxRecDepth 100000 in
theorem clone_ints (a : Option Addr) (c B : Nat) (xs : List Int) (w : World) (h : IntsIn w B a xs) (h0 : 0 < xs.length) (hn : (xs.length : Int) * 8 ≤ 140737488355328) :
    Calls Tryd.prog 36 #[.slice a xs.length c] w fun e w' => ∃ v, e = .returned v ∧ OwnInts w' w.heap.size v xs ∧ Below w.heap.size w w' := by
  obtain ⟨b, off, rfl, hb, hc⟩ := h h0
  obtain ⟨i0, hi, hz0, hz1, hz2⟩ := info_parts info_int
  have hbl : b < w.heap.size := World.block_lt_of_cell? w _ (hc 0 _ (List.getElem?_eq_getElem h0))
  have he := fun wx => Lib.run_eql_slice_nil (P := Tryd.prog) wx 22 3 (some ⟨b, off, none⟩) xs.length c 0 0 Tryd.underlying22
  have HN := Lib.hid hn; clear hn
  go_enter Tryd.func36, Tryd.ntmps36
  go_wp2_with (at_builtin; refine wpList_append_own _ rfl _ _ 22 rfl w.heap.size 3 i0 (.int .i64 0) 1 8 Tryd.underlying22 hi hz0 hz1 hz2 rfl (by decide) _ 0 [] rfl (World.ownsRow_made w #[] 0 (Nat.le_refl _) (by decide) rfl) ⟨b, off, none⟩ xs.length c (ints xs) rfl (by simp [ints]) ?_ ?_ (by have := HN.out; unfold maxLen; omega) (by have := HN.out; omega) (by simp) ?_)
  · intro j u hu
    simp only [ints, List.getElem?_map, Option.map_eq_some_iff] at hu
    obtain ⟨x, hx, rfl⟩ := hu
    rw [World.cell?_alloc_lt _ _ _ (by rw [block_of_addr]; exact hbl), add_addr]
    exact hc j x hx
  · intro u hu
    simp only [ints, List.mem_map] at hu
    obtain ⟨x, _, rfl⟩ := hu
    rfl
  · intro v' w1 hown hgrow _
    go_wp2
    go_ret
    refine ⟨v', rfl, hown, ((Below.refl _ _).alloc (Nat.le_refl _) _).grown hgrow (by simp) (fun k hk => ?_)⟩
    simp [Value.ownBlock] at hk
    omega

theorem clone_at (a : Option Addr) (c B n : Nat) (xs : List Int) (w : World) (hl : xs.length = n) (h : IntsIn w B a xs) (h0 : 0 < n) (hn : (n : Int) * 8 ≤ 140737488355328) :
    Calls Tryd.prog 36 #[.slice a n c] w fun e w' => ∃ v, e = .returned v ∧ OwnInts w' w.heap.size v xs ∧ Below w.heap.size w w' := by
  subst hl
  exact clone_ints a c B xs w h h0 hn
end Go.Proofs.YthldhbcidcmmaaaDoor
