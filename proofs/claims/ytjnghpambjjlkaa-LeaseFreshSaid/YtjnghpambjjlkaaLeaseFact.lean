/-
  The lenders' closed fact, by their contracts.
-/
import Derived.Test.YtjnghpambjjlkaaLeaseLends
namespace Go.Proofs.Ytjnghpambjjlkaa
open Go.RowKit

def lf1 : Ls := (l0 2 5).put 0 0 5
def lf2 : Ls := { lf1 with want := 9, ready := 5 }
def lf3 : Ls := { lf2 with now := 5, value := 9, want := -1 }
theorem lf_a : (l0 2 5).put 0 (l0 2 5).value ((l0 2 5).now + (l0 2 5).term) = lf1 := rfl
theorem lf_b : lf1.write 2 9 = lf2 := by rfl
theorem lf_c : decide (maxU lf1 2 = lf1.now) = false := by decide
theorem lf_d : lf2.wait 5 = lf3 := by rfl
theorem lf_e : (l0 2 5).until_ 0 ≤ (l0 2 5).now := by decide

theorem leaseFact_any (w : World) :
    Calls Try.prog 18 #[] w fun e w' => e = .returned (.bool true) ∧ Below w.heap.size w w' := by
  go_enter Try.func18, Try.ntmps18
  go_wp2_with fail
  refine (leaseNew_yes 2 5 _ (by decide) (by decide) (by decide) (by decide)).mono ?_
  rintro e w1 ⟨rfl, hc, hb1⟩
  have HC : Hid (LAt w1 (w.heap.size + 1) w.heap.size 2 (l0 2 5)) := Lib.hid hc
  clear hc
  go_wp2_with fail
  refine (lRead_lend _ _ 2 0 (l0 2 5) _ HC.out (by decide) (by decide) lf_e (by decide) (by decide) (by decide) (by decide) (by decide)).mono ?_
  rintro e w2 ⟨rfl, hc2, hk2⟩
  rw [lf_a] at hc2
  have HC2 : Hid (LAt w2 (w.heap.size + 1) w.heap.size 2 lf1) := Lib.hid hc2
  clear hc2
  go_wp2_with fail
  refine (lWrite_ok _ _ 2 lf1 9 _ HC2.out (by decide) (by decide) (by decide) (by decide)).mono ?_
  rintro e w3 ⟨he, hc3, hk3⟩
  rw [lf_c] at he
  subst he
  rw [lf_b] at hc3
  have HC3 : Hid (LAt w3 (w.heap.size + 1) w.heap.size 2 lf2) := Lib.hid hc3
  clear hc3
  go_wp2_with fail
  refine (wait_ok _ _ 2 lf2 5 _ HC3.out (by decide) (by decide) (by decide) (by decide)).mono ?_
  rintro e w4 ⟨rfl, hc4, hk4⟩
  rw [lf_d] at hc4
  have HC4 : Hid (LAt w4 (w.heap.size + 1) w.heap.size 2 lf3) := Lib.hid hc4
  clear hc4
  go_wp2_with fail
  refine (value_any _ _ 2 lf3 _ HC4.out).mono ?_
  rintro e w5 ⟨rfl, q, rfl⟩
  have hkk : Keep [w.heap.size + 1, w.heap.size] w1 (w4.drewN q) := ((hk2.mono (by simp)).trans ((hk3.mono (by simp)).trans (hk4.mono (by simp)))).drewN q
  have HB : Below w.heap.size w (w4.drewN q) := hb1.trans (hkk.below hb1.size (by simp))
  rw [show lf3.value = 9 from rfl, show lf3.want = -1 from rfl, show lf3.now = 5 from rfl]
  go_wp2
  go_ret
  exact ⟨rfl, HB⟩
end Go.Proofs.Ytjnghpambjjlkaa
