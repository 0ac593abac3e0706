/-
  What a law's loop keeps of its caches.
-/
import Derived.Test.YtjnghpambjjlkaaCohereDone
namespace Go.Proofs.Ytjnghpambjjlkaa
open Go.RowKit

theorem read_again (n p k : Nat) (s : Cs) (h : s.st p k ≠ 0) : s.read n p k = s := by unfold Cs.read; exact if_neg h
theorem write_again_mv (n p k : Nat) (v : Int) (s : Cs) (h : s.st p k = 2) : (s.write n p k v).mv = s.mv := by unfold Cs.write; rw [if_pos h]; rfl

/-- Caches of the call's own, behind k steps. -/
def CRel (w : World) (b g n m : Nat) (i : Value) (wr : World) : Prop :=
  ∃ (k : Nat) (s : Cs) (last : Nat → Int), k ≤ m ∧ k ≤ 80 ∧ i = .int .i64 k ∧ CAt wr b g n s ∧ Sized n s ∧ CInv n s last ∧ 0 ≤ s.mv ∧ s.mv ≤ 5 * k ∧ Below w.heap.size w wr

theorem cRel_step {w wr w2 : World} {b g n m k : Nat} {s : Cs} {last : Nat → Int} {l : List Int} (hn : (n : Int) ≤ 4) (hlt : k < m) (hlt8 : k < 80) (hz : Sized n s) (hi : CInv n s last) (h0 : 0 ≤ s.mv) (h1 : s.mv ≤ 5 * k) (hbel : Below w.heap.size w wr) (hb : w.heap.size ≤ b) (hg : w.heap.size ≤ g)
    (hc : CAt w2 b g n (cStep n s l)) (hk : Keep [b, g] wr w2) : CRel w b g n m (.int .i64 (k + 1)) w2 := by
  obtain ⟨a1, a2⟩ := cStep_inv l hz hi
  obtain ⟨b1, b2⟩ := cStep_mv n s l
  exact ⟨k + 1, _, _, hlt, hlt8, by simp, hc, a1, a2, by omega, by omega, hbel.trans (hk.below hbel.size (by simp; omega))⟩

end Go.Proofs.Ytjnghpambjjlkaa
