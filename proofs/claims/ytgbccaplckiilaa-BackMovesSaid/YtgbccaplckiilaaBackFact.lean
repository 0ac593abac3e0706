/-
  back's closed fact; the state behind 'used'.
-/
import Derived.Test.YtgbccaplckiilaaBackUsed
namespace Go.Proofs.Ytgbccaplckiilaa
open Go.RowKit

theorem bs0_inv (slots : Nat) : BInv slots bs0 (List.replicate 8 0) 0 0 where
  dl := rfl
  ll := rfl
  le := by simp [bs0]
  rng := by simp [bs0]
  nd := by simp [bs0]
  val := by simp [bs0]
  cln := by simp [bs0]
  out := fun b _ _ => rfl
  rd0 := by simp [bs0]
  rd := by simp [bs0]
  wr0 := by simp [bs0]
  wr := by simp [bs0]

theorem BAt.frame_keep {w w' : World} {b slots : Nat} {v : Value} {s : BSt} (h : BAt w b v slots s) (hk : Keep [] w w') : BAt w' b v slots s :=
  ⟨h.top.keep hk (by simp), h.dl, h.fr.keepF hk (by simp)⟩
theorem Below.keep0 {w w' : World} (h : Below w.heap.size w w') : Keep [] w w' := Keep.of_below h (Nat.le_refl _)
theorem UsAt.below {w wr : World} {b B : Nat} {v0 v : Value} {slots q : Nat} {u : Us} (h : UsAt w b v0 slots u wr v q) (hs : B ≤ w.heap.size) (hb : B ≤ b) (hv : ∀ g, v0.ownBlock = some g → B ≤ g) : Below B w wr := h.2.1.old hs hb hv
theorem UsAt.keep {w wr w' : World} {b : Nat} {v0 v : Value} {slots q : Nat} {u : Us} (h : UsAt w b v0 slots u wr v q) (hk : Keep [] wr w') : UsAt w b v0 slots u w' v q := by
  obtain ⟨a1, a2, a3, a4, a5, a6⟩ := h
  refine ⟨a1.frame_keep hk, ?_, a3, a4, a5, a6.keep hk (by simp)⟩
  obtain ⟨F, hF, hx⟩ := a2
  exact ⟨F, hF.trans (hk.mono (by simp)), hx⟩
theorem UsAt.last {w wr : World} {b : Nat} {v0 v : Value} {slots q : Nat} {u : Us} (h : UsAt w b v0 slots u wr v q) (hl : u.last.length = 8) {k : Nat} (hk : k < 8) : wr.cell? ⟨q, k, none⟩ = some (.int .i64 (u.last.getD k 0)) :=
  have hkl : k < u.last.length := by omega
  h.2.2.2.2.2.cell_ (ints_get (by rw [List.getElem?_eq_getElem hkl, List.getD, List.getElem?_eq_getElem hkl]; rfl))
theorem UsAt.lastIn {w wr : World} {b : Nat} {v0 v : Value} {slots q : Nat} {u : Us} (h : UsAt w b v0 slots u wr v q) : IntsIn wr wr.heap.size (some ⟨q, 0, none⟩) u.last := fun _ =>
  ⟨q, 0, rfl, h.2.2.2.2.2.lt, fun i x hx => by rw [Nat.zero_add]; exact h.2.2.2.2.2.cell_ (ints_get hx)⟩

def bf1 : BSt := putB (useB 1 bs0 2 false) 9
def bf2 : BSt := useB 1 bf1 3 true
theorem bf2_fr : bf2.fr = [(3, 0, false)] := by rfl
theorem bf1_disk : bf1.disk = [0, 0, 0, 0, 0, 0, 0, 0] := by rfl
theorem bf2_disk : bf2.disk = [0, 0, 9, 0, 0, 0, 0, 0] := by rfl

theorem backFact_any (w : World) :
    Calls Try.prog 17 #[] w fun e w' => e = .returned (.bool true) ∧ Below w.heap.size w w' := by
  go_enter Try.func17, Try.ntmps17
  go_wp2_with fail
  refine (bNew_ok 1 _ (by decide) (by decide)).mono ?_
  rintro e w1 ⟨rfl, hat, hb1⟩
  have HAT := Lib.hid hat; clear hat
  go_wp2_with fail
  refine (bWrite_ok w.heap.size 2 1 9 _ bs0 _ HAT.out (by decide) (by decide) (by decide) (by simp [bs0]) (by decide) (by decide) (by decide) (by decide) (by decide) (by decide) (by decide)).mono ?_
  rintro e w2 ⟨v2, rfl, hat2, hko2, ho2⟩
  have HAT2 : Hid (BAt w2 w.heap.size v2 1 bf1) := Lib.hid hat2
  have hb2 : Below w.heap.size w w2 := hb1.trans (hko2.old hb1.size (Nat.le_refl _) (by simp [Value.ownBlock]))
  have hv2 : ∀ g, v2.ownBlock = some g → w.heap.size ≤ g := fun g hg => by
    rcases ho2 g hg with e | e
    · simp [Value.ownBlock] at e
    · have := hb1.size; omega
  clear hat2 hko2 ho2 hb1 HAT
  go_wp2_with fail
  refine (bDisk_any w.heap.size 1 v2 bf1 _ HAT2.out).mono ?_
  rintro e w3 ⟨a3, c3, rfl, hn3, hb3⟩
  have HAT3 := Lib.hid (HAT2.out.frame_keep (Below.keep0 hb3))
  have hb3' : Below w.heap.size w w3 := hb2.trans (hb3.mono hb2.size)
  obtain ⟨q3, rfl, hq3, hq3', hc3⟩ := hn3 (by rw [bf1_disk]; simp)
  have hcell3 : w3.cell? ⟨q3, 2, none⟩ = some (.int .i64 0) := hc3 2 0 (by rw [bf1_disk]; rfl)
  have hq3n : v2.ownBlock ≠ some q3 := fun e => by have := (HAT2.out.fr.lt _ e).2; omega
  have hq3b : q3 ≠ w.heap.size := by have := HAT2.out.top.lt; omega
  clear hb3 hn3 hc3 HAT2 hb2
  go_wp2_with fail
  refine (bRead_ok w.heap.size 3 1 v2 bf1 _ HAT3.out (by decide) (by decide) (by decide) (by decide) (by decide) (by decide) (by decide) (by decide) (by decide) 0 false [] bf2_fr).mono ?_
  rintro e w4 ⟨v4, rfl, hat4, hko4, ho4⟩
  have HAT4 : Hid (BAt w4 w.heap.size v4 1 bf2) := Lib.hid hat4
  have hb4 : Below w.heap.size w w4 := hb3'.trans (hko4.old hb3'.size (Nat.le_refl _) hv2)
  have hcell4 : w4.cell? ⟨q3, 2, none⟩ = some (.int .i64 0) := by
    obtain ⟨F, hF, hx⟩ := hko4
    exact (hF.cell (p := ⟨q3, 2, none⟩) hq3' (fun hm => by
      rcases hx q3 hm with e | e
      · exact hq3b e
      · exact hq3n e.symm)).trans hcell3
  have hsz4 : q3 < w4.heap.size := by have := hko4.size; omega
  clear hko4 ho4 hat4 hcell3 HAT3 hb3'
  go_wp2_with fail
  refine (bDisk_any w.heap.size 1 v4 bf2 _ HAT4.out).mono ?_
  rintro e w5 ⟨a5, c5, rfl, hn5, hb5⟩
  obtain ⟨q5, rfl, hq5, hq5', hc5⟩ := hn5 (by rw [bf2_disk]; simp)
  have hcell5 : w5.cell? ⟨q5, 2, none⟩ = some (.int .i64 9) := hc5 2 9 (by rw [bf2_disk]; rfl)
  have hcell3 : w5.cell? ⟨q3, 2, none⟩ = some (.int .i64 0) := (hb5.cell (p := ⟨q3, 2, none⟩) hsz4).trans hcell4
  have HB : Hid (Below w.heap.size w w5) := Lib.hid (hb4.trans (hb5.mono hb4.size))
  clear hb5 hn5 hc5 hb4 hcell4
  go_wp2
  go_ret
  exact ⟨rfl, HB.out⟩
end Go.Proofs.Ytgbccaplckiilaa
