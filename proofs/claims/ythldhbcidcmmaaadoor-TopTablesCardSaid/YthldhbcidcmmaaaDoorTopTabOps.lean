/-
  A table that splits, nests, and a row of the call's own beside each other.
-/
import Derived.Test.YthldhbcidcmmaaaDoorSplitOps
import Derived.Test.YthldhbcidcmmaaaDoorCuckooTwoD
import Derived.Test.YthldhbcidcmmaaaDoorTold2
namespace Go.Proofs.YthldhbcidcmmaaaDoor
open Go.RowKit

def AddTop (w : World) (b : Nat) (c : List Int) (m x : Int) (e : Ending) (w' : World) : Prop :=
  (∃ c' m', e = .returned .nilIface ∧ NAt w' b c' m' ∧ NInv c' m' ∧ (live c').Perm (x :: live c) ∧ Keep [b] w w') ∨ (∃ n, n ≠ 0 ∧ n ≠ 1 ∧ e = .returned (errv n) ∧ NAt w' b c m ∧ Keep [b] w w')
theorem nAdd_top (b : Nat) (c : List Int) (m x : Int) (w : World) (hs : NAt w b c m) (hi : NInv c m) (h1 : 0 ≤ x) (h2 : x ≤ 1000000) :
    Calls Tryd.prog 8 #[.pointer (some ⟨b, 0, none⟩), .int .i64 x] w (AddTop w b c m x) := by
  obtain ⟨k, rfl⟩ := Int.eq_ofNat_of_zero_le h1
  cases hh : hasI c k with
  | true =>
    refine (nAdd_clash b c m k w hs hi.fine h1 h2 hh).mono ?_
    rintro e w' ⟨rfl, q, rfl⟩
    exact .inr ⟨6, by decide, by decide, rfl, hs.drewN q, (Keep.refl _ _).drewN q⟩
  | false =>
    by_cases hm : m = 16
    · refine (nAdd_full b c m k w hs hi.fine h1 h2 hh hm).mono ?_
      rintro e w' ⟨rfl, q, rfl⟩
      exact .inr ⟨4, by decide, by decide, rfl, hs.drewN q, (Keep.refl _ _).drewN q⟩
    · have hle := hi.le
      refine (nAdd_go b c m k w hs hi.fine h2 hh (by have := hi.cnt; omega) (by omega)).mono ?_
      rintro e w' (⟨c', hd, rfl, hn, hk⟩ | ⟨_, rfl, hn, hk⟩)
      · obtain ⟨h3, h4⟩ := hi.add (by omega) hh (by omega) hd
        exact .inl ⟨c', _, rfl, hn, h3, h4, hk⟩
      · exact .inr ⟨7, by decide, by decide, rfl, hn, hk⟩
def DropTop (w : World) (b : Nat) (c : List Int) (x : Int) (e : Ending) (w' : World) : Prop :=
  ∃ c' m', e = .returned .nilIface ∧ NAt w' b c' m' ∧ NInv c' m' ∧ (x :: live c').Perm (live c) ∧ Keep [b] w w'
theorem nDrop_top (b : Nat) (c : List Int) (m x : Int) (w : World) (hs : NAt w b c m) (hi : NInv c m) (h1 : 0 ≤ x) (h2 : x ≤ 1000000) (hx : x ∈ live c) :
    Calls Tryd.prog 10 #[.pointer (some ⟨b, 0, none⟩), .int .i64 x] w (DropTop w b c x) := by
  obtain ⟨k, rfl⟩ := Int.eq_ofNat_of_zero_le h1
  refine (nDrop_go b c m k w hs h2 (by have := hi.cnt; omega) hi.le).mono ?_
  rintro e w' (⟨c', hd, rfl, hn, hk⟩ | ⟨hd, rfl, hn, hk⟩)
  · obtain ⟨h3, h4⟩ := hi.drop hd
    exact ⟨c', _, rfl, hn, h3, h4, hk⟩
  · exfalso
    have hh := hi.hasE k
    rw [show decide ((k : Int) ∈ live c) = true by simpa using hx] at hh
    unfold hasI at hh
    rw [show ((k : Int)).toNat = k by omega] at hh
    unfold dropC at hd
    by_cases e0 : c.getD (spot k 0) 0 = (k : Int) + 1
    · rw [if_pos e0] at hd; cases hd
    · rw [if_neg e0] at hd
      by_cases e1 : c.getD (spot k 1) 0 = (k : Int) + 1
      · rw [if_pos e1] at hd; cases hd
      · rw [show decide (c.getD (spot k 0) 0 = (k : Int) + 1) = false by simpa only [decide_eq_false_iff_not] using e0, show decide (c.getD (spot k 1) 0 = (k : Int) + 1) = false by simpa only [decide_eq_false_iff_not] using e1] at hh
        simp at hh
theorem nHas_top (b : Nat) (c : List Int) (m x : Int) (w : World) (bv : Bool) (hb : decide (x ∈ live c) = bv) (hs : NAt w b c m) (hi : NInv c m) (hx : -9223372036854775808 ≤ x ∧ x ≤ 9223372036854775807) :
    Calls Tryd.prog 12 #[.pointer (some ⟨b, 0, none⟩), .int .i64 x] w fun e w' => e = .returned (.bool bv) ∧ Below w.heap.size w w' := by
  subst hb
  refine (nHas_two b c m x w hs hi hx).mono ?_
  rintro e w' ⟨rfl, q, rfl⟩
  exact ⟨rfl, ((Keep.refl [] w).drewN q).below (Nat.le_refl _) (by simp)⟩
theorem eErr_no (n j : Int) (w : World) (hg : Handle w) (h : n ≠ j) : Calls Tryd.prog 11 #[errv n, .int .i64 j] w fun e w' => e = .returned (.bool false) ∧ Below w.heap.size w w' :=
  (eError_some n j w hg).mono fun e w' ⟨he, hb⟩ => ⟨by rw [he]; exact ret_bool (beq_eq_false_iff_ne.2 h), hb⟩
theorem eErr_is (n : Int) (w : World) (hg : Handle w) : Calls Tryd.prog 11 #[errv n, .int .i64 n] w fun e w' => e = .returned (.bool true) ∧ Below w.heap.size w w' :=
  (eError_some n n w hg).mono fun e w' ⟨he, hb⟩ => ⟨by rw [he]; simp, hb⟩
theorem eErr_nil (j : Int) (w : World) (h : j ≠ 0) : Calls Tryd.prog 11 #[.nilIface, .int .i64 j] w fun e w' => e = .returned (.bool false) ∧ Below w.heap.size w w' :=
  (eError_nil j w).mono fun e w' ⟨he, hb⟩ => ⟨by rw [he]; exact ret_bool (beq_eq_false_iff_ne.2 (Ne.symm h)), hb⟩

structure TT (w wr : World) (b t : Nat) (c : List Int) (m : Int) (S : List Int) (v : Value) (bo : List Int) (O : Nat → Prop) : Prop where
  nat : NAt wr b c m
  inv : NInv c m
  tab : Tab O wr t S
  own : OwnInts wr w.heap.size v bo
  no : ∀ x, v.ownBlock = some x → ¬ O x
  nb : ¬ O b
  lo : ∀ x, x < w.heap.size → ¬ O x
  b0 : w.heap.size ≤ b
  bel : Below w.heap.size w wr
section
variable {w wr w' : World} {b t : Nat} {c c' : List Int} {m m' : Int} {S S' : List Int} {v : Value} {bo : List Int} {O : Nat → Prop}
theorem TT.vb (h : TT w wr b t c m S v bo O) : some b ≠ v.ownBlock := own_ne h.own h.nat.top (by decide)
theorem TT.nstep (h : TT w wr b t c m S v bo O) (hn : NAt w' b c' m') (hi : NInv c' m') (hk : Keep [b] wr w') : TT w w' b t c' m' S v bo (fun x => O x ∧ (x < wr.heap.size ∨ w'.heap.size ≤ x)) where
  nat := hn
  inv := hi
  tab := h.tab.away (hk.toP (O := fun x => x = b) (by simp)) (fun x _ hO e => h.nb (e ▸ hO))
  own := h.own.keep fun g hg => hk.block g (World.ownsRow.lt h.own g hg).2 (by simp; intro e; exact h.vb (by rw [hg, e]))
  no := fun x hx hO => h.no x hx hO.1
  nb := fun hO => h.nb hO.1
  lo := fun x hx hO => h.lo x hx hO.1
  b0 := h.b0
  bel := h.bel.trans (hk.below h.bel.size (by simp; exact h.b0))
theorem TT.below (h : TT w wr b t c m S v bo O) (hb : Below wr.heap.size wr w') : ∃ O', TT w w' b t c m S v bo O' :=
  ⟨_, h.nstep (h.nat.keep (Keep.of_below (F := []) hb (Nat.le_refl _)) (by simp)) h.inv (Keep.of_below hb (Nat.le_refl _))⟩
theorem TT.tstep (h : TT w wr b t c m S v bo O) (ht : Tab O w' t S') (hk : KeepP O wr w') : TT w w' b t c m S' v bo O where
  nat := ⟨(hk.block b h.nat.top.lt h.nb).trans h.nat.top, h.nat.len⟩
  inv := h.inv
  tab := ht
  own := h.own.keepP hk h.no
  no := h.no
  nb := h.nb
  lo := h.lo
  b0 := h.b0
  bel := h.bel.trans (hk.toBelow h.bel.size h.lo)
theorem TT.app (h : TT w wr b t c m S v bo O) {v' : Value} {x : Int} {o : Obj} (hown : OwnInts w' w.heap.size v' (bo ++ [x])) (hgrow : (wr.alloc o).grownBy w' v.ownBlock) (hat : v'.ownBlock = v.ownBlock ∨ v'.ownBlock = some (wr.alloc o).heap.size) :
    ∃ O', TT w w' b t c m S v' (bo ++ [x]) O' := by
  have hkp : KeepP (fun y => v.ownBlock = some y) wr w' := ⟨hgrow.os, hgrow.tape, hgrow.output, Nat.le_trans (by simp) hgrow.size, fun y hy hne => (hgrow.block y (by simp; omega) (fun e => hne e.symm)).trans (Below.heap_alloc _ _ y hy)⟩
  have hs3 : wr.heap.size < w'.heap.size := Nat.lt_of_lt_of_le (by simp) hgrow.size
  exact ⟨_, { nat := ⟨(hkp.block b h.nat.top.lt (fun e => h.vb e.symm)).trans h.nat.top, h.nat.len⟩, inv := h.inv, tab := h.tab.away hkp (fun y _ hO hv => h.no y hv hO), own := hown
              no := fun y hy hO => by
                have hlt := (World.ownsRow.lt hown y hy).2
                rcases hat with e | e
                · exact h.no y (by rw [← e]; exact hy) hO.1
                · rw [e] at hy
                  simp only [Option.some.injEq] at hy
                  have : wr.heap.size < (wr.alloc o).heap.size := by simp
                  rcases hO.2 with h | h <;> omega
              nb := fun hO => h.nb hO.1
              lo := fun x hx hO => h.lo x hx hO.1
              b0 := h.b0
              bel := (h.bel.alloc h.bel.size _).grown hgrow (by have := h.bel.size; simp; omega) (fun y hy => (World.ownsRow.lt h.own y hy).1) }⟩
end
end Go.Proofs.YthldhbcidcmmaaaDoor
