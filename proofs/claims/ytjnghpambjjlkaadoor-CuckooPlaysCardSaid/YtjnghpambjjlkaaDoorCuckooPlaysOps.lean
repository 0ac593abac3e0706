/-
  Nests, the program's and the reference's: Add and Drop answer alike.
-/
import Derived.Test.YtjnghpambjjlkaaDoorCuckooRef4
import Derived.Test.YtjnghpambjjlkaaDoorTold2
namespace Go.Proofs.YtjnghpambjjlkaaDoor
open Go.RowKit

def ErrIs (v : Value) (n : Int) : Prop := (n = 0 ∧ v = .nilIface) ∨ v = errv n
theorem eError_is (v : Value) (n : Int) (w : World) (h : ErrIs v n) (hg : Handle w) : Calls Tryd.prog 13 #[v, .int .i64 n] w (ErrorPost w true) := by
  rcases h with ⟨rfl, rfl⟩ | rfl
  · exact eError_nil 0 w
  · have := eError_some n n w hg
    rwa [show (n == n) = true by simp] at this

def BothPost (w : World) (b : Nat) (c : List Int) (n : Int) (e : Ending) (w' : World) : Prop := ∃ v m, e = .returned v ∧ ErrIs v n ∧ NAt w' b c m ∧ NInv c m ∧ Keep [b] w w'
theorem nAdd_all (b : Nat) (c : List Int) (m x : Int) (w : World) (hs : NAt w b c m) (hi : NInv c m) :
    Calls Tryd.prog 9 #[.pointer (some ⟨b, 0, none⟩), .int .i64 x] w (BothPost w b (addR c x) (addE c x)) := by
  unfold addR addE
  by_cases hr : x < 0 ∨ 1000000 < x
  · rw [if_pos hr, if_pos hr]
    exact (nAdd_range b x w hr).mono (by rintro e w' ⟨rfl, rfl⟩; exact ⟨_, m, rfl, .inr rfl, hs, hi, Keep.refl _ _⟩)
  · rw [if_neg hr, if_neg hr]
    have h0 : 0 ≤ x := by omega
    have h1 : x ≤ 1000000 := by omega
    cases hh : hasI c x with
    | true =>
      rw [if_pos rfl, if_pos rfl]
      exact (nAdd_clash b c m x w hs hi.fine h0 h1 hh).mono (by rintro e w' ⟨rfl, q, rfl⟩; exact ⟨_, m, rfl, .inr rfl, hs.drewN q, hi, (Keep.refl _ _).drewN q⟩)
    | false =>
      simp only [Bool.false_eq_true, if_false]
      have hc := hi.cnt
      have hle := hi.le
      by_cases h16 : 16 ≤ (live c).length
      · rw [if_pos h16, if_pos h16]
        exact (nAdd_full b c m x w hs hi.fine h0 h1 hh (by omega)).mono (by rintro e w' ⟨rfl, q, rfl⟩; exact ⟨_, m, rfl, .inr rfl, hs.drewN q, hi, (Keep.refl _ _).drewN q⟩)
      · rw [if_neg h16, if_neg h16]
        obtain ⟨k, rfl⟩ := Int.eq_ofNat_of_zero_le h0
        have := nAdd_go b c m k w hs hi.fine h1 hh (by omega) (by omega)
        refine this.mono ?_
        rw [show ((k : Int)).toNat = k by omega]
        unfold driveR driveE
        rintro e w' (⟨c', hd, rfl, hn, hk⟩ | ⟨hd, rfl, hn, hk⟩)
        · rw [hd]
          exact ⟨_, m + 1, rfl, .inl ⟨rfl, rfl⟩, hn, (hi.add (by omega) hh (by omega) hd).1, hk⟩
        · rw [hd]
          exact ⟨_, m, rfl, .inr rfl, hn, hi, hk⟩

def dropRx (c : List Int) (x : Int) : List Int := if x < 0 ∨ 1000000 < x then c else dropR c x.toNat
def dropEx (c : List Int) (x : Int) : Int := if x < 0 ∨ 1000000 < x then 1 else dropE c x.toNat
theorem nDrop_all (b : Nat) (c : List Int) (m x : Int) (w : World) (hs : NAt w b c m) (hi : NInv c m) :
    Calls Tryd.prog 10 #[.pointer (some ⟨b, 0, none⟩), .int .i64 x] w (BothPost w b (dropRx c x) (dropEx c x)) := by
  unfold dropRx dropEx
  by_cases hr : x < 0 ∨ 1000000 < x
  · rw [if_pos hr, if_pos hr]
    exact (nDrop_range b x w hr).mono (by rintro e w' ⟨rfl, rfl⟩; exact ⟨_, m, rfl, .inr rfl, hs, hi, Keep.refl _ _⟩)
  · rw [if_neg hr, if_neg hr]
    have h0 : 0 ≤ x := by omega
    obtain ⟨k, rfl⟩ := Int.eq_ofNat_of_zero_le h0
    have hc := hi.cnt
    refine (nDrop_go b c m k w hs (by omega) (by omega) hi.le).mono ?_
    rw [show ((k : Int)).toNat = k by omega]
    unfold dropR dropE
    rintro e w' (⟨c', hd, rfl, hn, hk⟩ | ⟨hd, rfl, hn, hk⟩)
    · rw [hd]
      exact ⟨_, m - 1, rfl, .inl ⟨rfl, rfl⟩, hn, (hi.drop hd).1, hk⟩
    · rw [hd]
      exact ⟨_, m, rfl, .inr rfl, hn, hi, hk⟩

set_option maxHeartbeats 1000000 in
set_option maxRecDepth 100000 in
theorem kDropNest_all (gA cA gB cB base : Nat) (c : List Int) (x : Int) (w : World) (h : KN w base c gA cA gB cB) (hb : base ≤ w.heap.size) :
    Calls Tryd.prog 17 #[.agg #[.slice (some ⟨gA, 0, none⟩) 11 cA, .slice (some ⟨gB, 0, none⟩) 11 cB], .int .i64 x] w (NestsPost w base (dropRx c x) (dropEx c x)) := by
  unfold dropRx dropEx
  by_cases hr : x < 0 ∨ 1000000 < x
  · rw [if_pos hr, if_pos hr]
    obtain ⟨w1, hw1⟩ : ∃ w1, w1 = (w.alloc (.cells #[.slice (some ⟨gA, 0, none⟩) 11 cA, .slice (some ⟨gB, 0, none⟩) 11 cB] 35)).alloc (.cells #[.slice none 0 0, .slice none 0 0] 35) := ⟨_, rfl⟩
    have hk1 : Keep [] w w1 := by rw [hw1]; exact ((Keep.refl [] w).alloc _).alloc _
    have hn1 : KN w1 base c gA cA gB cB := h.keepF hk1 (by simp)
    have hgA := h.gA_lt; have hgB := h.gB_lt
    have hbx : Blk w1 w.heap.size 35 [.slice (some ⟨gA, 0, none⟩) 11 cA, .slice (some ⟨gB, 0, none⟩) 11 cB] := by
      rw [hw1]; exact (Blk.new w 35 [.slice (some ⟨gA, 0, none⟩) 11 cA, .slice (some ⟨gB, 0, none⟩) 11 cB]).alloc _
    have hbr : Blk w1 (w.heap.size + 1) 35 [.slice none 0 0, .slice none 0 0] := by
      rw [hw1]
      have := Blk.new (w.alloc (.cells #[.slice (some ⟨gA, 0, none⟩) 11 cA, .slice (some ⟨gB, 0, none⟩) 11 cB] 35)) 35 [.slice none 0 0, .slice none 0 0]
      rwa [World.size_alloc] at this
    have hx0 := hbx.cell_ (i := 0) rfl
    have hx1 := hbx.cell_ (i := 1) rfl
    have hr0 := hbr.cell_ (i := 0) rfl
    have hr1 := hbr.cell_ (i := 1) rfl
    have hrf0 := hbr.free 0
    have hrf1 := hbr.free 1
    have hsz1 : w1.heap.size = w.heap.size + 2 := by rw [hw1]; simp
    have HK1 := Lib.hid hk1; have HN1 := Lib.hid hn1; have HBR := Lib.hid hbr; have HGA := Lib.hid hgA; have HGB := Lib.hid hgB; have HSZ := Lib.hid hsz1; have HW1 := Lib.hid hw1; have HR := Lib.hid hr
    clear h hk1 hn1 hbx hbr hb hgA hgB hsz1 hw1 hr
    go_enter Tryd.func17, Tryd.ntmps17
    go_wp2_with fail
    refine (kin_no _ _ _ _ HR.out).mono ?_
    rintro e w' ⟨rfl, rfl⟩
    rw [← HW1.out]
    go_wp2
    (try simp only [Exit.inBlock, Exit.then])
    refine bodyPost_ret (results_cell2 rfl _ _ (w.heap.size + 1) 35 _ _ rfl ((HBR.out.set 0 _).set 1 _) Tryd.underlying35 rfl info_nests) rfl ?_
    have hkf : Keep [w.heap.size + 1] w1 ((w1.setCell ⟨w.heap.size + 1, 0, none⟩ (.slice (some ⟨gA, 0, none⟩) 11 cA)).setCell ⟨w.heap.size + 1, 1, none⟩ (.slice (some ⟨gB, 0, none⟩) 11 cB)) := (((Keep.refl _ w1).set (fun _ => by simp) _).set (fun _ => by simp) _)
    exact ⟨gA, cA, gB, cB, rfl, ⟨HN1.out.A.keepN hkf (by have := HGA.out.1; have := HSZ.out; omega) (by have := HGA.out.1; simp; omega), HN1.out.B.keepN hkf (by have := HGB.out.1; have := HSZ.out; omega) (by have := HGB.out.1; simp; omega), HN1.out.len⟩,
        (HK1.out.below (Nat.le_refl _) (by simp)).trans (hkf.below (by have := HSZ.out; omega) (by simp))⟩
  · rw [if_neg hr, if_neg hr]
    have h0 : 0 ≤ x := by omega
    obtain ⟨k, rfl⟩ := Int.eq_ofNat_of_zero_le h0
    rw [show ((k : Int)).toNat = k by omega]
    exact kDropNest gA cA gB cB base c k w h hb (by omega)

/-- A row of the nests, told as a list. -/
def RowIs (w : World) (c : List Int) (r : Nat) (e : Ending) (w' : World) : Prop := ∃ g cap, e = .returned (.slice (some ⟨g, 0, none⟩) 11 cap) ∧ IntsIn w' w'.heap.size (some ⟨g, 0, none⟩) (rowV c r) ∧ Below w.heap.size w w'
theorem nRow_is (b : Nat) (c : List Int) (m : Int) (r : Nat) (w : World) (hs : NAt w b c m) (hf : Fine c) (hr : r < 2) :
    Calls Tryd.prog 14 #[.pointer (some ⟨b, 0, none⟩), .int .i64 r] w (RowIs w c r) := by
  refine (nRow_go b c m r w hs hf hr).mono ?_
  rintro e w' ⟨g, cap, cur, rfl, hg, hb, hc, hbel⟩
  refine ⟨g, cap, rfl, fun h0 => ⟨g, 0, rfl, hb.lt, fun i x hx => ?_⟩, hbel⟩
  have hi : i < 11 := by have := (List.getElem?_eq_some_iff.1 hx).1; rwa [rowV_len hs.len hr] at this
  rw [rowV_get hs.len hr hi] at hx
  rw [Nat.zero_add]
  exact hb.cell_ ((hc i hi).trans (by rw [← Option.some.inj hx]))
theorem nRow0 (b : Nat) (c : List Int) (m : Int) (w : World) (hs : NAt w b c m) (hf : Fine c) : Calls Tryd.prog 14 #[.pointer (some ⟨b, 0, none⟩), .int .i64 0] w (RowIs w c 0) := nRow_is b c m 0 w hs hf (by decide)
theorem nRow1 (b : Nat) (c : List Int) (m : Int) (w : World) (hs : NAt w b c m) (hf : Fine c) : Calls Tryd.prog 14 #[.pointer (some ⟨b, 0, none⟩), .int .i64 1] w (RowIs w c 1) := nRow_is b c m 1 w hs hf (by decide)
theorem OwnInts.inAt {w : World} {base g n cap : Nat} {l : List Int} (h : OwnInts w base (.slice (some ⟨g, 0, none⟩) n cap) l) : IntsIn w w.heap.size (some ⟨g, 0, none⟩) l := fun h0 => ⟨g, 0, rfl, (h.cellAt (List.getElem?_eq_getElem h0)).1, fun i x hx => by rw [Nat.zero_add]; exact (h.cellAt hx).2.2⟩
theorem KN.inA {w : World} {base : Nat} {c : List Int} {gA cA gB cB : Nat} (h : KN w base c gA cA gB cB) : IntsIn w w.heap.size (some ⟨gA, 0, none⟩) (rowV c 0) := h.A.inAt
theorem KN.inB {w : World} {base : Nat} {c : List Int} {gA cA gB cB : Nat} (h : KN w base c gA cA gB cB) : IntsIn w w.heap.size (some ⟨gB, 0, none⟩) (rowV c 1) := h.B.inAt
end Go.Proofs.YtjnghpambjjlkaaDoor
