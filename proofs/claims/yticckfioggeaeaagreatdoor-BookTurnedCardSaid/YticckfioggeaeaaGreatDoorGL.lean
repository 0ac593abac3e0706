/-
  Several texts in one (merged by wip/mergefix.py): BookRows, BookFact.
-/
import Derived.Test.YticckfioggeaeaaGreatDoorGH
import Derived.Test.YticckfioggeaeaaGreatDoorGA
set_option linter.unusedVariables false
set_option linter.unusedSimpArgs false
set_option linter.unnecessarySimpa false
/-
  A store, and rows of the call's own beside it.
-/
namespace Go.Proofs.YticckfioggeaeaaGreatDoor
open Go.RowKit

structure KS (w wr : World) (O : Nat → Prop) (b slots : Nat) (s : Bk) (rows : List (Value × List Int)) : Prop where
  bk : BookAt O wr b slots s
  own : ∀ r ∈ rows, OwnInts wr w.heap.size r.1 r.2
  apart : ∀ r ∈ rows, ∀ x, r.1.ownBlock = some x → ¬ O x
  pair : rows.Pairwise fun r q => ∀ x, r.1.ownBlock = some x → q.1.ownBlock ≠ some x
  bel : Below w.heap.size w wr
  lo : ∀ x, x < w.heap.size → ¬ O x
section
variable {w wr w' w4 : World} {O : Nat → Prop} {b slots : Nat} {s s' : Bk} {rows : List (Value × List Int)}
theorem KS.book (h : KS w wr O b slots s rows) (h1 : BookAt O w' b slots s') (hk : KeepP O wr w') : KS w w' O b slots s' rows :=
  { h with
    bk := h1
    own := fun r hr => (h.own r hr).keep fun x hx => hk.block x (World.ownsRow.lt (h.own r hr) x hx).2 (h.apart r hr x hx)
    bel := h.bel.trans (hk.toBelow h.bel.size h.lo) }
theorem KS.below (h : KS w wr O b slots s rows) (hb : Below wr.heap.size wr w') : KS w w' O b slots s rows := h.book (h.bk.below hb) (KeepP.of_below hb (Nat.le_refl _))
theorem KS.tab (h : KS w wr O b slots s rows) (ht : Tab w) : Tab wr := ht.below h.bel (Nat.le_refl _)
/-- What is made meanwhile is not the store's. -/
theorem KS.away (h : KS w wr O b slots s rows) (hb : Below wr.heap.size wr w') : KS w w' (fun x => O x ∧ (x < wr.heap.size ∨ w'.heap.size ≤ x)) b slots s rows where
  bk := h.bk.away (KeepP.of_below (O := fun _ => False) hb (Nat.le_refl _)) (fun _ _ _ hf => hf)
  own := (h.below hb).own
  apart := fun r hr x hx ho => h.apart r hr x hx ho.1
  pair := h.pair
  bel := (h.below hb).bel
  lo := fun x hx ho => h.lo x hx ho.1
/-- .. a new row beside it. -/
theorem KS.row (h : KS w wr O b slots s rows) (hb : Below wr.heap.size wr w') {v : Value} {l : List Int} (ho : OwnInts w' wr.heap.size v l) : KS w w' (fun x => O x ∧ (x < wr.heap.size ∨ w'.heap.size ≤ x)) b slots s ((v, l) :: rows) :=
  { h.away hb with
    own := fun r hr => by
      rcases List.mem_cons.1 hr with rfl | hr
      · exact own_low ho h.bel.size
      · exact (h.away hb).own r hr
    apart := fun r hr x hx hO => by
      rcases List.mem_cons.1 hr with rfl | hr
      · have := World.ownsRow.lt ho x hx
        have h2 := hO.2
        omega
      · exact (h.away hb).apart r hr x hx hO
    pair := List.Pairwise.cons (fun r hr x hx hx2 => by
      have h1 := World.ownsRow.lt ho x hx
      have h2 := World.ownsRow.lt (h.own r hr) x hx2
      omega) h.pair }
theorem set_pair {rows : List (Value × List Int)} {i : Nat} {v v' : Value} {l l' : List Int} (hi : rows[i]? = some (v, l)) (h : rows.Pairwise fun r q => ∀ x, r.1.ownBlock = some x → q.1.ownBlock ≠ some x)
    (hv : ∀ x, v'.ownBlock = some x → v.ownBlock = some x ∨ ∀ r ∈ rows, r.1.ownBlock ≠ some x) : (rows.set i (v', l')).Pairwise fun r q => ∀ x, r.1.ownBlock = some x → q.1.ownBlock ≠ some x := by
  induction rows generalizing i with
  | nil => simp
  | cons r rows ih =>
    cases i with
    | zero =>
      simp only [List.getElem?_cons_zero, Option.some.injEq] at hi
      subst hi
      rw [List.set_cons_zero]
      rw [List.pairwise_cons] at h ⊢
      refine ⟨fun q hq x hx hx2 => ?_, h.2⟩
      rcases hv x hx with h1 | h1
      · exact h.1 q hq x h1 hx2
      · exact h1 q (by simp [hq]) hx2
    | succ i =>
      rw [List.getElem?_cons_succ] at hi
      rw [List.set_cons_succ]
      rw [List.pairwise_cons] at h ⊢
      refine ⟨fun q hq x hx hx2 => ?_, ih hi h.2 (fun x hx => (hv x hx).imp id (fun h2 r hr => h2 r (by simp [hr])))⟩
      rcases List.mem_or_eq_of_mem_set hq with hq | rfl
      · exact h.1 q hq x hx hx2
      · rcases hv x hx2 with h1 | h1
        · exact h.1 (v, l) (List.mem_of_getElem? hi) x hx h1
        · exact h1 r (by simp) hx
/-- One of the rows grows. -/
theorem KS.app (h : KS w wr O b slots s rows) (i : Nat) {v v' : Value} {l : List Int} {x : Int} {o : Obj} (hi : rows[i]? = some (v, l)) (ho : OwnInts w4 w.heap.size v' (l ++ [x])) (hg : (wr.alloc o).grownBy w4 v.ownBlock) (hat : v'.ownBlock = v.ownBlock ∨ v'.ownBlock = some (wr.alloc o).heap.size) :
    KS w w4 (fun x => O x ∧ (x < wr.heap.size ∨ w4.heap.size ≤ x)) b slots s (rows.set i (v', l ++ [x])) := by
  have hm : (v, l) ∈ rows := List.mem_of_getElem? hi
  have hov : ∀ x, v.ownBlock = some x → ¬ O x := h.apart _ hm
  have hsz : wr.heap.size ≤ w4.heap.size := Nat.le_trans (by simp) hg.size
  have hkp : KeepP (fun y => v.ownBlock = some y) wr w4 := ⟨hg.os, hg.tape, hg.output, hsz, fun y hy hne => (hg.block y (by simp; omega) (fun e => hne e.symm)).trans (Below.heap_alloc _ _ y hy)⟩
  have hbel : Below w.heap.size wr w4 := hkp.toBelow h.bel.size (fun y hy e => by have := (World.ownsRow.lt (h.own _ hm) y e).1; omega)
  have hnew : ∀ x, v'.ownBlock = some x → v.ownBlock = some x ∨ wr.heap.size ≤ x := fun x hx => by
    rcases hat with e | e
    · exact .inl (e ▸ hx)
    · rw [e] at hx
      injection hx with hx
      rw [World.size_alloc] at hx
      exact .inr (by omega)
  refine { bk := h.bk.away hkp (fun x _ hO he => hov x he hO), own := ?_, apart := ?_, pair := ?_, bel := h.bel.trans hbel, lo := fun x hx ho => h.lo x hx ho.1 }
  · intro r hr
    have hr' : r ∈ rows ∧ (∀ x, r.1.ownBlock = some x → v.ownBlock ≠ some x) ∨ r = (v', l ++ [x]) := by
      obtain ⟨j, hj⟩ := List.getElem?_of_mem hr
      rw [List.getElem?_set] at hj
      by_cases hij : i = j
      · right
        rw [if_pos hij] at hj
        split at hj
        · exact (Option.some.inj hj).symm
        · cases hj
      · left
        rw [if_neg hij] at hj
        refine ⟨List.mem_of_getElem? hj, fun y hy1 hy2 => ?_⟩
        obtain ⟨hjl, hje⟩ := List.getElem?_eq_some_iff.1 hj
        obtain ⟨hil, hie⟩ := List.getElem?_eq_some_iff.1 hi
        rcases Nat.lt_or_gt_of_ne hij with hlt | hlt
        · have := List.pairwise_iff_getElem.1 h.pair i j hil hjl hlt
          rw [hie, hje] at this
          exact this y hy2 hy1
        · have := List.pairwise_iff_getElem.1 h.pair j i hjl hil hlt
          rw [hie, hje] at this
          exact this y hy1 hy2
    rcases hr' with ⟨hr1, hr2⟩ | rfl
    · exact (h.own r hr1).keep fun y hy => hkp.block y (World.ownsRow.lt (h.own r hr1) y hy).2 (hr2 y hy)
    · exact ho
  · intro r hr y hy hO
    rcases List.mem_or_eq_of_mem_set hr with hr | rfl
    · exact h.apart r hr y hy hO.1
    · rcases hnew y hy with h1 | h1
      · exact hov y h1 hO.1
      · have := (World.ownsRow.lt ho y hy).2
        have := hO.2
        omega
  · refine set_pair hi h.pair fun y hy => (hnew y hy).imp id fun h1 r hr e => ?_
    have := (World.ownsRow.lt (h.own r hr) y e).2
    omega
/-- A row is let go of. -/
theorem KS.tail {r : Value × List Int} (h : KS w wr O b slots s (r :: rows)) : KS w wr O b slots s rows :=
  { h with own := fun q hq => h.own q (by simp [hq]), apart := fun q hq => h.apart q (by simp [hq]), pair := (List.pairwise_cons.1 h.pair).2 }
/-- Rows begin empty. -/
theorem KS.nil (h : KS w wr O b slots s rows) : KS w wr O b slots s ((.slice none 0 0, []) :: rows) :=
  { h with
    own := fun r hr => by
      rcases List.mem_cons.1 hr with rfl | hr
      · exact OwnInts.nil _ _
      · exact h.own r hr
    apart := fun r hr x hx => by
      rcases List.mem_cons.1 hr with rfl | hr
      · simp [Value.ownBlock] at hx
      · exact h.apart r hr x hx
    pair := List.Pairwise.cons (fun r _ x hx => by simp [Value.ownBlock] at hx) h.pair }
theorem KS.in0 {v : Value} {l : List Int} (h : KS w wr O b slots s ((v, l) :: rows)) : OwnInts wr w.heap.size v l := h.own (v, l) (by simp)
end
theorem KS.start {w w1 : World} {b slots : Nat} (h : BookAt (fun x => w.heap.size ≤ x) w1 b slots bk0) (hb : Below w.heap.size w w1) : KS w w1 (fun x => w.heap.size ≤ x) b slots bk0 [] :=
  ⟨h, by simp, by simp, List.Pairwise.nil, hb, fun x hx ho => by omega⟩
end Go.Proofs.YticckfioggeaeaaGreatDoor

/-
  bookFact, by its contract.
-/
namespace Go.Proofs.YticckfioggeaeaaGreatDoor
open Go.RowKit

def fs1 : Bk := ⟨[(1, 2)], [112, 32, 49, 32, 50, 32, 55, 48, 49, 10], 1⟩
def fs2 : Bk := ⟨[(3, 4)], [112, 32, 49, 32, 50, 32, 55, 48, 49, 10, 112, 32, 51, 32, 52, 32, 55, 49, 55, 10], 2⟩
theorem dec_dig1 (n : Nat) (h : n < 10) : Lib.itoa (n : Int) = [UInt8.ofNat (48 + n)] := by rw [itoa_nat, dec_small h]
theorem itoa_701 : Lib.itoa ((701 : Nat) : Int) = [55, 48, 49] := by
  rw [itoa_nat, dec_big (by decide), dec_big (by decide), dec_small (by decide)]
  decide
theorem itoa_717 : Lib.itoa ((717 : Nat) : Int) = [55, 49, 55] := by
  rw [itoa_nat, dec_big (by decide), dec_big (by decide), dec_small (by decide)]
  decide
theorem fact_line1 : lineOf (wordP 1 2) = [112, 32, 49, 32, 50, 32, 55, 48, 49, 10] := by
  have h1 : wordP 1 2 = [112, 32, 49, 32, 50] := by
    unfold wordP
    rw [show (1 : Int) = ((1 : Nat) : Int) from rfl, show (2 : Int) = ((2 : Nat) : Int) from rfl, dec_dig1 1 (by decide), dec_dig1 2 (by decide)]
    decide
  unfold lineOf
  rw [h1, show sumB [112, 32, 49, 32, 50] = 701 by decide, itoa_701]
  decide
theorem fact_line2 : lineOf (wordP 3 4) = [112, 32, 51, 32, 52, 32, 55, 49, 55, 10] := by
  have h1 : wordP 3 4 = [112, 32, 51, 32, 52] := by
    unfold wordP
    rw [show (3 : Int) = ((3 : Nat) : Int) from rfl, show (4 : Int) = ((4 : Nat) : Int) from rfl, dec_dig1 3 (by decide), dec_dig1 4 (by decide)]
    decide
  unfold lineOf
  rw [h1, show sumB [112, 32, 51, 32, 52] = 717 by decide, itoa_717]
  decide
theorem fact_put1 : putE bk0 1 2 = 0 ∧ putS 1 bk0 1 2 = fs1 ∧ putV 1 bk0 1 2 = -1 := by
  have he : putE bk0 1 2 = 0 := by decide
  refine ⟨he, ?_, ?_⟩
  · unfold putS
    rw [if_pos he]
    unfold putB
    rw [fact_line1, show ((1, 2) :: (outM 1 bk0 1).filter fun p => p.1 != 1) = [((1 : Int), (2 : Int))] by decide]
    rfl
  · decide
theorem fact_put2 : putE fs1 3 4 = 0 ∧ putS 1 fs1 3 4 = fs2 ∧ putV 1 fs1 3 4 = 1 := by
  have he : putE fs1 3 4 = 0 := by decide
  refine ⟨he, ?_, ?_⟩
  · unfold putS
    rw [if_pos he]
    unfold putB
    rw [fact_line2, show ((3, 4) :: (outM 1 fs1 3).filter fun p => p.1 != 3) = [((3 : Int), (4 : Int))] by decide]
    rfl
  · decide
set_option maxHeartbeats 4000000 in
set_option maxRecDepth 100000 in
theorem fact_any (w : World) (ht : Tab w) : Calls Tryz.prog 17 #[] w fun e w' => e = .returned (.bool true) ∧ Below w.heap.size w w' := by
  have HT := Lib.hid ht
  clear ht
  go_enter Tryz.func17, Tryz.ntmps17
  go_wp2_with fail
  refine (new_yes 1 _ (by omega) (by omega)).mono ?_
  rintro e w1 ⟨b, rfl, hb1, _, hbel1⟩
  have HK1 := Lib.hid (KS.start hb1 hbel1)
  clear hb1 hbel1
  go_wp2_with fail
  refine (put_any b 1 bk0 1 2 _ HK1.out.bk (HK1.out.tab HT.out)).mono ?_
  rintro e w2 ⟨rfl, hb2, hk2⟩
  rw [fact_put1.1, fact_put1.2.2]
  rw [fact_put1.2.1] at hb2
  have HK2 := Lib.hid (HK1.out.book hb2 hk2)
  clear hb2 hk2
  go_wp2_with fail
  refine (put_any b 1 fs1 3 4 _ HK2.out.bk (HK2.out.tab HT.out)).mono ?_
  rintro e w3 ⟨rfl, hb3, hk3⟩
  rw [fact_put2.1, fact_put2.2.2]
  rw [fact_put2.2.1] at hb3
  have HK3 := Lib.hid (HK2.out.book hb3 hk3)
  clear hb3 hk3
  simp only [errw_zero]
  go_wp2_with fail
  refine (keysB_any _ HK3.out.bk).mono ?_
  rintro e w4 ⟨v, rfl, ho4, hb4⟩
  have HK4 := Lib.hid (HK3.out.row hb4 ho4)
  obtain ⟨a, c, hv, hin⟩ := ho4.shape
  subst hv
  have HIN := Lib.hid hin
  clear ho4 hb4 hin
  have hal : Below w4.heap.size w4 (w4.alloc (.cells #[.int .i64 3] 3)) := (Below.refl _ _).alloc (Nat.le_refl _) _
  have HK5 := Lib.hid (HK4.out.away hal)
  have HI5 : Hid (IntsIn (w4.alloc (.cells #[.int .i64 3] 3)) w4.heap.size a [3]) := Lib.hid ((HIN.out.below hal))
  clear hal
  go_wp2_with fail
  refine (ints_same_keep a _ 1 c 1 _ _ [3] _ rfl HI5.out (one_in w4 3) (by unfold maxLen; omega)).mono ?_
  rintro e w6 ⟨rfl, hk6⟩
  have HK6 := Lib.hid (HK5.out.below (hk6.below (Nat.le_refl _) (by simp)))
  clear hk6
  go_wp2_with fail
  refine (text_any _ HK6.out.bk).mono ?_
  rintro e w7 ⟨rfl, hb7, hk7⟩
  have HK7 := Lib.hid (HK6.out.book hb7 hk7)
  clear hb7 hk7
  go_wp2_with fail
  refine (text_any _ HK7.out.bk).mono ?_
  rintro e w8 ⟨rfl, hb8, hk8⟩
  have HK8 := Lib.hid (HK7.out.book hb8 hk8)
  clear hb8 hk8
  unfold fs2
  go_wp2
  go_ret
  exact ⟨by simp; rw [Lib.extract_toList]; rfl, HK8.out.bel⟩
end Go.Proofs.YticckfioggeaeaaGreatDoor
