/-
  Several texts in one (merged by wip/merge.py): SameInts, BookRows, BookFact, BookTold, BookTwo, BookPl, ErrIsB, BookOpensWalk.
-/
import Derived.Test.YticckfioggeaeaaGreatDoorM00
import Derived.Deep.QuietTactic
import Derived.BigQuiet
import Derived.Test.YticckfioggeaeaaGreatDoorM12
import Derived.Test.YticckfioggeaeaaGreatDoorBookOpen
import Derived.Deep.DeepCutAuto
import Derived.Test.YticckfioggeaeaaGreatDoorBookRef5
import Derived.Test.YticckfioggeaeaaGreatDoorTold2B
import Derived.Test.YticckfioggeaeaaGreatDoorBookRefOpen
import Derived.Deep.RegionHeld3
set_option linter.unusedVariables false
/-
  larderwicksame.Ints of two lists that are the same, by its contract.
-/
namespace Go.Proofs.YticckfioggeaeaaGreatDoor
open Go.RowKit

theorem drewN_drew (w : World) (n : Nat) : (w.drewN n).drew = w.drewN (n + 1) := by simp [World.drewN, World.drew, Nat.add_assoc]
theorem drewN_drewN (w : World) (n m : Nat) : (w.drewN n).drewN m = w.drewN (n + m) := by simp [World.drewN, Nat.add_assoc]

set_option maxRecDepth 100000 in
theorem ints_same (a a' : Option Addr) (n c c' B B' : Nat) (xs : List Int) (w : World) (hl : xs.length = n) (h : IntsIn w B a xs) (h' : IntsIn w B' a' xs) (hn : n ≤ maxLen) :
    Calls Tryz.prog 15 #[.slice a n c, .slice a' n c'] w fun e w' => e = .returned (.bool true) ∧ ∃ q, w' = w.drewN q := by
  have HN := Lib.hid hn; clear hn
  go_enter Tryz.func15, Tryz.ntmps15
  go_wp2
  go_loopw [5] (fun i wr => ∃ k q : Nat, k ≤ n ∧ i = .int .i64 k ∧ wr = w.drewN q) (fun i _ => n - (intOf i).toNat)
  case atStart => exact ⟨0, 0, Nat.zero_le _, rfl, by simp [World.drewN]⟩
  case round =>
    obtain ⟨k, q, hk, rfl, hwr⟩ := hrel
    by_cases hlt : k < n
    · obtain ⟨b, off, rfl, hb, hc⟩ := h.at_ (by omega : k < xs.length)
      obtain ⟨b', off', rfl, hb', hc'⟩ := h'.at_ (by omega : k < xs.length)
      have hc1 : wr.cell? ⟨b, off + k, none⟩ = some (.int .i64 xs[k]) := by rw [hwr]; exact hc
      have hc2 : wr.cell? ⟨b', off' + k, none⟩ = some (.int .i64 xs[k]) := by rw [hwr]; exact hc'
      clear hc hc'
      obtain ⟨x, hx⟩ : ∃ x, x = xs[k] := ⟨_, rfl⟩
      rw [← hx] at hc1 hc2
      clear hx
      have HW := Lib.hid hwr; clear hwr
      have hk0 : (0 : Int) ≤ (k : Int) := by omega
      have hkn : (k : Int) < (n : Int) := by omega
      have hb63 : k < 9223372036854775807 := by have := HN.out; unfold maxLen at this; omega
      go_wp2
      go_quiet (fail)
      go_wp2
      go_roundw
      case rel => exact ⟨k + 1, _, hlt, by go_num, by rw [HW.out]; exact drewN_drewN _ _ _⟩
      case measure => simp [intOf]; omega
    · have HW := Lib.hid hwr; clear hwr
      go_wp2
      go_ret
      exact ⟨rfl, q, HW.out⟩

/-- .. as a plain step. -/
theorem ints_same_keep (a a' : Option Addr) (n c c' B B' : Nat) (xs : List Int) (w : World) (hl : xs.length = n) (h : IntsIn w B a xs) (h' : IntsIn w B' a' xs) (hn : n ≤ maxLen) :
    Calls Tryz.prog 15 #[.slice a n c, .slice a' n c'] w fun e w' => e = .returned (.bool true) ∧ Keep [] w w' := by
  refine (ints_same a a' n c c' B B' xs w hl h h' hn).mono ?_
  rintro e w' ⟨h1, q, rfl⟩
  exact ⟨h1, (Keep.refl _ _).drewN q⟩
end Go.Proofs.YticckfioggeaeaaGreatDoor

/-
  A store, and rows of the call's own beside it.
-/
namespace Go.Proofs.YticckfioggeaeaaGreatDoor
open Go.RowKit

structure KS (w wr : World) (O : Nat → Prop) (b slots : Nat) (s : Bk) (rows : List (Value × List Int)) : Prop where
  bk : BookAt O wr b slots s
  own : ∀ r ∈ rows, OwnInts wr w.heap.size r.1 r.2
  apart : ∀ r ∈ rows, ∀ x, r.1.ownBlock = some x → ¬ O x
  pair : rows.Pairwise fun r q => ∀ x, r.1.ownBlock = some x → q.1.ownBlock ≠ some x
  bel : Below w.heap.size w wr
  lo : ∀ x, x < w.heap.size → ¬ O x
section
variable {w wr w' w4 : World} {O : Nat → Prop} {b slots : Nat} {s s' : Bk} {rows : List (Value × List Int)}
theorem KS.book (h : KS w wr O b slots s rows) (h1 : BookAt O w' b slots s') (hk : KeepP O wr w') : KS w w' O b slots s' rows :=
  { h with
    bk := h1
    own := fun r hr => (h.own r hr).keep fun x hx => hk.block x (World.ownsRow.lt (h.own r hr) x hx).2 (h.apart r hr x hx)
    bel := h.bel.trans (hk.toBelow h.bel.size h.lo) }
theorem KS.below (h : KS w wr O b slots s rows) (hb : Below wr.heap.size wr w') : KS w w' O b slots s rows := h.book (h.bk.below hb) (KeepP.of_below hb (Nat.le_refl _))
theorem KS.tab (h : KS w wr O b slots s rows) (ht : Tab w) : Tab wr := ht.below h.bel (Nat.le_refl _)
/-- What is made meanwhile is not the store's. -/
theorem KS.away (h : KS w wr O b slots s rows) (hb : Below wr.heap.size wr w') : KS w w' (fun x => O x ∧ (x < wr.heap.size ∨ w'.heap.size ≤ x)) b slots s rows where
  bk := h.bk.away (KeepP.of_below (O := fun _ => False) hb (Nat.le_refl _)) (fun _ _ _ hf => hf)
  own := (h.below hb).own
  apart := fun r hr x hx ho => h.apart r hr x hx ho.1
  pair := h.pair
  bel := (h.below hb).bel
  lo := fun x hx ho => h.lo x hx ho.1
/-- .. a new row beside it. -/
theorem KS.row (h : KS w wr O b slots s rows) (hb : Below wr.heap.size wr w') {v : Value} {l : List Int} (ho : OwnInts w' wr.heap.size v l) : KS w w' (fun x => O x ∧ (x < wr.heap.size ∨ w'.heap.size ≤ x)) b slots s ((v, l) :: rows) :=
  { h.away hb with
    own := fun r hr => by
      rcases List.mem_cons.1 hr with rfl | hr
      · exact own_low ho h.bel.size
      · exact (h.away hb).own r hr
    apart := fun r hr x hx hO => by
      rcases List.mem_cons.1 hr with rfl | hr
      · have := World.ownsRow.lt ho x hx
        have h2 := hO.2
        omega
      · exact (h.away hb).apart r hr x hx hO
    pair := List.Pairwise.cons (fun r hr x hx hx2 => by
      have h1 := World.ownsRow.lt ho x hx
      have h2 := World.ownsRow.lt (h.own r hr) x hx2
      omega) h.pair }
theorem set_pair {rows : List (Value × List Int)} {i : Nat} {v v' : Value} {l l' : List Int} (hi : rows[i]? = some (v, l)) (h : rows.Pairwise fun r q => ∀ x, r.1.ownBlock = some x → q.1.ownBlock ≠ some x)
    (hv : ∀ x, v'.ownBlock = some x → v.ownBlock = some x ∨ ∀ r ∈ rows, r.1.ownBlock ≠ some x) : (rows.set i (v', l')).Pairwise fun r q => ∀ x, r.1.ownBlock = some x → q.1.ownBlock ≠ some x := by
  induction rows generalizing i with
  | nil => simp
  | cons r rows ih =>
    cases i with
    | zero =>
      simp only [List.getElem?_cons_zero, Option.some.injEq] at hi
      subst hi
      rw [List.set_cons_zero]
      rw [List.pairwise_cons] at h ⊢
      refine ⟨fun q hq x hx hx2 => ?_, h.2⟩
      rcases hv x hx with h1 | h1
      · exact h.1 q hq x h1 hx2
      · exact h1 q (by simp [hq]) hx2
    | succ i =>
      rw [List.getElem?_cons_succ] at hi
      rw [List.set_cons_succ]
      rw [List.pairwise_cons] at h ⊢
      refine ⟨fun q hq x hx hx2 => ?_, ih hi h.2 (fun x hx => (hv x hx).imp id (fun h2 r hr => h2 r (by simp [hr])))⟩
      rcases List.mem_or_eq_of_mem_set hq with hq | rfl
      · exact h.1 q hq x hx hx2
      · rcases hv x hx2 with h1 | h1
        · exact h.1 (v, l) (List.mem_of_getElem? hi) x hx h1
        · exact h1 r (by simp) hx
/-- One of the rows grows. -/
theorem KS.app (h : KS w wr O b slots s rows) (i : Nat) {v v' : Value} {l : List Int} {x : Int} {o : Obj} (hi : rows[i]? = some (v, l)) (ho : OwnInts w4 w.heap.size v' (l ++ [x])) (hg : (wr.alloc o).grownBy w4 v.ownBlock) (hat : v'.ownBlock = v.ownBlock ∨ v'.ownBlock = some (wr.alloc o).heap.size) :
    KS w w4 (fun x => O x ∧ (x < wr.heap.size ∨ w4.heap.size ≤ x)) b slots s (rows.set i (v', l ++ [x])) := by
  have hm : (v, l) ∈ rows := List.mem_of_getElem? hi
  have hov : ∀ x, v.ownBlock = some x → ¬ O x := h.apart _ hm
  have hsz : wr.heap.size ≤ w4.heap.size := Nat.le_trans (by simp) hg.size
  have hkp : KeepP (fun y => v.ownBlock = some y) wr w4 := ⟨hg.os, hg.tape, hg.output, hsz, fun y hy hne => (hg.block y (by simp; omega) (fun e => hne e.symm)).trans (Below.heap_alloc _ _ y hy)⟩
  have hbel : Below w.heap.size wr w4 := hkp.toBelow h.bel.size (fun y hy e => by have := (World.ownsRow.lt (h.own _ hm) y e).1; omega)
  have hnew : ∀ x, v'.ownBlock = some x → v.ownBlock = some x ∨ wr.heap.size ≤ x := fun x hx => by
    rcases hat with e | e
    · exact .inl (e ▸ hx)
    · rw [e] at hx
      injection hx with hx
      rw [World.size_alloc] at hx
      exact .inr (by omega)
  refine { bk := h.bk.away hkp (fun x _ hO he => hov x he hO), own := ?_, apart := ?_, pair := ?_, bel := h.bel.trans hbel, lo := fun x hx ho => h.lo x hx ho.1 }
  · intro r hr
    have hr' : r ∈ rows ∧ (∀ x, r.1.ownBlock = some x → v.ownBlock ≠ some x) ∨ r = (v', l ++ [x]) := by
      obtain ⟨j, hj⟩ := List.getElem?_of_mem hr
      rw [List.getElem?_set] at hj
      by_cases hij : i = j
      · right
        rw [if_pos hij] at hj
        split at hj
        · exact (Option.some.inj hj).symm
        · cases hj
      · left
        rw [if_neg hij] at hj
        refine ⟨List.mem_of_getElem? hj, fun y hy1 hy2 => ?_⟩
        obtain ⟨hjl, hje⟩ := List.getElem?_eq_some_iff.1 hj
        obtain ⟨hil, hie⟩ := List.getElem?_eq_some_iff.1 hi
        rcases Nat.lt_or_gt_of_ne hij with hlt | hlt
        · have := List.pairwise_iff_getElem.1 h.pair i j hil hjl hlt
          rw [hie, hje] at this
          exact this y hy2 hy1
        · have := List.pairwise_iff_getElem.1 h.pair j i hjl hil hlt
          rw [hie, hje] at this
          exact this y hy1 hy2
    rcases hr' with ⟨hr1, hr2⟩ | rfl
    · exact (h.own r hr1).keep fun y hy => hkp.block y (World.ownsRow.lt (h.own r hr1) y hy).2 (hr2 y hy)
    · exact ho
  · intro r hr y hy hO
    rcases List.mem_or_eq_of_mem_set hr with hr | rfl
    · exact h.apart r hr y hy hO.1
    · rcases hnew y hy with h1 | h1
      · exact hov y h1 hO.1
      · have := (World.ownsRow.lt ho y hy).2
        have := hO.2
        omega
  · refine set_pair hi h.pair fun y hy => (hnew y hy).imp id fun h1 r hr e => ?_
    have := (World.ownsRow.lt (h.own r hr) y e).2
    omega
/-- A row is let go of. -/
theorem KS.tail {r : Value × List Int} (h : KS w wr O b slots s (r :: rows)) : KS w wr O b slots s rows :=
  { h with own := fun q hq => h.own q (by simp [hq]), apart := fun q hq => h.apart q (by simp [hq]), pair := (List.pairwise_cons.1 h.pair).2 }
/-- Rows begin empty. -/
theorem KS.nil (h : KS w wr O b slots s rows) : KS w wr O b slots s ((.slice none 0 0, []) :: rows) :=
  { h with
    own := fun r hr => by
      rcases List.mem_cons.1 hr with rfl | hr
      · exact OwnInts.nil _ _
      · exact h.own r hr
    apart := fun r hr x hx => by
      rcases List.mem_cons.1 hr with rfl | hr
      · simp [Value.ownBlock] at hx
      · exact h.apart r hr x hx
    pair := List.Pairwise.cons (fun r _ x hx => by simp [Value.ownBlock] at hx) h.pair }
theorem KS.in0 {v : Value} {l : List Int} (h : KS w wr O b slots s ((v, l) :: rows)) : OwnInts wr w.heap.size v l := h.own (v, l) (by simp)
end
theorem KS.start {w w1 : World} {b slots : Nat} (h : BookAt (fun x => w.heap.size ≤ x) w1 b slots bk0) (hb : Below w.heap.size w w1) : KS w w1 (fun x => w.heap.size ≤ x) b slots bk0 [] :=
  ⟨h, by simp, by simp, List.Pairwise.nil, hb, fun x hx ho => by omega⟩
end Go.Proofs.YticckfioggeaeaaGreatDoor

/-
  bookFact, by its contract.
-/
namespace Go.Proofs.YticckfioggeaeaaGreatDoor
open Go.RowKit

def fs1 : Bk := ⟨[(1, 2)], [112, 32, 49, 32, 50, 32, 55, 48, 49, 10], 1⟩
def fs2 : Bk := ⟨[(3, 4)], [112, 32, 49, 32, 50, 32, 55, 48, 49, 10, 112, 32, 51, 32, 52, 32, 55, 49, 55, 10], 2⟩
theorem dec_dig1 (n : Nat) (h : n < 10) : Lib.itoa (n : Int) = [UInt8.ofNat (48 + n)] := by rw [itoa_nat, dec_small h]
theorem itoa_701 : Lib.itoa ((701 : Nat) : Int) = [55, 48, 49] := by
  rw [itoa_nat, dec_big (by decide), dec_big (by decide), dec_small (by decide)]
  decide
theorem itoa_717 : Lib.itoa ((717 : Nat) : Int) = [55, 49, 55] := by
  rw [itoa_nat, dec_big (by decide), dec_big (by decide), dec_small (by decide)]
  decide
theorem fact_line1 : lineOf (wordP 1 2) = [112, 32, 49, 32, 50, 32, 55, 48, 49, 10] := by
  have h1 : wordP 1 2 = [112, 32, 49, 32, 50] := by
    unfold wordP
    rw [show (1 : Int) = ((1 : Nat) : Int) from rfl, show (2 : Int) = ((2 : Nat) : Int) from rfl, dec_dig1 1 (by decide), dec_dig1 2 (by decide)]
    decide
  unfold lineOf
  rw [h1, show sumB [112, 32, 49, 32, 50] = 701 by decide, itoa_701]
  decide
theorem fact_line2 : lineOf (wordP 3 4) = [112, 32, 51, 32, 52, 32, 55, 49, 55, 10] := by
  have h1 : wordP 3 4 = [112, 32, 51, 32, 52] := by
    unfold wordP
    rw [show (3 : Int) = ((3 : Nat) : Int) from rfl, show (4 : Int) = ((4 : Nat) : Int) from rfl, dec_dig1 3 (by decide), dec_dig1 4 (by decide)]
    decide
  unfold lineOf
  rw [h1, show sumB [112, 32, 51, 32, 52] = 717 by decide, itoa_717]
  decide
theorem fact_put1 : putE bk0 1 2 = 0 ∧ putS 1 bk0 1 2 = fs1 ∧ putV 1 bk0 1 2 = -1 := by
  have he : putE bk0 1 2 = 0 := by decide
  refine ⟨he, ?_, ?_⟩
  · unfold putS
    rw [if_pos he]
    unfold putB
    rw [fact_line1, show ((1, 2) :: (outM 1 bk0 1).filter fun p => p.1 != 1) = [((1 : Int), (2 : Int))] by decide]
    rfl
  · decide
theorem fact_put2 : putE fs1 3 4 = 0 ∧ putS 1 fs1 3 4 = fs2 ∧ putV 1 fs1 3 4 = 1 := by
  have he : putE fs1 3 4 = 0 := by decide
  refine ⟨he, ?_, ?_⟩
  · unfold putS
    rw [if_pos he]
    unfold putB
    rw [fact_line2, show ((3, 4) :: (outM 1 fs1 3).filter fun p => p.1 != 3) = [((3 : Int), (4 : Int))] by decide]
    rfl
  · decide
set_option maxHeartbeats 4000000 in
set_option maxRecDepth 100000 in
theorem fact_any (w : World) (ht : Tab w) : Calls Tryz.prog 17 #[] w fun e w' => e = .returned (.bool true) ∧ Below w.heap.size w w' := by
  have HT := Lib.hid ht
  clear ht
  go_enter Tryz.func17, Tryz.ntmps17
  go_wp2_with fail
  refine (new_yes 1 _ (by omega) (by omega)).mono ?_
  rintro e w1 ⟨b, rfl, hb1, _, hbel1⟩
  have HK1 := Lib.hid (KS.start hb1 hbel1)
  clear hb1 hbel1
  go_wp2_with fail
  refine (put_any b 1 bk0 1 2 _ HK1.out.bk (HK1.out.tab HT.out)).mono ?_
  rintro e w2 ⟨rfl, hb2, hk2⟩
  rw [fact_put1.1, fact_put1.2.2]
  rw [fact_put1.2.1] at hb2
  have HK2 := Lib.hid (HK1.out.book hb2 hk2)
  clear hb2 hk2
  go_wp2_with fail
  refine (put_any b 1 fs1 3 4 _ HK2.out.bk (HK2.out.tab HT.out)).mono ?_
  rintro e w3 ⟨rfl, hb3, hk3⟩
  rw [fact_put2.1, fact_put2.2.2]
  rw [fact_put2.2.1] at hb3
  have HK3 := Lib.hid (HK2.out.book hb3 hk3)
  clear hb3 hk3
  simp only [errw_zero]
  go_wp2_with fail
  refine (keysB_any _ HK3.out.bk).mono ?_
  rintro e w4 ⟨v, rfl, ho4, hb4⟩
  have HK4 := Lib.hid (HK3.out.row hb4 ho4)
  obtain ⟨a, c, hv, hin⟩ := ho4.shape
  subst hv
  have HIN := Lib.hid hin
  clear ho4 hb4 hin
  have hal : Below w4.heap.size w4 (w4.alloc (.cells #[.int .i64 3] 3)) := (Below.refl _ _).alloc (Nat.le_refl _) _
  have HK5 := Lib.hid (HK4.out.away hal)
  have HI5 : Hid (IntsIn (w4.alloc (.cells #[.int .i64 3] 3)) w4.heap.size a [3]) := Lib.hid ((HIN.out.below hal))
  clear hal
  go_wp2_with fail
  refine (ints_same_keep a _ 1 c 1 _ _ [3] _ rfl HI5.out (one_in w4 3) (by unfold maxLen; omega)).mono ?_
  rintro e w6 ⟨rfl, hk6⟩
  have HK6 := Lib.hid (HK5.out.below (hk6.below (Nat.le_refl _) (by simp)))
  clear hk6
  go_wp2_with fail
  refine (text_any _ HK6.out.bk).mono ?_
  rintro e w7 ⟨rfl, hb7, hk7⟩
  have HK7 := Lib.hid (HK6.out.book hb7 hk7)
  clear hb7 hk7
  go_wp2_with fail
  refine (text_any _ HK7.out.bk).mono ?_
  rintro e w8 ⟨rfl, hb8, hk8⟩
  have HK8 := Lib.hid (HK7.out.book hb8 hk8)
  clear hb8 hk8
  unfold fs2
  go_wp2
  go_ret
  exact ⟨by simp; rw [Lib.extract_toList]; rfl, HK8.out.bel⟩
end Go.Proofs.YticckfioggeaeaaGreatDoor

/-
  told, by its contract.
-/
set_option linter.unusedVariables false
namespace Go.Proofs.YticckfioggeaeaaGreatDoor
open Go.RowKit

def ToldPostB (w : World) (slots : Int) (xss : List (List Int)) (e : Ending) (w' : World) : Prop :=
  Below w.heap.size w w' ∧
  ((¬ (1 ≤ slots ∧ slots ≤ 8) ∧ e = .returned (.tuple #[.pointer none, .bool false])) ∨
   ∃ n : Nat, slots = n ∧ 1 ≤ n ∧ n ≤ 8 ∧ ∃ b, e = .returned (.tuple #[.pointer (some ⟨b, 0, none⟩), .bool true]) ∧ BookAt (fun x => w.heap.size ≤ x) w' b n (runB n (xss.take 70)))
set_option maxHeartbeats 1000000 in
set_option maxRecDepth 100000 in
theorem told_no (n : Int) (h : ¬ (1 ≤ n ∧ n ≤ 8)) (v : Value) (xss : List (List Int)) (w : World) :
    Calls Tryz.prog 18 #[.int .i64 n, v] w (ToldPostB w n xss) := by
  have HC := Lib.hid h
  clear h
  go_enter Tryz.func18, Tryz.ntmps18
  go_wp2_with fail
  refine (new_no n _ HC.out).mono ?_
  rintro e w2 ⟨rfl, rfl⟩
  go_wp2
  go_ret2
  exact ⟨Below.refl _ _, .inl ⟨HC.out, rfl⟩⟩
def TdRel (w : World) (b slots n : Nat) (xss : List (List Int)) (i : Value) (wr : World) : Prop := ∃ (j : Nat) (O : Nat → Prop), j ≤ n ∧ j ≤ 70 ∧ i = .int .i64 j ∧ KS w wr O b slots (runB slots (xss.take j)) []
theorem run_take {slots : Nat} {xss : List (List Int)} {j : Nat} (hj : j < xss.length) : runB slots (xss.take (j + 1)) = stepB slots (runB slots (xss.take j)) xss[j] := by
  unfold runB
  rw [List.take_succ_eq_append_getElem hj, List.foldl_append]
  rfl
set_option maxHeartbeats 4000000 in
set_option maxRecDepth 1000000 in
theorem told_yes (slots : Nat) (h1 : 1 ≤ slots) (h8 : slots ≤ 8) (a : Option Addr) (c : Nat) (xss : List (List Int)) (w : World) (hx : RowsIn w w.heap.size a xss) (hn : xss.length ≤ maxLen) (ht : Tab w) :
    Calls Tryz.prog 18 #[.int .i64 slots, .slice a xss.length c] w (ToldPostB w slots xss) := by
  have HT := Lib.hid ht; have HX := Lib.hid hx; have HN := Lib.hid hn
  obtain ⟨n, hnn⟩ : ∃ n, n = xss.length := ⟨_, rfl⟩
  rw [← hnn]
  have HNN := Lib.hid hnn
  clear ht hx hn hnn
  go_enter Tryz.func18, Tryz.ntmps18
  go_wp2_with fail
  refine (new_yes slots _ h1 h8).mono ?_
  rintro e w2 ⟨b, rfl, hb2, _, hbel2⟩
  have HKS : Hid (∃ O, KS w w2 O b slots bk0 []) := Lib.hid ⟨_, ⟨hb2, by simp, by simp, List.Pairwise.nil, hbel2, fun x hx ho => by omega⟩⟩
  clear hb2 hbel2
  go_wp2
  go_loopw [8] (fun i wr => TdRel w b slots n xss i wr) (fun i _ => n - (intOf i).toNat)
  case atStart =>
    obtain ⟨O, hks⟩ := HKS.out
    exact ⟨0, O, by omega, by omega, rfl, hks⟩
  case round =>
    obtain ⟨j, O, hj, hj7, rfl, hks⟩ := hrel
    have HK := Lib.hid hks
    clear hks HKS
    by_cases hlt : j < n ∧ j < 70
    · obtain ⟨hlt, hlt7⟩ := hlt
      obtain ⟨bx, off, a', c', rfl, hbB, hcell, hrow⟩ := HX.out.at_ (by rw [← HNN.out]; exact hlt : j < xss.length)
      have HRT : Hid (runB slots (xss.take (j + 1)) = stepB slots (runB slots (xss.take j)) (xss[j]'(by rw [← HNN.out]; exact hlt))) := Lib.hid (run_take _)
      obtain ⟨l, hl⟩ : ∃ l, l = xss[j]'(by rw [← HNN.out]; exact hlt) := ⟨_, rfl⟩
      obtain ⟨m, hm⟩ : ∃ m, m = l.length := ⟨_, rfl⟩
      rw [← hl] at hrow HRT
      rw [← hl, ← hm] at hcell
      have HC0 : Hid (∀ w' : World, Below w.heap.size w w' → w'.cell? ⟨bx, off + j, none⟩ = some (.slice a' m c')) := Lib.hid fun w' hb => (hb.cell (p := ⟨bx, off + j, none⟩) hbB).trans hcell
      have HR := Lib.hid hrow
      obtain ⟨s, hs⟩ : ∃ s, s = runB slots (xss.take j) := ⟨_, rfl⟩
      rw [← hs] at HK HRT
      clear hl hcell hrow hs
      have hj70 : (j : Int) < 70 := by omega
      have hjn : (j : Int) < (n : Int) := by omega
      have hj0 : (0 : Int) ≤ (j : Int) := by omega
      have hcell2 := HC0.out _ HK.out.bel
      by_cases hm2 : m = 2
      · subst hm2
        obtain ⟨x, y, rfl⟩ : ∃ x y, l = [x, y] := by
          match l, hm with
          | [x, y], _ => exact ⟨x, y, rfl⟩
        obtain ⟨b3, off3, rfl, hb3, hc3⟩ := HR.out (by simp)
        have HC3 : Hid (∀ w' : World, Below w.heap.size w w' → w'.cell? ⟨bx, off + j, none⟩ = some (.slice (some ⟨b3, off3, none⟩) 2 c') ∧ w'.cell? ⟨b3, off3, none⟩ = some (.int .i64 x) ∧ w'.cell? ⟨b3, off3 + 1, none⟩ = some (.int .i64 y)) := Lib.hid fun w' hb => ⟨HC0.out w' hb, (hb.cell (p := ⟨b3, off3, none⟩) hb3).trans (hc3 0 x rfl), (hb.cell (p := ⟨b3, off3 + 1, none⟩) hb3).trans (hc3 1 y rfl)⟩
        have HRT2 : Hid (runB slots (xss.take (j + 1)) = putS slots s x y) := Lib.hid HRT.out
        clear hc3 hm HR HRT
        go_upto_region 8 with fail
        clear hcell2
        go_region_held3 (fun w' => w'.cell? ⟨bx, off + j, none⟩ = some (.slice (some ⟨b3, off3, none⟩) 2 c') ∧ w'.cell? ⟨b3, off3, none⟩ = some (.int .i64 x) ∧ w'.cell? ⟨b3, off3 + 1, none⟩ = some (.int .i64 y))
          (first | exact HC3.out _ (KS.below HK.out (drewB wr)).bel | exact HC3.out _ HK3.out.bel | fail)
          (first | (go_at_call 24; refine (put_any b slots s x y _ (KS.below HK.out (drewB wr)).bk ((KS.below HK.out (drewB wr)).tab HT.out)).mono ?_; rintro e w3 ⟨rfl, hb3', hk3⟩; have HK3 := Lib.hid ((KS.below HK.out (drewB wr)).book hb3' hk3); clear hb3' hk3))
        go_wp2
        go_roundw
        case rel => exact ⟨j + 1, _, hlt, by omega, by simp, by rw [HRT2.out]; exact HK3.out⟩
        case measure => simp [intOf]; omega
      · have hm2' : ((m : Int) == 2) = false := beq_eq_false_iff_ne.2 (by omega)
        by_cases hm1 : m = 1
        · subst hm1
          obtain ⟨x, rfl⟩ : ∃ x, l = [x] := by
            match l, hm with
            | [x], _ => exact ⟨x, rfl⟩
          obtain ⟨b3, off3, rfl, hb3, hc3⟩ := HR.out (by simp)
          have hy0 := (HK.out.bel.cell (p := ⟨b3, off3, none⟩) hb3).trans (hc3 0 x rfl)
          have HRT2 : Hid (runB slots (xss.take (j + 1)) = getS s x) := Lib.hid HRT.out
          clear hc3 hm HR hm2 hm2' HRT
          go_wp2_with fail
          refine (get_any b slots s x _ HK.out.bk (HK.out.tab HT.out)).mono ?_
          rintro e w3 ⟨rfl, hb3', hk3⟩
          have HK3 := Lib.hid (HK.out.book hb3' hk3)
          clear hb3' hk3 hy0 hcell2
          go_wp2
          go_roundw
          case rel => exact ⟨j + 1, _, hlt, by omega, by simp, by rw [HRT2.out]; exact HK3.out⟩
          case measure => simp [intOf]; omega
        · have hm1' : ((m : Int) == 1) = false := beq_eq_false_iff_ne.2 (by omega)
          have HRT2 : Hid (runB slots (xss.take (j + 1)) = s) := Lib.hid (by
            rw [HRT.out]
            match l, hm with
            | [], _ => rfl
            | [x], hm => simp at hm; omega
            | [x, y], hm => simp at hm; omega
            | x :: y :: z :: r, _ => rfl)
          go_wp2
          go_roundw
          case rel => exact ⟨j + 1, _, hlt, by omega, by simp, by rw [HRT2.out]; exact HK.out⟩
          case measure => simp [intOf]; omega
    · have HFIN : Hid (runB slots (xss.take j) = runB slots (xss.take 70)) := Lib.hid (by
        by_cases h7 : j = 70
        · rw [h7]
        · rw [List.take_of_length_le (by rw [← HNN.out]; omega), List.take_of_length_le (by rw [← HNN.out]; omega)])
      have hend : (¬ j < n) ∨ (j < n ∧ ¬ j < 70) := by omega
      rcases hend with hend | ⟨hend1, hend⟩
      · have hji : ¬ (j : Int) < (n : Int) := by omega
        go_wp2
        go_ret2
        exact ⟨HK.out.bel, .inr ⟨slots, rfl, h1, h8, b, rfl, by rw [← HFIN.out]; exact HK.out.bk.mono fun x hx => Nat.le_of_not_lt fun hl => HK.out.lo x hl hx⟩⟩
      · have hji : (j : Int) < (n : Int) := by omega
        have hji2 : ¬ (j : Int) < 70 := by omega
        go_wp2
        go_ret2
        exact ⟨HK.out.bel, .inr ⟨slots, rfl, h1, h8, b, rfl, by rw [← HFIN.out]; exact HK.out.bk.mono fun x hx => Nat.le_of_not_lt fun hl => HK.out.lo x hl hx⟩⟩
theorem told_any (x0 : Int) (a : Option Addr) (c : Nat) (xss : List (List Int)) (w : World) (hx : RowsIn w w.heap.size a xss) (hn : xss.length ≤ maxLen) (ht : Tab w) :
    Calls Tryz.prog 18 #[.int .i64 x0, .slice a xss.length c] w (ToldPostB w x0 xss) := by
  by_cases h : 1 ≤ x0 ∧ x0 ≤ 8
  · obtain ⟨d, rfl⟩ := Int.eq_ofNat_of_zero_le (show 0 ≤ x0 by omega)
    exact told_yes d (by omega) (by omega) a c xss w hx hn ht
  · exact told_no x0 h _ xss w
end Go.Proofs.YticckfioggeaeaaGreatDoor

/-
  Two books side by side.
-/
set_option linter.unusedVariables false
namespace Go.Proofs.YticckfioggeaeaaGreatDoor
open Go.RowKit

structure DB (w wr : World) (O1 O2 : Nat → Prop) (b1 b2 slots : Nat) (s1 s2 : Bk) : Prop where
  k1 : BookAt O1 wr b1 slots s1
  k2 : BookAt O2 wr b2 slots s2
  lo1 : ∀ x, x < w.heap.size → ¬ O1 x
  lo2 : ∀ x, x < w.heap.size → ¬ O2 x
  ap : ∀ x, x < wr.heap.size → O1 x → ¬ O2 x
  bel : Below w.heap.size w wr
def DX (w wr : World) (b1 b2 slots : Nat) (s1 s2 : Bk) : Prop := ∃ O1 O2, DB w wr O1 O2 b1 b2 slots s1 s2
section
variable {w wr w' : World} {O O1 O2 : Nat → Prop} {b1 b2 slots : Nat} {s1 s2 s1' s2' : Bk}
theorem DB.first (d : DB w wr O1 O2 b1 b2 slots s1 s2) (h : BookAt O1 w' b1 slots s1') (hk : KeepP O1 wr w') : DX w w' b1 b2 slots s1' s2 :=
  ⟨O1, _, h, d.k2.away hk (fun x hx h2 h1 => d.ap x hx h1 h2), d.lo1, fun x hx h2 => d.lo2 x hx h2.1, fun x hx h1 h2 => by
    rcases h2.2 with h3 | h3
    · exact d.ap x h3 h1 h2.1
    · omega, d.bel.trans (hk.toBelow d.bel.size d.lo1)⟩
theorem DB.second (d : DB w wr O1 O2 b1 b2 slots s1 s2) (h : BookAt O2 w' b2 slots s2') (hk : KeepP O2 wr w') : DX w w' b1 b2 slots s1 s2' :=
  ⟨_, O2, d.k1.away hk (fun x hx h1 h2 => d.ap x hx h1 h2), h, fun x hx h1 => d.lo1 x hx h1.1, d.lo2, fun x hx h1 h2 => by
    rcases h1.2 with h3 | h3
    · exact d.ap x h3 h1.1 h2
    · omega, d.bel.trans (hk.toBelow d.bel.size d.lo2)⟩
theorem DX.below (d : DX w wr b1 b2 slots s1 s2) (hb : Below wr.heap.size wr w') : DX w w' b1 b2 slots s1 s2 := by
  obtain ⟨O1, O2, d⟩ := d
  exact d.first (d.k1.below hb) (KeepP.of_below hb (Nat.le_refl _))
theorem DX.drew (d : DX w wr b1 b2 slots s1 s2) : DX w wr.drew b1 b2 slots s1 s2 := d.below (drewB wr)
theorem DX.keep0 (d : DX w wr b1 b2 slots s1 s2) (hk : Keep [] wr w') : DX w w' b1 b2 slots s1 s2 := d.below (hk.below (Nat.le_refl _) (by simp))
theorem DX.bel (d : DX w wr b1 b2 slots s1 s2) : Below w.heap.size w wr := by
  obtain ⟨O1, O2, d⟩ := d
  exact d.bel
theorem DX.tab (d : DX w wr b1 b2 slots s1 s2) (ht : Tab w) : Tab wr := ht.below d.bel (Nat.le_refl _)
theorem DX.errs (d : DX w wr b1 b2 slots s1 s2) (ht : Errs w) : Errs wr := ht.below d.bel (Nat.le_refl _)
theorem DX.swap (d : DX w wr b1 b2 slots s1 s2) : DX w wr b2 b1 slots s2 s1 := by
  obtain ⟨O1, O2, d⟩ := d
  exact ⟨O2, O1, d.k2, d.k1, d.lo2, d.lo1, fun x hx h1 h2 => d.ap x hx h2 h1, d.bel⟩
/-- A book, and a second one that is made behind it. -/
theorem DX.start (h1 : BookAt O wr b1 slots s1) (hlo : ∀ x, x < w.heap.size → ¬ O x) (hb : Below w.heap.size w wr) (hb2 : Below wr.heap.size wr w') (h2 : BookAt (fun x => wr.heap.size ≤ x) w' b2 slots s2) : DX w w' b1 b2 slots s1 s2 :=
  ⟨_, _, h1.away (O2 := fun _ => False) (KeepP.of_below hb2 (Nat.le_refl _)) (fun _ _ _ hf => hf), h2, fun x hx ho => hlo x hx ho.1, fun x hx ho => by have := hb.size; omega, fun x hx h3 h4 => by rcases h3.2 with h5 | h5 <;> omega, hb.trans (hb2.mono hb.size)⟩
end
section
variable (w wr : World) (b1 b2 slots : Nat) (s1 s2 : Bk) (k v : Int)
def DPut (w : World) (b1 b2 slots : Nat) (s1 s2 : Bk) (k v : Int) (e : Ending) (w' : World) : Prop := e = .returned (.tuple #[.int .i64 (putV slots s1 k v), errw (putE s1 k v)]) ∧ DX w w' b1 b2 slots (putS slots s1 k v) s2
theorem dput (d : DX w wr b1 b2 slots s1 s2) (ht : Tab w) : Calls Tryz.prog 24 #[.pointer (some ⟨b1, 0, none⟩), .int .i64 k, .int .i64 v] wr (DPut w b1 b2 slots s1 s2 k v) := by
  have htr := d.tab ht
  obtain ⟨O1, O2, d⟩ := d
  refine (put_any b1 slots s1 k v wr d.k1 htr).mono ?_
  rintro e w' ⟨rfl, h1, h2⟩
  exact ⟨rfl, d.first h1 h2⟩
def DGet (w : World) (b1 b2 slots : Nat) (s1 s2 : Bk) (k : Int) (e : Ending) (w' : World) : Prop := e = .returned (.tuple #[.int .i64 (getV s1 k), errw (getE s1 k)]) ∧ DX w w' b1 b2 slots (getS s1 k) s2
theorem dget (d : DX w wr b1 b2 slots s1 s2) (ht : Tab w) : Calls Tryz.prog 37 #[.pointer (some ⟨b1, 0, none⟩), .int .i64 k] wr (DGet w b1 b2 slots s1 s2 k) := by
  have htr := d.tab ht
  obtain ⟨O1, O2, d⟩ := d
  refine (get_any b1 slots s1 k wr d.k1 htr).mono ?_
  rintro e w' ⟨rfl, h1, h2⟩
  exact ⟨rfl, d.first h1 h2⟩
def DText (w : World) (b1 b2 slots : Nat) (s1 s2 : Bk) (e : Ending) (w' : World) : Prop := e = .returned (.string ⟨s1.text.toArray⟩) ∧ DX w w' b1 b2 slots s1 s2
theorem dtext (d : DX w wr b1 b2 slots s1 s2) : Calls Tryz.prog 14 #[.pointer (some ⟨b1, 0, none⟩)] wr (DText w b1 b2 slots s1 s2) := by
  obtain ⟨O1, O2, d⟩ := d
  refine (text_any wr d.k1).mono ?_
  rintro e w' ⟨rfl, h1, h2⟩
  exact ⟨rfl, d.first h1 h2⟩
def DKeys (w wr : World) (b1 b2 slots : Nat) (s1 s2 : Bk) (n : Nat) (e : Ending) (w' : World) : Prop := ∃ a c, e = .returned (.slice a n c) ∧ IntsIn w' w'.heap.size a s1.keys ∧ DX w w' b1 b2 slots s1 s2 ∧ Below wr.heap.size wr w'
theorem dkeys (d : DX w wr b1 b2 slots s1 s2) {n : Nat} (hn : s1.keys.length = n) : Calls Tryz.prog 16 #[.pointer (some ⟨b1, 0, none⟩)] wr (DKeys w wr b1 b2 slots s1 s2 n) := by
  have hd := d
  obtain ⟨O1, O2, d⟩ := d
  refine (keysB_any wr d.k1).mono ?_
  rintro e w' ⟨v, rfl, ho, hb⟩
  obtain ⟨a, c, hv, hi⟩ := ho.shape
  subst hv
  rw [hn]
  exact ⟨a, c, rfl, hi, hd.below hb, hb⟩
end
end Go.Proofs.YticckfioggeaeaaGreatDoor

/-
  A store beside the reference's: how both lie.
-/
namespace Go.Proofs.YticckfioggeaeaaGreatDoor
open Go.RowKit

theorem MapAt.ne_ints {w : World} {g : Nat} {M : List Ent} {base : Nat} {v : Value} {l : List Int} (h : MapAt w g M) (ho : OwnInts w base v l) : v.ownBlock ≠ some g := by
  obtain ⟨L, c, hl, _⟩ := h
  intro e
  rcases ho.2 with ⟨rfl, _⟩ | ⟨g', cap, cur, rfl, _, hg, _⟩
  · simp [Value.ownBlock] at e
  · simp only [Value.ownBlock, Option.some.injEq] at e
    subst e
    have := hl.blk
    rw [hg] at this
    cases this
theorem OwnB.ne_ints {w : World} {v v' : Value} {l : List UInt8} {base : Nat} {xs : List Int} (h : OwnB w v l) (ho : OwnInts w base v' xs) {x : Nat} (hx : v.ownBlock = some x) (hx2 : v'.ownBlock = some x) : False := by
  rcases ho.2 with ⟨rfl, _⟩ | ⟨g', cap, cur, rfl, _, hg, _⟩
  · simp [Value.ownBlock] at hx2
  · simp only [Value.ownBlock, Option.some.injEq] at hx2
    subst hx2
    rcases h.2 with ⟨rfl, _⟩ | ⟨g2, cap2, cur2, fz, rfl, _, hg2, _⟩
    · simp [Value.ownBlock] at hx
    · simp only [Value.ownBlock, Option.some.injEq] at hx
      subst hx
      rw [hg] at hg2
      injection hg2 with h1
      injection h1 with _ h2
      exact absurd h2 (by decide)
/-- The book s, and the reference's t in the block h. -/
structure PS (w wr : World) (b h slots : Nat) (s t : Bk) (aK aV : Option Addr) (nK nV cK cV : Nat) : Prop where
  bk : ∃ O, BookAt O wr b slots s ∧ ∀ x, x < w.heap.size → ¬ O x
  box : Blk wr h 24 (rTop slots aK aV nK nV cK cV t.text t.many)
  K : OwnInts wr 0 (.slice aK nK cK) t.keys
  V : OwnInts wr 0 (.slice aV nV cV) (t.M.map (·.2))
  kl : t.keys.length = nK
  vl : (t.M.map (·.2)).length = nV
  bel : Below w.heap.size w wr
  hlo : w.heap.size ≤ h
section
variable {w wr w' : World} {b h slots : Nat} {s t s' t' : Bk} {aK aV aK' aV' : Option Addr} {nK nV cK cV nK' nV' cK' cV' : Nat}
/-- What the book may write is apart from the reference's. -/
theorem PS.open_ (k : PS w wr b h slots s t aK aV nK nV cK cV) : ∃ O, BookAt O wr b slots s ∧ (∀ x, x < w.heap.size → ¬ O x) ∧ ¬ O h ∧ (∀ x, (Value.slice aK nK cK).ownBlock = some x → ¬ O x) ∧ (∀ x, (Value.slice aV nV cV).ownBlock = some x → ¬ O x) := by
  obtain ⟨O, ⟨gm, E, p, bv, hB⟩, hlo⟩ := k.bk
  have hi : ∀ (v : Value) (l : List Int), OwnInts wr 0 v l → ∀ x, v.ownBlock = some x → ¬ (O x ∧ (x = b ∨ x = gm ∨ bv.ownBlock = some x ∨ wr.heap.size ≤ x)) := by
    rintro v l ho x hx ⟨_, rfl | rfl | h2 | h2⟩
    · exact oi_ne ho hB.top (by decide) hx
    · exact hB.map.ne_ints ho hx
    · exact hB.txt.ne_ints ho h2 hx
    · have := World.ownsRow.lt ho x hx; omega
  refine ⟨fun x => O x ∧ (x = b ∨ x = gm ∨ bv.ownBlock = some x ∨ wr.heap.size ≤ x), ⟨gm, E, p, bv, { hB with ob := ⟨hB.ob, .inl rfl⟩, og := ⟨hB.og, .inr (.inl rfl)⟩, ov := fun x hx => ⟨hB.ov x hx, .inr (.inr (.inl hx))⟩, on := fun x hx => ⟨hB.on x hx, .inr (.inr (.inr hx))⟩ }⟩, fun x hx ho => hlo x hx ho.1, ?_, hi _ _ k.K, hi _ _ k.V⟩
  rintro ⟨_, h2 | h2 | h2 | h2⟩
  · exact k.box.ne hB.top (by decide) h2
  · exact hB.map.ne k.box h2.symm
  · exact hB.txt.ne k.box (by decide) h2
  · have := k.box.lt; omega
theorem PS.book {O : Nat → Prop} (k : PS w wr b h slots s t aK aV nK nV cK cV) (h1 : BookAt O w' b slots s') (hk : KeepP O wr w') (hlo : ∀ x, x < w.heap.size → ¬ O x) (hh : ¬ O h) (hK : ∀ x, (Value.slice aK nK cK).ownBlock = some x → ¬ O x) (hV : ∀ x, (Value.slice aV nV cV).ownBlock = some x → ¬ O x) :
    PS w w' b h slots s' t aK aV nK nV cK cV :=
  { k with
    bk := ⟨O, h1, hlo⟩
    box := (hk.block h k.box.lt hh).trans k.box
    K := k.K.keep fun x hx => hk.block x (World.ownsRow.lt k.K x hx).2 (hK x hx)
    V := k.V.keep fun x hx => hk.block x (World.ownsRow.lt k.V x hx).2 (hV x hx)
    bel := k.bel.trans (hk.toBelow k.bel.size hlo) }
theorem PS.below (k : PS w wr b h slots s t aK aV nK nV cK cV) (hb : Below wr.heap.size wr w') : PS w w' b h slots s t aK aV nK nV cK cV := by
  obtain ⟨O, hB, hlo, hh, hK, hV⟩ := k.open_
  exact k.book (hB.below hb) (KeepP.of_below hb (Nat.le_refl _)) hlo hh hK hV
theorem PS.keep0 (k : PS w wr b h slots s t aK aV nK nV cK cV) (hk : Keep [] wr w') : PS w w' b h slots s t aK aV nK nV cK cV := k.below (hk.below (Nat.le_refl _) (by simp))
theorem PS.drew (k : PS w wr b h slots s t aK aV nK nV cK cV) : PS w wr.drew b h slots s t aK aV nK nV cK cV := k.keep0 (Keep.refl [] wr).drew
theorem PS.tab (k : PS w wr b h slots s t aK aV nK nV cK cV) (ht : Tab w) : Tab wr := ht.below k.bel (Nat.le_refl _)
theorem PS.rb (k : PS w wr b h slots s t aK aV nK nV cK cV) : RB4 wr slots t (rVal slots aK aV nK nV cK cV t.text t.many) := ⟨aK, aV, nK, nV, cK, cV, rfl, k.K, k.V, k.kl, k.vl⟩
/-- A new value of the reference's is stored. -/
theorem PS.ref (k : PS w wr b h slots s t aK aV nK nV cK cV) (hK : OwnInts wr 0 (.slice aK' nK' cK') t'.keys) (hV : OwnInts wr 0 (.slice aV' nV' cV') (t'.M.map (·.2))) (hkl : t'.keys.length = nK') (hvl : (t'.M.map (·.2)).length = nV') :
    PS w (set5 wr h (.int .i64 slots) (.slice aK' nK' cK') (.slice aV' nV' cV') (.string ⟨t'.text.toArray⟩) (.int .i64 t'.many)) b h slots s t' aK' aV' nK' nV' cK' cV' := by
  obtain ⟨O, hB, hlo, hh, _, _⟩ := k.open_
  have hk := keep5 wr h (.int .i64 slots) (.slice aK' nK' cK') (.slice aV' nV' cV') (.string ⟨t'.text.toArray⟩) (.int .i64 t'.many)
  exact ⟨⟨_, hB.away (O2 := fun x => x = h) (hk.toP (by simp)) (fun x _ ho e => hh (e ▸ ho)), fun x hx ho => hlo x hx ho.1⟩, blk5 k.box _ _ _ _ _, own_keep1 hK hk k.box (by decide), own_keep1 hV hk k.box (by decide), hkl, hvl, k.bel.trans (hk.below k.bel.size (by simp; exact k.hlo)), k.hlo⟩
theorem PS.cells (k : PS w wr b h slots s t aK aV nK nV cK cV) : wr.cell? ⟨h, 0, none⟩ = some (.int .i64 slots) ∧ wr.cell? ⟨h, 1, none⟩ = some (.slice aK nK cK) ∧ wr.cell? ⟨h, 2, none⟩ = some (.slice aV nV cV) ∧ wr.cell? ⟨h, 3, none⟩ = some (.string ⟨t.text.toArray⟩) ∧ wr.cell? ⟨h, 4, none⟩ = some (.int .i64 t.many) ∧
    wr.frozen? ⟨h, 0, none⟩ = false ∧ wr.frozen? ⟨h, 1, none⟩ = false ∧ wr.frozen? ⟨h, 2, none⟩ = false ∧ wr.frozen? ⟨h, 3, none⟩ = false ∧ wr.frozen? ⟨h, 4, none⟩ = false :=
  ⟨k.box.cell_ (i := 0) rfl, k.box.cell_ (i := 1) rfl, k.box.cell_ (i := 2) rfl, k.box.cell_ (i := 3) rfl, k.box.cell_ (i := 4) rfl, k.box.free 0, k.box.free 1, k.box.free 2, k.box.free 3, k.box.free 4⟩
theorem PS.ok (k : PS w wr b h slots s t aK aV nK nV cK cV) : BkOk slots s ∧ 1 ≤ slots ∧ slots ≤ 8 := by
  obtain ⟨O, hB, _⟩ := k.bk
  exact hB.ok
end
end Go.Proofs.YticckfioggeaeaaGreatDoor

/-
  larderwicksame.Error of an error that is the one that was asked for.
-/
namespace Go.Proofs.YticckfioggeaeaaGreatDoor
open Go.RowKit

/-- The value v is the error number n (0: none). -/
def ErrN (v : Value) (n : Int) : Prop := (n = 0 ∧ v = .nilIface) ∨ v = errv n
theorem eError_n (v : Value) (n : Int) (w : World) (h : ErrN v n) (hg : Handle w) : Calls Tryz.prog 13 #[v, .int .i64 n] w (ErrorPost w true) := by
  rcases h with ⟨rfl, rfl⟩ | rfl
  · exact eError_nil 0 w
  · have := eError_some n n w hg
    rwa [show (n == n) = true by simp] at this
theorem eError_w (k : Int) (w : World) (hg : Handle w) : Calls Tryz.prog 13 #[errw k, .int .i64 k] w (ErrorPost w true) := by
  refine eError_n _ k w ?_ hg
  unfold errw ErrN
  by_cases h : k = 0
  · rw [if_pos h]; exact .inl ⟨h, rfl⟩
  · rw [if_neg h]; exact .inr rfl
end Go.Proofs.YticckfioggeaeaaGreatDoor

/-
  BookOpens: the walk.
-/
set_option linter.unusedVariables false
namespace Go.Proofs.YticckfioggeaeaaGreatDoor
open Go.RowKit

theorem open_both {w w' : World} {slots : Int} {text : List UInt8} {e : Ending} (h : OpenPost w slots text e w') :
    Below w.heap.size w w' ∧ (((openS slots text).2.2.2 ≠ 0 ∧ e = .returned (.tuple #[.pointer none, .int .i64 (openS slots text).2.2.1, errv (openS slots text).2.2.2])) ∨
      ((openS slots text).2.2.2 = 0 ∧ 1 ≤ (openS slots text).1 ∧ (openS slots text).1 ≤ 8 ∧ ∃ b, e = .returned (.tuple #[.pointer (some ⟨b, 0, none⟩), .int .i64 (openS slots text).2.2.1, .nilIface]) ∧ BookAt (fun x => w.heap.size ≤ x) w' b (openS slots text).1 (openS slots text).2.1)) := by
  obtain ⟨hb, ⟨hno, rfl⟩ | ⟨n, rfl, h1, h8, ⟨hl, rfl⟩ | ⟨hl, ⟨he, rfl⟩ | ⟨he, b, rfl, hk⟩⟩⟩⟩ := h
  · have e1 : openS slots text = (0, bk0, 0, 1) := by unfold openS; rw [if_pos hno]
    rw [e1]
    exact ⟨hb, .inl ⟨by decide, rfl⟩⟩
  · have e1 : openS (n : Int) text = (0, bk0, 0, 4) := by unfold openS; rw [if_neg (by omega), if_pos hl]
    rw [e1]
    exact ⟨hb, .inl ⟨by decide, rfl⟩⟩
  · have e1 : openS (n : Int) text = (0, bk0, (openL n bk0 (lns text)).2.1, (openL n bk0 (lns text)).2.2) := by unfold openS; rw [if_neg (by omega), if_neg (by omega), show (n : Int).toNat = n by omega, if_pos he]
    rw [e1]
    exact ⟨hb, .inl ⟨he, rfl⟩⟩
  · have e1 : openS (n : Int) text = (n, (openL n bk0 (lns text)).1, (openL n bk0 (lns text)).2.1, 0) := by unfold openS; rw [if_neg (by omega), if_neg (by omega), show (n : Int).toNat = n by omega, if_neg (by simpa using he)]
    rw [e1]
    exact ⟨hb, .inr ⟨rfl, h1, h8, b, rfl, hk⟩⟩
def OpsPost (w : World) (e : Ending) (w' : World) : Prop := e = .returned (.bool true) ∧ Below w.heap.size w w'
set_option maxHeartbeats 4000000 in
set_option maxRecDepth 100000 in
theorem opens_any (x0 : Int) (text : List UInt8) (w : World) (ht : Tab w) (he : Errs w) (hg : Handle w) :
    Calls Tryz.prog 3 #[.int .i64 x0, .string ⟨text.toArray⟩] w (OpsPost w) := by
  have HT := Lib.hid ht; have HE := Lib.hid he; have HG := Lib.hid hg
  have HGL := Lib.hid hg.lt
  clear ht he hg
  have HOB : Hid (∀ (w2 w4 : World) (e : Ending), OpenPost w2 x0 text e w4 → Below w2.heap.size w2 w4 ∧ (((openS x0 text).2.2.2 ≠ 0 ∧ e = .returned (.tuple #[.pointer none, .int .i64 (openS x0 text).2.2.1, errv (openS x0 text).2.2.2])) ∨
      ((openS x0 text).2.2.2 = 0 ∧ 1 ≤ (openS x0 text).1 ∧ (openS x0 text).1 ≤ 8 ∧ ∃ b, e = .returned (.tuple #[.pointer (some ⟨b, 0, none⟩), .int .i64 (openS x0 text).2.2.1, .nilIface]) ∧ BookAt (fun x => w2.heap.size ≤ x) w4 b (openS x0 text).1 (openS x0 text).2.1))) := Lib.hid fun _ _ _ h => open_both h
  have hro := fun w1 => rOpen_any x0 text w1
  obtain ⟨r, hr⟩ : ∃ r, r = openS x0 text := ⟨_, rfl⟩
  rw [← hr] at HOB
  rw [← hr] at hro
  clear hr
  obtain ⟨slots, s, many, er⟩ := r
  have HRO := Lib.hid hro
  clear hro
  simp only at HRO HOB
  go_enter Tryz.func3, Tryz.ntmps3
  go_wp2_with fail
  refine (HRO.out _).mono ?_
  rintro e w2 ⟨X, rfl, ⟨aK, aV, nK, nV, cK, cV, rfl, hK, hV, hkl, hvl⟩, hb2⟩
  have HBX := Lib.hid (BX.new (slots := slots) hK hV hkl hvl)
  have HB3 := Lib.hid (hb2.alloc hb2.size (.cells #[.int .i64 slots, .slice aK nK cK, .slice aV nV cV, .string ⟨s.text.toArray⟩, .int .i64 s.many] 24))
  have HSZ := Lib.hid hb2.size
  clear hK hV hkl hvl hb2 HRO
  go_upto_region 2 with fail
  obtain ⟨h, hh⟩ : ∃ h, h = w2.heap.size := ⟨_, rfl⟩
  obtain ⟨w3, hw3⟩ : ∃ w3, w3 = w2.alloc (.cells #[.int .i64 slots, .slice aK nK cK, .slice aV nV cV, .string ⟨s.text.toArray⟩, .int .i64 s.many] 24) := ⟨_, rfl⟩
  rw [← hh] at HSZ HBX
  rw [← hw3] at HBX HB3
  rw [← hh, ← hw3]
  clear hh hw3
  go_wp2_with fail
  refine (open_any x0 text _ (HT.out.below HB3.out (Nat.le_refl _)) (HE.out.below HB3.out (Nat.le_refl _))).mono ?_
  rintro e w4 hp4
  obtain ⟨hb4, ⟨hne, rfl⟩ | ⟨he0, h1, h8, b, rfl, hbk⟩⟩ := HOB.out _ _ _ hp4
  · have HB4 := Lib.hid (HB3.out.trans (hb4.mono HB3.out.size))
    have hgw4 : Handle w4 := HG.out.below HB4.out HGL.out
    have HG4 := Lib.hid hgw4
    have hn2 : (er != 0) = true := by simpa using hne
    have hmm : (many == many) = true := by simp
    clear hp4 hb4 hgw4 HOB hne
    go_wp2_with (go_at_call 13; refine (eError_some er er _ HG4.out).mono ?_; rintro e w7 ⟨rfl, hb7⟩; rw [show (er == er) = true by simp]; have HB7 := Lib.hid (HB4.out.trans (hb7.mono HB4.out.size)); clear hb7)
    go_ret
    exact ⟨rfl, HB7.out⟩
  · subst he0
    have hbx4 := HBX.out.below hb4
    have hps : PS w w4 b h slots s s aK aV nK nV cK cV := ⟨⟨_, hbk, fun x hx ho => by have := HB3.out.size; omega⟩, hbx4.box, hbx4.K, hbx4.V, hbx4.kl, hbx4.vl, HB3.out.trans (hb4.mono HB3.out.size), HSZ.out⟩
    have HP7 := Lib.hid hps
    have hmm : (many == many) = true := by simp
    clear hp4 hb4 hbk hbx4 hps HOB HBX
    obtain ⟨O, hO, hlo, hh, hK, hV⟩ := HP7.out.open_
    have HO7 := Lib.hid hO; have HLO7 := Lib.hid hlo; have HHH7 := Lib.hid hh; have HKO7 := Lib.hid hK; have HVO7 := Lib.hid hV
    clear hO hlo hh hK hV
    have HCC : Hid (∀ w', PS w w' b h slots s s aK aV nK nV cK cV → w'.cell? ⟨h, 3, none⟩ = some (.string ⟨s.text.toArray⟩) ∧ w'.cell? ⟨h, 1, none⟩ = some (.slice aK nK cK)) := Lib.hid fun w' hk => ⟨hk.cells.2.2.2.1, hk.cells.2.1⟩
    have HKL : Hid (s.keys.length = nK) := Lib.hid HP7.out.kl
    have hn8 : nK ≤ maxLen := by have h5 := HP7.out.ok.1.len; have h6 := HP7.out.ok.2.2; rw [← HKL.out, keysLen]; unfold maxLen; omega
    go_upto_region 5 with fail
    go_region_held3 (fun w' => w'.cell? ⟨h, 3, none⟩ = some (.string ⟨s.text.toArray⟩) ∧ w'.cell? ⟨h, 1, none⟩ = some (.slice aK nK cK))
      (first | exact HCC.out _ HP7.out.drew | exact HCC.out _ HP8.out | exact HCC.out _ HP9.out | exact HCC.out _ HP10.out | fail)
      (first
        | (go_at_call 14; refine (text_any _ (HO7.out.below ((Keep.refl [] w4).drew.below (Nat.le_refl _) (by simp)))).mono ?_; rintro e w8 ⟨rfl, hb8, hk8⟩; have HB8 := Lib.hid hb8; have HP8 := Lib.hid (HP7.out.drew.book hb8 hk8 HLO7.out HHH7.out HKO7.out HVO7.out); clear hb8 hk8)
        | (go_at_call 16; refine (keysB_any _ HB8.out).mono ?_; rintro e w9 ⟨v9, rfl, ho9, hb9⟩; (obtain ⟨a9, c9, hv9, hi9⟩ := ho9.shape); rw [HKL.out] at hv9; subst hv9; have HI9 := Lib.hid hi9; have HP9 := Lib.hid (HP8.out.below hb9); clear ho9 hb9 hi9)
        | (go_at_call 15; refine (ints_same_keep a9 aK nK c9 cK _ _ s.keys _ HKL.out HI9.out (own_in HP9.out.K) hn8).mono ?_; rintro e w10 ⟨rfl, hk10⟩; have HP10 := Lib.hid (HP9.out.keep0 hk10); clear hk10))
    go_wp2
    go_ret
    exact ⟨rfl, HP10.out.bel⟩
theorem bookOpens_walk (x0 : Int) (x1 : ByteArray) (w : World) (_ : I64 x0) (_ : x1.size ≤ maxLen) (hg : Tab w ∧ Errs w ∧ Handle w) :
    Calls Tryz.prog 3 #[.int .i64 x0, .string x1] w fun e w' => e = .returned (.bool true) ∧ Below w.heap.size w w' := by
  have h := opens_any x0 x1.data.toList w hg.1 hg.2.1 hg.2.2
  rw [show (⟨x1.data.toList.toArray⟩ : ByteArray) = x1 from ByteArray.ext (by simp)] at h
  exact h
end Go.Proofs.YticckfioggeaeaaGreatDoor
