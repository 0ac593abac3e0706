/-
  Several texts in one (merged by wip/mergefix.py): ZLru, ZLruRun, ZLruNo.
-/
import Derived.Test.YticckfioggeaeaaGreatDoorGM
import Derived.Test.YticckfioggeaeaaGreatDoorGB
import Derived.Deep.QuietTactic
import Derived.BigQuiet
import Derived.Test.YticckfioggeaeaaGreatDoorGA
set_option linter.unusedVariables false
set_option linter.unusedSimpArgs false
set_option linter.unnecessarySimpa false
/-
  lru.Run's helpers: core.All, core.Reqs, slices.Index of ints, larderwicksame.Misses, by their contracts.
-/
namespace Go.Proofs.YticckfioggeaeaaGreatDoor
open Go.RowKit

set_option maxRecDepth 100000 in
theorem all_yes (a : Option Addr) (n c B : Nat) (lo hi : Int) (xs : List Int) (w : World) (hl : xs.length = n) (h : IntsIn w B a xs) (hr : ∀ x ∈ xs, lo ≤ x ∧ x ≤ hi) (hn : n ≤ 1000) :
    Calls Tryz.prog 76 #[.slice a n c, .int .i64 lo, .int .i64 hi] w fun e w' => e = .returned (.bool true) ∧ w = w' := by
  go_enter Tryz.func76, Tryz.ntmps76
  go_wp2
  go_loop [8, 11] (fun _ i => ∃ k : Nat, k ≤ n ∧ i = .int .i64 k) (fun _ i => n - (intOf i).toNat)
  case atStart => exact ⟨0, Nat.zero_le _, rfl⟩
  case round =>
    obtain ⟨k, hk, rfl⟩ := hrel
    by_cases hlt : k < n
    · obtain ⟨b, off, rfl, hb, hc⟩ := h.at_ (by omega : k < xs.length)
      have hx2 := hr xs[k] (List.getElem_mem _)
      obtain ⟨x, hx⟩ : ∃ x, x = xs[k]'(by omega) := ⟨_, rfl⟩
      rw [← hx] at hc hx2
      clear hx
      obtain ⟨hx2, hx3⟩ := hx2
      have hk0 : (0 : Int) ≤ (k : Int) := by omega
      have hkn : (k : Int) < (n : Int) := by omega
      go_wp2_with (go_at_call 44; refine (within_yes _ _ _ _ hx2 hx3).mono ?_; rintro e w' ⟨rfl, rfl⟩)
      go_round
      case rel => exact ⟨k + 1, hlt, by go_num⟩
      case measure => simp [intOf]; omega
    · go_wp2
      go_ret
      exact ⟨rfl, rfl⟩

theorem reqs_yes (a : Option Addr) (n c B : Nat) (slots : Int) (xs : List Int) (w : World) (hl : xs.length = n) (h : IntsIn w B a xs) (hr : ∀ x ∈ xs, 0 ≤ x ∧ x ≤ 15) (hn : n ≤ 40) (h1 : 1 ≤ slots) (h8 : slots ≤ 8) :
    Calls Tryz.prog 47 #[.slice a n c, .int .i64 slots] w fun e w' => e = .returned .nilIface ∧ w = w' := by
  go_enter Tryz.func47, Tryz.ntmps47
  go_wp2_with (first
    | (go_at_call 76; refine (all_yes _ _ _ B _ _ xs _ hl h hr (by omega)).mono ?_; rintro e w' ⟨rfl, rfl⟩)
    | (go_at_call 44; refine (within_yes _ _ _ _ h1 h8).mono ?_; rintro e w' ⟨rfl, rfl⟩))
  go_ret
  exact ⟨rfl, rfl⟩

/-- Where p stands first in L; -1: nowhere. -/
def idxI (L : List Int) (p : Int) : Int := if p ∈ L then (L.idxOf p : Nat) else -1
theorem idxI_at {L : List Int} {p : Int} {i : Nat} (hb : ∀ j, j < i → L[j]? ≠ some p) (h : L[i]? = some p) : idxI L p = i ∧ L.eraseIdx i = L.erase p := by
  have hm : p ∈ L := List.mem_of_getElem? h
  have hi := (List.getElem?_eq_some_iff.1 h).1
  have e : L.idxOf p = i := by
    have hlt := List.idxOf_lt_length_of_mem hm
    have hg : L[L.idxOf p]? = some p := by rw [List.getElem?_eq_getElem hlt, List.getElem_idxOf hlt]
    rcases Nat.lt_trichotomy (L.idxOf p) i with h1 | h1 | h1
    · exact absurd hg (hb _ h1)
    · exact h1
    · have := List.not_of_lt_findIdx (p := (· == p)) (xs := L) (i := i) h1
      rw [List.getElem?_eq_getElem hi] at h
      simp at h this
      exact absurd h this
  refine ⟨by rw [idxI, if_pos hm, e], ?_⟩
  have := (first_erase (p := fun x => x == p) L i p h (by simp) (fun j y hj hy => by
    have := hb j hj
    rw [hy] at this
    simp at this ⊢
    exact this)).2
  rw [List.erase_eq_eraseP', this]
theorem idxI_in {L : List Int} {p : Int} (h : p ∈ L) : ∃ i, i < L.length ∧ idxI L p = (i : Nat) ∧ L.eraseIdx i = L.erase p := by
  have hlt := List.idxOf_lt_length_of_mem h
  have hg : L[L.idxOf p]? = some p := by rw [List.getElem?_eq_getElem hlt, List.getElem_idxOf hlt]
  refine ⟨L.idxOf p, hlt, idxI_at (fun j hj hj2 => ?_) hg⟩
  have := List.not_of_lt_findIdx (p := (· == p)) (xs := L) (i := j) hj
  rw [List.getElem?_eq_getElem (by omega)] at hj2
  simp at hj2 this
  exact this hj2
theorem idxI_out {L : List Int} {p : Int} (h : p ∉ L) : idxI L p = -1 := by unfold idxI; exact if_neg h

set_option maxRecDepth 100000 in
theorem index_any (a : Option Addr) (n c B : Nat) (p : Int) (xs : List Int) (w : World) (hl : xs.length = n) (h : IntsIn w B a xs) (hn : n ≤ 1000) :
    Calls Tryz.prog 48 #[.slice a n c, .int .i64 p] w fun e w' => e = .returned (.int .i64 (idxI xs p)) ∧ w = w' := by
  have HI : Hid (∀ i, i < n → (∀ j, j < i → xs[j]? ≠ some p) → xs[i]? = some p → idxI xs p = i) := Lib.hid fun i _ h1 h2 => (idxI_at h1 h2).1
  have HE : Hid ((∀ j, j < n → xs[j]? ≠ some p) → idxI xs p = -1) := Lib.hid fun h1 => by
    unfold idxI
    rw [if_neg]
    intro hm
    obtain ⟨j, hj, e⟩ := List.getElem_of_mem hm
    exact h1 j (by omega) (by rw [List.getElem?_eq_getElem hj, e])
  go_enter Tryz.func48, Tryz.ntmps48
  go_wp2
  go_loop [5, 8] (fun _ i => ∃ k : Nat, k ≤ n ∧ i = .int .i64 k ∧ ∀ j, j < k → xs[j]? ≠ some p) (fun _ i => n - (intOf i).toNat)
  case atStart => exact ⟨0, Nat.zero_le _, rfl, fun j hj => absurd hj (Nat.not_lt_zero _)⟩
  case round =>
    obtain ⟨k, hk, rfl, hbef⟩ := hrel
    have HB := Lib.hid hbef; clear hbef
    by_cases hlt : k < n
    · obtain ⟨b, off, rfl, hb, hc1⟩ := h.at_ (by omega : k < xs.length)
      obtain ⟨x, hx⟩ : ∃ x, x = xs[k]'(by omega) := ⟨_, rfl⟩
      have HX : Hid (xs[k]? = some x) := Lib.hid (by rw [hx]; exact List.getElem?_eq_getElem _)
      rw [← hx] at hc1
      clear hx
      have hk0 : (0 : Int) ≤ (k : Int) := by omega
      have hkn : (k : Int) < (n : Int) := by omega
      by_cases e : p = x
      · subst e
        go_wp2
        go_ret
        exact ⟨ret_int (HI.out k hlt HB.out HX.out).symm, rfl⟩
      · have e' : (p == x) = false := beq_eq_false_iff_ne.2 e
        go_wp2
        go_round
        case rel => exact ⟨k + 1, hlt, by go_num, fun j hj => by
          by_cases ej : j = k
          · subst ej; rw [HX.out]; intro h2; injection h2 with h2; exact e h2.symm
          · exact HB.out j (by omega)⟩
        case measure => simp [intOf]; omega
    · obtain rfl : k = n := by omega
      go_wp2
      go_ret
      exact ⟨ret_int (HE.out HB.out).symm, rfl⟩

/-- A slice of truth values that came in. -/
def BoolsIn (w : World) (B : Nat) (a : Option Addr) (l : List Bool) : Prop := 0 < l.length → ∃ b off, a = some ⟨b, off, none⟩ ∧ b < B ∧ ∀ i x, l[i]? = some x → w.cell? ⟨b, off + i, none⟩ = some (.bool x)
theorem missed_succ {l : List Bool} {k : Nat} {x : Bool} (h : l[k]? = some x) : missed (l.take (k + 1)) = missed (l.take k) + if x then 0 else 1 := by
  rw [List.take_add_one, h]; exact missed_add _ _
theorem missed_bd (l : List Bool) : 0 ≤ missed l ∧ missed l ≤ l.length := by
  unfold missed
  have := List.countP_le_length (p := fun x : Bool => !x) (l := l)
  omega
set_option maxRecDepth 100000 in
theorem misses_any (a : Option Addr) (n c B : Nat) (l : List Bool) (w : World) (hl : l.length = n) (h : BoolsIn w B a l) (hn : n ≤ 1000) :
    Calls Tryz.prog 27 #[.slice a n c] w fun e w' => e = .returned (.int .i64 (missed l)) ∧ w = w' := by
  go_enter Tryz.func27, Tryz.ntmps27
  go_wp2
  go_loop [3, 4] (fun t i => ∃ k : Nat, k ≤ n ∧ i = .int .i64 k ∧ t = .int .i64 (missed (l.take k))) (fun _ i => n - (intOf i).toNat)
  case atStart => exact ⟨0, Nat.zero_le _, rfl, rfl⟩
  case round =>
    obtain ⟨k, hk, rfl, rfl⟩ := hrel
    by_cases hlt : k < n
    · obtain ⟨b, off, rfl, hb, hc⟩ := h (by omega)
      have hc1 := hc k l[k] (List.getElem?_eq_getElem _)
      have hst := missed_succ (List.getElem?_eq_getElem (by omega : k < l.length))
      have hbd := missed_bd (l.take k)
      have hlk : (l.take k).length ≤ 1000 := by rw [List.length_take]; omega
      obtain ⟨x, hx⟩ : ∃ x, x = l[k]'(by omega) := ⟨_, rfl⟩
      rw [← hx] at hc1 hst
      obtain ⟨t, ht⟩ : ∃ t, t = missed (l.take k) := ⟨_, rfl⟩
      rw [← ht] at hst hbd ⊢
      have HST := Lib.hid hst
      have ht0 : 0 ≤ t ∧ t ≤ 1000 := by omega
      obtain ⟨ht0, ht1⟩ := ht0
      clear hx ht hc hst hbd hlk
      have hk0 : (0 : Int) ≤ (k : Int) := by omega
      have hkn : (k : Int) < (n : Int) := by omega
      cases x
      all_goals
        go_wp2
        go_round
        case rel => exact ⟨k + 1, hlt, by go_num, congrArg (Value.int .i64) (by rw [HST.out]; simp)⟩
        case measure => simp [intOf]; omega
    · go_wp2
      go_ret
      exact ⟨ret_int (by rw [List.take_of_length_le (by omega)]), rfl⟩
end Go.Proofs.YticckfioggeaeaaGreatDoor

/-
  lru.Run, by its contract.
-/
namespace Go.Proofs.YticckfioggeaeaaGreatDoor
open Go.RowKit

theorem IAt.own {w : World} {base : Nat} {v : Value} {L : List Int} (h : IAt w base v L) : OwnInts w base v L := by have := h.row; rw [flat1_ints] at this; exact this
theorem IAt.of_own {w : World} {base : Nat} {v : Value} {L : List Int} (h : OwnInts w base v L) : IAt w base v L := ⟨by rw [flat1_ints]; exact h⟩
theorem IAt.view {w : World} {base : Nat} {v : Value} {L : List Int} (h : IAt w base v L) : ∃ a c, v = .slice a L.length c ∧ IntsIn w w.heap.size a L ∧ L.length ≤ c := by
  obtain ⟨a, c, e, hi, hc, _⟩ := h.own.new
  exact ⟨a, c, e, hi.ints, hc⟩
theorem IAt.cut {w : World} {base : Nat} {a : Option Addr} {n c : Nat} {L : List Int} (h : IAt w base (.slice a n c) L) (m : Nat) (hm : m ≤ L.length) : IAt w base (.slice a m c) (L.take m) := by
  obtain ⟨_, h2⟩ := h.row
  refine ⟨by simp [flat1_ints, ints], ?_⟩
  have hlm : (L.take m).length = m := by rw [List.length_take]; omega
  rcases h2 with ⟨e, hn0⟩ | ⟨g, cap, cur, e, hb, hh, hc, hmx, hs, ht⟩
  · left
    injection e with e1 e2 e3
    subst e1; subst e3
    exact ⟨by rw [show m = 0 by omega], by omega⟩
  · right
    injection e with e1 e2 e3
    subst e1; subst e3
    refine ⟨g, c, cur, by rw [hlm], hb, hh, by omega, hmx, hs, ?_⟩
    rw [hlm, flat1_ints, show m * 1 = min (m * 1) (L.length * 1) by omega, ← List.take_take, ht, flat1_ints]
    simp [ints]

/-- In lru.Run: what was there, and what is held. -/
structure LruAt (w0 w : World) (vH vL : Value) (hits : List Bool) (held : List Int) : Prop where
  H : OwnBools w w0.heap.size vH hits
  L : IAt w w0.heap.size vL held
  ne : ∀ g, vH.ownBlock = some g → vL.ownBlock = some g → False
  bel : Below w0.heap.size w0 w
section
variable {w0 w w' : World} {vH vL vH' vL' : Value} {hits hits' : List Bool} {held held' : List Int} {a : Option Addr} {n c : Nat}
theorem LruAt.keep0 (h : LruAt w0 w vH vL hits held) (hk : Keep [] w w') : LruAt w0 w' vH vL hits held :=
  ⟨h.H.keep fun g hg => hk.block g (World.ownsRow.lt h.H g hg).2 (by simp), IAt.of_own (h.L.own.keep fun g hg => hk.block g (World.ownsRow.lt h.L.own g hg).2 (by simp)), h.ne, h.bel.trans (hk.below h.bel.size (by simp))⟩
theorem LruAt.hit (h : LruAt w0 w vH vL hits held) (ho : OwnBools w' w0.heap.size vH' hits') (hg : w.grownBy w' vH.ownBlock) (hat : vH'.ownBlock = vH.ownBlock ∨ vH'.ownBlock = some w.heap.size) : LruAt w0 w' vH' vL hits' held := by
  refine ⟨ho, IAt.of_own (h.L.own.keep fun g hg2 => hg.block g (World.ownsRow.lt h.L.own g hg2).2 (fun e => h.ne g e.symm hg2)), fun g h1 h2 => ?_, ?_⟩
  · rcases hat with e | e
    · exact h.ne g (by rw [← e]; exact h1) h2
    · have := (World.ownsRow.lt h.L.own g h2).2
      rw [e] at h1; injection h1 with h1; omega
  · exact h.bel.trans (((Keep.refl vH.ownBlock.toList w).grown hg (fun g h _ => by rw [h]; simp)).below h.bel.size (fun x hx => by
      cases e : vH.ownBlock with
      | none => rw [e] at hx; cases hx
      | some y => rw [e] at hx; simp at hx; subst hx; exact (World.ownsRow.lt h.H _ e).1))
theorem LruAt.row (h : LruAt w0 w vH vL hits held) {F : List Nat} (hk : Keep F w w') (hF : ∀ x ∈ F, some x = vL.ownBlock) (hl : IAt w' w0.heap.size vL' held') (hat : vL'.ownBlock = vL.ownBlock ∨ vL'.ownBlock = some w.heap.size) : LruAt w0 w' vH vL' hits held' := by
  refine ⟨h.H.keep fun g hg => hk.block g (World.ownsRow.lt h.H g hg).2 (fun hm => h.ne g hg (hF g hm).symm), hl, fun g h1 h2 => ?_, ?_⟩
  · rcases hat with e | e
    · exact h.ne g h1 (by rw [← e]; exact h2)
    · have := (World.ownsRow.lt h.H g h1).2
      rw [e] at h2; injection h2 with h2; omega
  · exact h.bel.trans (hk.below h.bel.size (fun x hx => (World.ownsRow.lt h.L.own x (hF x hx).symm).1))
theorem LruAt.take (h : LruAt w0 w vH (.slice a n c) hits held) (m : Nat) (hm : m ≤ held.length) : LruAt w0 w vH (.slice a m c) hits (held.take m) :=
  ⟨h.H, h.L.cut m hm, fun g h1 h2 => h.ne g h1 (by cases a <;> simp [Value.ownBlock] at h2 ⊢ <;> exact h2), h.bel⟩
end

def RunRel (w : World) (slots : Nat) (reqs : List Int) (vH vL i : Value) (wr : World) : Prop :=
  ∃ (k : Nat) (xH xL : Value), k ≤ reqs.length ∧ i = .int .i64 k ∧ xH = vH ∧ xL = vL ∧ LruAt w wr xH xL (lrRun slots (reqs.take k)).hits (lrRun slots (reqs.take k)).held
def RunPost (w : World) (slots : Nat) (reqs : List Int) (e : Ending) (w' : World) : Prop :=
  ∃ vH vL, e = .returned (.tuple #[vH, vL, .nilIface]) ∧ LruAt w w' vH vL (lrRun slots reqs).hits (lrRun slots reqs).held

set_option maxHeartbeats 4000000 in
set_option maxRecDepth 100000 in
theorem lru_run (a : Option Addr) (n c slots B : Nat) (reqs : List Int) (w : World) (hl : reqs.length = n) (h : IntsIn w B a reqs) (hB : B ≤ w.heap.size) (hr : ∀ x ∈ reqs, 0 ≤ x ∧ x ≤ 15) (hn : n ≤ 40) (h1 : 1 ≤ (slots : Int)) (h8 : (slots : Int) ≤ 8) :
    Calls Tryz.prog 25 #[.slice a n c, .int .i64 slots] w (RunPost w slots reqs) := by
  have HR := Lib.hid hr; have HL := Lib.hid hl
  have HI := Lib.hid h
  have hs1 : 1 ≤ slots := by omega
  clear hr h
  go_enter Tryz.func25, Tryz.ntmps25
  go_wp2_with fail
  refine (reqs_yes a n c B slots reqs _ hl HI.out HR.out hn h1 h8).mono ?_
  rintro e w' ⟨rfl, rfl⟩
  go_wp2
  go_loopw [8, 9, 11, 12, 21] (fun vH vL _ _ i wr => RunRel w slots reqs vH vL i wr) (fun _ _ _ _ i _ => n - (intOf i).toNat)
  case atStart => exact ⟨0, _, _, Nat.zero_le _, rfl, rfl, rfl, World.ownsRow_nil _ _ _ _, IAt.of_own (OwnInts.nil _ _), fun g hg => (by cases hg), Below.refl _ _⟩
  case round =>
    obtain ⟨k, vH, vL, hk, rfl, rfl, rfl, hat⟩ := hrel
    obtain ⟨u, hu⟩ : ∃ u, u = lrRun slots (reqs.take k) := ⟨_, rfl⟩
    rw [← hu] at hat
    have hld := lrRun_held (slots := slots) (reqs.take k) hs1
    have hlh := lrRun_hits slots (reqs.take k)
    rw [← hu] at hld hlh
    have HAT := Lib.hid hat; have HU := Lib.hid hu
    clear hat hu
    by_cases hlt : k < n
    · obtain ⟨b, off, rfl, hb, hc⟩ := HI.out.at_ (by omega : k < reqs.length)
      have hc1 := (HAT.out.bel.cell (p := ⟨b, off + k, none⟩) (Nat.lt_of_lt_of_le hb hB)).trans hc
      obtain ⟨x, hx⟩ : ∃ x, x = reqs[k]'(by omega) := ⟨_, rfl⟩
      have HX : Hid (reqs[k]? = some x) := Lib.hid (by rw [hx]; exact List.getElem?_eq_getElem _)
      rw [← hx] at hc1
      have hlk : (reqs.take k).length = k := by rw [List.length_take]; omega
      rw [hlk] at hlh
      have HNEXT : Hid (lrRun slots (reqs.take (k + 1)) = lrStep slots u x) := Lib.hid (by rw [List.take_add_one, HX.out, HU.out]; exact lrRun_succ _ _ _)
      clear hx hc hlk
      have hk0 : (0 : Int) ≤ (k : Int) := by omega
      have hkn : (k : Int) < (n : Int) := by omega
      obtain ⟨aL, cL, rfl, hin, hmc⟩ := HAT.out.L.view
      obtain ⟨m, hm⟩ : ∃ m, m = u.held.length := ⟨_, rfl⟩
      rw [← hm] at HAT hld hmc ⊢
      have HM := Lib.hid hm; have HIN := Lib.hid hin
      clear hm hin
      obtain ⟨i0, hi, hz0, hz1, hz2⟩ := info_parts info_bool
      have hlen := hlh
      go_wp2_with fail
      refine (index_any aL m cL _ x u.held _ HM.out.symm HIN.out (by omega)).mono ?_
      rintro e w' ⟨rfl, rfl⟩
      by_cases hmem : x ∈ u.held
      · obtain ⟨i, hil, hidx, her⟩ := idxI_in hmem
        rw [hidx]
        have hi0 : (0 : Int) ≤ (i : Int) := by omega
        have HSTEP : Hid (lrStep slots u x = ⟨x :: u.held.eraseIdx i, u.hits ++ [true]⟩) := Lib.hid (by unfold lrStep lrRest; rw [if_pos hmem, decide_eq_true hmem, her])
        have hel : (u.held.eraseIdx i).length = u.held.length - 1 := List.length_eraseIdx_of_lt hil
        have hil2 : i < m := by have := HM.out; omega
        have HEL := Lib.hid hel
        clear hidx her hmem hil hel
        have HOWN : Hid (∀ w' : World, Keep [] wr w' → OwnBools w' w.heap.size vH u.hits) := Lib.hid fun w' hk => (HAT.out.keep0 hk).H
        go_wp2_with (at_builtin; refine wpList_append_own_at _ rfl _ _ 52 rfl w.heap.size 4 i0 (.bool false) 1 1 Tryz.underlying52 hi hz0 hz1 hz2 rfl (by decide) _ _ _ rfl (HOWN.out _ ((Keep.refl _ _).alloc _)) ⟨wr.heap.size, 0, none⟩ 1 1 [.bool true] rfl rfl (by intro p u hp; match p, hp with | 0, hp => simp at hp; subst hp; simp [Addr.add]) (by intro u hu; simp at hu; subst hu; rfl) (by unfold maxLen; omega) (by omega) (by have := HAT.out.bel.size; simp; omega) ?_; intro vH' w2 hown' hgrow _ hlies; have hob : OwnBools w2 w.heap.size vH' (u.hits ++ [true]) := (by unfold OwnBools; simpa [bools] using hown'); have HAT2 := Lib.hid ((HAT.out.keep0 ((Keep.refl _ wr).alloc _)).hit hob hgrow hlies); clear hob hown' hgrow hlies)
        obtain ⟨_, hrow⟩ := HAT2.out.L.row
        rcases hrow with ⟨e, hn0⟩ | ⟨g, cap, cur, e, hbg, hh, hcp, hmx, hs, ht⟩
        · exfalso; have := HM.out; omega
        injection e with e1 e2 e3
        subst e1; subst e3
        have hblk : Blk w2 g 3 (flat1 u.held ++ cur.toList.drop (u.held.length * 1)) := by
          rw [← ht, List.take_append_drop]; unfold Blk; simpa using hh
        have hcl : (flat1 u.held ++ cur.toList.drop (u.held.length * 1)).length = cL * 1 := by
          rw [← ht, List.take_append_drop]; simpa using hs
        go_wp2_with fail
        refine (delI1 g cL m i u.held _ _ HM.out.symm hil2 hmc hmx hblk hcl (by omega)).mono ?_
        rintro e w3 ⟨rfl, ⟨rest', hblk3, hlen3⟩, hk3⟩
        have hl3 : IAt w3 w.heap.size (.slice (some ⟨g, 0, none⟩) (u.held.length - 1) cL) (u.held.eraseIdx i) := by
          have := HEL.out
          rw [← this]
          refine IAt.mk_ hbg (by omega) hmx hblk3 hlen3 ?_
          rw [List.take_append_of_le_length (by rw [flat1_len]; omega), List.take_of_length_le (by rw [flat1_len]; omega)]
        have HAT3 := Lib.hid (HAT2.out.row (vL' := .slice (some ⟨g, 0, none⟩) (u.held.length - 1) cL) hk3 (by intro y hy; simp at hy; subst hy; rfl) hl3 (.inl rfl))
        clear hl3 hk3 hblk3 hlen3 hblk hcl hh ht hs hbg HAT2
        go_wp2_with fail
        have hbs := HAT3.out.bel.size
        obtain ⟨wI, hwI⟩ : ∃ wI, wI = w3.alloc (.cells #[.int .i64 x] 3) := ⟨_, rfl⟩
        have hkI : Keep [] w3 wI := by rw [hwI]; exact (Keep.refl _ _).alloc _
        have hvI : Blk wI w3.heap.size 3 (fr1 x) := by rw [hwI]; exact Blk.new w3 _ (fr1 x)
        have hatI := HAT3.out.keep0 hkI
        have hneI : some w3.heap.size ≠ Value.ownBlock ((.slice (some ⟨g, 0, none⟩) (u.held.length - 1) cL)) := fun e => by have := (World.ownsRow.lt HAT3.out.L.own _ e.symm).2; omega
        have hbI : w.heap.size ≤ wI.heap.size := by have := hkI.size; omega
        rw [← hwI]
        refine (insI_any (.slice (some ⟨g, 0, none⟩) (u.held.length - 1) cL) w3.heap.size w.heap.size (u.held.length - 1) x (u.held.eraseIdx i) wI hatI.L HEL.out hbI hvI hneI (by omega)).mono ?_
        rintro e w9 ⟨vL', rfl, hrow9, F, hk9, hF9, hat9⟩
        have HAT9 := Lib.hid (hatI.row hk9 hF9 hrow9 hat9)
        clear hrow9 hk9 hF9 hat9
        go_wp2
        go_roundw
        case rel => exact ⟨k + 1, _, _, by omega, by simp, rfl, rfl, by rw [HNEXT.out, HSTEP.out]; exact HAT9.out⟩
        case measure => simp [intOf]; omega
      · rw [idxI_out hmem]
        by_cases hfull : m = slots
        · have HSTEP : Hid (lrStep slots u x = ⟨x :: u.held.take (m - 1), u.hits ++ [false]⟩) := Lib.hid (by unfold lrStep lrRest; have := HM.out; rw [if_neg hmem, decide_eq_false hmem, if_pos (by omega), hfull])
          have hfi : (m : Int) = (slots : Int) := by omega
          have HTL : Hid ((u.held.take (m - 1)).length = m - 1) := Lib.hid (by rw [List.length_take]; have := HM.out; omega)
          obtain ⟨q, hq⟩ : ∃ q, q = m - 1 := ⟨_, rfl⟩
          have hqe : (m : Int) - 1 = (q : Int) := by omega
          have hq0 : (0 : Int) ≤ (q : Int) := by omega
          have hqm : (q : Int) ≤ (m : Int) := by omega
          have hqc : (q : Int) ≤ (cL : Int) := by omega
          have hwq : IntKind.i64.wrap (q : Int) = (q : Int) := IntWalk.i64_in _ (by omega)
          rw [← hq] at HSTEP HTL
          have HQ := Lib.hid hq; clear hq
          subst hfull
          clear hmem
          have HOWN : Hid (∀ w' : World, Keep [] wr w' → OwnBools w' w.heap.size vH u.hits) := Lib.hid fun w' hk => (HAT.out.keep0 hk).H
          go_wp2_with (at_builtin; refine wpList_append_own_at _ rfl _ _ 52 rfl w.heap.size 4 i0 (.bool false) 1 1 Tryz.underlying52 hi hz0 hz1 hz2 rfl (by decide) _ _ _ rfl (HOWN.out _ ((Keep.refl _ _).alloc _)) ⟨wr.heap.size, 0, none⟩ 1 1 [.bool false] rfl rfl (by intro p u hp; match p, hp with | 0, hp => simp at hp; subst hp; simp [Addr.add]) (by intro u hu; simp at hu; subst hu; rfl) (by unfold maxLen; omega) (by omega) (by have := HAT.out.bel.size; simp; omega) ?_; intro vH' w2 hown' hgrow _ hlies; have hob : OwnBools w2 w.heap.size vH' (u.hits ++ [false]) := (by unfold OwnBools; simpa [bools] using hown'); have HAT2 := Lib.hid ((HAT.out.keep0 ((Keep.refl _ wr).alloc _)).hit hob hgrow hlies); clear hob hown' hgrow hlies)
          have HAT3 := Lib.hid (HAT2.out.take q (by have := HM.out; have := HQ.out; omega))
          clear HAT2
          go_wp2_with fail
          have hbs := HAT3.out.bel.size
          obtain ⟨wI, hwI⟩ : ∃ wI, wI = w2.alloc (.cells #[.int .i64 x] 3) := ⟨_, rfl⟩
          have hkI : Keep [] w2 wI := by rw [hwI]; exact (Keep.refl _ _).alloc _
          have hvI : Blk wI w2.heap.size 3 (fr1 x) := by rw [hwI]; exact Blk.new w2 _ (fr1 x)
          have hatI := HAT3.out.keep0 hkI
          have hneI : some w2.heap.size ≠ Value.ownBlock ((.slice aL q cL)) := fun e => by have := (World.ownsRow.lt HAT3.out.L.own _ e.symm).2; omega
          have hbI : w.heap.size ≤ wI.heap.size := by have := hkI.size; omega
          rw [← hwI]
          refine (insI_any (.slice aL q cL) w2.heap.size w.heap.size q x (u.held.take q) wI hatI.L HTL.out hbI hvI hneI (by omega)).mono ?_
          rintro e w9 ⟨vL', rfl, hrow9, F, hk9, hF9, hat9⟩
          have HAT9 := Lib.hid (hatI.row hk9 hF9 hrow9 hat9)
          clear hrow9 hk9 hF9 hat9
          go_wp2
          go_roundw
          case rel => exact ⟨k + 1, _, _, by omega, by simp, rfl, rfl, by rw [HNEXT.out, HSTEP.out]; exact HAT9.out⟩
          case measure => simp [intOf]; omega
        · have HSTEP : Hid (lrStep slots u x = ⟨x :: u.held, u.hits ++ [false]⟩) := Lib.hid (by unfold lrStep lrRest; have := HM.out; rw [if_neg hmem, decide_eq_false hmem, if_neg (by omega)])
          have hfi : ((m : Int) == (slots : Int)) = false := beq_eq_false_iff_ne.2 (by omega)
          clear hmem
          have HOWN : Hid (∀ w' : World, Keep [] wr w' → OwnBools w' w.heap.size vH u.hits) := Lib.hid fun w' hk => (HAT.out.keep0 hk).H
          go_wp2_with (at_builtin; refine wpList_append_own_at _ rfl _ _ 52 rfl w.heap.size 4 i0 (.bool false) 1 1 Tryz.underlying52 hi hz0 hz1 hz2 rfl (by decide) _ _ _ rfl (HOWN.out _ ((Keep.refl _ _).alloc _)) ⟨wr.heap.size, 0, none⟩ 1 1 [.bool false] rfl rfl (by intro p u hp; match p, hp with | 0, hp => simp at hp; subst hp; simp [Addr.add]) (by intro u hu; simp at hu; subst hu; rfl) (by unfold maxLen; omega) (by omega) (by have := HAT.out.bel.size; simp; omega) ?_; intro vH' w2 hown' hgrow _ hlies; have hob : OwnBools w2 w.heap.size vH' (u.hits ++ [false]) := (by unfold OwnBools; simpa [bools] using hown'); have HAT2 := Lib.hid ((HAT.out.keep0 ((Keep.refl _ wr).alloc _)).hit hob hgrow hlies); clear hob hown' hgrow hlies)
          have HML := HM.out.symm
          go_wp2_with fail
          have hbs := HAT2.out.bel.size
          obtain ⟨wI, hwI⟩ : ∃ wI, wI = w2.alloc (.cells #[.int .i64 x] 3) := ⟨_, rfl⟩
          have hkI : Keep [] w2 wI := by rw [hwI]; exact (Keep.refl _ _).alloc _
          have hvI : Blk wI w2.heap.size 3 (fr1 x) := by rw [hwI]; exact Blk.new w2 _ (fr1 x)
          have hatI := HAT2.out.keep0 hkI
          have hneI : some w2.heap.size ≠ Value.ownBlock ((.slice aL m cL)) := fun e => by have := (World.ownsRow.lt HAT2.out.L.own _ e.symm).2; omega
          have hbI : w.heap.size ≤ wI.heap.size := by have := hkI.size; omega
          rw [← hwI]
          refine (insI_any (.slice aL m cL) w2.heap.size w.heap.size m x u.held wI hatI.L HML hbI hvI hneI (by omega)).mono ?_
          rintro e w9 ⟨vL', rfl, hrow9, F, hk9, hF9, hat9⟩
          have HAT9 := Lib.hid (hatI.row hk9 hF9 hrow9 hat9)
          clear hrow9 hk9 hF9 hat9
          go_wp2
          go_roundw
          case rel => exact ⟨k + 1, _, _, by omega, by simp, rfl, rfl, by rw [HNEXT.out, HSTEP.out]; exact HAT9.out⟩
          case measure => simp [intOf]; omega
    · obtain rfl : k = n := by omega
      have e : reqs.take k = reqs := List.take_of_length_le (by omega)
      have hu := HU.out
      rw [e] at hu
      go_wp2
      go_ret3
      exact ⟨_, _, rfl, by rw [← hu]; exact HAT.out⟩
end Go.Proofs.YticckfioggeaeaaGreatDoor

/-
  lru.Run of requests that may not be, by its contract.
-/
namespace Go.Proofs.YticckfioggeaeaaGreatDoor
open Go.RowKit

def allB (lo hi : Int) (xs : List Int) : Bool := decide (∀ x ∈ xs, lo ≤ x ∧ x ≤ hi)
set_option maxRecDepth 100000 in
theorem all_any (a : Option Addr) (n c B : Nat) (lo hi : Int) (xs : List Int) (w : World) (hl : xs.length = n) (h : IntsIn w B a xs) (hn : n ≤ 1000) :
    Calls Tryz.prog 76 #[.slice a n c, .int .i64 lo, .int .i64 hi] w fun e w' => e = .returned (.bool (allB lo hi xs)) ∧ w = w' := by
  by_cases hr : ∀ x ∈ xs, lo ≤ x ∧ x ≤ hi
  · have e : allB lo hi xs = true := decide_eq_true hr
    rw [e]
    exact all_yes a n c B lo hi xs w hl h hr hn
  · have e : allB lo hi xs = false := decide_eq_false hr
    rw [e]
    have HR : Hid (∃ k, ∃ hk : k < xs.length, ¬ (lo ≤ xs[k] ∧ xs[k] ≤ hi)) := Lib.hid (by
      simp only [Classical.not_forall] at hr
      obtain ⟨x, hx, hb⟩ := hr
      obtain ⟨k, hk, rfl⟩ := List.getElem_of_mem hx
      exact ⟨k, hk, hb⟩)
    obtain ⟨m, hm, hbad⟩ := HR.out
    have HB := Lib.hid hbad
    clear hbad hr e HR
    have HL := Lib.hid hl
    have hmn : m < n := by omega
    go_enter Tryz.func76, Tryz.ntmps76
    go_wp2
    go_loop [8, 11] (fun _ i => ∃ k : Nat, k ≤ m ∧ i = .int .i64 k) (fun _ i => n - (intOf i).toNat)
    case atStart => exact ⟨0, Nat.zero_le _, rfl⟩
    case round =>
      obtain ⟨k, hk, rfl⟩ := hrel
      have hkx : k < xs.length := by rw [HL.out]; omega
      obtain ⟨b, off, rfl, hb, hc⟩ := h.at_ hkx
      obtain ⟨x, hx⟩ : ∃ x, x = xs[k] := ⟨_, rfl⟩
      rw [← hx] at hc
      have HX := Lib.hid hx
      have hk0 : (0 : Int) ≤ (k : Int) := by omega
      have hkn : (k : Int) < (n : Int) := by omega
      by_cases hb1 : lo ≤ x ∧ x ≤ hi
      · have hkm : k < m := by
          rcases Nat.lt_or_ge k m with h1 | h1
          · exact h1
          · obtain rfl : k = m := by omega
            exfalso
            have h2 := HB.out
            have h3 := HX.out
            rw [← h3] at h2
            exact h2 hb1
        obtain ⟨hx2, hx3⟩ := hb1
        clear hx
        go_wp2_with (go_at_call 44; refine (within_yes _ _ _ _ hx2 hx3).mono ?_; rintro e w' ⟨rfl, rfl⟩)
        go_round
        case rel => exact ⟨k + 1, hkm, by go_num⟩
        case measure => simp [intOf]; omega
      · have hb2 : x < lo ∨ hi < x := by omega
        clear hx
        go_wp2_with (go_at_call 44; refine (within_no _ _ _ _ hb2).mono ?_; rintro e w' ⟨rfl, rfl⟩)
        go_ret
        exact ⟨rfl, rfl⟩
/-- What is wrong with requests, and slots. -/
def reqE (n : Nat) (slots : Int) (xs : List Int) : Int := if 40 < n then 4 else if allB 0 15 xs = true ∧ 1 ≤ slots ∧ slots ≤ 8 then 0 else 1
set_option maxRecDepth 100000 in
theorem reqs_any (a : Option Addr) (n c B : Nat) (slots : Int) (xs : List Int) (w : World) (hl : xs.length = n) (h : IntsIn w B a xs) :
    Calls Tryz.prog 47 #[.slice a n c, .int .i64 slots] w fun e w' => e = .returned (errw (reqE n slots xs)) ∧ w = w' := by
  by_cases hn : 40 < n
  · have e : reqE n slots xs = 4 := by unfold reqE; rw [if_pos hn]
    rw [e]
    have h40 : (40 : Int) < (n : Int) := by omega
    go_enter Tryz.func47, Tryz.ntmps47
    go_wp2
    go_ret
    exact ⟨rfl, rfl⟩
  · have h40 : ¬ (40 : Int) < (n : Int) := by omega
    have hn2 : n ≤ 1000 := by omega
    have HI := Lib.hid h; have HL := Lib.hid hl
    cases ha : allB 0 15 xs with
    | true =>
      by_cases hs : 1 ≤ slots ∧ slots ≤ 8
      · have e : reqE n slots xs = 0 := by unfold reqE; rw [if_neg hn, if_pos ⟨ha, hs⟩]
        rw [e]
        exact reqs_yes a n c B slots xs w hl h (of_decide_eq_true ha) (by omega) hs.1 hs.2
      · have e : reqE n slots xs = 1 := by unfold reqE; rw [if_neg hn, if_neg (fun h => hs h.2)]
        rw [e]
        have hs2 : slots < 1 ∨ 8 < slots := by omega
        have HA := Lib.hid ha
        clear h hl ha e hs
        go_enter Tryz.func47, Tryz.ntmps47
        go_wp2_with (first
          | (go_at_call 76; refine (all_any _ _ _ B _ _ xs _ HL.out HI.out hn2).mono ?_; rintro e w' ⟨rfl, rfl⟩; rw [HA.out])
          | (go_at_call 44; refine (within_no _ _ _ _ hs2).mono ?_; rintro e w' ⟨rfl, rfl⟩))
        go_ret
        exact ⟨rfl, rfl⟩
    | false =>
      have e : reqE n slots xs = 1 := by unfold reqE; rw [if_neg hn, if_neg (fun h => by rw [ha] at h; exact absurd h.1 (by decide))]
      rw [e]
      have HA := Lib.hid ha
      clear h hl ha e
      go_enter Tryz.func47, Tryz.ntmps47
      go_wp2_with (go_at_call 76; refine (all_any _ _ _ B _ _ xs _ HL.out HI.out hn2).mono ?_; rintro e w' ⟨rfl, rfl⟩; rw [HA.out])
      go_ret
      exact ⟨rfl, rfl⟩
set_option maxRecDepth 100000 in
theorem lru_no (a : Option Addr) (n c B : Nat) (slots : Int) (xs : List Int) (w : World) (hl : xs.length = n) (h : IntsIn w B a xs) (hne : reqE n slots xs ≠ 0) :
    Calls Tryz.prog 25 #[.slice a n c, .int .i64 slots] w fun e w' => e = .returned (.tuple #[.slice none 0 0, .slice none 0 0, errv (reqE n slots xs)]) ∧ w = w' := by
  have HI := Lib.hid h; have HL := Lib.hid hl
  have HC := Lib.hid (reqs_any a n c B slots xs)
  obtain ⟨k, hk⟩ : ∃ k, k = reqE n slots xs := ⟨_, rfl⟩
  rw [← hk] at hne ⊢
  rw [← hk] at HC
  clear h hl hk
  go_enter Tryz.func25, Tryz.ntmps25
  go_wp2_with fail
  refine (HC.out _ HL.out HI.out).mono ?_
  rintro e w' ⟨rfl, rfl⟩
  rw [errw_of hne]
  go_wp2
  go_ret3
  exact ⟨rfl, rfl⟩
end Go.Proofs.YticckfioggeaeaaGreatDoor
