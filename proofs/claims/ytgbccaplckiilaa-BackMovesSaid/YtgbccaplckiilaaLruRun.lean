/-
  lru.Run, by its contract.
-/
import Derived.Test.YtgbccaplckiilaaLru
namespace Go.Proofs.Ytgbccaplckiilaa
open Go.RowKit

theorem IAt.own {w : World} {base : Nat} {v : Value} {L : List Int} (h : IAt w base v L) : OwnInts w base v L := by have := h.row; rw [flat1_ints] at this; exact this
theorem IAt.of_own {w : World} {base : Nat} {v : Value} {L : List Int} (h : OwnInts w base v L) : IAt w base v L := ⟨by rw [flat1_ints]; exact h⟩
theorem IAt.view {w : World} {base : Nat} {v : Value} {L : List Int} (h : IAt w base v L) : ∃ a c, v = .slice a L.length c ∧ IntsIn w w.heap.size a L ∧ L.length ≤ c := by
  obtain ⟨a, c, e, hi, hc, _⟩ := h.own.new
  exact ⟨a, c, e, hi.ints, hc⟩
theorem IAt.cut {w : World} {base : Nat} {a : Option Addr} {n c : Nat} {L : List Int} (h : IAt w base (.slice a n c) L) (m : Nat) (hm : m ≤ L.length) : IAt w base (.slice a m c) (L.take m) := by
  obtain ⟨_, h2⟩ := h.row
  refine ⟨by simp [flat1_ints, ints], ?_⟩
  have hlm : (L.take m).length = m := by rw [List.length_take]; omega
  rcases h2 with ⟨e, hn0⟩ | ⟨g, cap, cur, e, hb, hh, hc, hmx, hs, ht⟩
  · left
    injection e with e1 e2 e3
    subst e1; subst e3
    exact ⟨by rw [show m = 0 by omega], by omega⟩
  · right
    injection e with e1 e2 e3
    subst e1; subst e3
    refine ⟨g, c, cur, by rw [hlm], hb, hh, by omega, hmx, hs, ?_⟩
    rw [hlm, flat1_ints, show m * 1 = min (m * 1) (L.length * 1) by omega, ← List.take_take, ht, flat1_ints]
    simp [ints]

/-- In lru.Run: what was there, and what is held. -/
structure LruAt (w0 w : World) (vH vL : Value) (hits : List Bool) (held : List Int) : Prop where
  H : OwnBools w w0.heap.size vH hits
  L : IAt w w0.heap.size vL held
  ne : ∀ g, vH.ownBlock = some g → vL.ownBlock = some g → False
  bel : Below w0.heap.size w0 w
section
variable {w0 w w' : World} {vH vL vH' vL' : Value} {hits hits' : List Bool} {held held' : List Int} {a : Option Addr} {n c : Nat}
theorem LruAt.keep0 (h : LruAt w0 w vH vL hits held) (hk : Keep [] w w') : LruAt w0 w' vH vL hits held :=
  ⟨h.H.keep fun g hg => hk.block g (World.ownsRow.lt h.H g hg).2 (by simp), IAt.of_own (h.L.own.keep fun g hg => hk.block g (World.ownsRow.lt h.L.own g hg).2 (by simp)), h.ne, h.bel.trans (hk.below h.bel.size (by simp))⟩
theorem LruAt.hit (h : LruAt w0 w vH vL hits held) (ho : OwnBools w' w0.heap.size vH' hits') (hg : w.grownBy w' vH.ownBlock) (hat : vH'.ownBlock = vH.ownBlock ∨ vH'.ownBlock = some w.heap.size) : LruAt w0 w' vH' vL hits' held := by
  refine ⟨ho, IAt.of_own (h.L.own.keep fun g hg2 => hg.block g (World.ownsRow.lt h.L.own g hg2).2 (fun e => h.ne g e.symm hg2)), fun g h1 h2 => ?_, ?_⟩
  · rcases hat with e | e
    · exact h.ne g (by rw [← e]; exact h1) h2
    · have := (World.ownsRow.lt h.L.own g h2).2
      rw [e] at h1; injection h1 with h1; omega
  · exact h.bel.trans (((Keep.refl vH.ownBlock.toList w).grown hg (fun g h _ => by rw [h]; simp)).below h.bel.size (fun x hx => by
      cases e : vH.ownBlock with
      | none => rw [e] at hx; cases hx
      | some y => rw [e] at hx; simp at hx; subst hx; exact (World.ownsRow.lt h.H _ e).1))
theorem LruAt.row (h : LruAt w0 w vH vL hits held) {F : List Nat} (hk : Keep F w w') (hF : ∀ x ∈ F, some x = vL.ownBlock) (hl : IAt w' w0.heap.size vL' held') (hat : vL'.ownBlock = vL.ownBlock ∨ vL'.ownBlock = some w.heap.size) : LruAt w0 w' vH vL' hits held' := by
  refine ⟨h.H.keep fun g hg => hk.block g (World.ownsRow.lt h.H g hg).2 (fun hm => h.ne g hg (hF g hm).symm), hl, fun g h1 h2 => ?_, ?_⟩
  · rcases hat with e | e
    · exact h.ne g h1 (by rw [← e]; exact h2)
    · have := (World.ownsRow.lt h.H g h1).2
      rw [e] at h2; injection h2 with h2; omega
  · exact h.bel.trans (hk.below h.bel.size (fun x hx => (World.ownsRow.lt h.L.own x (hF x hx).symm).1))
theorem LruAt.take (h : LruAt w0 w vH (.slice a n c) hits held) (m : Nat) (hm : m ≤ held.length) : LruAt w0 w vH (.slice a m c) hits (held.take m) :=
  ⟨h.H, h.L.cut m hm, fun g h1 h2 => h.ne g h1 (by cases a <;> simp [Value.ownBlock] at h2 ⊢ <;> exact h2), h.bel⟩
end

def RunRel (w : World) (slots : Nat) (reqs : List Int) (vH vL i : Value) (wr : World) : Prop :=
  ∃ (k : Nat) (xH xL : Value), k ≤ reqs.length ∧ i = .int .i64 k ∧ xH = vH ∧ xL = vL ∧ LruAt w wr xH xL (lrRun slots (reqs.take k)).hits (lrRun slots (reqs.take k)).held
def RunPost (w : World) (slots : Nat) (reqs : List Int) (e : Ending) (w' : World) : Prop :=
  ∃ vH vL, e = .returned (.tuple #[vH, vL, .nilIface]) ∧ LruAt w w' vH vL (lrRun slots reqs).hits (lrRun slots reqs).held

set_option maxHeartbeats 4000000 in
set_option maxRecDepth 100000 in
theorem lru_run (a : Option Addr) (n c slots B : Nat) (reqs : List Int) (w : World) (hl : reqs.length = n) (h : IntsIn w B a reqs) (hB : B ≤ w.heap.size) (hr : ∀ x ∈ reqs, 0 ≤ x ∧ x ≤ 15) (hn : n ≤ 40) (h1 : 1 ≤ (slots : Int)) (h8 : (slots : Int) ≤ 8) :
    Calls Try.prog 26 #[.slice a n c, .int .i64 slots] w (RunPost w slots reqs) := by
  have HR := Lib.hid hr; have HL := Lib.hid hl
  have HI := Lib.hid h
  have hs1 : 1 ≤ slots := by omega
  clear hr h
  go_enter Try.func26, Try.ntmps26
  go_wp2_with fail
  refine (reqs_yes a n c B slots reqs _ hl HI.out HR.out hn h1 h8).mono ?_
  rintro e w' ⟨rfl, rfl⟩
  go_wp2
  go_loopw [8, 9, 11, 12, 21] (fun vH vL _ _ i wr => RunRel w slots reqs vH vL i wr) (fun _ _ _ _ i _ => n - (intOf i).toNat)
  case atStart => exact ⟨0, _, _, Nat.zero_le _, rfl, rfl, rfl, World.ownsRow_nil _ _ _ _, IAt.of_own (OwnInts.nil _ _), fun g hg => (by cases hg), Below.refl _ _⟩
  case round =>
    obtain ⟨k, vH, vL, hk, rfl, rfl, rfl, hat⟩ := hrel
    obtain ⟨u, hu⟩ : ∃ u, u = lrRun slots (reqs.take k) := ⟨_, rfl⟩
    rw [← hu] at hat
    have hld := lrRun_held (slots := slots) (reqs.take k) hs1
    have hlh := lrRun_hits slots (reqs.take k)
    rw [← hu] at hld hlh
    have HAT := Lib.hid hat; have HU := Lib.hid hu
    clear hat hu
    by_cases hlt : k < n
    · obtain ⟨b, off, rfl, hb, hc⟩ := HI.out.at_ (by omega : k < reqs.length)
      have hc1 := (HAT.out.bel.cell (p := ⟨b, off + k, none⟩) (Nat.lt_of_lt_of_le hb hB)).trans hc
      obtain ⟨x, hx⟩ : ∃ x, x = reqs[k]'(by omega) := ⟨_, rfl⟩
      have HX : Hid (reqs[k]? = some x) := Lib.hid (by rw [hx]; exact List.getElem?_eq_getElem _)
      rw [← hx] at hc1
      have hlk : (reqs.take k).length = k := by rw [List.length_take]; omega
      rw [hlk] at hlh
      have HNEXT : Hid (lrRun slots (reqs.take (k + 1)) = lrStep slots u x) := Lib.hid (by rw [List.take_add_one, HX.out, HU.out]; exact lrRun_succ _ _ _)
      clear hx hc hlk
      have hk0 : (0 : Int) ≤ (k : Int) := by omega
      have hkn : (k : Int) < (n : Int) := by omega
      obtain ⟨aL, cL, rfl, hin, hmc⟩ := HAT.out.L.view
      obtain ⟨m, hm⟩ : ∃ m, m = u.held.length := ⟨_, rfl⟩
      rw [← hm] at HAT hld hmc ⊢
      have HM := Lib.hid hm; have HIN := Lib.hid hin
      clear hm hin
      obtain ⟨i0, hi, hz0, hz1, hz2⟩ := info_parts info_bool
      have hlen := hlh
      go_wp2_with fail
      refine (index_any aL m cL _ x u.held _ HM.out.symm HIN.out (by omega)).mono ?_
      rintro e w' ⟨rfl, rfl⟩
      by_cases hmem : x ∈ u.held
      · obtain ⟨i, hil, hidx, her⟩ := idxI_in hmem
        rw [hidx]
        have hi0 : (0 : Int) ≤ (i : Int) := by omega
        have HSTEP : Hid (lrStep slots u x = ⟨x :: u.held.eraseIdx i, u.hits ++ [true]⟩) := Lib.hid (by unfold lrStep lrRest; rw [if_pos hmem, decide_eq_true hmem, her])
        have hel : (u.held.eraseIdx i).length = u.held.length - 1 := List.length_eraseIdx_of_lt hil
        have hil2 : i < m := by have := HM.out; omega
        have HEL := Lib.hid hel
        clear hidx her hmem hil hel
        have HOWN : Hid (∀ w' : World, Keep [] wr w' → OwnBools w' w.heap.size vH u.hits) := Lib.hid fun w' hk => (HAT.out.keep0 hk).H
        go_wp2_with (at_builtin; refine wpList_append_own_at _ rfl _ _ 45 rfl w.heap.size 4 i0 (.bool false) 1 1 Try.underlying45 hi hz0 hz1 hz2 rfl (by decide) _ _ _ rfl (HOWN.out _ ((Keep.refl _ _).alloc _)) ⟨wr.heap.size, 0, none⟩ 1 1 [.bool true] rfl rfl (by intro p u hp; match p, hp with | 0, hp => simp at hp; subst hp; simp [Addr.add]) (by intro u hu; simp at hu; subst hu; rfl) (by unfold maxLen; omega) (by omega) (by have := HAT.out.bel.size; simp; omega) ?_; intro vH' w2 hown' hgrow _ hlies; have hob : OwnBools w2 w.heap.size vH' (u.hits ++ [true]) := (by unfold OwnBools; simpa [bools] using hown'); have HAT2 := Lib.hid ((HAT.out.keep0 ((Keep.refl _ wr).alloc _)).hit hob hgrow hlies); clear hob hown' hgrow hlies)
        obtain ⟨_, hrow⟩ := HAT2.out.L.row
        rcases hrow with ⟨e, hn0⟩ | ⟨g, cap, cur, e, hbg, hh, hcp, hmx, hs, ht⟩
        · exfalso; have := HM.out; omega
        injection e with e1 e2 e3
        subst e1; subst e3
        have hblk : Blk w2 g 3 (flat1 u.held ++ cur.toList.drop (u.held.length * 1)) := by
          rw [← ht, List.take_append_drop]; unfold Blk; simpa using hh
        have hcl : (flat1 u.held ++ cur.toList.drop (u.held.length * 1)).length = cL * 1 := by
          rw [← ht, List.take_append_drop]; simpa using hs
        go_wp2_with fail
        refine (delI1 g cL m i u.held _ _ HM.out.symm hil2 hmc hmx hblk hcl (by omega)).mono ?_
        rintro e w3 ⟨rfl, ⟨rest', hblk3, hlen3⟩, hk3⟩
        have hl3 : IAt w3 w.heap.size (.slice (some ⟨g, 0, none⟩) (u.held.length - 1) cL) (u.held.eraseIdx i) := by
          have := HEL.out
          rw [← this]
          refine IAt.mk_ hbg (by omega) hmx hblk3 hlen3 ?_
          rw [List.take_append_of_le_length (by rw [flat1_len]; omega), List.take_of_length_le (by rw [flat1_len]; omega)]
        have HAT3 := Lib.hid (HAT2.out.row (vL' := .slice (some ⟨g, 0, none⟩) (u.held.length - 1) cL) hk3 (by intro y hy; simp at hy; subst hy; rfl) hl3 (.inl rfl))
        clear hl3 hk3 hblk3 hlen3 hblk hcl hh ht hs hbg HAT2
        go_wp2_with fail
        have hbs := HAT3.out.bel.size
        obtain ⟨wI, hwI⟩ : ∃ wI, wI = w3.alloc (.cells #[.int .i64 x] 3) := ⟨_, rfl⟩
        have hkI : Keep [] w3 wI := by rw [hwI]; exact (Keep.refl _ _).alloc _
        have hvI : Blk wI w3.heap.size 3 (fr1 x) := by rw [hwI]; exact Blk.new w3 _ (fr1 x)
        have hatI := HAT3.out.keep0 hkI
        have hneI : some w3.heap.size ≠ Value.ownBlock ((.slice (some ⟨g, 0, none⟩) (u.held.length - 1) cL)) := fun e => by have := (World.ownsRow.lt HAT3.out.L.own _ e.symm).2; omega
        have hbI : w.heap.size ≤ wI.heap.size := by have := hkI.size; omega
        rw [← hwI]
        refine (insI_any (.slice (some ⟨g, 0, none⟩) (u.held.length - 1) cL) w3.heap.size w.heap.size (u.held.length - 1) x (u.held.eraseIdx i) wI hatI.L HEL.out hbI hvI hneI (by omega)).mono ?_
        rintro e w9 ⟨vL', rfl, hrow9, F, hk9, hF9, hat9⟩
        have HAT9 := Lib.hid (hatI.row hk9 hF9 hrow9 hat9)
        clear hrow9 hk9 hF9 hat9
        go_wp2
        go_roundw
        case rel => exact ⟨k + 1, _, _, by omega, by simp, rfl, rfl, by rw [HNEXT.out, HSTEP.out]; exact HAT9.out⟩
        case measure => simp [intOf]; omega
      · rw [idxI_out hmem]
        by_cases hfull : m = slots
        · have HSTEP : Hid (lrStep slots u x = ⟨x :: u.held.take (m - 1), u.hits ++ [false]⟩) := Lib.hid (by unfold lrStep lrRest; have := HM.out; rw [if_neg hmem, decide_eq_false hmem, if_pos (by omega), hfull])
          have hfi : (m : Int) = (slots : Int) := by omega
          have HTL : Hid ((u.held.take (m - 1)).length = m - 1) := Lib.hid (by rw [List.length_take]; have := HM.out; omega)
          obtain ⟨q, hq⟩ : ∃ q, q = m - 1 := ⟨_, rfl⟩
          have hqe : (m : Int) - 1 = (q : Int) := by omega
          have hq0 : (0 : Int) ≤ (q : Int) := by omega
          have hqm : (q : Int) ≤ (m : Int) := by omega
          have hqc : (q : Int) ≤ (cL : Int) := by omega
          have hwq : IntKind.i64.wrap (q : Int) = (q : Int) := IntWalk.i64_in _ (by omega)
          rw [← hq] at HSTEP HTL
          have HQ := Lib.hid hq; clear hq
          subst hfull
          clear hmem
          have HOWN : Hid (∀ w' : World, Keep [] wr w' → OwnBools w' w.heap.size vH u.hits) := Lib.hid fun w' hk => (HAT.out.keep0 hk).H
          go_wp2_with (at_builtin; refine wpList_append_own_at _ rfl _ _ 45 rfl w.heap.size 4 i0 (.bool false) 1 1 Try.underlying45 hi hz0 hz1 hz2 rfl (by decide) _ _ _ rfl (HOWN.out _ ((Keep.refl _ _).alloc _)) ⟨wr.heap.size, 0, none⟩ 1 1 [.bool false] rfl rfl (by intro p u hp; match p, hp with | 0, hp => simp at hp; subst hp; simp [Addr.add]) (by intro u hu; simp at hu; subst hu; rfl) (by unfold maxLen; omega) (by omega) (by have := HAT.out.bel.size; simp; omega) ?_; intro vH' w2 hown' hgrow _ hlies; have hob : OwnBools w2 w.heap.size vH' (u.hits ++ [false]) := (by unfold OwnBools; simpa [bools] using hown'); have HAT2 := Lib.hid ((HAT.out.keep0 ((Keep.refl _ wr).alloc _)).hit hob hgrow hlies); clear hob hown' hgrow hlies)
          have HAT3 := Lib.hid (HAT2.out.take q (by have := HM.out; have := HQ.out; omega))
          clear HAT2
          go_wp2_with fail
          have hbs := HAT3.out.bel.size
          obtain ⟨wI, hwI⟩ : ∃ wI, wI = w2.alloc (.cells #[.int .i64 x] 3) := ⟨_, rfl⟩
          have hkI : Keep [] w2 wI := by rw [hwI]; exact (Keep.refl _ _).alloc _
          have hvI : Blk wI w2.heap.size 3 (fr1 x) := by rw [hwI]; exact Blk.new w2 _ (fr1 x)
          have hatI := HAT3.out.keep0 hkI
          have hneI : some w2.heap.size ≠ Value.ownBlock ((.slice aL q cL)) := fun e => by have := (World.ownsRow.lt HAT3.out.L.own _ e.symm).2; omega
          have hbI : w.heap.size ≤ wI.heap.size := by have := hkI.size; omega
          rw [← hwI]
          refine (insI_any (.slice aL q cL) w2.heap.size w.heap.size q x (u.held.take q) wI hatI.L HTL.out hbI hvI hneI (by omega)).mono ?_
          rintro e w9 ⟨vL', rfl, hrow9, F, hk9, hF9, hat9⟩
          have HAT9 := Lib.hid (hatI.row hk9 hF9 hrow9 hat9)
          clear hrow9 hk9 hF9 hat9
          go_wp2
          go_roundw
          case rel => exact ⟨k + 1, _, _, by omega, by simp, rfl, rfl, by rw [HNEXT.out, HSTEP.out]; exact HAT9.out⟩
          case measure => simp [intOf]; omega
        · have HSTEP : Hid (lrStep slots u x = ⟨x :: u.held, u.hits ++ [false]⟩) := Lib.hid (by unfold lrStep lrRest; have := HM.out; rw [if_neg hmem, decide_eq_false hmem, if_neg (by omega)])
          have hfi : ((m : Int) == (slots : Int)) = false := beq_eq_false_iff_ne.2 (by omega)
          clear hmem
          have HOWN : Hid (∀ w' : World, Keep [] wr w' → OwnBools w' w.heap.size vH u.hits) := Lib.hid fun w' hk => (HAT.out.keep0 hk).H
          go_wp2_with (at_builtin; refine wpList_append_own_at _ rfl _ _ 45 rfl w.heap.size 4 i0 (.bool false) 1 1 Try.underlying45 hi hz0 hz1 hz2 rfl (by decide) _ _ _ rfl (HOWN.out _ ((Keep.refl _ _).alloc _)) ⟨wr.heap.size, 0, none⟩ 1 1 [.bool false] rfl rfl (by intro p u hp; match p, hp with | 0, hp => simp at hp; subst hp; simp [Addr.add]) (by intro u hu; simp at hu; subst hu; rfl) (by unfold maxLen; omega) (by omega) (by have := HAT.out.bel.size; simp; omega) ?_; intro vH' w2 hown' hgrow _ hlies; have hob : OwnBools w2 w.heap.size vH' (u.hits ++ [false]) := (by unfold OwnBools; simpa [bools] using hown'); have HAT2 := Lib.hid ((HAT.out.keep0 ((Keep.refl _ wr).alloc _)).hit hob hgrow hlies); clear hob hown' hgrow hlies)
          have HML := HM.out.symm
          go_wp2_with fail
          have hbs := HAT2.out.bel.size
          obtain ⟨wI, hwI⟩ : ∃ wI, wI = w2.alloc (.cells #[.int .i64 x] 3) := ⟨_, rfl⟩
          have hkI : Keep [] w2 wI := by rw [hwI]; exact (Keep.refl _ _).alloc _
          have hvI : Blk wI w2.heap.size 3 (fr1 x) := by rw [hwI]; exact Blk.new w2 _ (fr1 x)
          have hatI := HAT2.out.keep0 hkI
          have hneI : some w2.heap.size ≠ Value.ownBlock ((.slice aL m cL)) := fun e => by have := (World.ownsRow.lt HAT2.out.L.own _ e.symm).2; omega
          have hbI : w.heap.size ≤ wI.heap.size := by have := hkI.size; omega
          rw [← hwI]
          refine (insI_any (.slice aL m cL) w2.heap.size w.heap.size m x u.held wI hatI.L HML hbI hvI hneI (by omega)).mono ?_
          rintro e w9 ⟨vL', rfl, hrow9, F, hk9, hF9, hat9⟩
          have HAT9 := Lib.hid (hatI.row hk9 hF9 hrow9 hat9)
          clear hrow9 hk9 hF9 hat9
          go_wp2
          go_roundw
          case rel => exact ⟨k + 1, _, _, by omega, by simp, rfl, rfl, by rw [HNEXT.out, HSTEP.out]; exact HAT9.out⟩
          case measure => simp [intOf]; omega
    · obtain rfl : k = n := by omega
      have e : reqs.take k = reqs := List.take_of_length_le (by omega)
      have hu := HU.out
      rw [e] at hu
      go_wp2
      go_ret3
      exact ⟨_, _, rfl, by rw [← hu]; exact HAT.out⟩
end Go.Proofs.Ytgbccaplckiilaa
