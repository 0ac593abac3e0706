/-
  BackMoves: the walk.
-/
import Derived.Test.YtgbccaplckiilaaBackFact
import Derived.Test.YtgbccaplckiilaaLruRun
import Derived.Test.YtgbccaplckiilaaSameInts
import Derived.Test.YtgbccaplckiilaaLift
namespace Go.Proofs.Ytgbccaplckiilaa
open Go.RowKit

theorem backMoves_no (n : Int) (a : Option Addr) (m c : Nat) (a2 : Option Addr) (m2 c2 : Nat) (w : World) (h : n < 1 ∨ 8 < n) :
    Calls Try.prog 8 #[.int .i64 n, .slice a m c, .slice a2 m2 c2] w fun e w' => e = .returned (.bool true) ∧ Below w.heap.size w w' := by
  go_enter Try.func8, Try.ntmps8
  go_wp2_with (first
    | (go_at_call 17; refine (backFact_any _).mono ?_; rintro e w1 ⟨rfl, hb1⟩)
    | (go_at_call 10; refine (bNew_no _ _ h).mono ?_; rintro e w2 ⟨rfl, rfl⟩)
    | (go_at_call 18; refine (in_no _ _ _ _ h).mono ?_; rintro e w' ⟨rfl, rfl⟩))
  go_ret
  exact ⟨rfl, hb1⟩

/-- Two caches, what one was asked for (asked), and the list of it (lst). -/
structure MV (w0 w : World) (b1 b2 n : Nat) (s : BSt) (v vR : Value) (asked lst : List Int) : Prop where
  c : BAt w b1 v n s
  d : BAt w b2 (.slice none 0 0) n bs0
  inv : BInv n s (List.replicate 8 0) asked.length 0
  lr : LR s (lrRun n asked)
  rg : ∀ x ∈ asked, 0 ≤ x ∧ x ≤ 7
  R : OwnInts w w0.heap.size vR lst
  bel : Below w0.heap.size w0 w
  hb1 : w0.heap.size ≤ b1
  hb2 : w0.heap.size ≤ b2
  ne : b1 ≠ b2
  vb : ∀ g, v.ownBlock = some g → w0.heap.size ≤ g ∧ g ≠ b2 ∧ vR.ownBlock ≠ some g
  rb : vR.ownBlock ≠ some b1 ∧ vR.ownBlock ≠ some b2
section
variable {w0 w w' : World} {b1 b2 n : Nat} {s s' : BSt} {v v' vR vR' : Value} {asked asked' lst lst' : List Int}
theorem MV.keep0 (h : MV w0 w b1 b2 n s v vR asked lst) (hk : Keep [] w w') : MV w0 w' b1 b2 n s v vR asked lst :=
  { h with c := h.c.frame_keep hk, d := h.d.frame_keep hk, R := h.R.keep fun g hg => hk.block g (World.ownsRow.lt h.R g hg).2 (by simp), bel := h.bel.trans (hk.below h.bel.size (by simp)) }
theorem MV.read (h : MV w0 w b1 b2 n s v vR asked lst) (h1 : 1 ≤ n) {k : Int} (hk0 : 0 ≤ k) (hk7 : k ≤ 7) (hc : BAt w' b1 v' n (useB n s k true)) (hk : KeepO b1 v w w') (ho : OwnNew w v v') : MV w0 w' b1 b2 n (useB n s k true) v' vR (asked ++ [k]) lst := by
  have hd2 : BAt w' b2 (.slice none 0 0) n bs0 := by
    obtain ⟨F, hF, hx⟩ := hk
    refine ⟨h.d.top.keep hF (fun hm => ?_), h.d.dl, h.d.fr.keepF hF (fun x _ e => by simp [Value.ownBlock] at e)⟩
    rcases hx _ hm with e | e
    · exact h.ne e.symm
    · exact (h.vb _ e.symm).2.1 rfl
  have hR2 : OwnInts w' w0.heap.size vR lst := by
    obtain ⟨F, hF, hx⟩ := hk
    refine h.R.keep fun g hg => hF.block g (World.ownsRow.lt h.R g hg).2 (fun hm => ?_)
    rcases hx _ hm with e | e
    · exact h.rb.1 (by rw [← e]; exact hg)
    · exact (h.vb _ e.symm).2.2 hg
  refine ⟨hc, hd2, ?_, ?_, ?_, hR2, h.bel.trans (hk.old h.bel.size h.hb1 (fun g hg => (h.vb g hg).1)), h.hb1, h.hb2, h.ne, fun g hg => ?_, h.rb⟩
  · have := (h.inv.read h1 hk0 hk7).1
    rw [List.length_append]
    exact this.mono (by simp) (by omega)
  · rw [lrRun_succ]; exact h.lr.read h1 k
  · intro x hx
    rcases List.mem_append.1 hx with hx | hx
    · exact h.rg x hx
    · simp at hx; subst hx; exact ⟨hk0, hk7⟩
  · rcases ho g hg with e | e
    · exact h.vb g e
    · have := h.bel.size
      have h2 := h.d.top.lt
      exact ⟨by omega, by omega, fun e2 => by have := (World.ownsRow.lt h.R g e2).2; omega⟩
theorem MV.app (h : MV w0 w b1 b2 n s v vR asked lst) (ho : OwnInts w' w0.heap.size vR' lst') (hg : w.grownBy w' vR.ownBlock) (hat : vR'.ownBlock = vR.ownBlock ∨ vR'.ownBlock = some w.heap.size) : MV w0 w' b1 b2 n s v vR' asked lst' := by
  have hk : Keep vR.ownBlock.toList w w' := (Keep.refl _ w).grown hg (fun g h _ => by rw [h]; simp)
  have hn : ∀ g, vR.ownBlock ≠ some g → g ∉ vR.ownBlock.toList := fun g hne hm => by
    cases e : vR.ownBlock with
    | none => rw [e] at hm; cases hm
    | some y => rw [e] at hm; simp at hm; exact hne (by rw [e, hm])
  have hl1 := h.c.top.lt
  have hl2 := h.d.top.lt
  refine ⟨⟨h.c.top.keep hk (hn _ h.rb.1), h.c.dl, h.c.fr.keepF hk (fun x hx e => ?_)⟩, ⟨h.d.top.keep hk (hn _ h.rb.2), h.d.dl, h.d.fr.keepF hk (fun x _ e => by simp [Value.ownBlock] at e)⟩, h.inv, h.lr, h.rg, ho, h.bel.trans (hk.below h.bel.size (fun x hx => ?_)), h.hb1, h.hb2, h.ne, fun g hg2 => ?_, ?_⟩
  · exact hn x (h.vb x e.symm).2.2 hx
  · cases e : vR.ownBlock with
    | none => rw [e] at hx; cases hx
    | some y => rw [e] at hx; simp at hx; subst hx; exact (World.ownsRow.lt h.R _ e).1
  · obtain ⟨q1, q2, q3⟩ := h.vb g hg2
    refine ⟨q1, q2, fun e => ?_⟩
    rcases hat with e2 | e2
    · exact q3 (by rw [← e2]; exact e)
    · rw [e2] at e; injection e with e
      have := (h.c.fr.lt _ hg2).2
      omega
  · rcases hat with e2 | e2
    · rw [e2]; exact h.rb
    · rw [e2]; exact ⟨fun e => by injection e with e; omega, fun e => by injection e with e; omega⟩
end
theorem boolsIn {w : World} {base : Nat} {v : Value} {l : List Bool} (h : OwnBools w base v l) : ∃ a c, v = .slice a l.length c ∧ BoolsIn w w.heap.size a l := by
  obtain ⟨_, ⟨rfl, hn⟩ | ⟨g, cap, cur, rfl, hb, hh, hc, hm, _, ht⟩⟩ := h
  · exact ⟨none, 0, by rw [hn], fun h0 => by omega⟩
  · refine ⟨_, _, rfl, fun _ => ⟨g, 0, rfl, ?_, fun i x hx => ?_⟩⟩
    · rcases Nat.lt_or_ge g w.heap.size with h | h
      · exact h
      · rw [Array.getElem?_eq_none h] at hh; cases hh
    · have hblk : Blk w g 4 cur.toList := by unfold Blk; simpa using hh
      have hi := (List.getElem?_eq_some_iff.1 hx).1
      rw [Nat.zero_add]
      refine hblk.cell_ ?_
      have : (bools l)[i]? = some (.bool x) := by simp [bools, hx]
      rw [← ht, List.getElem?_take_of_lt (by omega)] at this
      exact this

theorem UsAt.belowFrom2 {w0 w wr w' : World} {b B : Nat} {v v' : Value} {slots q : Nat} {u : Us} (h : UsAt w b (.slice none 0 0) slots u wr v q) (hB : Below B w0 wr) (hs : B ≤ w.heap.size) (hb : B ≤ b) (hk : KeepO b v wr w') (_ : OwnNew wr v v') (h0 : B ≤ w0.heap.size) : Below B w0 w' :=
  hB.trans (hk.old (by have := hB.size; omega) hb fun g hg => by
    rcases h.2.2.1 g hg with e | e
    · simp [Value.ownBlock] at e
    · omega)

def MRel (w : World) (b1 b2 n m : Nat) (vR i : Value) (wr : World) : Prop :=
  ∃ (k : Nat) (s : BSt) (v xR : Value) (asked : List Int), k ≤ m ∧ k ≤ 40 ∧ i = .int .i64 k ∧ asked.length ≤ k ∧ xR = vR ∧ MV w wr b1 b2 n s v xR asked asked

set_option maxHeartbeats 4000000 in
set_option maxRecDepth 100000 in
theorem backMoves_yes (n : Nat) (h1 : 1 ≤ (n : Int)) (h2 : (n : Int) ≤ 8) (a : Option Addr) (c : Nat) (xs : List Int) (a2 : Option Addr) (c2 : Nat) (xss : List (List Int)) (w : World) (hxs : IntsIn w w.heap.size a xs) (hnx : xs.length ≤ maxLen) (hx : RowsIn w w.heap.size a2 xss) (hn : xss.length ≤ maxLen) :
    Calls Try.prog 8 #[.int .i64 n, .slice a xs.length c, .slice a2 xss.length c2] w fun e w' => e = .returned (.bool true) ∧ Below w.heap.size w w' := by
  have HN := Lib.hid hn; clear hn
  have HX := Lib.hid hx; clear hx
  have HXS := Lib.hid hxs; clear hxs
  have hn1 : 1 ≤ n := by omega
  have hn8 : n ≤ 8 := by omega
  go_enter Try.func8, Try.ntmps8
  go_wp2_with fail
  refine (backFact_any _).mono ?_
  rintro e w1 ⟨rfl, hb1⟩
  go_wp2_with fail
  refine (bNew_ok n _ h1 h2).mono ?_
  rintro e w2 ⟨rfl, hat1, hb2⟩
  go_wp2_with fail
  refine (bNew_ok n _ h1 h2).mono ?_
  rintro e w3 ⟨rfl, hat2, hb3⟩
  have hmv : MV w w3 w1.heap.size w2.heap.size n bs0 (.slice none 0 0) (.slice none 0 0) [] [] := by
    have z1 := hb1.size; have z2 := hb2.size; have z3 := hb3.size; have l1 := hat1.top.lt
    exact ⟨hat1.frame_keep (Below.keep0 hb3), hat2, bs0_inv n, lr0, fun x hx => (by cases hx), OwnInts.nil _ _, hb1.trans ((hb2.mono z1).trans (hb3.mono (by omega))), z1, by omega, by omega, fun g hg => (by simp [Value.ownBlock] at hg), ⟨by simp [Value.ownBlock], by simp [Value.ownBlock]⟩⟩
  have HMV := Lib.hid hmv
  obtain ⟨b1, hb1e⟩ : ∃ b1, b1 = w1.heap.size := ⟨_, rfl⟩
  obtain ⟨b2, hb2e⟩ : ∃ b2, b2 = w2.heap.size := ⟨_, rfl⟩
  rw [← hb1e, ← hb2e] at HMV
  rw [← hb1e, ← hb2e]
  clear hmv hat1 hat2 hb1 hb2 hb3 hb1e hb2e
  go_wp2
  go_loopw [12, 13, 14, 15] (fun vR i _ _ wr => MRel w b1 b2 n xs.length vR i wr) (fun _ i _ _ _ => xs.length - (intOf i).toNat)
  case atStart => exact ⟨0, _, _, _, [], by omega, by omega, rfl, Nat.le_refl _, rfl, HMV.out⟩
  case round =>
    obtain ⟨j, s, v, vR, asked, hj, hj8, rfl, hal, rfl, hmv⟩ := hrel
    have HMV := Lib.hid hmv; clear hmv
    by_cases hlt : j < xs.length ∧ j < 40
    · obtain ⟨hlt, hlt8⟩ := hlt
      obtain ⟨b, off, rfl, hb, hc⟩ := HXS.out.at_ hlt
      have hc1 := (HMV.out.bel.cell (p := ⟨b, off + j, none⟩) hb).trans hc
      obtain ⟨x, hx⟩ : ∃ x, x = xs[j] := ⟨_, rfl⟩
      rw [← hx] at hc1
      clear hx hc
      have hj80 : (j : Int) < 40 := by omega
      have hjn : (j : Int) < (xs.length : Int) := by omega
      have hj0 : (0 : Int) ≤ (j : Int) := by omega
      by_cases hr : 0 ≤ x ∧ x ≤ 7
      · obtain ⟨r1, r2⟩ := hr
        obtain ⟨k, rfl⟩ := Int.eq_ofNat_of_zero_le r1
        obtain ⟨_, dd, rr, hd⟩ := HMV.out.inv.read hn1 r1 r2
        have HD := Lib.hid hd; clear hd
        have i1 := HMV.out.inv.le; have i2 := HMV.out.inv.rd0; have i3 := HMV.out.inv.rd; have i4 := HMV.out.inv.wr0; have i5 := HMV.out.inv.wr
        go_wp2_with fail
        refine (bRead_ok b1 k n v s _ HMV.out.c hn1 hn8 i1 HMV.out.inv.rng r2 i2 (by omega) i4 (by omega) _ dd rr HD.out).mono ?_
        rintro e w4 ⟨v4, rfl, hat4, hko4, ho4⟩
        have hmv4 := HMV.out.read hn1 r1 r2 hat4 hko4 ho4
        have HMV4 := Lib.hid hmv4
        have hc4 := (hmv4.bel.cell (p := ⟨b, off + j, none⟩) hb).trans ((HMV.out.bel.cell (p := ⟨b, off + j, none⟩) hb).symm.trans hc1)
        clear hmv4 hat4 hko4 ho4 hc1
        obtain ⟨i0, hi, hz0, hz1, hz2⟩ := info_parts info_int
        have HOWN : Hid (∀ w' : World, Keep [] w4 w' → OwnInts w' w.heap.size vR asked) := Lib.hid fun w' hk => (HMV4.out.keep0 hk).R
        go_wp2_with (at_builtin; refine wpList_append_own_at _ rfl _ _ 35 rfl w.heap.size 3 i0 (.int .i64 0) 1 8 Try.underlying35 hi hz0 hz1 hz2 rfl (by decide) _ _ _ rfl (HOWN.out _ ((Keep.refl _ _).alloc _)) ⟨w4.heap.size, 0, none⟩ 1 1 [.int .i64 (k : Int)] rfl rfl (by intro p u hp; match p, hp with | 0, hp => simp at hp; subst hp; simp [Addr.add]) (by intro u hu; simp at hu; subst hu; rfl) (by unfold maxLen; omega) (by omega) (by have := HMV4.out.bel.size; simp; omega) ?_; intro vR' w5 hown' hgrow _ hlies; have hob : OwnInts w5 w.heap.size vR' (asked ++ [(k : Int)]) := (by unfold OwnInts; simpa [ints] using hown'); have HMV5 := Lib.hid ((HMV4.out.keep0 ((Keep.refl _ w4).alloc _)).app hob hgrow hlies); clear hob hown' hgrow hlies)
        go_roundw
        case rel => exact ⟨j + 1, _, v4, vR', asked ++ [(k : Int)], hlt, by omega, by simp, by simp; omega, rfl, HMV5.out⟩
        case measure => simp [intOf]; omega
      · go_wp2_with (go_at_call 14; refine (bRead_no _ _ _ (by omega)).mono ?_; rintro e w' ⟨rfl, rfl⟩)
        go_roundw
        case rel => exact ⟨j + 1, s, v, _, asked, hlt, by omega, by simp, by omega, rfl, HMV.out⟩
        case measure => simp [intOf]; omega
    · have hx : ¬ (j : Int) < (xs.length : Int) ∨ ((j : Int) < (xs.length : Int) ∧ ¬ (j : Int) < 40) := by omega
      clear hlt
      rcases hx with hx | ⟨hx, hx2⟩
      all_goals
        have hal2 : asked.length ≤ 40 := by omega
        obtain ⟨aR, cR, rfl, hnew, _⟩ := HMV.out.R.new
        have HIN := Lib.hid hnew.ints
        have i1 := HMV.out.inv.le
        clear hnew
        go_wp2_with fail
        refine (lru_run aR asked.length cR n _ asked _ rfl HIN.out (Nat.le_refl _) (fun x hx => by have := HMV.out.rg x hx; omega) hal2 h1 h2).mono ?_
        rintro e w4 ⟨vH, vL, rfl, hlru⟩
        have hlh := lrRun_hits n asked
        have hlr := HMV.out.lr
        obtain ⟨u, hu⟩ : ∃ u, u = lrRun n asked := ⟨_, rfl⟩
        rw [← hu] at hlru hlh hlr
        have hll : u.held.length ≤ 8 := by have := hlr.held; rw [← this, List.length_map]; omega
        have HMV4 := Lib.hid (HMV.out.keep0 (Below.keep0 hlru.bel))
        have HLRU4 := Lib.hid hlru; have HLR := Lib.hid hlr
        have HLH := Lib.hid hlh
        clear hlru hlr hu hlh
        go_wp2_with fail
        refine (bMoves_any b1 n v s _ HMV4.out.c).mono ?_
        rintro e w5 ⟨rfl, q5, hw5⟩
        rw [HLR.out.rd, HLR.out.wr]
        have hk5 : Keep [] w4 w5 := by rw [hw5]; exact (Keep.refl _ _).drewN _
        have HMV5 := Lib.hid (HMV4.out.keep0 hk5); have HLRU5 := Lib.hid (HLRU4.out.keep0 hk5)
        clear hw5 hk5 HMV4 HLRU4
        go_wp2_with fail
        refine (bHeld_any b1 n v s _ HMV5.out.c (by omega)).mono ?_
        rintro e w6 ⟨vA, vB, rfl, hA, _, hb6⟩
        rw [HLR.out.held] at hA
        obtain ⟨aA, cA, rfl, hnA, _⟩ := hA.new
        have HAI := Lib.hid hnA.ints
        have HMV6 := Lib.hid (HMV5.out.keep0 (Below.keep0 hb6)); have hlru6 := HLRU5.out.keep0 (Below.keep0 hb6)
        obtain ⟨aH, cH, rfl, hbin⟩ := boolsIn hlru6.H
        obtain ⟨aL, cL, rfl, hinL, _⟩ := hlru6.L.view
        have HBI := Lib.hid hbin; have HLI := Lib.hid hinL
        clear hA hnA hb6 hlru6 hbin hinL HMV5 HLRU5
        go_wp2_with (first
          | (go_at_call 27; refine (misses_any aH _ cH _ u.hits _ rfl HBI.out (by have := HLH.out; omega)).mono ?_; rintro e w' ⟨rfl, rfl⟩)
          | (go_at_call 21; refine (ints_same aA aL _ cA cL _ _ u.held _ rfl HAI.out HLI.out (by unfold maxLen; omega)).mono ?_; rintro e w7 ⟨rfl, q7, rfl⟩))
        obtain ⟨w8, hw8⟩ : ∃ w8, w8 = w6.drewN q7 := ⟨_, rfl⟩
        have HMV8 : Hid (MV w w8 b1 b2 n s v (.slice aR asked.length cR) asked asked) := Lib.hid (by rw [hw8]; exact HMV6.out.keep0 ((Keep.refl _ _).drewN _))
        rw [← hw8]
        clear hw8 HMV6
        go_loopw [23, 24] (fun t i wr => ∃ k : Nat, k ≤ xss.length ∧ k ≤ 100 ∧ i = .int .i64 k ∧ t = .int .i64 (wrs (xss.take k)) ∧ Keep [] w8 wr) (fun _ i _ => xss.length - (intOf i).toNat)
        case atStart => exact ⟨0, Nat.zero_le _, by omega, rfl, rfl, Keep.refl _ _⟩
        case round =>
          obtain ⟨k, hk, hk8, rfl, rfl, hkk⟩ := hrel
          have HKK := Lib.hid hkk; clear hkk
          have hwb := wrs_bd (xss.take k)
          have hwl : (xss.take k).length ≤ 100 := by rw [List.length_take]; omega
          by_cases hlt : k < xss.length ∧ k < 100
          · obtain ⟨hlt, hlt8⟩ := hlt
            obtain ⟨bx, off, a', c', rfl, hbB, hcell, hrow⟩ := HX.out.at_ hlt
            have hbel2 : Below w.heap.size w wr := HMV8.out.bel.trans (HKK.out.below HMV8.out.bel.size (by simp))
            have hcell2 := (hbel2.cell (p := ⟨bx, off + k, none⟩) hbB).trans hcell
            have hst := wrs_succ (List.getElem?_eq_getElem hlt)
            obtain ⟨l, hl⟩ : ∃ l, l = xss[k] := ⟨_, rfl⟩
            obtain ⟨m, hm⟩ : ∃ m, m = l.length := ⟨_, rfl⟩
            rw [← hl, ← hm] at hcell2 hst
            have HST := Lib.hid hst
            obtain ⟨t, ht⟩ : ∃ t, t = wrs (xss.take k) := ⟨_, rfl⟩
            rw [← ht] at HST hwb ⊢
            have ht0 : 0 ≤ t ∧ t ≤ 100 := by omega
            obtain ⟨ht0, ht1⟩ := ht0
            clear hl hcell hrow hm hst ht hwb
            have hk80 : (k : Int) < 100 := by omega
            have hkn : (k : Int) < (xss.length : Int) := by omega
            have hk0 : (0 : Int) ≤ (k : Int) := by omega
            by_cases e2 : m = 2
            · subst e2
              go_wp2
              go_roundw
              case rel => exact ⟨k + 1, hlt, by omega, by simp, congrArg (Value.int .i64) (by rw [HST.out, if_pos rfl]), HKK.out⟩
              case measure => simp [intOf]; omega
            · have e2' : ((m : Int) == 2) = false := beq_eq_false_iff_ne.2 (by omega)
              go_wp2
              go_roundw
              case rel => exact ⟨k + 1, hlt, by omega, by simp, congrArg (Value.int .i64) (by rw [HST.out, if_neg e2]; omega), HKK.out⟩
              case measure => simp [intOf]; omega
          · have hx3 : ¬ (k : Int) < (xss.length : Int) ∨ ((k : Int) < (xss.length : Int) ∧ ¬ (k : Int) < 100) := by omega
            have HEND : Hid (wrs (xss.take k) = wrs (xss.take 100)) := Lib.hid (by
              by_cases e : k = 100
              · rw [e]
              · rw [List.take_of_length_le (by omega), List.take_of_length_le (by omega)])
            obtain ⟨t, ht⟩ : ∃ t, t = wrs (xss.take k) := ⟨_, rfl⟩
            rw [← ht] at HEND hwb ⊢
            clear hlt ht
            rcases hx3 with hx3 | ⟨hx3, hx4⟩
            all_goals
              have HMV9 := Lib.hid (HMV8.out.keep0 HKK.out)
              go_wp2_with fail
              refine (used_any b2 n w.heap.size _ bs0 a2 c2 xss _ HMV9.out.d hn1 hn8 (bs0_inv n) (HX.out.below HMV9.out.bel) HN.out HMV9.out.hb2 (by simp [Value.ownBlock])).mono ?_
              rintro e w10 ⟨us, v10, rfl, hus, hinv⟩
              have hii : BInv n us.s us.last 100 (wrs (xss.take 100)) := hinv
              have hbl := HMV9.out.d.top.lt
              have hsz := HMV9.out.bel.size
              have HB10 : Hid (Below w.heap.size w w10) := Lib.hid (HMV9.out.bel.trans (hus.below hsz HMV9.out.hb2 (by simp [Value.ownBlock])))
              have j1 := hii.le; have j2 := hii.wr0; have j3 := hii.wr
              rw [← HEND.out] at j3
              have hfw := hii.flush.1.wr
              rw [← HEND.out] at hfw
              have hfle : (flushB us.s).writes ≤ t := by omega
              have HRNG := Lib.hid hii.rng; have HUS := Lib.hid hus
              clear hus hinv hii hfw
              go_wp2_with fail
              refine (bFlush_any _ n v10 us.s _ HUS.out.1 (by omega) HRNG.out j2 (by omega)).mono ?_
              rintro e w11 ⟨rfl, hb11, hk11⟩
              have HBAT11 := Lib.hid hb11
              have HB11 : Hid (Below w.heap.size w w11) := Lib.hid (HUS.out.belowFrom2 HB10.out hsz HMV9.out.hb2 hk11 (OwnNew.refl _ _) (Nat.le_refl _))
              clear hb11 hk11
              go_wp2_with fail
              refine (bMoves_any b2 n v10 (flushB us.s) _ HBAT11.out).mono ?_
              rintro e w12 ⟨rfl, q12, rfl⟩
              go_wp2
              go_ret
              exact ⟨rfl, HB11.out.trans (((Keep.refl [] _).drewN q12).below HB11.out.size (by simp))⟩

theorem backMoves_walk (x0 : Int) (a1 : Option Addr) (c1 : Nat) (l1 : List Int) (a2 : Option Addr) (c2 : Nat) (l2 : List (List Int)) (w : World) (_ : I64 x0) (h1 : IntsIn w w.heap.size a1 l1) (_ : ∀ y ∈ l1, I64 y) (m1 : Reached l1) (h2 : RowsIn w w.heap.size a2 l2) (_ : ∀ r ∈ l2, r.length ≤ maxLen ∧ ∀ y ∈ r, I64 y) (m2 : l2.length ≤ maxLen) :
    Calls Try.prog 8 #[.int .i64 x0, .slice a1 l1.length c1, .slice a2 l2.length c2] w fun e w' => e = .returned (.bool true) ∧ Below w.heap.size w w' := by
  by_cases h : 1 ≤ x0 ∧ x0 ≤ 8
  · obtain ⟨h3, h4⟩ := h
    obtain ⟨d, rfl⟩ := Int.eq_ofNat_of_zero_le (show 0 ≤ x0 by omega)
    exact backMoves_yes d h3 h4 a1 c1 l1 a2 c2 l2 w h1 (by unfold Reached reachBytes at m1; unfold maxLen; omega) h2 m2
  · exact backMoves_no x0 a1 _ c1 a2 _ c2 w (by omega)
end Go.Proofs.Ytgbccaplckiilaa
