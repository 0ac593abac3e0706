/-
  back's 'used', by its contract.
-/
import Derived.Test.YtgbccaplckiilaaBackHeld
import Derived.Test.YtgbccaplckiilaaBackOps
import Derived.Test.YtgbccaplckiilaaIn
import Derived.Deep.RegionWith
namespace Go.Proofs.Ytgbccaplckiilaa
open Go.RowKit

structure Us where
  s : BSt
  last : List Int
def stepB (slots : Nat) (u : Us) (l : List Int) : Us :=
  match l with
  | [k] => if 0 ≤ k ∧ k ≤ 7 then ⟨useB slots u.s k true, u.last⟩ else u
  | [k, x] => if 0 ≤ k ∧ k ≤ 7 ∧ 0 ≤ x ∧ x ≤ 1000 then ⟨putB (useB slots u.s k false) x, u.last.set k.toNat x⟩ else u
  | [_, _, _] => ⟨flushB u.s, u.last⟩
  | _ => u
def wrs (L : List (List Int)) : Int := (L.countP (fun l => l.length == 2) : Nat)
theorem wrs_bd (L : List (List Int)) : 0 ≤ wrs L ∧ wrs L ≤ L.length := by
  unfold wrs
  have := List.countP_le_length (p := fun l : List Int => l.length == 2) (l := L)
  omega
theorem wrs_succ {L : List (List Int)} {j : Nat} {l : List Int} (h : L[j]? = some l) : wrs (L.take (j + 1)) = wrs (L.take j) + (if l.length = 2 then 1 else 0) := by
  unfold wrs
  rw [List.take_add_one, h, List.countP_append]
  simp only [Option.toList, List.countP_singleton, beq_iff_eq]
  split <;> simp

def UInv (slots : Nat) (u : Us) (nr nw : Int) : Prop := BInv slots u.s u.last nr nw
theorem stepB_inv {slots : Nat} {u : Us} {nr nw : Int} (h : UInv slots u nr nw) (h1 : 1 ≤ slots) (l : List Int) : UInv slots (stepB slots u l) (nr + 1) (nw + (if l.length = 2 then 1 else 0)) := by
  match l with
  | [k] =>
    simp only [stepB]
    split
    · rename_i hk
      exact (h.read h1 hk.1 hk.2).1.mono (by omega) (by simp)
    · exact h.mono (by omega) (by simp)
  | [k, x] =>
    simp only [stepB]
    split
    · rename_i hk
      exact (h.write h1 x hk.1 hk.2.1).mono (by omega) (by simp)
    · exact h.mono (by omega) (by simp; omega)
  | [_, _, _] => exact h.flush.1.mono (by omega) (by simp)
  | [] => exact h.mono (by omega) (by simp)
  | _ :: _ :: _ :: _ :: _ => exact h.mono (by omega) (by simp)

def UsAt (w : World) (b : Nat) (v0 : Value) (slots : Nat) (u : Us) (wr : World) (v : Value) (q : Nat) : Prop :=
  BAt wr b v slots u.s ∧ KeepO b v0 w wr ∧ OwnNew w v0 v ∧ w.heap.size ≤ q ∧ v.ownBlock ≠ some q ∧ Blk wr q 3 (ints u.last)
theorem UsAt.step {w wr w' : World} {b : Nat} {v0 v v' : Value} {slots q : Nat} {u : Us} {s' : BSt} (h : UsAt w b v0 slots u wr v q) (hb : b < w.heap.size) (h1 : BAt w' b v' slots s') (h2 : KeepO b v wr w') (h3 : OwnNew wr v v') : UsAt w b v0 slots ⟨s', u.last⟩ w' v' q := by
  obtain ⟨a1, a2, a3, a4, a5, a6⟩ := h
  refine ⟨h1, a2.trans a3 h2, a3.trans h3 a2.size, a4, fun e => ?_, h2.blk a6 (by omega) a5⟩
  rcases h3 q e with e | e
  · exact a5 e
  · have := a6.lt; omega
theorem UsAt.drewN {w wr : World} {b : Nat} {v0 v : Value} {slots q : Nat} {u : Us} (h : UsAt w b v0 slots u wr v q) (n : Nat) : UsAt w b v0 slots u (wr.drewN n) v q := by
  obtain ⟨a1, a2, a3, a4, a5, a6⟩ := h
  obtain ⟨F, hF, hx⟩ := a2
  exact ⟨⟨a1.top.drewN n, a1.dl, a1.fr.keepF (F := []) ((Keep.refl _ _).drewN n) (by simp)⟩, ⟨F, hF.drewN n, hx⟩, a3, a4, a5, a6.drewN n⟩
theorem UsAt.put {w wr : World} {b : Nat} {v0 v : Value} {slots q : Nat} {u : Us} (h : UsAt w b v0 slots u wr v q) (hb : b < w.heap.size) (i : Nat) (x : Int) (n : Nat) : UsAt w b v0 slots ⟨u.s, u.last.set i x⟩ ((wr.drewN n).setCell ⟨q, i, none⟩ (.int .i64 x)) v q := by
  obtain ⟨a1, a2, a3, a4, a5, a6⟩ := h
  refine ⟨⟨(a1.top.drewN n).far (p := ⟨q, i, none⟩) (by show b ≠ q; omega) _, a1.dl, (a1.fr.keepF (F := [q]) ((((Keep.refl _ wr).drewN n)).set (fun _ => by simp) _) (fun x hx e => by simp at hx; subst hx; exact a5 e.symm))⟩, ?_, a3, a4, a5, ?_⟩
  · obtain ⟨F, hF, hx⟩ := a2
    exact ⟨F, (hF.drewN n).set (fun hl => by exfalso; have : q < w.heap.size := hl; omega) _, hx⟩
  · have := (a6.drewN n).set i (.int .i64 x)
    rwa [ints_set] at this
theorem KeepO.drew1 {b : Nat} {v : Value} {w w' : World} (h : KeepO b v w.drew w') : KeepO b v w w' := by
  obtain ⟨F, hF, hx⟩ := h
  exact ⟨F, ((Keep.refl F w).drew).trans hF, hx⟩
def UsRel (w : World) (b : Nat) (v0 : Value) (slots : Nat) (xss : List (List Int)) (i : Value) (wr : World) : Prop :=
  ∃ (j : Nat) (u : Us) (v : Value), j ≤ xss.length ∧ j ≤ 100 ∧ i = .int .i64 j ∧ UsAt w b v0 slots u wr v w.heap.size ∧ UInv slots u j (wrs (xss.take j))
def UsPost (w : World) (b : Nat) (v0 : Value) (slots : Nat) (xss : List (List Int)) (e : Ending) (w' : World) : Prop :=
  ∃ (u : Us) (v : Value), e = .returned (.slice (some ⟨w.heap.size, 0, none⟩) 8 8) ∧ UsAt w b v0 slots u w' v w.heap.size ∧ UInv slots u 100 (wrs (xss.take 100))
theorem usRel_step {w w' : World} {b slots j : Nat} {v0 v' : Value} {u u' : Us} {xss : List (List Int)} {l : List Int} {i : Value} (h1 : 1 ≤ slots) (hl : xss[j]? = some l) (hj : j < 100) (hi : UInv slots u j (wrs (xss.take j))) (he : stepB slots u l = u')
    (ha : UsAt w b v0 slots u' w' v' w.heap.size) (hv : i = .int .i64 ((j + 1 : Nat) : Int)) : UsRel w b v0 slots xss i w' := by
  have hjl := (List.getElem?_eq_some_iff.1 hl).1
  refine ⟨j + 1, u', v', hjl, hj, hv, ha, ?_⟩
  rw [wrs_succ hl, ← he]
  have := stepB_inv hi h1 l
  rwa [show ((j + 1 : Nat) : Int) = (j : Int) + 1 by omega]

theorem bRead_some (b slots : Nat) (u : Us) (k : Int) (v : Value) (nr nw : Int) (w : World) (h : BAt w b v slots u.s) (hi : UInv slots u nr nw) (h1 : 1 ≤ slots) (h8 : slots ≤ 8) (hr : nr ≤ 1000) (hw : nw ≤ 1000) :
    Calls Try.prog 14 #[.pointer (some ⟨b, 0, none⟩), .int .i64 k] w fun e w' => ∃ x v', e = .returned x ∧ BAt w' b v' slots (stepB slots u [k]).s ∧ KeepO b v w w' ∧ OwnNew w v v' := by
  by_cases hk : 0 ≤ k ∧ k ≤ 7
  · obtain ⟨q, rfl⟩ := Int.eq_ofNat_of_zero_le hk.1
    have hii : BInv slots u.s u.last nr nw := hi
    obtain ⟨_, d, r, hd⟩ := hii.read h1 hk.1 hk.2
    refine (bRead_ok b q slots v u.s w h h1 h8 hii.le hii.rng hk.2 hii.rd0 (by have := hii.rd; omega) hii.wr0 (by have := hii.wr; omega) _ d r hd).mono ?_
    rintro e w' ⟨v', rfl, hb, hko, ho⟩
    exact ⟨_, v', rfl, by simp only [stepB]; rw [if_pos hk]; exact hb, hko, ho⟩
  · refine (bRead_no b k w (by omega)).mono ?_
    rintro e w' ⟨rfl, rfl⟩
    exact ⟨_, v, rfl, by simp only [stepB]; rw [if_neg hk]; exact h, KeepO.refl _ _ _, OwnNew.refl _ _⟩
theorem step1_last (slots : Nat) (u : Us) (k : Int) : stepB slots u [k] = ⟨(stepB slots u [k]).s, u.last⟩ := by
  simp only [stepB]; split <;> rfl

set_option maxHeartbeats 4000000 in
set_option maxRecDepth 100000 in
theorem used_any (b slots B : Nat) (v0 : Value) (s : BSt) (a : Option Addr) (c : Nat) (xss : List (List Int)) (w : World) (h : BAt w b v0 slots s) (h1 : 1 ≤ slots) (h8 : slots ≤ 8) (hi : BInv slots s (List.replicate 8 0) 0 0)
    (hx : RowsIn w B a xss) (hn : xss.length ≤ maxLen) (hB : B ≤ b) (hv : ∀ g, v0.ownBlock = some g → B ≤ g) :
    Calls Try.prog 19 #[.pointer (some ⟨b, 0, none⟩), .slice a xss.length c] w (UsPost w b v0 slots xss) := by
  have hbl := h.top.lt
  have hmk : ∀ wx : World, Sem.run Try.prog (Instr.makeSlice 35 (.int .i64 8) (.int .i64 8)) wx = .ok (.slice (some ⟨wx.heap.size, 0, none⟩) 8 8) (wx.alloc (.cells (ints (List.replicate 8 0)).toArray 3)) := fun wx => run_make_blk (P := Try.prog) 35 3 (.int .i64 0) 8 Try.underlying35 info_int rfl 8 (by omega) (by omega) wx
  have hat : UsAt w b v0 slots ⟨s, List.replicate 8 0⟩ (w.alloc (.cells (ints (List.replicate 8 0)).toArray 3)) v0 w.heap.size :=
    ⟨⟨h.top.alloc _, h.dl, h.fr.keepF (F := []) ((Keep.refl _ _).alloc _) (by simp)⟩, ⟨[], (Keep.refl _ _).alloc _, by simp⟩, OwnNew.refl _ _, Nat.le_refl _, fun e => by have := (h.fr.lt _ e).2; omega, Blk.new _ _ _⟩
  have HAT := Lib.hid hat; have HI := Lib.hid hi; have HX := Lib.hid hx; have HN := Lib.hid hn; have HV := Lib.hid hv
  clear hat hi hx hn hv h
  go_enter Try.func19, Try.ntmps19
  go_wp2
  go_loopw [6] (fun i wr => UsRel w b v0 slots xss i wr) (fun i _ => xss.length - (intOf i).toNat)
  case atStart => exact ⟨0, _, v0, Nat.zero_le _, by omega, rfl, HAT.out, by simpa [wrs, UInv] using HI.out⟩
  case round =>
    obtain ⟨j, u, v, hj, hj100, rfl, hat, hinv⟩ := hrel
    have HAT2 := Lib.hid hat; have HINV := Lib.hid hinv; clear hat hinv
    by_cases hlt : j < xss.length ∧ j < 100
    · obtain ⟨hlt, hlt100⟩ := hlt
      obtain ⟨bx, off, a', c', rfl, hbB, hcell, hrow⟩ := HX.out.at_ hlt
      have hbel : Below B w wr := HAT2.out.2.1.old (by omega) hB HV.out
      have hcell2 := (hbel.cell (p := ⟨bx, off + j, none⟩) hbB).trans hcell
      obtain ⟨l, hl⟩ : ∃ l, l = xss[j] := ⟨_, rfl⟩
      have HL : Hid (xss[j]? = some l) := Lib.hid (by rw [hl]; exact List.getElem?_eq_getElem hlt)
      have HR : Hid (IntsIn wr B a' l) := Lib.hid (by rw [hl]; exact hrow.below hbel)
      obtain ⟨m, hm⟩ : ∃ m, m = l.length := ⟨_, rfl⟩
      rw [← hl, ← hm] at hcell2
      have HM := Lib.hid hm
      clear hl hcell hrow hm
      have hj80 : (j : Int) < 100 := by omega
      have hjn : (j : Int) < (xss.length : Int) := by omega
      have hj0 : (0 : Int) ≤ (j : Int) := by omega
      have HW := Lib.hid (wrs_bd (xss.take j))
      have hnr : ((j : Nat) : Int) ≤ 1000 := by omega
      have hnw : wrs (xss.take j) ≤ 1000 := by have := HW.out.2; simp at this; omega
      have HOLD : Hid (∀ w' : World, KeepO b v wr w' → Below B wr w') := Lib.hid fun w' hk => hk.old (by have := HAT2.out.2.1.size; omega) hB (fun g hg => by rcases HAT2.out.2.2.1 g hg with e | e; exact HV.out g e; omega)
      by_cases m1 : m = 1
      · subst m1
        obtain ⟨k, rfl⟩ : ∃ k, l = [k] := by
          match l, HM.out with
          | [k], _ => exact ⟨k, rfl⟩
        obtain ⟨b3, off3, rfl, hb3, hc3⟩ := HR.out (by simp)
        have hk0 : wr.cell? ⟨b3, off3, none⟩ = some (.int .i64 k) := hc3 0 k rfl
        clear hc3
        go_wp2_with fail
        refine (bRead_some b slots u k v j (wrs (xss.take j)) _ HAT2.out.1 HINV.out h1 h8 hnr hnw).mono ?_
        rintro e w1 ⟨x, v', rfl, hb1, hk1, ho1⟩
        have HST := Lib.hid (HAT2.out.step hbl hb1 hk1 ho1)
        clear hb1 hk1 ho1 hk0 hcell2 hbel
        go_wp2
        go_roundw
        case rel => exact usRel_step h1 HL.out hlt100 HINV.out (step1_last slots u k) HST.out (by simp)
        case measure => simp [intOf]; omega
      by_cases m2 : m = 2
      · subst m2
        obtain ⟨k, x, rfl⟩ : ∃ k x, l = [k, x] := by
          match l, HM.out with
          | [k, x], _ => exact ⟨k, x, rfl⟩
        obtain ⟨b3, off3, rfl, hb3, hc3⟩ := HR.out (by simp)
        have hk0 : wr.cell? ⟨b3, off3, none⟩ = some (.int .i64 k) := hc3 0 k rfl
        have hkx : wr.cell? ⟨b3, off3 + 1, none⟩ = some (.int .i64 x) := hc3 1 x rfl
        clear hc3
        by_cases hr : 0 ≤ k ∧ k ≤ 7 ∧ 0 ≤ x ∧ x ≤ 1000
        · obtain ⟨r1, r2, r3, r4⟩ := hr
          obtain ⟨kk, rfl⟩ := Int.eq_ofNat_of_zero_le r1
          have hii : BInv slots u.s u.last j (wrs (xss.take j)) := HINV.out
          have hle := hii.le; have hwr0 := hii.wr0; have hwr := hii.wr; have hrd0 := hii.rd0; have hrd := hii.rd
          have HII := Lib.hid hii
          clear hii
          go_wp2
          go_region_with (first
            | (go_at_call 15; refine (bWrite_ok b kk slots x v u.s _ (HAT2.out.drewN 1).1 h1 h8 hle HII.out.rng r2 r3 r4 hrd0 (by omega) hwr0 (by omega)).mono ?_; rintro e w1 ⟨v', rfl, hb1, hk1, ho1⟩; have hc1 : w1.cell? ⟨b3, off3, none⟩ = some (.int .i64 kk) := ((HOLD.out w1 (KeepO.drew1 hk1)).cell (p := ⟨b3, off3, none⟩) hb3).trans hk0)
            | (go_at_call 18; refine (in_yes _ _ _ _ r1 r2).mono ?_; rintro e w1 ⟨rfl, rfl⟩)
            | fail)
          all_goals
            have hst := (HAT2.out.drewN 1).step hbl hb1 hk1 ho1
            have hc2 : w1.cell? ⟨b3, off3 + 1, none⟩ = some (.int .i64 x) := ((HOLD.out w1 (KeepO.drew1 hk1)).cell (p := ⟨b3, off3 + 1, none⟩) hb3).trans hkx
            have hll := HII.out.ll
            have hkl : kk < u.last.length := by omega
            have hq := hst.2.2.2.2.2.cell_ (ints_get (List.getElem?_eq_getElem hkl))
            have hf := hst.2.2.2.2.2.free kk
            have HST := Lib.hid hst
            have HSTEP : Hid (stepB slots u [(kk : Int), x] = ⟨putB (useB slots u.s kk false) x, u.last.set kk x⟩) := Lib.hid (by simp only [stepB]; rw [if_pos ⟨r1, r2, r3, r4⟩, Int.toNat_natCast])
            have hk8 : (kk : Int) < 8 := by omega
            clear hst hb1 hk1 ho1 hcell2 hbel hk0 hkx
            go_wp2
            go_still_tail 8, (by kernel_rfl)
            go_wp2
            go_roundw
            case rel => exact usRel_step h1 HL.out hlt100 HINV.out HSTEP.out (HST.out.put hbl kk x 1) (by simp)
            case measure => simp [intOf]; omega
        · have HSTEP : Hid (stepB slots u [k, x] = u) := Lib.hid (by simp only [stepB]; rw [if_neg hr])
          go_wp2
          go_quiet ((go_at_call 15; exact quiet_eq (bWrite_no b k x _ hr)))
          go_wp2
          go_roundw
          case rel => exact usRel_step h1 HL.out hlt100 HINV.out HSTEP.out (HAT2.out.drewN nq) (by simp)
          case measure => simp [intOf]; omega
      by_cases m3 : m = 3
      · subst m3
        obtain ⟨k, x, y, rfl⟩ : ∃ k x y, l = [k, x, y] := by
          match l, HM.out with
          | [k, x, y], _ => exact ⟨k, x, y, rfl⟩
        have hii : BInv slots u.s u.last j (wrs (xss.take j)) := HINV.out
        have hle := hii.le; have hwr0 := hii.wr0; have hwr := hii.wr
        have HII := Lib.hid hii
        clear hii
        go_wp2_with fail
        refine (bFlush_any b slots v u.s _ HAT2.out.1 (by omega) HII.out.rng hwr0 (by omega)).mono ?_
        rintro e w1 ⟨rfl, hb1, hk1⟩
        have HST := Lib.hid (HAT2.out.step hbl hb1 hk1 (OwnNew.refl _ _))
        clear hb1 hk1 hcell2 hbel
        go_wp2
        go_roundw
        case rel => exact usRel_step h1 HL.out hlt100 HINV.out rfl HST.out (by simp)
        case measure => simp [intOf]; omega
      · have g1 : ((m : Int) == 1) = false := beq_eq_false_iff_ne.2 (by omega)
        have g2 : ((m : Int) == 2) = false := beq_eq_false_iff_ne.2 (by omega)
        have g3 : ((m : Int) == 3) = false := beq_eq_false_iff_ne.2 (by omega)
        have HST : Hid (stepB slots u l = u) := Lib.hid (by
          unfold stepB
          have := HM.out
          split
          · simp at this; omega
          · simp at this; omega
          · simp at this; omega
          · rfl)
        go_wp2
        go_roundw
        case rel => exact usRel_step h1 HL.out hlt100 HINV.out HST.out HAT2.out (by simp)
        case measure => simp [intOf]; omega
    · have hx : ¬ (j : Int) < (xss.length : Int) ∨ ((j : Int) < (xss.length : Int) ∧ ¬ (j : Int) < 100) := by omega
      have HEND : Hid (UInv slots u 100 (wrs (xss.take 100))) := Lib.hid (by
        have e : xss.take j = xss.take 100 := by
          by_cases e : j = 100
          · rw [e]
          · rw [List.take_of_length_le (by omega), List.take_of_length_le (by omega)]
        have := HINV.out
        rw [e] at this
        exact BInv.mono this (by omega) (by omega))
      clear hlt
      rcases hx with hx | ⟨hx, hx2⟩
      all_goals
        go_wp2
        go_ret
        exact ⟨u, v, rfl, HAT2.out, HEND.out⟩
end Go.Proofs.Ytgbccaplckiilaa
