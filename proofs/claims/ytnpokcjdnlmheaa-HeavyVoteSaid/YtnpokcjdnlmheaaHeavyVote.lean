/-
  heavy.Vote, by its contracts; HeavyVote: the walk.
-/
import Derived.Test.YtnpokcjdnlmheaaHeavyKeepWalk
namespace Go.Proofs.Ytnpokcjdnlmheaa
open Go.RowKit

theorem vote_bad (a : Option Addr) (n c B : Nat) (l : List Int) (w : World) (hl : l.length = n) (h : IntsIn w B a l) (hk : 40 < n ∨ (n ≤ 40 ∧ allB l 0 1000000 = false)) :
    Calls Try.prog 32 #[.slice a n c] w fun e w' => ∃ k, e = .returned (.tuple #[.int .i64 0, .bool false, errv k]) ∧ w = w' := by
  have H := Lib.hid h; have HL := Lib.hid hl; clear h hl
  have hk2 : 40 < n ∨ (n ≤ 40 ∧ (allB l 0 1000000 = false ∨ (1 : Int) < 1 ∨ (8 : Int) < 1)) := by
    rcases hk with h | ⟨h1, h2⟩
    · exact .inl h
    · exact .inr ⟨h1, .inl h2⟩
  have HK := Lib.hid hk2; clear hk hk2
  go_enter Try.func32, Try.ntmps32
  go_wp2_with fail
  refine (keep_bad a n c B l 1 _ HL.out H.out HK.out).mono ?_
  rintro e w' ⟨er, rfl, rfl⟩
  go_wp2
  go_ret3
  exact ⟨er, rfl, rfl⟩

def VotePost (w : World) (n : Nat) (l : List Int) (e : Ending) (w' : World) : Prop :=
  Below w.heap.size w w' ∧ ((∃ D, MG 1 l [] D ∧ e = .returned (.tuple #[.int .i64 0, .bool false, .nilIface])) ∨
    (∃ (y : Int × Int) (D : Int), MG 1 l [y] D ∧ e = .returned (.tuple #[.int .i64 y.1, .bool (decide ((n : Int) < 2 * times l y.1)), .nilIface])))
def VoteRel (w2 : World) (n : Nat) (l : List Int) (y : Int) (many i : Value) (wr : World) : Prop :=
  ∃ k : Nat, k ≤ n ∧ i = .int .i64 k ∧ many = .int .i64 (times (l.take k) y) ∧ w2 = wr

set_option maxHeartbeats 2000000 in
set_option maxRecDepth 100000 in
theorem vote_ok (a : Option Addr) (n c : Nat) (l : List Int) (w : World) (hl : l.length = n) (h : IntsIn w w.heap.size a l) (hn : n ≤ 40) (ha : allB l 0 1000000 = true) :
    Calls Try.prog 32 #[.slice a n c] w (VotePost w n l) := by
  have H := Lib.hid h; have HL := Lib.hid hl; have HA := Lib.hid ha; clear h hl ha
  have hn2 : (n : Int) ≤ 40 := by omega
  go_enter Try.func32, Try.ntmps32
  go_wp2_with fail
  refine (keep_ok a n c 1 l _ HL.out H.out hn HA.out (by decide) (by decide)).mono ?_
  rintro e w2 ⟨v, L, D, rfl, hmg, hkat, hb⟩
  have hlen := hmg.len
  match L, hlen, hmg, hkat with
  | [], _, hmg, hkat =>
    obtain ⟨av, g, cap, rfl, _, _⟩ := hkat.shape
    have HMG := Lib.hid hmg; have HB := Lib.hid hb; clear hmg hb hkat hlen
    go_wp2
    go_ret3
    exact ⟨HB.out, .inl ⟨D, HMG.out, rfl⟩⟩
  | [y], _, hmg, hkat =>
    obtain ⟨g, cap, rest, rfl, _, _, _, hblk, _⟩ := hkat.front (by simp)
    obtain ⟨hc0, _⟩ := blk_kin hblk 0 y rfl
    have HMG := Lib.hid hmg; have HB := Lib.hid hb
    have HIN : Hid (IntsIn w2 w.heap.size a l) := Lib.hid (H.out.below hb)
    clear hmg hb hkat hblk hlen
    go_wp2
    go_loopw [7, 9, 25] (fun many _ i wr => VoteRel w2 n l y.1 many i wr) (fun _ _ i _ => n - (intOf i).toNat)
    case atStart => exact ⟨0, by omega, rfl, rfl, rfl⟩
    case round =>
      obtain ⟨k, hk, rfl, rfl, rfl⟩ := hrel
      have hb := times_le (l.take k) y.1
      have hb0 := times_nonneg (l.take k) y.1
      have hb2 : times (l.take k) y.1 ≤ k := by rw [List.length_take] at hb; omega
      clear hb
      by_cases hlt : k < n
      · have hkl : k < l.length := by rw [HL.out]; exact hlt
        obtain ⟨b, off, rfl, hbB, hc⟩ := HIN.out.at_ hkl
        have HS := Lib.hid (times_take y.1 hkl)
        obtain ⟨x, hx⟩ : ∃ x, x = l[k] := ⟨_, rfl⟩
        obtain ⟨t, ht⟩ : ∃ t, t = times (l.take k) y.1 := ⟨_, rfl⟩
        rw [← hx, ← ht] at HS
        rw [← hx] at hc
        rw [← ht] at hb0 hb2 ⊢
        clear hx ht
        have hki : (k : Int) < (n : Int) := by omega
        have hk0 : (0 : Int) ≤ (k : Int) := by omega
        by_cases e : x = y.1
        · go_wp2
          go_roundw
          case rel => exact ⟨k + 1, hlt, by simp, congrArg (Value.int .i64) (by rw [HS.out, if_pos e]), by trivial⟩
          case measure => simp [intOf]; omega
        · go_wp2
          go_roundw
          case rel => exact ⟨k + 1, hlt, by simp, congrArg (Value.int .i64) (by rw [HS.out, if_neg e]; omega), by trivial⟩
          case measure => simp [intOf]; omega
      · obtain rfl : k = n := by omega
        have e : l.take k = l := List.take_of_length_le (by rw [HL.out]; exact Nat.le_refl _)
        rw [e] at hb0 hb2 ⊢
        obtain ⟨t, ht⟩ : ∃ t, t = times l y.1 := ⟨_, rfl⟩
        rw [← ht] at hb0 hb2 ⊢
        have HT := Lib.hid ht
        clear e ht
        have hw64 : wrap64 (2 * t) = 2 * t := by unfold wrap64; omega
        have hw : IntKind.i64.wrap (2 * t) = 2 * t := IntWalk.i64_in _ (by omega)
        go_wp2
        go_ret3
        exact ⟨HB.out, .inr ⟨y, D, HMG.out, by rw [← HT.out]; rfl⟩⟩
  | _ :: _ :: _, hlen, _, _ => simp at hlen

theorem vote_law {P : List Int} {L : List (Int × Int)} {D : Int} {ask : Int} (h : MG 1 P L D) (hm : (P.length : Int) < 2 * times P ask) : ∃ x ∈ L, x.1 = ask := by
  have hc := h.miss ask
  have hs := h.sum
  by_cases e : ∃ x ∈ L, x.1 = ask
  · exact e
  · exfalso
    have := h.out ask (fun x hx he => e ⟨x, hx, he⟩)
    have hnn := (sumC_take_le L L.length (fun x hx => by have := h.low x hx; omega)).1
    rw [List.take_of_length_le (Nat.le_refl _)] at hnn
    omega

set_option maxHeartbeats 2000000 in
set_option maxRecDepth 100000 in
theorem heavyVote_walk (a0 : Option Addr) (c0 : Nat) (l0 : List Int) (x1 : Int) (w : World) (h0 : IntsIn w w.heap.size a0 l0) (_ : ∀ y ∈ l0, I64 y) (_ : Reached l0) (_ : I64 x1) :
    Calls Try.prog 11 #[.slice a0 l0.length c0, .int .i64 x1] w fun e w' => e = .returned (.bool true) ∧ Below w.heap.size w w' := by
  have H0 := Lib.hid h0; clear h0
  obtain ⟨n, hn⟩ : ∃ n, n = l0.length := ⟨_, rfl⟩
  rw [← hn]
  have HN := Lib.hid hn.symm; clear hn
  by_cases hok : n ≤ 40 ∧ allB l0 0 1000000 = true
  · obtain ⟨hn4, hall⟩ := hok
    have HALL := Lib.hid hall; clear hall
    have hn4i : (n : Int) ≤ 40 := by omega
    obtain ⟨t, ht⟩ : ∃ t, times l0 x1 = t := ⟨_, rfl⟩
    have ht0 : 0 ≤ t := by rw [← ht]; exact times_nonneg _ _
    have ht4 : t ≤ 40 := by rw [← ht]; have := times_le l0 x1; have := HN.out; omega
    have HT := Lib.hid ht
    clear ht
    have hw64 : wrap64 (2 * t) = 2 * t := by unfold wrap64; omega
    have hw : IntKind.i64.wrap (2 * t) = 2 * t := IntWalk.i64_in _ (by omega)
    go_enter Try.func11, Try.ntmps11
    go_wp2_with fail
    refine (heavyFact_any _).mono ?_
    rintro e wf ⟨rfl, hbf⟩
    have hsf := hbf.size
    have HBF := Lib.hid hbf; clear hbf
    go_wp2_with fail
    refine (vote_ok a0 n c0 l0 _ HN.out ((H0.out.below HBF.out).more hsf) hn4 HALL.out).mono ?_
    rintro e w2 ⟨hb, ⟨D, hmg, rfl⟩ | ⟨y, D, hmg, rfl⟩⟩
    · have HB2 := Lib.hid (HBF.out.trans (hb.mono hsf))
      have HIN2 : Hid (IntsIn w2 w.heap.size a0 l0) := Lib.hid (H0.out.below HB2.out)
      have hnm : ¬ (n : Int) < 2 * t := fun hlt => by
        obtain ⟨x, hx, _⟩ := vote_law (ask := x1) hmg (by rw [HT.out, HN.out]; exact hlt)
        simp at hx
      clear hmg hb
      go_wp2_with fail
      refine (times_is a0 n c0 w.heap.size l0 x1 t _ HT.out HN.out HIN2.out (by omega)).mono ?_
      rintro e w5 ⟨rfl, rfl⟩
      go_wp2
      go_ret
      exact ⟨by simp, HB2.out⟩
    · have HB2 := Lib.hid (HBF.out.trans (hb.mono hsf))
      have HIN2 : Hid (IntsIn w2 w.heap.size a0 l0) := Lib.hid (H0.out.below HB2.out)
      obtain ⟨s, hs⟩ : ∃ s, times l0 y.1 = s := ⟨_, rfl⟩
      rw [hs]
      have hs0 : 0 ≤ s := by rw [← hs]; exact times_nonneg _ _
      have hs4 : s ≤ 40 := by rw [← hs]; have := times_le l0 y.1; have := HN.out; omega
      have HSM := Lib.hid hs
      have hv64 : wrap64 (2 * s) = 2 * s := by unfold wrap64; omega
      have hv : IntKind.i64.wrap (2 * s) = 2 * s := IntWalk.i64_in _ (by omega)
      by_cases hm : (n : Int) < 2 * t
      · have hxy : y.1 = x1 := by
          obtain ⟨x, hx, e⟩ := vote_law (ask := x1) hmg (by rw [HT.out, HN.out]; exact hm)
          simp at hx; rw [← hx]; exact e
        have hst : s = t := by rw [← hs, hxy, HT.out]
        have hms : (n : Int) < 2 * s := by rw [hst]; exact hm
        have hd : decide ((n : Int) < 2 * s) = true := by simpa using hms
        rw [hd]
        clear hmg hb hst hs hms hs0 hs4 hv64 hv HSM hd
        go_wp2_with fail
        refine (times_is a0 n c0 w.heap.size l0 x1 t _ HT.out HN.out HIN2.out (by omega)).mono ?_
        rintro e w5 ⟨rfl, rfl⟩
        go_wp2_with fail
        refine (times_is a0 n c0 w.heap.size l0 x1 t _ HT.out HN.out HIN2.out (by omega)).mono ?_
        rintro e w5 ⟨rfl, rfl⟩
        go_wp2
        go_ret
        exact ⟨by simp, HB2.out⟩
      · clear hmg hb hs
        by_cases hms : (n : Int) < 2 * s
        · have hd : decide ((n : Int) < 2 * s) = true := by simpa using hms
          rw [hd]
          go_wp2_with fail
          refine (times_is a0 n c0 w.heap.size l0 x1 t _ HT.out HN.out HIN2.out (by omega)).mono ?_
          rintro e w5 ⟨rfl, rfl⟩
          go_wp2_with fail
          refine (times_is a0 n c0 w.heap.size l0 y.1 s _ HSM.out HN.out HIN2.out (by omega)).mono ?_
          rintro e w5 ⟨rfl, rfl⟩
          go_wp2
          go_ret
          exact ⟨by simp, HB2.out⟩
        · have hd : decide ((n : Int) < 2 * s) = false := by simpa using hms
          rw [hd]
          go_wp2_with fail
          refine (times_is a0 n c0 w.heap.size l0 x1 t _ HT.out HN.out HIN2.out (by omega)).mono ?_
          rintro e w5 ⟨rfl, rfl⟩
          go_wp2
          go_ret
          exact ⟨by simp, HB2.out⟩
  · have hbad : 40 < n ∨ (n ≤ 40 ∧ allB l0 0 1000000 = false) := by
      cases g : allB l0 0 1000000 with
      | true => rw [g] at hok; simp at hok ⊢; omega
      | false => simp; omega
    have HBAD := Lib.hid hbad; clear hbad hok
    go_enter Try.func11, Try.ntmps11
    go_wp2_with fail
    refine (heavyFact_any _).mono ?_
    rintro e wf ⟨rfl, hbf⟩
    have HBF := Lib.hid hbf; clear hbf
    go_wp2_with fail
    refine (vote_bad a0 n c0 _ l0 _ HN.out (H0.out.below HBF.out) HBAD.out).mono ?_
    rintro e w2 ⟨er, rfl, rfl⟩
    go_wp2
    go_ret
    exact ⟨by simp, HBF.out⟩
end Go.Proofs.Ytnpokcjdnlmheaa
