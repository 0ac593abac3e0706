/-
  BackCrash: the walk.
-/
import Derived.Test.YtgbccaplckiilaaBackHeld2
import Derived.Test.YtgbccaplckiilaaSameInts
import Derived.Test.YtgbccaplckiilaaLift
namespace Go.Proofs.Ytgbccaplckiilaa
open Go.RowKit

theorem backCrash_no (n : Int) (a : Option Addr) (m c : Nat) (w : World) (h : n < 1 ∨ 8 < n) :
    Calls Try.prog 6 #[.int .i64 n, .slice a m c] w fun e w' => e = .returned (.bool true) ∧ Below w.heap.size w w' := by
  go_enter Try.func6, Try.ntmps6
  go_wp2_with (first
    | (go_at_call 17; refine (backFact_any _).mono ?_; rintro e w1 ⟨rfl, hb1⟩)
    | (go_at_call 10; refine (bNew_no _ _ h).mono ?_; rintro e w2 ⟨rfl, rfl⟩)
    | (go_at_call 18; refine (in_no _ _ _ _ h).mono ?_; rintro e w' ⟨rfl, rfl⟩))
  go_ret
  exact ⟨rfl, hb1⟩

/-- What is lost. -/
def no8 : List Bool := List.replicate 8 false
def lostOf (L : List Fr) : List Bool := L.foldl (fun l f => l.set f.1.toNat f.2.2) no8
theorem lostOf_len (L : List Fr) : (lostOf L).length = 8 := by
  unfold lostOf
  suffices h : ∀ (L : List Fr) (d : List Bool), (L.foldl (fun l f => l.set f.1.toNat f.2.2) d).length = d.length by rw [h]; rfl
  intro L
  induction L with
  | nil => intro d; rfl
  | cons f L ih => intro d; rw [List.foldl_cons, ih]; simp
theorem lostOf_succ {L : List Fr} {k : Nat} {f : Fr} (h : L[k]? = some f) : lostOf (L.take (k + 1)) = (lostOf (L.take k)).set f.1.toNat f.2.2 := by
  unfold lostOf
  rw [List.take_add_one, h, List.foldl_append]; rfl
theorem fold_lost (b : Nat) : ∀ (L : List Fr) (d : List Bool), d.length = 8 → (∀ x ∈ L, 0 ≤ x.1 ∧ x.1 ≤ 7) → (L.map (·.1)).Nodup →
    (∀ x ∈ L, x.1 = b → (L.foldl (fun l f => l.set f.1.toNat f.2.2) d).getD b false = x.2.2) ∧ ((∀ x ∈ L, x.1 ≠ b) → (L.foldl (fun l f => l.set f.1.toNat f.2.2) d).getD b false = d.getD b false)
  | [], d, _, _, _ => ⟨by simp, fun _ => rfl⟩
  | f :: L, d, hd, hr, hn => by
    obtain ⟨hf, hn⟩ : f.1 ∉ L.map (·.1) ∧ (L.map (·.1)).Nodup := by simpa using hn
    obtain ⟨i1, i2⟩ := fold_lost b L (d.set f.1.toNat f.2.2) (by simpa using hd) (fun x hx => hr x (List.mem_cons_of_mem _ hx)) hn
    have hrf := hr f (by simp)
    refine ⟨fun x hx e => ?_, fun hx => ?_⟩
    · rw [List.foldl_cons]
      rcases List.mem_cons.1 hx with rfl | hx
      · rw [i2 fun y hy e2 => hf (by rw [e, ← e2]; exact List.mem_map_of_mem hy)]
        simp only [List.getD, List.getElem?_set]
        rw [if_pos (by omega)]
        simp [show x.1.toNat < d.length by omega]
      · exact i1 x hx e
    · rw [List.foldl_cons, i2 fun x hm => hx x (List.mem_cons_of_mem _ hm)]
      have := hx f (by simp)
      simp only [List.getD, List.getElem?_set]
      rw [if_neg (by omega)]
theorem lost_out {slots : Nat} {s : BSt} {last : List Int} {nr nw : Int} (h : BInv slots s last nr nw) {b : Nat} (hb : b < 8) (hl : (lostOf s.fr).getD b false = false) : s.disk.getD b 0 = last.getD b 0 := by
  obtain ⟨h1, h2⟩ := fold_lost b s.fr no8 rfl h.rng h.nd
  by_cases e : ∃ x ∈ s.fr, x.1 = b
  · obtain ⟨x, hx, e⟩ := e
    have hd := h1 x hx e
    have hc := h.cln x hx (hd.symm.trans hl)
    have hv := h.val x hx
    rw [e, show ((b : Nat) : Int).toNat = b by simp] at hc hv
    rw [hc, hv]
  · exact h.out b hb fun x hx e2 => e ⟨x, hx, e2⟩

theorem bools_set (l : List Bool) (i : Nat) (x : Bool) : (bools l).set i (.bool x) = bools (l.set i x) := by simp [bools, List.map_set]
theorem bools_get {l : List Bool} {i : Nat} {x : Bool} (h : l[i]? = some x) : (bools l)[i]? = some (.bool x) := by simp [bools, h]

/-- The loop that marks what is lost. -/
def LoRel (w : World) (q : Nat) (L : List Fr) (i : Value) (wr : World) : Prop :=
  ∃ k : Nat, k ≤ L.length ∧ i = .int .i64 k ∧ Blk wr q 4 (bools (lostOf (L.take k))) ∧ Keep [q] w wr

set_option maxHeartbeats 1000000 in
theorem backCrash_yes (n : Nat) (h1 : 1 ≤ (n : Int)) (h2 : (n : Int) ≤ 8) (a : Option Addr) (c : Nat) (xss : List (List Int)) (w : World) (hx : RowsIn w w.heap.size a xss) (hn : xss.length ≤ maxLen) :
    Calls Try.prog 6 #[.int .i64 n, .slice a xss.length c] w fun e w' => e = .returned (.bool true) ∧ Below w.heap.size w w' := by
  have hmk : ∀ wx : World, Sem.run Try.prog (Instr.makeSlice 45 (.int .i64 8) (.int .i64 8)) wx = .ok (.slice (some ⟨wx.heap.size, 0, none⟩) 8 8) (wx.alloc (.cells (bools no8).toArray 4)) := fun wx => run_make_blk (P := Try.prog) 45 4 (.bool false) 1 Try.underlying45 info_bool rfl 8 (by omega) (by omega) wx
  have HN := Lib.hid hn; clear hn
  have HX := Lib.hid hx; clear hx
  go_enter Try.func6, Try.ntmps6
  go_wp2_with fail
  refine (backFact_any _).mono ?_
  rintro e w1 ⟨rfl, hb1⟩
  go_wp2_with fail
  refine (bNew_ok n _ h1 h2).mono ?_
  rintro e w2 ⟨rfl, hat, hb2⟩
  have hsz1 := hb1.size
  have hbw : Below w.heap.size w w2 := hb1.trans (hb2.mono hsz1)
  have HAT := Lib.hid hat; clear hat
  have hblA := HAT.out.top.lt
  go_wp2_with fail
  refine (used_any w1.heap.size n w.heap.size _ bs0 a c xss _ HAT.out (by omega) (by omega) (bs0_inv n) (HX.out.below hbw) HN.out hsz1 (by simp [Value.ownBlock])).mono ?_
  rintro e w3 ⟨u, v, rfl, hus, hinv⟩
  have hk3 := BK.of_used hbw hus hsz1
  have hii : BInv n u.s u.last 100 (wrs (xss.take 100)) := hinv
  have hle := hii.le; have hll := hii.ll
  have hlin : IntsIn w3 w3.heap.size (some ⟨w2.heap.size, 0, none⟩) u.last := hus.lastIn
  have hqn : w2.heap.size < w3.heap.size := hus.2.2.2.2.2.lt
  have hq1 : w1.heap.size < w2.heap.size := hblA
  obtain ⟨s, hs⟩ : ∃ s, s = u.s := ⟨_, rfl⟩
  obtain ⟨last, hlast⟩ : ∃ last, last = u.last := ⟨_, rfl⟩
  have hbq : Blk w3 w2.heap.size 3 (ints u.last) := hus.2.2.2.2.2
  rw [← hs, ← hlast] at hii
  rw [← hlast] at hll hbq
  rw [← hs] at hle hk3
  have HK3 := Lib.hid hk3
  have HII := Lib.hid hii
  have HQ3 := Lib.hid hbq
  obtain ⟨k, hk⟩ : ∃ k, k = s.fr.length := ⟨_, rfl⟩
  have HK := Lib.hid hk
  have hk8 : k ≤ n := by omega
  have hkn : ¬ n < k := by omega
  clear hus hinv hbw hb1 hb2 hii hs hk3 hk hlin hlast hbq HAT
  go_wp2_with fail
  refine (bHeld_any _ n v s _ HK3.out.at_ (by omega)).mono ?_
  rintro e w4 ⟨vA, vB, rfl, hA, hB, hb4⟩
  obtain ⟨aA, cA, rfl, hnA, _⟩ := hA.new
  obtain ⟨aB, cB, rfl, hnB⟩ := hB.new
  rw [show (s.fr.map (·.1)).length = k by simp [HK.out], show (s.fr.map (·.2.2)).length = k by simp [HK.out]]
  have HA4 := Lib.hid (HK3.out.newInts hnA)
  have HB4 := Lib.hid (HK3.out.newBools hnB)
  have HK4 := Lib.hid (HK3.out.keep (Below.keep0 hb4))
  have HQ4 := Lib.hid (HQ3.out.keep (Below.keep0 hb4) (by simp))
  have hsz4 : w3.heap.size ≤ w4.heap.size := hb4.size
  clear hA hB hnA hnB hb4 HK3 HQ3
  go_wp2
  obtain ⟨w5, hw5⟩ : ∃ w5, w5 = w4.alloc (.cells (bools no8).toArray 4) := ⟨_, rfl⟩
  have HL5 : Hid (Blk w5 w4.heap.size 4 (bools no8)) := Lib.hid (by rw [hw5]; exact Blk.new _ _ _)
  have hk5 : Keep [] w4 w5 := by rw [hw5]; exact (Keep.refl _ _).alloc _
  have HK5 := Lib.hid (HK4.out.keep hk5)
  have HQ5 := Lib.hid (HQ4.out.keep hk5 (by simp))
  have HKE5 := Lib.hid hk5
  have hsz5 : w5.heap.size = w4.heap.size + 1 := by rw [hw5]; simp
  rw [← hw5]
  clear hw5 hk5 HK4 HQ4
  go_loopw [12] (fun i wr => LoRel w5 w4.heap.size s.fr i wr) (fun i _ => k - (intOf i).toNat)
  case atStart => exact ⟨0, by omega, rfl, HL5.out, Keep.refl _ _⟩
  case round =>
    obtain ⟨j, hj, rfl, hbl, hkk⟩ := hrel
    rw [← HK.out] at hj
    have HBL := Lib.hid hbl; have HKK := Lib.hid hkk; clear hbl hkk
    have hbel4 : Below w4.heap.size w4 wr := ((HKE5.out.mono (G := [w4.heap.size]) (by simp)).trans HKK.out).below (Nat.le_refl _) (by simp)
    by_cases hlt : j < k
    · have hkl : j < s.fr.length := by rw [← HK.out]; exact hlt
      obtain ⟨x, hx⟩ : ∃ x, x = s.fr[j] := ⟨_, rfl⟩
      have hxg : s.fr[j]? = some x := by rw [hx]; exact List.getElem?_eq_getElem hkl
      obtain ⟨gA, rfl, _, hgA, hcA⟩ := HA4.out (by simp; omega)
      obtain ⟨gB, rfl, _, hgB, hcB⟩ := HB4.out (by simp; omega)
      have hxA : wr.cell? ⟨gA, j, none⟩ = some (.int .i64 x.1) := (hbel4.cell (p := ⟨gA, j, none⟩) hgA).trans (hcA j x.1 (by simp [hxg]))
      have hxB : wr.cell? ⟨gB, j, none⟩ = some (.bool x.2.2) := (hbel4.cell (p := ⟨gB, j, none⟩) hgB).trans (hcB j x.2.2 (by simp [hxg]))
      obtain ⟨x0, x7⟩ := HII.out.rng x (List.mem_of_getElem? hxg)
      obtain ⟨f, d, e⟩ := x
      obtain ⟨ff, rfl⟩ := Int.eq_ofNat_of_zero_le x0
      have x8 : ((ff : Nat) : Int) < 8 := by have : (ff : Int) ≤ 7 := x7; omega
      have hlo : ff < (lostOf (s.fr.take j)).length := by rw [lostOf_len]; omega
      have hcl := HBL.out.cell_ (bools_get (List.getElem?_eq_getElem hlo))
      have hfr := HBL.out.free ff
      have hjk : (j : Int) < (k : Int) := by omega
      have hj0 : (0 : Int) ≤ (j : Int) := by omega
      have HXG := Lib.hid hxg
      clear hx hxg hcA hcB
      dsimp only at x0 x7 hxA hxB
      go_wp2_with (go_at_call 18; refine (in_yes _ _ _ _ x0 x7).mono ?_; rintro e w' ⟨rfl, rfl⟩)
      go_still_tail 10, (by kernel_rfl)
      go_wp2
      go_roundw
      case rel =>
        refine ⟨j + 1, hkl, by simp, ?_, ?_⟩
        · rw [lostOf_succ HXG.out, Int.toNat_natCast, ← bools_set]
          exact HBL.out.drew.set ff _
        · exact HKK.out.drew.set (fun _ => by simp) _
      case measure => simp [intOf]; omega
    · obtain rfl : j = k := by omega
      rw [HK.out, List.take_length] at HBL
      have HK6 := Lib.hid (HK5.out.keepF HKK.out (by simp; omega))
      have HQ6 := Lib.hid (HQ5.out.keep HKK.out (by simp; omega))
      have hsz6 := HKK.out.size
      have hql := HBL.out.lt
      go_wp2_with fail
      refine (bCrash_any _ n v s _ HK6.out.at_).mono ?_
      rintro e w8 ⟨rfl, hat8, hk8'⟩
      have HK8 := Lib.hid (HK6.out.crash hat8 hk8')
      have HQ8 := Lib.hid (HQ6.out.keep hk8' (by simp; omega))
      have HL8 := Lib.hid (HBL.out.keep hk8' (by simp; omega))
      clear hat8 hk8' HK6 HQ6 HBL
      go_wp2_with fail
      refine (bDisk_any _ n _ (crashB s) _ HK8.out.at_).mono ?_
      rintro e w9 ⟨aD, cD, rfl, hnD, hb9⟩
      have HK9 := Lib.hid (HK8.out.keep (Below.keep0 hb9))
      have HQ9 := Lib.hid (HQ8.out.keep (Below.keep0 hb9) (by simp))
      have HL9 := Lib.hid (HL8.out.keep (Below.keep0 hb9) (by simp))
      have HD9 := Lib.hid hnD
      clear hnD hb9 HK8 HQ8 HL8
      go_wp2_with fail
      refine (bHeld_any _ n _ (crashB s) _ HK9.out.at_ (by simp [crashB])).mono ?_
      rintro e w10 ⟨vA, vB, rfl, hA, hB, hb10⟩
      obtain ⟨aA2, cA2, rfl, _, _⟩ := hA.new
      obtain ⟨aB2, cB2, rfl, _⟩ := hB.new
      have HB10 := Lib.hid (HK9.out.keep (Below.keep0 hb10)).bel
      have HQ10 := Lib.hid (HQ9.out.keep (Below.keep0 hb10) (by simp))
      have HL10 := Lib.hid (HL9.out.keep (Below.keep0 hb10) (by simp))
      have HD10 := Lib.hid (HD9.out.keep0 (Below.keep0 hb10))
      clear hA hB hb10 HK9 HQ9 HL9 HD9
      rw [show ((crashB s).fr.map (·.1)).length = 0 from rfl]
      go_wp2
      go_loopw [16] (fun i wr => ∃ b q : Nat, b ≤ 8 ∧ i = .int .i64 b ∧ wr = w10.drewN q) (fun i _ => 8 - (intOf i).toNat)
      case atStart => exact ⟨0, 0, by omega, rfl, by simp [World.drewN]⟩
      case round =>
        obtain ⟨t, q, ht, rfl, hwr⟩ := hrel
        by_cases hlt : t < 8
        · have hdl : s.disk.length = 8 := HII.out.dl
          have hlol := lostOf_len s.fr
          obtain ⟨gD, rfl, _, _, hcD⟩ := HD10.out (by show 0 < s.disk.length; omega)
          have hc1 : wr.cell? ⟨gD, t, none⟩ = some (.int .i64 (s.disk.getD t 0)) := by
            rw [hwr]
            exact hcD t _ (by show s.disk[t]? = _; rw [List.getElem?_eq_getElem (by omega), List.getD, List.getElem?_eq_getElem (by omega)]; rfl)
          have hc2 : wr.cell? ⟨w2.heap.size, t, none⟩ = some (.int .i64 (last.getD t 0)) := by
            rw [hwr]
            exact HQ10.out.cell_ (ints_get (by rw [List.getElem?_eq_getElem (by omega), List.getD, List.getElem?_eq_getElem (by omega)]; rfl))
          have hc3 : wr.cell? ⟨w4.heap.size, t, none⟩ = some (.bool ((lostOf s.fr).getD t false)) := by
            rw [hwr]
            exact HL10.out.cell_ (bools_get (by rw [List.getElem?_eq_getElem (by omega), List.getD, List.getElem?_eq_getElem (by omega)]; rfl))
          have HOUT : Hid ((lostOf s.fr).getD t false = false → s.disk.getD t 0 = last.getD t 0) := Lib.hid (fun hl => lost_out HII.out hlt hl)
          obtain ⟨y, hy⟩ : ∃ y, y = s.disk.getD t 0 := ⟨_, rfl⟩
          obtain ⟨z, hz⟩ : ∃ z, z = last.getD t 0 := ⟨_, rfl⟩
          obtain ⟨e, he⟩ : ∃ e, e = (lostOf s.fr).getD t false := ⟨_, rfl⟩
          rw [← hy, ← hz, ← he] at HOUT
          rw [← hy] at hc1
          rw [← hz] at hc2
          rw [← he] at hc3
          clear hcD hy hz he
          have HW := Lib.hid hwr; clear hwr
          have ht8 : (t : Int) < 8 := by omega
          have ht0 : (0 : Int) ≤ (t : Int) := by omega
          cases e with
          | true =>
            go_wp2
            go_quiet (fail)
            go_wp2
            go_roundw
            case rel => exact ⟨t + 1, _, hlt, by simp, by rw [HW.out]; exact drewN_drewN _ _ _⟩
            case measure => simp [intOf]; omega
          | false =>
            obtain rfl := HOUT.out rfl
            go_wp2
            go_quiet (fail)
            go_wp2
            go_roundw
            case rel => exact ⟨t + 1, _, hlt, by simp, by rw [HW.out]; exact drewN_drewN _ _ _⟩
            case measure => simp [intOf]; omega
        · obtain rfl : t = 8 := by omega
          have HW := Lib.hid hwr; clear hwr
          go_wp2
          go_ret
          exact ⟨rfl, by rw [HW.out]; exact HB10.out.trans (((Keep.refl [] _).drewN q).below HB10.out.size (by simp))⟩

theorem backCrash_walk (x0 : Int) (a1 : Option Addr) (c1 : Nat) (l1 : List (List Int)) (w : World) (_ : I64 x0) (h2 : RowsIn w w.heap.size a1 l1) (_ : ∀ r ∈ l1, r.length ≤ maxLen ∧ ∀ y ∈ r, I64 y) (m2 : l1.length ≤ maxLen) :
    Calls Try.prog 6 #[.int .i64 x0, .slice a1 l1.length c1] w fun e w' => e = .returned (.bool true) ∧ Below w.heap.size w w' := by
  by_cases h : 1 ≤ x0 ∧ x0 ≤ 8
  · obtain ⟨h1, h2'⟩ := h
    obtain ⟨d, rfl⟩ := Int.eq_ofNat_of_zero_le (show 0 ≤ x0 by omega)
    exact backCrash_yes d h1 h2' a1 c1 l1 w h2 m2
  · exact backCrash_no x0 a1 _ c1 w (by omega)
end Go.Proofs.Ytgbccaplckiilaa
