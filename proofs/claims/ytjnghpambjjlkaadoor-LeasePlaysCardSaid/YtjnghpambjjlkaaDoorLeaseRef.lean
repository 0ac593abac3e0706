/-
  The reference's lender: how it lies in memory; lasts, settled, by their contracts (printed by wip/gen_leaseref.py).
-/
import Derived.Test.YtjnghpambjjlkaaDoorRef3L
import Derived.Test.YtjnghpambjjlkaaDoorLeaseKl
import Derived.BigRegion
import Derived.Deep.QuietTactic
import Derived.BigQuiet
namespace Go.Proofs.YtjnghpambjjlkaaDoor
open Go.RowKit

structure KL (w : World) (n : Nat) (k : Kl) (gh gu : Nat) : Prop where
  H : LS w gh n k.had
  U : LS w gu n k.unt
def lTop (n gh ch gu cu : Nat) (k : Kl) : List Value := [.int .i64 k.now, .int .i64 k.term, .int .i64 k.value, .int .i64 k.want, .slice (some ⟨gh, 0, none⟩) n ch, .slice (some ⟨gu, 0, none⟩) n cu]
def lZero : List Value := [.int .i64 0, .int .i64 0, .int .i64 0, .int .i64 0, .slice none 0 0, .slice none 0 0]
abbrev set6 (w : World) (b : Nat) (v0 v1 v2 v3 v4 v5 : Value) : World := (((((w.setCell ⟨b, 0, none⟩ v0).setCell ⟨b, 1, none⟩ v1).setCell ⟨b, 2, none⟩ v2).setCell ⟨b, 3, none⟩ v3).setCell ⟨b, 4, none⟩ v4).setCell ⟨b, 5, none⟩ v5
theorem keep6 (w : World) (b : Nat) (v0 v1 v2 v3 v4 v5 : Value) : Keep [b] w (set6 w b v0 v1 v2 v3 v4 v5) :=
  ((((((Keep.refl [b] w).set (p := ⟨b, 0, none⟩) (fun _ => by simp) _).set (p := ⟨b, 1, none⟩) (fun _ => by simp) _).set (p := ⟨b, 2, none⟩) (fun _ => by simp) _).set (p := ⟨b, 3, none⟩) (fun _ => by simp) _).set (p := ⟨b, 4, none⟩) (fun _ => by simp) _).set (p := ⟨b, 5, none⟩) (fun _ => by simp) _
theorem blk6 {w : World} {b : Nat} {t : TypeId} {a0 a1 a2 a3 a4 a5 : Value} (h : Blk w b t [a0, a1, a2, a3, a4, a5]) (v0 v1 v2 v3 v4 v5 : Value) : Blk (set6 w b v0 v1 v2 v3 v4 v5) b t [v0, v1, v2, v3, v4, v5] :=
  (((((h.set 0 v0).set 1 v1).set 2 v2).set 3 v3).set 4 v4).set 5 v5
theorem info_klender : (Tryd.prog.info? 46).map (·.size) = some 6 := by kernel_rfl
def LPost (w : World) (n : Nat) (k : Kl) (e : Ending) (w' : World) : Prop :=
  ∃ gh ch gu cu, e = .returned (.agg #[.int .i64 k.now, .int .i64 k.term, .int .i64 k.value, .int .i64 k.want, .slice (some ⟨gh, 0, none⟩) n ch, .slice (some ⟨gu, 0, none⟩) n cu]) ∧ KL w' n k gh gu ∧ Below w.heap.size w w'
def LPost2 (w : World) (n : Nat) (k : Kl) (x : Int) (e : Ending) (w' : World) : Prop :=
  ∃ gh ch gu cu, e = .returned (.tuple #[.agg #[.int .i64 k.now, .int .i64 k.term, .int .i64 k.value, .int .i64 k.want, .slice (some ⟨gh, 0, none⟩) n ch, .slice (some ⟨gu, 0, none⟩) n cu], .int .i64 x]) ∧ KL w' n k gh gu ∧ Below w.heap.size w w'
def LPost3 (w : World) (n : Nat) (k : Kl) (y : Value) (x : Int) (e : Ending) (w' : World) : Prop :=
  ∃ gh ch gu cu, e = .returned (.tuple #[.agg #[.int .i64 k.now, .int .i64 k.term, .int .i64 k.value, .int .i64 k.want, .slice (some ⟨gh, 0, none⟩) n ch, .slice (some ⟨gu, 0, none⟩) n cu], y, .int .i64 x]) ∧ KL w' n k gh gu ∧ Below w.heap.size w w'
/-- In the walk of a function of the reference: its variable at h, its result behind it. -/
structure LB (w0 w : World) (h n gh ch gu cu : Nat) (k : Kl) : Prop where
  box : Blk w h 46 (lTop n gh ch gu cu k)
  res : Blk w (h + 1) 46 lZero
  H : LS w gh n k.had
  U : LS w gu n k.unt
  bel : Below h w0 w
  h0 : h = w0.heap.size
section
variable {w0 w w' : World} {h n gh ch gu cu gh' ch' gu' cu' : Nat} {k k' : Kl}
theorem KL.keep0 (k1 : KL w n k gh gu) (hk : Keep [] w w') : KL w' n k gh gu := ⟨k1.H.keep0 hk, k1.U.keep0 hk⟩
theorem KL.keep1 (k1 : KL w n k gh gu) {b : Nat} {t : TypeId} {cs : List Value} (hk : Keep [b] w w') (hb : Blk w b t cs) (ht : 3 ≠ t) : KL w' n k gh gu := ⟨k1.H.keep1 hk hb ht, k1.U.keep1 hk hb ht⟩
theorem KL.keep2 (k1 : KL w n k gh gu) {b d : Nat} {t t' : TypeId} {cs ds : List Value} (hk : Keep [b, d] w w') (hb : Blk w b t cs) (ht : 3 ≠ t) (hd : Blk w d t' ds) (ht' : 3 ≠ t') : KL w' n k gh gu :=
  ⟨k1.H.keepN hk (by have := k1.H.ne hb ht; have := k1.H.ne hd ht'; simp; omega), k1.U.keepN hk (by have := k1.U.ne hb ht; have := k1.U.ne hd ht'; simp; omega)⟩
theorem LB.cells (k1 : LB w0 w h n gh ch gu cu k) : w.cell? ⟨h, 0, none⟩ = some (.int .i64 k.now) ∧ w.cell? ⟨h, 1, none⟩ = some (.int .i64 k.term) ∧ w.cell? ⟨h, 2, none⟩ = some (.int .i64 k.value) ∧ w.cell? ⟨h, 3, none⟩ = some (.int .i64 k.want) ∧ w.cell? ⟨h, 4, none⟩ = some (.slice (some ⟨gh, 0, none⟩) n ch) ∧ w.cell? ⟨h, 5, none⟩ = some (.slice (some ⟨gu, 0, none⟩) n cu) ∧ w.frozen? ⟨h, 0, none⟩ = false ∧ w.frozen? ⟨h, 1, none⟩ = false ∧ w.frozen? ⟨h, 2, none⟩ = false ∧ w.frozen? ⟨h, 3, none⟩ = false ∧ w.frozen? ⟨h, 4, none⟩ = false ∧ w.frozen? ⟨h, 5, none⟩ = false :=
  ⟨k1.box.cell_ (i := 0) rfl, k1.box.cell_ (i := 1) rfl, k1.box.cell_ (i := 2) rfl, k1.box.cell_ (i := 3) rfl, k1.box.cell_ (i := 4) rfl, k1.box.cell_ (i := 5) rfl, k1.box.free 0, k1.box.free 1, k1.box.free 2, k1.box.free 3, k1.box.free 4, k1.box.free 5⟩
theorem LB.rcells (k1 : LB w0 w h n gh ch gu cu k) : w.cell? ⟨h + 1, 0, none⟩ = some (.int .i64 0) ∧ w.cell? ⟨h + 1, 1, none⟩ = some (.int .i64 0) ∧ w.cell? ⟨h + 1, 2, none⟩ = some (.int .i64 0) ∧ w.cell? ⟨h + 1, 3, none⟩ = some (.int .i64 0) ∧ w.cell? ⟨h + 1, 4, none⟩ = some (.slice none 0 0) ∧ w.cell? ⟨h + 1, 5, none⟩ = some (.slice none 0 0) ∧ w.frozen? ⟨h + 1, 0, none⟩ = false ∧ w.frozen? ⟨h + 1, 1, none⟩ = false ∧ w.frozen? ⟨h + 1, 2, none⟩ = false ∧ w.frozen? ⟨h + 1, 3, none⟩ = false ∧ w.frozen? ⟨h + 1, 4, none⟩ = false ∧ w.frozen? ⟨h + 1, 5, none⟩ = false :=
  ⟨k1.res.cell_ (i := 0) rfl, k1.res.cell_ (i := 1) rfl, k1.res.cell_ (i := 2) rfl, k1.res.cell_ (i := 3) rfl, k1.res.cell_ (i := 4) rfl, k1.res.cell_ (i := 5) rfl, k1.res.free 0, k1.res.free 1, k1.res.free 2, k1.res.free 3, k1.res.free 4, k1.res.free 5⟩
theorem LB.keep (k1 : LB w0 w h n gh ch gu cu k) (hk : Keep [] w w') : LB w0 w' h n gh ch gu cu k :=
  ⟨k1.box.keep hk (by simp), k1.res.keep hk (by simp), k1.H.keep0 hk, k1.U.keep0 hk, k1.bel.trans (hk.below (by have := k1.bel.size; have := k1.h0; omega) (by simp)), k1.h0⟩
theorem LB.below (k1 : LB w0 w h n gh ch gu cu k) (hb : Below w.heap.size w w') : LB w0 w' h n gh ch gu cu k := k1.keep (Keep.of_below hb (Nat.le_refl _))
theorem LB.hk (_ : LB w0 w h n gh ch gu cu k) (i : Nat) (v : Value) : Keep [h] w (w.setCell ⟨h, i, none⟩ v) := (Keep.refl _ w).set (fun _ => by simp) _
theorem LB.belS (k1 : LB w0 w h n gh ch gu cu k) (hk : Keep [h] w w') : Below h w0 w' := k1.bel.trans (hk.below (by have := k1.bel.size; have := k1.h0; omega) (by simp))
theorem LB.set (k1 : LB w0 w h n gh ch gu cu k) (i : Nat) (v : Value) (hh : k'.had = k.had) (hu : k'.unt = k.unt) (ht : (lTop n gh ch gu cu k).set i v = lTop n gh ch gu cu k') : LB w0 (w.setCell ⟨h, i, none⟩ v) h n gh ch gu cu k' :=
  ⟨by have := k1.box.set i v; rwa [ht] at this, k1.res.keep (k1.hk i v) (by simp), by rw [hh]; exact k1.H.keep1 (k1.hk i v) k1.box (by decide), by rw [hu]; exact k1.U.keep1 (k1.hk i v) k1.box (by decide), k1.belS (k1.hk i v), k1.h0⟩
theorem LB.setH (k1 : LB w0 w h n gh ch gu cu k) {g c : Nat} {l : List Int} (hl : LS w g n l) : LB w0 (w.setCell ⟨h, 4, none⟩ (.slice (some ⟨g, 0, none⟩) n c)) h n g c gu cu { k with had := l } :=
  ⟨k1.box.set 4 _, k1.res.keep (k1.hk 4 _) (by simp), hl.keep1 (k1.hk 4 _) k1.box (by decide), k1.U.keep1 (k1.hk 4 _) k1.box (by decide), k1.belS (k1.hk 4 _), k1.h0⟩
theorem LB.setU (k1 : LB w0 w h n gh ch gu cu k) {g c : Nat} {l : List Int} (hl : LS w g n l) : LB w0 (w.setCell ⟨h, 5, none⟩ (.slice (some ⟨g, 0, none⟩) n c)) h n gh ch g c { k with unt := l } :=
  ⟨k1.box.set 5 _, k1.res.keep (k1.hk 5 _) (by simp), k1.H.keep1 (k1.hk 5 _) k1.box (by decide), hl.keep1 (k1.hk 5 _) k1.box (by decide), k1.belS (k1.hk 5 _), k1.h0⟩
theorem LB.setAll (k1 : LB w0 w h n gh ch gu cu k) (hc : KL w n k' gh' gu') : LB w0 (set6 w h (.int .i64 k'.now) (.int .i64 k'.term) (.int .i64 k'.value) (.int .i64 k'.want) (.slice (some ⟨gh', 0, none⟩) n ch') (.slice (some ⟨gu', 0, none⟩) n cu')) h n gh' ch' gu' cu' k' :=
  ⟨blk6 k1.box _ _ _ _ _ _, k1.res.keep (keep6 _ _ _ _ _ _ _ _) (by simp), hc.H.keep1 (keep6 _ _ _ _ _ _ _ _) k1.box (by decide), hc.U.keep1 (keep6 _ _ _ _ _ _ _ _) k1.box (by decide), k1.belS (keep6 _ _ _ _ _ _ _ _), k1.h0⟩
theorem LB.start (w : World) (hc : KL w n k gh gu) : LB w ((w.alloc (.cells (lTop n gh ch gu cu k).toArray 46)).alloc (.cells lZero.toArray 46)) w.heap.size n gh ch gu cu k := by
  have hb := Blk.new w 46 (lTop n gh ch gu cu k)
  have hb2 := Blk.new (w.alloc (.cells (lTop n gh ch gu cu k).toArray 46)) 46 lZero
  rw [World.size_alloc] at hb2
  have hk : Keep [] w _ := ((Keep.refl [] w).alloc (.cells (lTop n gh ch gu cu k).toArray 46)).alloc (.cells lZero.toArray 46)
  exact ⟨hb.alloc _, hb2, hc.H.keep0 hk, hc.U.keep0 hk, hk.below (Nat.le_refl _) (by simp), rfl⟩
theorem LB.kl (k1 : LB w0 w h n gh ch gu cu k) : KL w n k gh gu := ⟨k1.H, k1.U⟩
/-- What is told at the end. -/
theorem LB.done (k1 : LB w0 w h n gh ch gu cu k) (v0 v1 v2 v3 v4 v5 : Value) (q : Nat) (hc : KL w n k' gh' gu') :
    KL (set6 (w.drewN q) (h + 1) v0 v1 v2 v3 v4 v5) n k' gh' gu' ∧ Below w0.heap.size w0 (set6 (w.drewN q) (h + 1) v0 v1 v2 v3 v4 v5) := by
  have hk : Keep [h + 1] (w.drewN q) _ := keep6 (w.drewN q) (h + 1) v0 v1 v2 v3 v4 v5
  have k2 := k1.keep ((Keep.refl [] w).drewN q)
  refine ⟨(hc.keep0 ((Keep.refl [] w).drewN q)).keep1 hk k2.res (by decide), ?_⟩
  have := k2.bel
  rw [← k1.h0]
  exact this.trans (hk.below (by have := this.size; have := k1.h0; omega) (by simp))
theorem LB.doneD (k1 : LB w0 w h n gh ch gu cu k) (v0 v1 v2 v3 v4 v5 : Value) (hc : KL w n k' gh' gu') :
    KL (set6 w (h + 1) v0 v1 v2 v3 v4 v5).drew n k' gh' gu' ∧ Below w0.heap.size w0 (set6 w (h + 1) v0 v1 v2 v3 v4 v5).drew := by
  have hk : Keep [h + 1] w _ := keep6 w (h + 1) v0 v1 v2 v3 v4 v5
  have hd : Keep [h + 1] w (set6 w (h + 1) v0 v1 v2 v3 v4 v5).drew := hk.trans ((Keep.refl _ _).drew)
  refine ⟨hc.keep1 hd k1.res (by decide), ?_⟩
  have := k1.bel
  rw [← k1.h0]
  exact this.trans (hd.below (by have := this.size; have := k1.h0; omega) (by simp))
end

theorem lasts_yes {k : Kl} {i : Nat} (h : i < k.unt.length) (hl : k.now < k.unt.getD i 0) : k.lasts = true := by
  cases e : k.lasts with
  | true => rfl
  | false => have := (k.lasts_no.1 e) i h; omega

set_option maxHeartbeats 2000000 in
set_option maxRecDepth 100000 in
theorem kLasts (n gh ch gu cu : Nat) (k : Kl) (w : World) (h : KL w n k gh gu) (hn : n ≤ 4) :
    Calls Tryd.prog 54 #[.agg #[.int .i64 k.now, .int .i64 k.term, .int .i64 k.value, .int .i64 k.want, .slice (some ⟨gh, 0, none⟩) n ch, .slice (some ⟨gu, 0, none⟩) n cu]] w fun e w' => e = .returned (.bool k.lasts) ∧ Below w.heap.size w w' := by
  have hul : k.unt.length = n := h.U.len
  obtain ⟨w1, hw1⟩ : ∃ w1, w1 = w.alloc (.cells #[.int .i64 k.now, .int .i64 k.term, .int .i64 k.value, .int .i64 k.want, .slice (some ⟨gh, 0, none⟩) n ch, .slice (some ⟨gu, 0, none⟩) n cu] 46) := ⟨_, rfl⟩
  have hbx : Blk w1 w.heap.size 46 (lTop n gh ch gu cu k) := by rw [hw1]; exact Blk.new w _ (lTop n gh ch gu cu k)
  have hk1 : Keep [] w w1 := by rw [hw1]; exact (Keep.refl _ _).alloc _
  have HBX := Lib.hid hbx; have HK1 := Lib.hid hk1; have HU := Lib.hid (h.U.keep0 hk1); have HW := Lib.hid hw1
  clear hbx hk1 h hw1
  go_enter Tryd.func54, Tryd.ntmps54
  go_wp2
  rw [← HW.out]
  go_loopw [3] (fun i wr => ∃ p : Nat, p ≤ n ∧ i = .int .i64 p ∧ Keep [] w1 wr ∧ ∀ j, j < p → k.unt.getD j 0 ≤ k.now) (fun i _ => n - (intOf i).toNat)
  case atStart => exact ⟨0, Nat.zero_le _, rfl, Keep.refl _ _, fun j hj => absurd hj (Nat.not_lt_zero _)⟩
  case round =>
    obtain ⟨p, hp, rfl, hkk, hbef⟩ := hrel
    have HKK := Lib.hid hkk; have HBF := Lib.hid hbef
    have hx0 := (HBX.out.keep hkk (by simp)).cell_ (i := 0) rfl
    have hx5 := (HBX.out.keep hkk (by simp)).cell_ (i := 5) rfl
    have hls := HU.out.keep0 hkk
    clear hkk hbef
    by_cases hlt : p < n
    · have hcu := hls.cell hlt
      obtain ⟨u, hu⟩ : ∃ u, u = k.unt.getD p 0 := ⟨_, rfl⟩
      rw [← hu] at hcu
      have HU1 := Lib.hid hu
      clear hls hu
      have hpn : (p : Int) < (n : Int) := by omega
      have hp0 : (0 : Int) ≤ (p : Int) := by omega
      by_cases hc : k.now < u
      · have HL : Hid (k.lasts = true) := Lib.hid (lasts_yes (i := p) (by omega) (by rw [← HU1.out]; exact hc))
        go_wp2
        go_quiet (fail)
        go_wp2
        go_ret
        exact ⟨ret_eq (show Value.bool true = .bool k.lasts by rw [HL.out]), (HK1.out.trans (HKK.out.drewN _)).below (Nat.le_refl _) (by simp)⟩
      · go_wp2
        go_quiet (fail)
        go_wp2
        go_roundw
        case rel => exact ⟨p + 1, hlt, by simp, HKK.out.drewN _, fun j hj => by
          by_cases e : j = p
          · subst e; rw [← HU1.out]; omega
          · exact HBF.out j (by omega)⟩
        case measure => simp [intOf]; omega
    · obtain rfl : p = n := by omega
      have HL : Hid (k.lasts = false) := Lib.hid (k.lasts_no.2 (by rw [hul]; exact HBF.out))
      clear hls
      go_wp2
      go_ret
      exact ⟨ret_eq (show Value.bool false = .bool k.lasts by rw [HL.out]), (HK1.out.trans HKK.out).below (Nat.le_refl _) (by simp)⟩


set_option maxHeartbeats 2000000 in
set_option maxRecDepth 100000 in
theorem kSettled (n gh ch gu cu : Nat) (k : Kl) (w : World) (h : KL w n k gh gu) (hn : n ≤ 4) :
    Calls Tryd.prog 49 #[.agg #[.int .i64 k.now, .int .i64 k.term, .int .i64 k.value, .int .i64 k.want, .slice (some ⟨gh, 0, none⟩) n ch, .slice (some ⟨gu, 0, none⟩) n cu]] w (LPost w n k.settled) := by
  have HH := Lib.hid h
  obtain ⟨w1, hw1⟩ : ∃ w1, w1 = (w.alloc (.cells #[.int .i64 k.now, .int .i64 k.term, .int .i64 k.value, .int .i64 k.want, .slice (some ⟨gh, 0, none⟩) n ch, .slice (some ⟨gu, 0, none⟩) n cu] 46)).alloc (.cells #[.int .i64 0, .int .i64 0, .int .i64 0, .int .i64 0, .slice none 0 0, .slice none 0 0] 46) := ⟨_, rfl⟩
  have hkb : LB w w1 w.heap.size n gh ch gu cu k := by rw [hw1]; exact LB.start w h
  have HKB := Lib.hid hkb
  have HW1 := Lib.hid hw1
  obtain ⟨x0, x1, x2, x3, x4, x5, f0, f1, f2, f3, f4, f5⟩ := hkb.cells
  obtain ⟨r0, r1, r2, r3, r4, r5, e0, e1, e2, e3, e4, e5⟩ := hkb.rcells
  clear hkb h hw1
  by_cases hw : k.want < 0
  · have HSET : Hid (k.settled = k) := Lib.hid (by unfold Kl.settled; rw [if_neg (by omega)])
    rw [HSET.out]
    go_enter Tryd.func49, Tryd.ntmps49
    go_wp2
    (try simp only [Exit.inBlock, Exit.then])
    have hbr : Blk ((w.alloc (.cells #[.int .i64 k.now, .int .i64 k.term, .int .i64 k.value, .int .i64 k.want, .slice (some ⟨gh, 0, none⟩) n ch, .slice (some ⟨gu, 0, none⟩) n cu] 46)).alloc (.cells #[.int .i64 k.now, .int .i64 k.term, .int .i64 k.value, .int .i64 k.want, .slice (some ⟨gh, 0, none⟩) n ch, .slice (some ⟨gu, 0, none⟩) n cu] 46)) (w.heap.size + 1) 46 (lTop n gh ch gu cu k) := by
      have := Blk.new (w.alloc (.cells (lTop n gh ch gu cu k).toArray 46)) 46 (lTop n gh ch gu cu k)
      rwa [World.size_alloc] at this
    refine bodyPost_ret (results_cell1 rfl _ _ (w.heap.size + 1) 46 _ _ rfl hbr Tryd.underlying46 rfl info_klender) rfl ?_
    have hkk : ∀ o1 o2, Keep [] w ((w.alloc o1).alloc o2) := fun o1 o2 => ((Keep.refl [] w).alloc o1).alloc o2
    exact ⟨gh, ch, gu, cu, rfl, HH.out.keep0 (hkk _ _), (hkk _ _).below (Nat.le_refl _) (by simp)⟩
  · have hw0 : 0 ≤ k.want := by omega
    go_enter Tryd.func49, Tryd.ntmps49
    go_wp2_with fail
    rw [← HW1.out]
    refine (kLasts n gh ch gu cu k _ HKB.out.kl hn).mono ?_
    rintro e w2 ⟨rfl, hb2⟩
    have hkb2 := HKB.out.below hb2
    clear x0 x1 x2 x3 x4 x5 f0 f1 f2 f3 f4 f5 r0 r1 r2 r3 r4 r5 e0 e1 e2 e3 e4 e5 hb2
    obtain ⟨x0, x1, x2, x3, x4, x5, f0, f1, f2, f3, f4, f5⟩ := hkb2.cells
    obtain ⟨r0, r1, r2, r3, r4, r5, e0, e1, e2, e3, e4, e5⟩ := hkb2.rcells
    have HKB := Lib.hid hkb2
    clear hkb2
    cases hl : k.lasts
    · have HSET : Hid (k.settled = { k with value := k.want, want := -1 }) := Lib.hid (by unfold Kl.settled; rw [if_pos ⟨hw0, hl⟩])
      go_wp2_with fail
      (try simp only [Exit.inBlock, Exit.then])
      have hkb3 := (HKB.out.set (k' := { k with value := k.want }) 2 (.int .i64 k.want) rfl rfl rfl).set (k' := { k with value := k.want, want := -1 }) 3 (.int .i64 (-1)) rfl rfl rfl
      refine bodyPost_ret (results_cell1 rfl _ _ (w.heap.size + 1) 46 _ _ rfl (blk6 hkb3.res _ _ _ _ _ _) Tryd.underlying46 rfl info_klender) rfl ?_
      have hd := fun v0 v1 v2 v3 v4 v5 => hkb3.done v0 v1 v2 v3 v4 v5 0 hkb3.kl
      rw [HSET.out]
      exact ⟨gh, ch, gu, cu, rfl, (hd _ _ _ _ _ _).1, (hd _ _ _ _ _ _).2⟩
    · have HSET : Hid (k.settled = k) := Lib.hid (by unfold Kl.settled; rw [if_neg (fun h => by rw [hl] at h; exact absurd h.2 (by decide))])
      go_wp2_with fail
      (try simp only [Exit.inBlock, Exit.then])
      refine bodyPost_ret (results_cell1 rfl _ _ (w.heap.size + 1) 46 _ _ rfl (blk6 HKB.out.res _ _ _ _ _ _) Tryd.underlying46 rfl info_klender) rfl ?_
      have hd := fun v0 v1 v2 v3 v4 v5 => HKB.out.done v0 v1 v2 v3 v4 v5 0 HKB.out.kl
      rw [HSET.out]
      exact ⟨gh, ch, gu, cu, rfl, (hd _ _ _ _ _ _).1, (hd _ _ _ _ _ _).2⟩
end Go.Proofs.YtjnghpambjjlkaaDoor
