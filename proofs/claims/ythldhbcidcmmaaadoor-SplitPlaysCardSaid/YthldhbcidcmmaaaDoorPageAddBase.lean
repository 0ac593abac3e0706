/-
  The reference's AddPage, by its contract: the easy ways; what the walk needs.
-/
import Derived.Test.YthldhbcidcmmaaaDoorPageAdd
import Derived.Deep.RegionLaw
import Derived.Deep.DeepCutAuto
import Derived.Deep.LoopGhost
namespace Go.Proofs.YthldhbcidcmmaaaDoor
open Go.RowKit

theorem rHas_is (a : Option Addr) (n c B : Nat) (l : List Int) (x : Int) (d : Bool) (w : World) (hl : l.length = n) (h : IntsIn w B a l) (hn : n ≤ 100000000000) (hd : decide (x ∈ l) = d) :
    Calls Tryd.prog 14 #[.slice a n c, .int .i64 x] w fun e w' => e = .returned (.bool d) ∧ w = w' := by
  subst hd; exact rHas a n c B l x w hl h hn

theorem at_mod {k i D e : Nat} (he : e ≤ D) (hi : i = k % 2 ^ D) : (k : Int) % 2 ^ e = (i : Int) % 2 ^ e := by
  rw [cast_mod, hi]
  obtain ⟨q, rfl⟩ := Nat.exists_eq_add_of_le he
  rw [Nat.pow_add, Nat.mod_mul_right_mod]
theorem at_deep {S S' : List Int} {D : Nat} {deep : Nat → Nat} (h : Dir S S' D deep) {k i : Nat} (hi : i = k % 2 ^ D) : deep i = deep k ∧ cls S (i : Int) (deep i) = cls S (k : Int) (deep k) := by
  have e : deep i = deep k := h.same i k (at_mod (h.le k) hi).symm
  exact ⟨e, by rw [e]; exact (cls_congr (at_mod (h.le k) hi)).symm⟩

/-- The frame's two blocks. -/
structure A0 (w wr : World) (B : Nat) (S : List Int) (n D : Nat) (deep : Nat → Nat) (bD cD bK cK : Nat) (vals : List Value) : Prop where
  p : Blk wr B 35 [.int .i64 D, .slice (some ⟨bD, 0, none⟩) n cD, .slice (some ⟨bK, 0, none⟩) n cK]
  res : Blk wr (B + 1) 35 [.int .i64 0, .slice none 0 0, .slice none 0 0]
  pg : PgV wr n S deep bD cD bK cK vals
  bel : Below w.heap.size w wr
  hB : B = w.heap.size
theorem A0.start {w : World} {S : List Int} {n D : Nat} {deep : Nat → Nat} {bD cD bK cK : Nat} {vals : List Value} (h : PgV w n S deep bD cD bK cK vals) :
    A0 w ((w.alloc (.cells #[.int .i64 D, .slice (some ⟨bD, 0, none⟩) n cD, .slice (some ⟨bK, 0, none⟩) n cK] 35)).alloc (.cells #[.int .i64 0, .slice none 0 0, .slice none 0 0] 35)) w.heap.size S n D deep bD cD bK cK vals := by
  have b1 := (Blk.new w 35 [.int .i64 D, .slice (some ⟨bD, 0, none⟩) n cD, .slice (some ⟨bK, 0, none⟩) n cK]).alloc (.cells #[.int .i64 0, .slice none 0 0, .slice none 0 0] 35)
  have b2 := Blk.new (w.alloc (.cells #[.int .i64 D, .slice (some ⟨bD, 0, none⟩) n cD, .slice (some ⟨bK, 0, none⟩) n cK] 35)) 35 [.int .i64 0, .slice none 0 0, .slice none 0 0]
  rw [World.size_alloc] at b2
  have hb : Below w.heap.size w ((w.alloc (.cells #[.int .i64 D, .slice (some ⟨bD, 0, none⟩) n cD, .slice (some ⟨bK, 0, none⟩) n cK] 35)).alloc (.cells #[.int .i64 0, .slice none 0 0, .slice none 0 0] 35)) := ((Below.refl _ w).alloc (Nat.le_refl _) _).alloc (by simp) _
  exact ⟨b1, b2, h.bel hb, hb, rfl⟩
section
variable {w wr w' : World} {B : Nat} {S : List Int} {n D : Nat} {deep : Nat → Nat} {bD cD bK cK : Nat} {vals : List Value}
theorem A0.below (h : A0 w wr B S n D deep bD cD bK cK vals) (hb : Below wr.heap.size wr w') : A0 w w' B S n D deep bD cD bK cK vals := ⟨h.p.below hb h.p.lt, h.res.below hb h.res.lt, h.pg.bel hb, h.bel.trans (hb.mono h.bel.size), h.hB⟩
theorem A0.cells (h : A0 w wr B S n D deep bD cD bK cK vals) : wr.cell? ⟨B, 0, none⟩ = some (.int .i64 D) ∧ wr.cell? ⟨B, 1, none⟩ = some (.slice (some ⟨bD, 0, none⟩) n cD) ∧ wr.cell? ⟨B, 2, none⟩ = some (.slice (some ⟨bK, 0, none⟩) n cK) ∧
    wr.cell? ⟨B + 1, 0, none⟩ = some (.int .i64 0) ∧ wr.cell? ⟨B + 1, 1, none⟩ = some (.slice none 0 0) ∧ wr.cell? ⟨B + 1, 2, none⟩ = some (.slice none 0 0) ∧ wr.frozen? ⟨B + 1, 0, none⟩ = false ∧ wr.frozen? ⟨B + 1, 1, none⟩ = false ∧ wr.frozen? ⟨B + 1, 2, none⟩ = false :=
  ⟨h.p.cell_ (i := 0) rfl, h.p.cell_ (i := 1) rfl, h.p.cell_ (i := 2) rfl, h.res.cell_ (i := 0) rfl, h.res.cell_ (i := 1) rfl, h.res.cell_ (i := 2) rfl, h.res.free 0, h.res.free 1, h.res.free 2⟩
theorem A0.done (h : A0 w wr B S n D deep bD cD bK cK vals) (v0 v1 v2 : Value) : PgV (set3 wr (B + 1) v0 v1 v2) n S deep bD cD bK cK vals ∧ Below w.heap.size w (set3 wr (B + 1) v0 v1 v2) := by
  have hk := keep3 wr (B + 1) v0 v1 v2
  exact ⟨h.pg.blk h.res (by decide) (by decide) (fun g hg hne => hk.block g hg (by simpa using hne)), h.bel.trans (hk.below h.bel.size (by simp; have := h.hB; omega))⟩
end

set_option maxHeartbeats 2000000 in
set_option maxRecDepth 100000 in
theorem kAdd_no (x : Int) (S : List Int) (n D : Nat) (deep : Nat → Nat) (bD cD bK cK : Nat) (vals : List Value) (w : World) (h : PgV w n S deep bD cD bK cK vals) (hn : n = 2 ^ D) (hD : D ≤ 6) (hd : Dir S S D deep) (hx : x < 0 ∨ 1000000 < x) (P : Nat → Prop) (hp : PIn P bD bK vals) :
    Calls Tryd.prog 16 #[.agg #[.int .i64 D, .slice (some ⟨bD, 0, none⟩) n cD, .slice (some ⟨bK, 0, none⟩) n cK], .int .i64 x] w (AddPost2 w P S x) := by
  have HADD : Hid (addE S x = 1) := Lib.hid (by unfold addE; rw [if_pos (by omega)])
  have HADS : Hid (addS S x = S) := Lib.hid (by unfold addS; rw [if_neg (by omega)])
  have HPI := Lib.hid hp; have H := Lib.hid h; have HD := Lib.hid hd; have HN := Lib.hid hn
  obtain ⟨w1, hw1⟩ : ∃ w1, w1 = (w.alloc (.cells #[.int .i64 D, .slice (some ⟨bD, 0, none⟩) n cD, .slice (some ⟨bK, 0, none⟩) n cK] 35)).alloc (.cells #[.int .i64 0, .slice none 0 0, .slice none 0 0] 35) := ⟨_, rfl⟩
  have ha := A0.start (D := D) h
  rw [← hw1] at ha
  obtain ⟨B, hB⟩ : ∃ B, B = w.heap.size := ⟨_, rfl⟩
  rw [← hB] at ha
  have HA := Lib.hid ha; have HW1 := Lib.hid hw1; have HB := Lib.hid hB
  clear hp h hd hn ha hw1 hB
  go_enter Tryd.func16, Tryd.ntmps16
  go_upto_region 1 with fail
  rw [← HW1.out, ← HB.out]
  obtain ⟨x0, x1, x2, y0, y1, y2, f0, f1, f2⟩ := HA.out.cells
  go_wp2_with fail
  refine (kin_no _ _ _ _ hx).mono ?_
  rintro e w' ⟨rfl, rfl⟩
  go_wp2
  (try simp only [Exit.inBlock, Exit.then])
  refine bodyPost_ret (results_cell2 rfl _ _ (B + 1) 35 _ _ rfl (blk3 HA.out.res _ _ _) Tryd.underlying35 rfl info_pages) rfl ?_
  obtain ⟨h1, h2⟩ := HA.out.done (.int .i64 D) (.slice (some ⟨bD, 0, none⟩) n cD) (.slice (some ⟨bK, 0, none⟩) n cK)
  exact ⟨n, D, deep, bD, cD, bK, cK, vals, by rw [HADD.out]; rfl, HN.out, hD, by rw [HADS.out]; exact h1, by rw [HADS.out]; exact HD.out, h2, HPI.out⟩

set_option maxHeartbeats 4000000 in
set_option maxRecDepth 100000 in
theorem kAdd_was (k : Nat) (S : List Int) (n D : Nat) (deep : Nat → Nat) (bD cD bK cK : Nat) (vals : List Value) (w : World) (h : PgV w n S deep bD cD bK cK vals) (hn : n = 2 ^ D) (hD : D ≤ 6) (hd : Dir S S D deep) (hk : k ≤ 1000000) (hx : (k : Int) ∈ S) (P : Nat → Prop) (hp : PIn P bD bK vals) :
    Calls Tryd.prog 16 #[.agg #[.int .i64 D, .slice (some ⟨bD, 0, none⟩) n cD, .slice (some ⟨bK, 0, none⟩) n cK], .int .i64 k] w (AddPost2 w P S k) := by
  have HADD : Hid (addE S k = 6) := Lib.hid (by unfold addE; rw [if_neg (by omega), if_pos hx])
  have HADS : Hid (addS S k = S) := Lib.hid (by unfold addS; rw [if_neg (fun hh => hh.2.2.1 hx)])
  have HPI := Lib.hid hp; have H := Lib.hid h; have HD := Lib.hid hd; have HN := Lib.hid hn
  obtain ⟨w1, hw1⟩ : ∃ w1, w1 = (w.alloc (.cells #[.int .i64 D, .slice (some ⟨bD, 0, none⟩) n cD, .slice (some ⟨bK, 0, none⟩) n cK] 35)).alloc (.cells #[.int .i64 0, .slice none 0 0, .slice none 0 0] 35) := ⟨_, rfl⟩
  have ha := A0.start (D := D) h
  rw [← hw1] at ha
  obtain ⟨B, hB⟩ : ∃ B, B = w.heap.size := ⟨_, rfl⟩
  rw [← hB] at ha
  have hn1 : 0 < n := by rw [hn]; exact Nat.pow_pos (by decide)
  have hn64 : n ≤ 64 := by rw [hn]; exact Nat.pow_le_pow_right (n := 2) (by decide) hD
  obtain ⟨i, hi⟩ : ∃ i, i = k % n := ⟨_, rfl⟩
  have hin : i < n := by rw [hi]; exact Nat.mod_lt _ hn1
  obtain ⟨a, m, c, hc1, hc2, hm, ho, _⟩ := ha.pg.at_ hin
  obtain ⟨hdi, hci⟩ := at_deep (k := k) (i := i) hd (by rw [hi, hn])
  obtain ⟨L, hL⟩ : ∃ L, L = cls S i (deep i) := ⟨_, rfl⟩
  have hmem : (k : Int) ∈ L := by rw [hL, hci]; exact mem_cls_self.2 hx
  have hl3 : L.length ≤ 3 := by rw [hL]; exact hd.few i
  rw [← hL] at hm ho
  obtain ⟨a2, c2, e2, hIN⟩ := ho.shape
  have hin3 : IntsIn w1 w1.heap.size a L := by
    simp only [Value.slice.injEq] at e2
    rw [e2.1]; exact hIN
  have HA := Lib.hid ha; have HW1 := Lib.hid hw1; have HB := Lib.hid hB; have HIN := Lib.hid hin3; have HM := Lib.hid hm.symm
  have HDEC : Hid (decide ((k : Int) ∈ L) = true) := Lib.hid (by simpa using hmem)
  have hm3 : m ≤ 3 := by omega
  have hmi : (k : Int) % (n : Int) = (i : Int) := by rw [hi]; push_cast; rfl
  have hmi2 : (k : Int).tmod (n : Int) = (i : Int) := by rw [Int.tmod_eq_emod_of_nonneg (by omega)]; exact hmi
  have hii : (i : Int) < (n : Int) := by omega
  have hi0 : (0 : Int) ≤ (i : Int) := by omega
  have hn0 : (0 : Int) < (n : Int) := by omega
  have hnz : ¬ (n : Int) = 0 := by omega
  have HNS : Hid (2 ^ D = n) := Lib.hid hn.symm
  clear hp h hd hn ha hw1 hB hi ho hL hmem hl3 e2 hIN hin3 hm hdi hci hx hc1
  go_enter Tryd.func16, Tryd.ntmps16
  go_upto_region 1 with fail
  rw [← HW1.out, ← HB.out]
  obtain ⟨x0, x1, x2, y0, y1, y2, f0, f1, f2⟩ := HA.out.cells
  go_wp2_with fail
  refine (kin_yes _ _ _ _ (by omega) (by omega)).mono ?_
  rintro e w' ⟨rfl, rfl⟩
  go_wp2
  go_quiet ((first
    | (go_at_call 42; exact quiet_eq (pow2_is D n _ (by omega) HNS.out))
    | (go_at_call 14; exact quiet_eq (rHas_is a m c _ L k true _ HM.out (HIN.out.drewN _) (by omega) HDEC.out))))
  go_wp2
  (try simp only [Exit.inBlock, Exit.then])
  refine bodyPost_ret (results_cell2 rfl _ _ (B + 1) 35 _ _ rfl (blk3 (HA.out.res.drewN _) _ _ _) Tryd.underlying35 rfl info_pages) rfl ?_
  obtain ⟨h1, h2⟩ := (HA.out.below (((Keep.refl [] w1).drewN _).below (Nat.le_refl _) (by simp))).done (.int .i64 D) (.slice (some ⟨bD, 0, none⟩) n cD) (.slice (some ⟨bK, 0, none⟩) n cK)
  exact ⟨n, D, deep, bD, cD, bK, cK, vals, by rw [HADD.out]; rfl, HN.out, hD, by rw [HADS.out]; exact h1, by rw [HADS.out]; exact HD.out, h2, HPI.out⟩

/-- What one reads at the key's place. -/
theorem PgV.key {w : World} {n D : Nat} {S S' : List Int} {deep : Nat → Nat} {bD cD bK cK : Nat} {vals : List Value} (h : PgV w n S deep bD cD bK cK vals) (hn : n = 2 ^ D) (hd : Dir S S' D deep) (k : Nat) :
    ∃ i a m c, i < n ∧ i = k % n ∧ w.cell? ⟨bD, i, none⟩ = some (.int .i64 (deep k)) ∧ w.cell? ⟨bK, i, none⟩ = some (.slice a m c) ∧ (cls S k (deep k)).length = m ∧ OwnInts w 0 (.slice a m c) (cls S k (deep k)) ∧ IntsIn w w.heap.size a (cls S k (deep k)) := by
  have hin : k % n < n := Nat.mod_lt _ (by rw [hn]; exact Nat.pow_pos (by decide))
  obtain ⟨a, m, c, hc1, hc2, hm, ho, _⟩ := h.at_ hin
  obtain ⟨hdi, hci⟩ := at_deep (k := k) (i := k % n) hd (by rw [hn])
  rw [hci] at hm ho
  rw [hdi] at hc1
  obtain ⟨a2, c2, e2, hIN⟩ := ho.shape
  refine ⟨_, a, m, c, hin, rfl, hc1, hc2, hm.symm, ho, ?_⟩
  simp only [Value.slice.injEq] at e2
  rw [e2.1]; exact hIN

theorem A0.toAP {w w2 : World} {B : Nat} {S : List Int} {n D : Nat} {deep : Nat → Nat} {bD cD bK cK : Nat} {vals : List Value} (h : A0 w w2 B S n D deep bD cD bK cK vals) (hs : w2.heap.size = B + 2) :
    AP w (w2.alloc (.cells #[.int .i64 D, .slice (some ⟨bD, 0, none⟩) n cD, .slice (some ⟨bK, 0, none⟩) n cK] 35)) B S n D deep bD cD bK cK vals n D deep bD cD bK cK vals := by
  have hb : Below w2.heap.size w2 (w2.alloc (.cells #[.int .i64 D, .slice (some ⟨bD, 0, none⟩) n cD, .slice (some ⟨bK, 0, none⟩) n cK] 35)) := (Below.refl _ w2).alloc (Nat.le_refl _) _
  have b3 := Blk.new w2 35 [.int .i64 D, .slice (some ⟨bD, 0, none⟩) n cD, .slice (some ⟨bK, 0, none⟩) n cK]
  rw [hs] at b3
  exact ⟨h.p.alloc _, h.res.alloc _, b3, h.pg.bel hb, h.pg.bel hb, h.bel.trans (hb.mono h.bel.size), h.hB⟩
/-- What one reads at a place, in whatever world that comes. -/
theorem AP.fix {w w5 : World} {B : Nat} {S : List Int} {n0 D0 : Nat} {deep0 : Nat → Nat} {bD0 cD0 bK0 cK0 : Nat} {vals0 : List Value} {n D : Nat} {deep : Nat → Nat} {bD cD bK cK : Nat} {vals : List Value} (h : AP w w5 B S n0 D0 deep0 bD0 cD0 bK0 cK0 vals0 n D deep bD cD bK cK vals) {i : Nat} (hi : i < n) :
    ∃ a m c, (cls S i (deep i)).length = m ∧ (∀ x, (Value.slice a m c).ownBlock = some x → x < w5.heap.size) ∧ Value.slice a m c ∈ vals ∧ ∀ w', Below w5.heap.size w5 w' → (w'.cell? ⟨B, 0, none⟩ = some (.int .i64 D) ∧ w'.cell? ⟨B, 1, none⟩ = some (.slice (some ⟨bD, 0, none⟩) n cD) ∧ w'.cell? ⟨B, 2, none⟩ = some (.slice (some ⟨bK, 0, none⟩) n cK) ∧ w'.cell? ⟨bD, i, none⟩ = some (.int .i64 (deep i)) ∧ w'.cell? ⟨bK, i, none⟩ = some (.slice a m c)) ∧ OwnInts w' 0 (.slice a m c) (cls S i (deep i)) ∧ IntsIn w' w'.heap.size a (cls S i (deep i)) := by
  obtain ⟨a, m, c, h1, h2, h3, h4, h5v⟩ := h.pg.at_ hi
  refine ⟨a, m, c, h3.symm, fun x hx => (World.ownsRow.lt h4 x hx).2, List.mem_of_getElem? h5v, fun w' hb => ?_⟩
  obtain ⟨x0, x1, x2, _, _, _⟩ := (h.below hb).cells
  have h5 := h4.keep fun g hg => hb.block g (World.ownsRow.lt h4 g hg).2
  obtain ⟨a2, c2, e2, hIN⟩ := h5.shape
  refine ⟨⟨x0, x1, x2, (hb.cell (p := ⟨bD, i, none⟩) (World.block_lt_of_cell? w5 _ h1)).trans h1, (hb.cell (p := ⟨bK, i, none⟩) (World.block_lt_of_cell? w5 _ h2)).trans h2⟩, h5, ?_⟩
  simp only [Value.slice.injEq] at e2
  rw [e2.1]; exact hIN
theorem info_rows0 : (Tryd.prog.info? 22).map (fun i => (i.zero, i.size, i.bytes)) = some (some (.slice none 0 0), 1, 24) := by kernel_rfl
/-- The reference's split is the law's. -/
theorem SL.pages {w5 wr : World} {a e D : Nat} {S : List Int} {deep : Nat → Nat} {n : Nat} {vd vk : Value} {vals : List Value} (h : SL w5 wr a e S deep n n vd vk vals) (hn : n = 2 ^ D) : ∃ bD cD bK cK, vd = .slice (some ⟨bD, 0, none⟩) n cD ∧ vk = .slice (some ⟨bK, 0, none⟩) n cK ∧ PgV wr n S (splitAt deep a e) bD cD bK cK vals :=
  PgV.mk_ (by rw [hn]; exact Nat.pow_pos (by decide)) h.d h.k h.r
/-- The directory twice as great. -/
def DblRel (P : Nat → Prop) (w : World) (B k : Nat) (S : List Int) (n0 D0 : Nat) (deep0 : Nat → Nat) (bD0 cD0 bK0 cK0 : Nat) (vals0 : List Value) (D1 : Nat) (dp1 : Nat → Nat) (wx : World) : Prop :=
  ∃ n D bD cD bK cK vals, AP w wx B S n0 D0 deep0 bD0 cD0 bK0 cK0 vals0 n D dp1 bD cD bK cK vals ∧ n = 2 ^ D ∧ D = (if dp1 k = D1 then D1 + 1 else D1) ∧ PIn P bD bK vals
theorem dbl_pages {w5 w7 : World} {b b' : Nat} {S S' : List Int} {n1 D1 : Nat} {dp1 : Nat → Nat} {v2 v4 : Value} {vs1 : List Value} (hd : Dir S S' D1 dp1) (hn : n1 = 2 ^ D1) (h2 : OwnInts w5 b v2 (deepL n1 dp1 ++ deepL n1 dp1)) (h4 : OwnV w7 b' v4 (vs1 ++ vs1)) (hr : ValsOf w5 vs1 (keysL n1 S dp1)) (hb : Below w5.heap.size w5 w7) :
    ∃ bD cD bK cK, v2 = .slice (some ⟨bD, 0, none⟩) (n1 + n1) cD ∧ v4 = .slice (some ⟨bK, 0, none⟩) (n1 + n1) cK ∧ PgV w7 (n1 + n1) S dp1 bD cD bK cK (vs1 ++ vs1) := by
  have h1 : 0 < n1 := by rw [hn]; exact Nat.pow_pos (by decide)
  have h2' := h2.keep fun g hg => hb.block g (World.ownsRow.lt h2 g hg).2
  rw [deepL_twice hd hn] at h2'
  have hr' := (hr.bel hb).app (hr.bel hb)
  rw [keysL_twice hd hn] at hr'
  exact PgV.mk_ (by omega) (World.ownsRow.mono h2' (Nat.zero_le _)) h4.low hr'
theorem SL.step0 {w5 wr : World} {a e : Nat} {S : List Int} {deep : Nat → Nat} {j : Nat} {vd vk : Value} {vals : List Value} (h : SL w5 wr a e S deep j j vd vk vals) : vals.length = j ∧ (deepL j (splitAt deep a e)).length = j := ⟨by rw [h.r.1, keysL_len], deepL_len _ _⟩
def SLRel (P : Nat → Prop) (w5 : World) (a e : Nat) (S : List Int) (deep : Nat → Nat) (n : Nat) (vd vk i : Value) (wr : World) : Prop := ∃ j vals, j ≤ n ∧ i = .int .i64 j ∧ SL w5 wr a e S deep j j vd vk vals ∧ AllP P vals
def MineRel (w9 : World) (L : List Int) (e : Nat) (b : Bool) (vm i : Value) (wr : World) : Prop := ∃ j : Nat, j ≤ L.length ∧ i = .int .i64 j ∧ OwnInts wr w9.heap.size vm ((L.take j).filter fun y => bitN e y == b) ∧ Below w9.heap.size w9 wr
theorem filt_succ {L : List Int} {j : Nat} (p : Int → Bool) (h : j < L.length) : (L.take (j + 1)).filter p = if p L[j] = true then (L.take j).filter p ++ [L[j]] else (L.take j).filter p := by
  rw [List.take_succ_eq_append_getElem h, List.filter_append]
  split
  · rename_i hp; simp [hp]
  · rename_i hp; simp [hp]
/-- Division of numbers from 0 on. -/
theorem div_facts (x n : Nat) : (x : Int) / (n : Int) = ((x / n : Nat) : Int) ∧ (x : Int).tdiv (n : Int) = ((x / n : Nat) : Int) ∧ (x : Int) % (n : Int) = ((x % n : Nat) : Int) ∧ (x : Int).tmod (n : Int) = ((x % n : Nat) : Int) := by
  refine ⟨by push_cast; rfl, ?_, by push_cast; rfl, ?_⟩
  · rw [Int.tdiv_eq_ediv_of_nonneg (by omega)]; push_cast; rfl
  · rw [Int.tmod_eq_emod_of_nonneg (by omega)]; push_cast; rfl
def KRel (P : Nat → Prop) (w : World) (B k : Nat) (S : List Int) (n0 D0 : Nat) (deep0 : Nat → Nat) (bD0 cD0 bK0 cK0 : Nat) (vals0 : List Value) (g : Nat) (wr : World) : Prop :=
  ∃ n D deep bD cD bK cK vals, AP w wr B S n0 D0 deep0 bD0 cD0 bK0 cK0 vals0 n D deep bD cD bK cK vals ∧ n = 2 ^ D ∧ D ≤ 6 ∧ Dir S (insK (k : Int) S) D deep ∧ g = 6 - deep k ∧ PIn P bD bK vals

end Go.Proofs.YthldhbcidcmmaaaDoor
