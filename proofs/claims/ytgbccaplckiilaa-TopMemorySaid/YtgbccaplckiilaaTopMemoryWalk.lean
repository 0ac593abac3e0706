/-
  TopMemory: the walk.
-/
import Derived.Test.YtgbccaplckiilaaBackFact
import Derived.Test.YtgbccaplckiilaaCohereLaw
import Derived.Test.YtgbccaplckiilaaTopIn
import Derived.Test.YtgbccaplckiilaaLift
import Derived.Deep.QuietTactic
import Derived.BigQuiet
import Derived.BigRegion
import Derived.StillTailTactics
import Derived.Deep.RegionHeld3
import Derived.Deep.RegionWith
namespace Go.Proofs.Ytgbccaplckiilaa
open Go.RowKit

/-- Caches and a cache over a disk, that hold the same. -/
structure TM (w0 : World) (b g n bd slots j : Nat) (wr : World) (s : Cs) (last : Nat → Int) (bs : BSt) (lb : List Int) (v : Value) : Prop where
  cat : CAt wr b g n s
  sz : Sized n s
  ci : CInv n s last
  m0 : 0 ≤ s.mv
  m1 : s.mv ≤ 5 * j
  bat : BAt wr bd v slots bs
  bi : BInv slots bs lb j j
  bel : Below w0.heap.size w0 wr
  hb : w0.heap.size ≤ b
  hg : w0.heap.size ≤ g
  hbd : w0.heap.size ≤ bd
  nb : b ≠ bd
  ng : g ≠ bd
  hv : ∀ x, v.ownBlock = some x → w0.heap.size ≤ x ∧ x ≠ b ∧ x ≠ g
section
variable {w0 wr w' : World} {b g n bd slots j : Nat} {s s' : Cs} {last last' : Nat → Int} {bs bs' : BSt} {lb lb' : List Int} {v v' : Value}
theorem TM.drewN (h : TM w0 b g n bd slots j wr s last bs lb v) (q : Nat) : TM w0 b g n bd slots j (wr.drewN q) s last bs lb v :=
  { h with cat := h.cat.keep ((Keep.refl [] wr).drewN q) (by simp), bat := h.bat.frame_keep ((Keep.refl [] wr).drewN q), bel := h.bel.trans (((Keep.refl [] wr).drewN q).below h.bel.size (by simp)) }
theorem TM.next (h : TM w0 b g n bd slots j wr s last bs lb v) : TM w0 b g n bd slots (j + 1) wr s last bs lb v :=
  { h with m1 := (by have := h.m1; omega), bi := h.bi.mono (by omega) (by omega) }
/-- The caches turn: what is asked of the cache over a disk is not asked yet. -/
theorem TM.bat' (h : TM w0 b g n bd slots j wr s last bs lb v) (hk : Keep [b, g] wr w') : BAt w' bd v slots bs :=
  ⟨h.bat.top.keep hk (by have := h.nb; have := h.ng; simp; omega), h.bat.dl, h.bat.fr.keepF hk (fun x hx e => by
    have := h.hv x e.symm
    simp at hx; omega)⟩
theorem TM.belC (h : TM w0 b g n bd slots j wr s last bs lb v) (hk : Keep [b, g] wr w') : Below w0.heap.size w0 w' :=
  h.bel.trans (hk.below h.bel.size (by have := h.hb; have := h.hg; simp; omega))
theorem TM.cohere (h : TM w0 b g n bd slots j wr s last bs lb v) (hk : Keep [b, g] wr w') (hc : CAt w' b g n s') (hz : Sized n s') (hi : CInv n s' last') (h0 : 0 ≤ s'.mv) (h1 : s'.mv ≤ 5 * ((j + 1 : Nat) : Int)) :
    TM w0 b g n bd slots (j + 1) w' s' last' bs lb v :=
  { h with cat := hc, sz := hz, ci := hi, m0 := h0, m1 := h1, bat := h.bat' hk, bi := h.bi.mono (by omega) (by omega), bel := h.belC hk }
theorem TM.keep0 (h : TM w0 b g n bd slots j wr s last bs lb v) (hk : Keep [] wr w') : TM w0 b g n bd slots j w' s last bs lb v :=
  { h with cat := h.cat.keep hk (by simp), bat := h.bat.frame_keep hk, bel := h.bel.trans (hk.below h.bel.size (by simp)) }
theorem TM.catB (h : TM w0 b g n bd slots j wr s last bs lb v) (hk : KeepO bd v wr w') : CAt w' b g n s := by
  obtain ⟨F, hF, hx⟩ := hk
  refine h.cat.keep hF ⟨fun hm => ?_, fun hm => ?_⟩
  · rcases hx b hm with e | e
    · exact h.nb e
    · exact (h.hv b e.symm).2.1 rfl
  · rcases hx g hm with e | e
    · exact h.ng e
    · exact (h.hv g e.symm).2.2 rfl
theorem TM.belB (h : TM w0 b g n bd slots j wr s last bs lb v) (hk : KeepO bd v wr w') : Below w0.heap.size w0 w' := h.bel.trans (hk.old h.bel.size h.hbd (fun x hx => (h.hv x hx).1))
theorem TM.back (h : TM w0 b g n bd slots j wr s last bs lb v) (hk : KeepO bd v wr w') (ho : OwnNew wr v v') (hb : BAt w' bd v' slots bs') (hi : BInv slots bs' lb' j j) :
    TM w0 b g n bd slots j w' s last bs' lb' v' := by
  have hv : ∀ x, v'.ownBlock = some x → w0.heap.size ≤ x ∧ x ≠ b ∧ x ≠ g := fun x hx => by
    rcases ho x hx with e | e
    · exact h.hv x e
    · have h1 := h.cat.top.lt
      have h2 := h.cat.arr.lt
      have := h.bel.size
      omega
  exact { h with cat := h.catB hk, bat := hb, bi := hi, bel := h.belB hk, hv := hv }
end

def TMRel (w : World) (b g n bd slots m : Nat) (i : Value) (wr : World) : Prop :=
  ∃ (j : Nat) (s : Cs) (last : Nat → Int) (bs : BSt) (lb : List Int) (v : Value), j ≤ m ∧ j ≤ 80 ∧ i = .int .i64 j ∧ (∀ k : Nat, k < 4 → lb.getD k 0 = last k) ∧ TM w b g n bd slots j wr s last bs lb v

theorem cohereNew_any (n : Int) (w : World) : Calls Try.prog 9 #[.int .i64 n] w fun e w' => ∃ p er, e = .returned (.tuple #[.pointer p, er]) ∧ Below w.heap.size w w' ∧ (((1 ≤ n ∧ n ≤ 4) ∧ er = .nilIface) ∨ ((n < 1 ∨ 4 < n) ∧ er = errv 1)) := by
  by_cases h : 1 ≤ n ∧ n ≤ 4
  · obtain ⟨k, rfl⟩ := Int.eq_ofNat_of_zero_le (show 0 ≤ n by omega)
    refine (cohereNew_yes k w h.1 h.2).mono ?_
    rintro e w' ⟨rfl, _, hb⟩
    exact ⟨_, _, rfl, hb, .inl ⟨h, rfl⟩⟩
  · refine (cohereNew_no n w (by omega)).mono ?_
    rintro e w' ⟨rfl, rfl⟩
    exact ⟨_, _, rfl, Below.refl _ _, .inr ⟨by omega, rfl⟩⟩
theorem bNew_any (n : Int) (w : World) : Calls Try.prog 10 #[.int .i64 n] w fun e w' => ∃ p er, e = .returned (.tuple #[.pointer p, er]) ∧ Below w.heap.size w w' ∧ (((1 ≤ n ∧ n ≤ 8) ∧ er = .nilIface) ∨ ((n < 1 ∨ 8 < n) ∧ er = errv 1)) := by
  by_cases h : 1 ≤ n ∧ n ≤ 8
  · obtain ⟨k, rfl⟩ := Int.eq_ofNat_of_zero_le (show 0 ≤ n by omega)
    refine (bNew_ok k w h.1 h.2).mono ?_
    rintro e w' ⟨rfl, _, hb⟩
    exact ⟨_, _, rfl, hb, .inl ⟨h, rfl⟩⟩
  · refine (bNew_no n w (by omega)).mono ?_
    rintro e w' ⟨rfl, rfl⟩
    exact ⟨_, _, rfl, Below.refl _ _, .inr ⟨by omega, rfl⟩⟩

def tm1 : Cs := (c0 1).write 1 0 0 3
theorem tm_a : (tm1.read 1 0 0).va 0 0 = 3 := by decide
theorem tm_b : 0 ≤ tm1.mv ∧ tm1.mv ≤ 1000 := by decide

set_option maxRecDepth 100000 in
theorem topMemory_no (n s : Int) (a : Option Addr) (m c : Nat) (w : World) (h : ¬ (1 ≤ n ∧ n ≤ 4 ∧ 1 ≤ s ∧ s ≤ 8)) :
    Calls Try.prog 3 #[.int .i64 n, .int .i64 s, .slice a m c] w fun e w' => e = .returned (.bool true) ∧ Below w.heap.size w w' := by
  go_enter Try.func3, Try.ntmps3
  go_wp2_with fail
  refine (cohereNew_any n _).mono ?_
  rintro e w1 ⟨p1, er1, rfl, hb1, hc1⟩
  go_wp2_with fail
  refine (bNew_any s _).mono ?_
  rintro e w2 ⟨p2, er2, rfl, hb2, hc2⟩
  go_wp2_with fail
  refine (cohereNew_yes 1 _ (by decide) (by decide)).mono ?_
  rintro e w3 ⟨rfl, hat, hb3⟩
  have HC : Hid (CAt w3 (w2.heap.size + 1) w2.heap.size 1 (c0 1)) := Lib.hid hat
  clear hat
  go_wp2_with fail
  refine (cWrite_yes _ _ 1 0 0 3 (c0 1) _ HC.out (by decide) (by decide) (by decide) (by decide) (by decide) (by decide) (by decide)).mono ?_
  rintro e w4 ⟨rfl, hc4, hk4⟩
  have HC4 : Hid (CAt w4 (w2.heap.size + 1) w2.heap.size 1 tm1) := Lib.hid hc4
  clear hc4
  go_wp2_with fail
  refine (cRead_yes _ _ 1 0 0 tm1 _ HC4.out (by decide) (by decide) (by decide) tm_b.1 tm_b.2).mono ?_
  rintro e w5 ⟨he, hc5, hk5⟩
  rw [tm_a] at he
  subst he
  have HB : Hid (Below w.heap.size w w5) := Lib.hid (by
    have z1 := hb1.size; have z2 := hb2.size; have z3 := hb3.size
    have b3 := (hb1.trans (hb2.mono z1)).trans (hb3.mono (by omega))
    exact b3.trans ((hk4.trans hk5).below (by omega) (by simp; omega)))
  clear hc5 hk5 hk4 HC HC4 hb1 hb2 hb3
  rcases hc1 with ⟨h1, rfl⟩ | ⟨h1, rfl⟩ <;> rcases hc2 with ⟨h2, rfl⟩ | ⟨h2, rfl⟩
  · exfalso; omega
  all_goals
    clear h
    go_wp2_with (first
      | (go_at_call 13; refine (tin_yes _ _ _ _ (by omega) (by omega)).mono ?_; rintro e w' ⟨rfl, rfl⟩)
      | (go_at_call 13; refine (tin_no _ _ _ _ (by omega)).mono ?_; rintro e w' ⟨rfl, rfl⟩))
    go_ret
    exact ⟨by simp, HB.out⟩

set_option maxHeartbeats 2000000 in
set_option maxRecDepth 100000 in
theorem topMemory_yes (n slots : Nat) (h1 : 1 ≤ (n : Int)) (h2 : (n : Int) ≤ 4) (h3 : 1 ≤ (slots : Int)) (h4 : (slots : Int) ≤ 8) (a : Option Addr) (c : Nat) (xss : List (List Int)) (w : World) (hx : RowsIn w w.heap.size a xss) (hn : xss.length ≤ maxLen) :
    Calls Try.prog 3 #[.int .i64 n, .int .i64 slots, .slice a xss.length c] w fun e w' => e = .returned (.bool true) ∧ Below w.heap.size w w' := by
  have HN := Lib.hid hn; clear hn
  have HX := Lib.hid hx; clear hx
  go_enter Try.func3, Try.ntmps3
  go_wp2_with fail
  refine (cohereNew_yes n _ h1 h2).mono ?_
  rintro e w1 ⟨rfl, hat1, hb1⟩
  go_wp2_with fail
  refine (bNew_ok slots _ h3 h4).mono ?_
  rintro e w2 ⟨rfl, hat2, hb2⟩
  go_wp2_with fail
  refine (cohereNew_yes 1 _ (by decide) (by decide)).mono ?_
  rintro e w3 ⟨rfl, hat, hb3⟩
  have HC : Hid (CAt w3 (w2.heap.size + 1) w2.heap.size 1 (c0 1)) := Lib.hid hat
  clear hat
  go_wp2_with fail
  refine (cWrite_yes _ _ 1 0 0 3 (c0 1) _ HC.out (by decide) (by decide) (by decide) (by decide) (by decide) (by decide) (by decide)).mono ?_
  rintro e w4 ⟨rfl, hc4, hk4⟩
  have HC4 : Hid (CAt w4 (w2.heap.size + 1) w2.heap.size 1 tm1) := Lib.hid hc4
  clear hc4
  go_wp2_with fail
  refine (cRead_yes _ _ 1 0 0 tm1 _ HC4.out (by decide) (by decide) (by decide) tm_b.1 tm_b.2).mono ?_
  rintro e w5 ⟨he, hc5, hk5⟩
  rw [tm_a] at he
  subst he
  have htm : TM w (w.heap.size + 1) w.heap.size n w1.heap.size slots 0 w5 (c0 n) (fun _ => 0) bs0 (List.replicate 8 0) (.slice none 0 0) := by
    have z1 := hb1.size; have z2 := hb2.size; have z3 := hb3.size
    have l1 := hat1.top.lt; have l2 := hat2.top.lt
    have k45 : Keep [w2.heap.size + 1, w2.heap.size] w3 w5 := hk4.trans hk5
    have c3 : CAt w3 (w.heap.size + 1) w.heap.size n (c0 n) := (CachesAt.keep hat1 (Keep.of_below (F := []) hb2 (Nat.le_refl _)) (by simp)).keep (Keep.of_below (F := []) hb3 (Nat.le_refl _)) (by simp)
    have b3 := (hb1.trans (hb2.mono z1)).trans (hb3.mono (by omega))
    have d3 := hat2.frame_keep (Below.keep0 hb3)
    exact ⟨c3.keep k45 (by simp; omega), (c0_inv n).1, (c0_inv n).2, Int.le_refl _, by show (0 : Int) ≤ 5 * ((0 : Nat) : Int); omega, ⟨d3.top.keep k45 (by simp; omega), d3.dl, d3.fr.keepF k45 (fun x hx e => by simp [Value.ownBlock] at e)⟩, bs0_inv slots, b3.trans (k45.below (by omega) (by simp; omega)), by omega, by omega, by omega, by omega, by omega, fun x e => by simp [Value.ownBlock] at e⟩
  have hz0 : ∀ k : Nat, k < 4 → (List.replicate 8 (0 : Int)).getD k 0 = (fun _ => (0 : Int)) k := fun k hk => by
    match k, hk with
    | 0, _ => rfl
    | 1, _ => rfl
    | 2, _ => rfl
    | 3, _ => rfl
  have HZ0 := Lib.hid hz0; clear hz0
  have HTM := Lib.hid htm
  clear htm hc5 hk5 hk4 HC HC4 hb1 hb2 hb3 hat1 hat2
  go_wp2
  go_loopw [14] (fun i wr => TMRel w (w.heap.size + 1) w.heap.size n w1.heap.size slots xss.length i wr) (fun i _ => xss.length - (intOf i).toNat)
  case atStart => exact ⟨0, _, _, _, _, _, by omega, by omega, rfl, HZ0.out, HTM.out⟩
  case round =>
    obtain ⟨j, s, last, bs, lb, v, hj, hj8, rfl, hsm, htm⟩ := hrel
    have HT := Lib.hid htm; have HSM := Lib.hid hsm; clear htm hsm
    have hbel := HT.out.bel
    have hm0 := HT.out.m0; have hm1 := HT.out.m1
    by_cases hlt : j < xss.length ∧ j < 80
    · obtain ⟨hlt, hlt8⟩ := hlt
      obtain ⟨bx, off, a', c', rfl, hbB, hcell, hrow⟩ := HX.out.at_ hlt
      have hcell2 := (hbel.cell (p := ⟨bx, off + j, none⟩) hbB).trans hcell
      obtain ⟨l, hl⟩ : ∃ l, l = xss[j] := ⟨_, rfl⟩
      obtain ⟨m, hm⟩ : ∃ m, m = l.length := ⟨_, rfl⟩
      rw [← hl] at hrow
      rw [← hl, ← hm] at hcell2
      have HR0 := Lib.hid hrow
      clear hl hcell hrow
      have hj80 : (j : Int) < 80 := by omega
      have hjn : (j : Int) < (xss.length : Int) := by omega
      have hj0 : (0 : Int) ≤ (j : Int) := by omega
      have HNX : Hid (TMRel w (w.heap.size + 1) w.heap.size n w1.heap.size slots xss.length (.int .i64 ((j : Int) + 1)) wr) := Lib.hid ⟨j + 1, s, last, bs, lb, v, hlt, by omega, by simp, HSM.out, HT.out.next⟩
      by_cases hm2 : (m : Int) < 2
      · go_wp2
        go_roundw
        case rel => exact HNX.out
        case measure => simp [intOf]; omega
      obtain ⟨x, y, rest, rfl⟩ : ∃ x y rest, l = x :: y :: rest := by
        match l, hm with
        | [], hm => simp at hm; omega
        | [_], hm => simp at hm; omega
        | x :: y :: rest, _ => exact ⟨x, y, rest, rfl⟩
      have HM := Lib.hid hm; clear hm
      obtain ⟨b3, off3, rfl, hb3, hc3⟩ := HR0.out (by simp)
      have HC3 : Hid (∀ w' : World, Below w.heap.size w w' → ∀ (i : Nat) (z : Int), (x :: y :: rest)[i]? = some z → w'.cell? ⟨b3, off3 + i, none⟩ = some (.int .i64 z)) := Lib.hid (fun w' hb i z hz => (hb.cell (p := ⟨b3, off3 + i, none⟩) hb3).trans (hc3 i z hz))
      clear hc3
      have hx0 : wr.cell? ⟨b3, off3, none⟩ = some (.int .i64 x) := HC3.out wr hbel 0 x rfl
      have hx1 : wr.cell? ⟨b3, off3 + 1, none⟩ = some (.int .i64 y) := HC3.out wr hbel 1 y rfl
      have hmg : (1 : Int) < (m : Int) := by omega
      have hmg0 : (0 : Int) < (m : Int) := by omega
      have hm3 : ¬ (m : Int) < 2 := hm2
      by_cases hxy : 0 ≤ x ∧ x ≤ (n : Int) - 1 ∧ 0 ≤ y ∧ y ≤ 3
      · obtain ⟨r1, r2, r3, r4⟩ := hxy
        obtain ⟨p, rfl⟩ := Int.eq_ofNat_of_zero_le r1
        obtain ⟨k, rfl⟩ := Int.eq_ofNat_of_zero_le r3
        have hpn : p < n := by omega
        have hk4 : k < 4 := by omega
        have hpi : (p : Int) < (n : Int) := by omega
        have hk0 : (0 : Int) ≤ (k : Int) := by omega
        have hk7 : (k : Int) ≤ 7 := by omega
        have hsl1 : 1 ≤ slots := by omega
        have hsl8 : slots ≤ 8 := by omega
        have hle := HT.out.bi.le
        have hrd0 := HT.out.bi.rd0; have hrd := HT.out.bi.rd; have hwr0 := HT.out.bi.wr0; have hwr := HT.out.bi.wr
        by_cases e2 : m = 2
        · subst e2
          obtain ⟨z1, i1, _, t1⟩ := read_inv HT.out.sz HT.out.ci hpn hk4
          have q := read_mv n p k s
          obtain ⟨bi1, d, r, hd⟩ := HT.out.bi.read hsl1 hk0 hk7
          rw [Int.toNat_natCast, HSM.out k hk4] at hd
          obtain ⟨t, ht⟩ : ∃ t, t = s.read n p k := ⟨_, rfl⟩
          obtain ⟨z, hz⟩ : ∃ z, z = last k := ⟨_, rfl⟩
          obtain ⟨u, hu⟩ : ∃ u, u = useB slots bs (k : Int) true := ⟨_, rfl⟩
          rw [← ht] at z1 i1 t1 q
          rw [← hz] at t1
          rw [← hu] at bi1 hd
          rw [← hz] at hd
          have HH1 := Lib.hid z1; have HH2 := Lib.hid i1; have HH3 := Lib.hid t1; have HH4 := Lib.hid bi1; have HH5 := Lib.hid hd; have HH6 := Lib.hid ht; have HH7 := Lib.hid hu; have HH8 := Lib.hid hz
          clear z1 i1 t1 bi1 hd ht hu hz
          have HSK : Hid (∀ w' : World, Below w.heap.size w w' → w'.cell? ⟨b3, off3, none⟩ = some (.int .i64 (p : Int)) ∧ w'.cell? ⟨b3, off3 + 1, none⟩ = some (.int .i64 (k : Int))) := Lib.hid (fun w' hb => ⟨HC3.out w' hb 0 _ rfl, HC3.out w' hb 1 _ rfl⟩)
          go_wp2_with (first
            | (go_at_call 13; refine (tin_yes _ _ _ _ (by omega) (by omega)).mono ?_; rintro e w' ⟨rfl, rfl⟩)
            | fail)
          go_region_held3 (fun w' => w'.cell? ⟨b3, off3, none⟩ = some (.int .i64 (p : Int)) ∧ w'.cell? ⟨b3, off3 + 1, none⟩ = some (.int .i64 (k : Int)))
            (first | exact HSK.out _ hbel.drew | exact HSK.out _ hbel | exact HSK.out _ HT2.out.bel | fail)
            (first
              | (go_at_call 12; refine (cRead_yes _ _ n p k s _ (HT.out.keep0 (Keep.refl _ _).drew).cat h2 hpi r4 hm0 (by omega)).mono ?_; rintro e w6 ⟨he, hc6, hk6⟩; rw [← HH6.out] at he hc6; rw [HH3.out] at he; subst he; have HT2 := Lib.hid ((HT.out.keep0 (Keep.refl _ _).drew).cohere hk6 hc6 HH1.out HH2.out (by omega) (by omega)); clear hc6 hk6)
              | fail)
          have hx0 := HC3.out w6 HT2.out.bel 0 _ rfl
          have hx1 := HC3.out w6 HT2.out.bel 1 _ rfl
          go_wp2_with fail
          refine (bRead_ok w1.heap.size k slots v bs _ HT2.out.bat hsl1 hsl8 hle HT2.out.bi.rng hk7 hrd0 (by omega) hwr0 (by omega) z d r (by rw [← HH7.out]; exact HH5.out)).mono ?_
          rintro e w7 ⟨v7, rfl, hat7, hko7, ho7⟩
          rw [← HH7.out] at hat7
          have HT3 := Lib.hid (HT2.out.back hko7 ho7 hat7 (HH4.out.mono (by omega) (by omega)))
          clear hat7 hko7 ho7
          go_wp2
          go_roundw
          case rel => exact ⟨j + 1, t, last, u, lb, v7, hlt, by omega, by simp, HSM.out, HT3.out⟩
          case measure => simp [intOf]; omega
        by_cases e3 : m = 3
        · subst e3
          obtain ⟨z, rfl⟩ : ∃ z, rest = [z] := by
            match rest, HM.out with
            | [z], _ => exact ⟨z, rfl⟩
          have hx2 : wr.cell? ⟨b3, off3 + 2, none⟩ = some (.int .i64 z) := HC3.out wr hbel 2 z rfl
          by_cases hz : 0 ≤ z ∧ z ≤ 1000
          · obtain ⟨hz0, hz1⟩ := hz
            go_wp2_with (first
              | (go_at_call 13; refine (tin_yes _ _ _ _ (by omega) (by omega)).mono ?_; rintro e w' ⟨rfl, rfl⟩)
              | fail)
            go_still_tail 10, (by kernel_rfl)
            go_wp2_with fail
            have q := write_mv n p k z s
            obtain ⟨y1, y2, _⟩ := write_inv (v := z) HT.out.sz HT.out.ci hpn hk4
            have hb2 := HT.out.bi.write hsl1 z hk0 hk7
            rw [Int.toNat_natCast] at hb2
            obtain ⟨u, hu⟩ : ∃ u, u = putB (useB slots bs (k : Int) false) z := ⟨_, rfl⟩
            rw [← hu] at hb2
            have HB2 := Lib.hid hb2; have HU := Lib.hid hu; have HY1 := Lib.hid y1; have HY2 := Lib.hid y2
            clear hb2 hu y1 y2
            have HSM2 : Hid (∀ i : Nat, i < 4 → (lb.set k z).getD i 0 = upd last k z i) := Lib.hid (fun i hi => by
              have hl8 := HT.out.bi.ll
              unfold upd
              by_cases e : i = k
              · subst e; rw [if_pos rfl, List.getD, List.getElem?_set_self (by omega)]; rfl
              · rw [if_neg e, List.getD, List.getElem?_set_ne (Ne.symm e)]; exact HSM.out i hi)
            refine (cWrite_yes _ _ n p k z s _ (HT.out.keep0 (Keep.refl _ _).drew).cat h2 hpi r4 hz0 hz1 hm0 (by omega)).mono ?_
            rintro e w6 ⟨rfl, hc6, hk6⟩
            have HT2 := Lib.hid ((HT.out.keep0 (Keep.refl _ _).drew).cohere hk6 hc6 HY1.out HY2.out (by omega) (by omega))
            clear hc6 hk6
            have hx1 := HC3.out w6 HT2.out.bel 1 _ rfl
            have hx2 := HC3.out w6 HT2.out.bel 2 _ rfl
            go_wp2
            go_still_tail 7, (by kernel_rfl)
            go_wp2_with fail
            refine (bWrite_ok w1.heap.size k slots z v bs _ (HT2.out.keep0 (Keep.refl _ _).drew).bat hsl1 hsl8 hle HT2.out.bi.rng hk7 hz0 hz1 hrd0 (by omega) hwr0 (by omega)).mono ?_
            rintro e w7 ⟨v7, rfl, hat7, hko7, ho7⟩
            rw [← HU.out] at hat7
            have HT3 := Lib.hid ((HT2.out.keep0 (Keep.refl _ _).drew).back hko7 ho7 hat7 (HB2.out.mono (by omega) (by omega)))
            clear hat7 hko7 ho7
            go_wp2
            go_quiet (fail)
            go_wp2
            go_roundw
            case rel => exact ⟨j + 1, _, _, u, _, v7, hlt, by omega, by simp, HSM2.out, HT3.out.drewN _⟩
            case measure => simp [intOf]; omega
          · go_wp2_with (first
              | (go_at_call 13; refine (tin_yes _ _ _ _ (by omega) (by omega)).mono ?_; rintro e w' ⟨rfl, rfl⟩)
              | fail)
            go_still_tail 10, (by kernel_rfl)
            go_wp2_with fail
            refine (cWrite_no _ _ n s p k z _ (HT.out.keep0 (Keep.refl _ _).drew).cat h2 (by omega)).mono ?_
            rintro e w6 ⟨rfl, hw6⟩
            have HT2 : Hid (TM w (w.heap.size + 1) w.heap.size n w1.heap.size slots j w6 s last bs lb v) := Lib.hid (hw6 ▸ HT.out.keep0 (Keep.refl _ _).drew)
            clear hw6
            have hx1 := HC3.out w6 HT2.out.bel 1 _ rfl
            have hx2 := HC3.out w6 HT2.out.bel 2 _ rfl
            go_wp2
            go_still_tail 7, (by kernel_rfl)
            go_wp2_with fail
            refine (bWrite_no w1.heap.size k z _ (by omega)).mono ?_
            rintro e w7 ⟨rfl, hw7⟩
            have HT3 : Hid (TM w (w.heap.size + 1) w.heap.size n w1.heap.size slots j w7 s last bs lb v) := Lib.hid (hw7 ▸ HT2.out.keep0 (Keep.refl _ _).drew)
            clear hw7
            go_wp2
            go_quiet (fail)
            go_wp2
            go_roundw
            case rel => exact ⟨j + 1, s, last, bs, lb, v, hlt, by omega, by simp, HSM.out, HT3.out.next.drewN _⟩
            case measure => simp [intOf]; omega
        by_cases e4 : m = 4
        · subst e4
          go_wp2_with (first
            | (go_at_call 13; refine (tin_yes _ _ _ _ (by omega) (by omega)).mono ?_; rintro e w' ⟨rfl, rfl⟩)
            | fail)
          go_still_tail 7, (by kernel_rfl)
          go_wp2_with fail
          have q := leave_mv n p k s
          obtain ⟨z1, i1⟩ := leave_inv HT.out.sz HT.out.ci hpn hk4
          refine (cLeave_yes _ _ n p k s _ (HT.out.keep0 (Keep.refl _ _).drew).cat h2 hpi r4 hm0 (by omega)).mono ?_
          rintro e w6 ⟨he, hc6, hk6⟩
          obtain ⟨ev, hev⟩ : ∃ ev, ev = (if s.st p k = 0 then errv 5 else Value.nilIface) := ⟨_, rfl⟩
          rw [← hev] at he
          subst he
          have HT2 := Lib.hid ((HT.out.keep0 (Keep.refl _ _).drew).cohere hk6 hc6 z1 i1 (by omega) (by omega))
          clear hc6 hk6 z1 i1 q
          go_wp2
          go_roundw
          case rel => exact ⟨j + 1, _, last, bs, lb, v, hlt, by omega, by simp, HSM.out, HT2.out⟩
          case measure => simp [intOf]; omega
        · have g2 : ((m : Int) == 2) = false := beq_eq_false_iff_ne.2 (by omega)
          have g3 : ((m : Int) == 3) = false := beq_eq_false_iff_ne.2 (by omega)
          have g4 : ((m : Int) == 4) = false := beq_eq_false_iff_ne.2 (by omega)
          go_wp2_with (first
            | (go_at_call 13; refine (tin_yes _ _ _ _ (by omega) (by omega)).mono ?_; rintro e w' ⟨rfl, rfl⟩)
            | fail)
          go_roundw
          case rel => exact HNX.out
          case measure => simp [intOf]; omega
      · have hcase : (x < 0 ∨ (n : Int) - 1 < x) ∨ ((0 ≤ x ∧ x ≤ (n : Int) - 1) ∧ (y < 0 ∨ 3 < y)) := by omega
        clear hxy
        rcases hcase with hr | ⟨hq, hr⟩
        all_goals
          go_wp2_with (first
            | (go_at_call 13; refine (tin_yes _ _ _ _ (by omega) (by omega)).mono ?_; rintro e w' ⟨rfl, rfl⟩)
            | (go_at_call 13; refine (tin_no _ _ _ _ (by omega)).mono ?_; rintro e w' ⟨rfl, rfl⟩))
          go_roundw
          case rel => exact HNX.out
          case measure => simp [intOf]; omega
    · have hx : ¬ (j : Int) < (xss.length : Int) ∨ ((j : Int) < (xss.length : Int) ∧ ¬ (j : Int) < 80) := by omega
      clear hlt
      rcases hx with hx | ⟨hx, hx2⟩
      all_goals
        go_wp2
        go_ret
        exact ⟨rfl, hbel⟩

theorem topMemory_walk (x0 x1 : Int) (a1 : Option Addr) (c1 : Nat) (l1 : List (List Int)) (w : World) (_ : I64 x0) (_ : I64 x1) (h2 : RowsIn w w.heap.size a1 l1) (_ : ∀ r ∈ l1, r.length ≤ maxLen ∧ ∀ y ∈ r, I64 y) (m2 : l1.length ≤ maxLen) :
    Calls Try.prog 3 #[.int .i64 x0, .int .i64 x1, .slice a1 l1.length c1] w fun e w' => e = .returned (.bool true) ∧ Below w.heap.size w w' := by
  by_cases h : 1 ≤ x0 ∧ x0 ≤ 4 ∧ 1 ≤ x1 ∧ x1 ≤ 8
  · obtain ⟨h1, h2', h3, h4⟩ := h
    obtain ⟨d, rfl⟩ := Int.eq_ofNat_of_zero_le (show 0 ≤ x0 by omega)
    obtain ⟨k, rfl⟩ := Int.eq_ofNat_of_zero_le (show 0 ≤ x1 by omega)
    exact topMemory_yes d k h1 h2' h3 h4 a1 c1 l1 w h2 m2
  · exact topMemory_no x0 x1 a1 _ c1 w h
end Go.Proofs.Ytgbccaplckiilaa
