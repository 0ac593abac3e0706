/-
  TopTables: the walk.
-/
import Derived.Test.YthldhbcidcmmaaaDoorTopTabOps
import Derived.Test.YthldhbcidcmmaaaDoorLift
namespace Go.Proofs.YthldhbcidcmmaaaDoor
open Go.RowKit

theorem rHas_is (a : Option Addr) (n c B : Nat) (l : List Int) (x : Int) (d : Bool) (w : World) (hl : l.length = n) (h : IntsIn w B a l) (hn : n ≤ 100000000000) (hd : decide (x ∈ l) = d) :
    Calls Tryd.prog 14 #[.slice a n c, .int .i64 x] w fun e w' => e = .returned (.bool d) ∧ w = w' := by
  subst hd; exact rHas a n c B l x w hl h hn
theorem addE_ne1 {S : List Int} {x : Int} (h : 0 ≤ x ∧ x ≤ 1000000) : addE S x ≠ 1 := by
  unfold addE
  rw [if_neg (fun hh => hh h)]
  repeat' split
  all_goals omega
def cSeven : List Int := (List.replicate 22 0).set 7 8
theorem drive7 : drive 0 16 7 (List.replicate 22 0) = some cSeven := by decide
theorem drop7 : dropC cSeven 7 = some (List.replicate 22 0) := by decide
theorem fine_dec {c : List Int} (h : (List.range 22).all (fun i => decide (0 ≤ c.getD i 0 ∧ c.getD i 0 ≤ 1000001)) = true) : Fine c := fun i hi => by
  rw [List.all_eq_true] at h
  simpa using h i (by simpa using hi)
theorem nAdd_seven (b : Nat) (w : World) (hs : NAt w b (List.replicate 22 0) 0) :
    Calls Tryd.prog 8 #[.pointer (some ⟨b, 0, none⟩), .int .i64 7] w fun e w' => e = .returned .nilIface ∧ NAt w' b cSeven 1 ∧ Keep [b] w w' := by
  refine (nAdd_go b _ 0 7 w hs n0_inv.fine (by decide) (by decide) (by decide) (by decide)).mono ?_
  rintro e w' (⟨c2, hd2, rfl, hn, hk⟩ | ⟨hd2, _⟩)
  · rw [drive7] at hd2
    simp only [Option.some.injEq] at hd2
    subst hd2
    exact ⟨rfl, hn, hk⟩
  · rw [drive7] at hd2; cases hd2
theorem nDrop_seven (b : Nat) (w : World) (hs : NAt w b cSeven 1) :
    Calls Tryd.prog 10 #[.pointer (some ⟨b, 0, none⟩), .int .i64 7] w fun e w' => e = .returned .nilIface ∧ NAt w' b (List.replicate 22 0) 0 ∧ Keep [b] w w' := by
  refine (nDrop_go b _ 1 7 w hs (by decide) (by decide) (by decide)).mono ?_
  rintro e w' (⟨c2, hd2, rfl, hn, hk⟩ | ⟨hd2, _⟩)
  · rw [drop7] at hd2
    simp only [Option.some.injEq] at hd2
    subst hd2
    exact ⟨rfl, hn, hk⟩
  · rw [drop7] at hd2; cases hd2

def TopRel (w : World) (b t n : Nat) (v i : Value) (wr : World) : Prop :=
  ∃ (j : Nat) (c : List Int) (m : Int) (S bo : List Int) (O : Nat → Prop), j ≤ n ∧ j ≤ 30 ∧ bo.length ≤ j ∧ i = .int .i64 j ∧ TT w wr b t c m S v bo O ∧ (live c).Perm bo ∧ ∀ x ∈ bo, x ∈ S
def TopRel2 (w : World) (b t h : Nat) (c : List Int) (m : Int) (S : List Int) (v : Value) (bo : List Int) (i : Value) (wr : World) : Prop :=
  ∃ (j : Nat) (O : Nat → Prop), j ≤ h ∧ i = .int .i64 j ∧ TT w wr b t c m S v bo O

set_option maxHeartbeats 8000000 in
set_option maxRecDepth 100000 in
theorem topTables_walk (a0 : Option Addr) (c0 : Nat) (l0 : List Int) (x1 : Int) (w : World) (h0 : IntsIn w w.heap.size a0 l0) (_ : ∀ y ∈ l0, I64 y) (m0 : Reached l0) (h1 : I64 x1) (hg : Handle w) :
    Calls Tryd.prog 3 #[.slice a0 l0.length c0, .int .i64 x1] w fun e w' => e = .returned (.bool true) ∧ Below w.heap.size w w' := by
  have hx1 := h1.bd
  unfold Reached reachBytes at m0
  have HX1 := Lib.hid hx1
  have H0 := Lib.hid h0; have HH := Lib.hid hg
  have hw0 := hg.lt
  obtain ⟨n, hn⟩ : ∃ n, l0.length = n := ⟨_, rfl⟩
  rw [hn] at m0 ⊢
  have HN := Lib.hid hn
  obtain ⟨i0, hi, hz0, hz1, hz2⟩ := info_parts info_int
  clear h0 h1 hn hx1 hg
  go_enter Tryd.func3, Tryd.ntmps3
  go_wp2_with fail
  refine (nestsNew _).mono ?_
  rintro e w1 ⟨rfl, hs1, hb1⟩
  obtain ⟨b, hbb⟩ : ∃ b, b = w.heap.size := ⟨_, rfl⟩
  rw [← hbb] at hs1 ⊢
  have HBB := Lib.hid hbb
  have HS1 := Lib.hid hs1; have HB1 := Lib.hid hb1
  clear hs1 hb1 hbb
  go_wp2_with fail
  refine (tNew_any _).mono ?_
  rintro e w2 ⟨t0, rfl, h2, hb2⟩
  have HT2 := Lib.hid h2
  have HS2 := Lib.hid (HS1.out.keep (Keep.of_below (F := []) hb2 (Nat.le_refl _)) (by simp))
  have HB2 : Hid (Below w.heap.size w w2) := Lib.hid (HB1.out.trans (hb2.mono HB1.out.size))
  have hs12 : b < w1.heap.size := HS1.out.top.lt
  clear h2 hb2
  go_wp2_with fail
  refine (nAdd_seven b _ HS2.out).mono ?_
  rintro e w3 ⟨rfl, hs3, hk3⟩
  have HS3 := Lib.hid hs3
  have HT3 := Lib.hid (HT2.out.away (hk3.toP (O := fun x => x = b) (by simp)) (fun x _ hO e => by omega))
  have HB3 : Hid (Below w.heap.size w w3) := Lib.hid (HB2.out.trans (hk3.below HB2.out.size (by simp; have := HBB.out; omega)))
  clear hs3 hk3
  go_wp2_with fail
  refine (tAdd_yes 7 HT3.out (by decide)).mono ?_
  rintro e w4 ⟨rfl, _, hk4⟩
  have HS4 : Hid (NAt w4 b cSeven 1) := Lib.hid ⟨(hk4.block b HS3.out.top.lt (fun h => by have := h.1; omega)).trans HS3.out.top, HS3.out.len⟩
  have HB4 : Hid (Below w.heap.size w w4) := Lib.hid (HB3.out.trans (hk4.toBelow HB3.out.size (fun x hx h => by have := h.1; have := HB1.out.size; omega)))
  clear hk4
  go_wp2_with fail
  refine (nDrop_seven b _ HS4.out).mono ?_
  rintro e w5 ⟨rfl, hs5, hk5⟩
  have HS5 := Lib.hid hs5
  have HB5 : Hid (Below w.heap.size w w5) := Lib.hid (HB4.out.trans (hk5.below HB4.out.size (by simp; have := HBB.out; omega)))
  clear hs5 hk5
  go_wp2_with fail
  refine (tNew_any _).mono ?_
  rintro e w6 ⟨t, rfl, h6, hb6⟩
  have HTT : Hid (TT w w6 b t (List.replicate 22 0) 0 [] (.slice none 0 0) [] (fun x => w5.heap.size ≤ x)) := Lib.hid (by
    have hbl := HS5.out.top.lt
    have hs5 := HB5.out.size
    exact { nat := HS5.out.keep (Keep.of_below (F := []) hb6 (Nat.le_refl _)) (by simp), inv := n0_inv, tab := h6, own := OwnInts.nil _ _, no := fun x hx => by simp [Value.ownBlock] at hx, nb := by omega, lo := fun x hx => by omega, b0 := by have := HBB.out; omega, bel := HB5.out.trans (hb6.mono hs5) })
  clear h6 hb6
  go_wp2
  go_loopw [7, 8, 9, 10] (fun v i _ _ wr => TopRel w b t n v i wr) (fun _ i _ _ _ => n - (intOf i).toNat)
  case atStart => exact ⟨0, _, _, [], [], _, by omega, by omega, by simp, rfl, HTT.out, by decide, by simp⟩
  case round =>
    obtain ⟨j, c, m, S, bo, O, hj, hj30, hbl, rfl, htt, hp, hsub⟩ := hrel
    have HTR := Lib.hid htt; have HPR := Lib.hid hp; have HSUB := Lib.hid hsub
    clear htt hp hsub
    by_cases hlt : j < n ∧ j < 30
    · obtain ⟨hlt, hlt30⟩ := hlt
      have hjl : j < l0.length := by rw [HN.out]; exact hlt
      obtain ⟨bx, off, rfl, hb, hc⟩ := H0.out.at_ hjl
      obtain ⟨x, hx⟩ : ∃ x, x = l0[j] := ⟨_, rfl⟩
      rw [← hx] at hc
      have HC : Hid (∀ w' : World, Below w.heap.size w w' → w'.cell? ⟨bx, off + j, none⟩ = some (.int .i64 x) ∧ Handle w') := Lib.hid fun w' hb' => ⟨(hb'.cell (p := ⟨bx, off + j, none⟩) hb).trans hc, HH.out.below hb' hw0⟩
      have hji : (j : Int) < (n : Int) := by omega
      have hj30i : (j : Int) < 30 := by omega
      have hj0 : (0 : Int) ≤ (j : Int) := by omega
      clear hx hc
      have hcw := (HC.out _ HTR.out.bel).1
      by_cases hr : 0 ≤ x ∧ x ≤ 1000000
      · obtain ⟨k, hk⟩ : ∃ k, addE S x = k := ⟨_, rfl⟩
        have HK := Lib.hid hk
        have HK1 : Hid (k ≠ 1) := Lib.hid (by rw [← hk]; exact addE_ne1 hr)
        obtain ⟨hr0, hr1⟩ := hr
        clear hk
        go_wp2_with fail
        refine (nAdd_top b c m x _ HTR.out.nat HTR.out.inv hr0 hr1).mono ?_
        rintro e w7 (⟨c', m', rfl, hn7, hi7, hp7, hk7⟩ | ⟨en, hen0, hen1, rfl, hn7, hk7⟩)
        · have HT7 := Lib.hid (HTR.out.nstep hn7 hi7 hk7)
          have HP7 := Lib.hid hp7
          clear hn7 hi7 hp7 hk7 hcw
          have hcw := (HC.out _ HT7.out.bel).1
          by_cases hk0 : k = 0
          · subst hk0
            go_wp2_with fail
            refine (tAdd_yes x HT7.out.tab HK.out).mono ?_
            rintro e w8 ⟨rfl, h8, hk8⟩
            have HT8 := Lib.hid (HT7.out.tstep h8 hk8)
            clear h8 hk8 hcw
            go_wp2_with fail
            refine (eErr_nil 1 _ (by decide)).mono ?_
            rintro e w9 ⟨rfl, hb9⟩
            obtain ⟨O9, ht9⟩ := HT8.out.below hb9
            have HT9 := Lib.hid ht9
            clear ht9 hb9
            go_wp2_with fail
            refine (eErr_nil 1 _ (by decide)).mono ?_
            rintro e w10 ⟨rfl, hb10⟩
            obtain ⟨O10, ht10⟩ := HT9.out.below hb10
            have HT10 := Lib.hid ht10
            clear ht10 hb10
            have hcw := (HC.out _ HT10.out.bel).1
            have hs10 := HT10.out.bel.size
            go_wp2_with (at_builtin; refine wpList_append_own_at _ rfl _ _ 22 rfl w.heap.size 3 i0 (.int .i64 0) 1 8 Tryd.underlying22 hi hz0 hz1 hz2 rfl (by decide) _ _ _ rfl (HT10.out.own.alloc _) ⟨w10.heap.size, 0, none⟩ 1 1 [.int .i64 x] rfl rfl (cell_one_new _ _ _) (by intro u hu; simp at hu; subst hu; rfl) (by unfold maxLen; omega) (by omega) (by simp; omega) ?_; intro v' w11 hown' hgrow _ hat; have ho : OwnInts w11 w.heap.size v' (bo ++ [x]) := (by unfold OwnInts; simpa [ints] using hown'); have HNX := Lib.hid (HT10.out.app ho hgrow hat); clear hown' hgrow hat ho)
            obtain ⟨O11, ht11⟩ := HNX.out
            have HT11 := Lib.hid ht11
            clear ht11
            go_roundw
            case rel =>
              refine ⟨j + 1, _, _, _, _, _, hlt, by omega, by simp; omega, by simp, HT11.out, ?_, ?_⟩
              · exact HP7.out.trans ((HPR.out.cons x).trans (List.perm_append_comm (l₁ := [x]) (l₂ := bo)))
              · intro y hy
                rw [List.mem_append, List.mem_singleton] at hy
                rcases hy with hy | rfl
                · exact mem_insK.2 (.inr (HSUB.out y hy))
                · exact mem_insK.2 (.inl rfl)
            case measure => simp [intOf]; omega
          · have HK0 := Lib.hid hk0
            clear hk0
            go_wp2_with fail
            refine (tAdd_no x k HT7.out.tab HK.out HK0.out).mono ?_
            rintro e w8 ⟨rfl, h8, hk8⟩
            have HT8 := Lib.hid (HT7.out.tstep h8 hk8)
            clear h8 hk8 hcw
            go_wp2_with fail
            refine (eErr_nil 1 _ (by decide)).mono ?_
            rintro e w9 ⟨rfl, hb9⟩
            obtain ⟨O9, ht9⟩ := HT8.out.below hb9
            have HT9 := Lib.hid ht9
            clear ht9 hb9
            go_wp2_with fail
            refine (eErr_no k 1 _ (HC.out _ HT9.out.bel).2 HK1.out).mono ?_
            rintro e w10 ⟨rfl, hb10⟩
            obtain ⟨O10, ht10⟩ := HT9.out.below hb10
            have HT10 := Lib.hid ht10
            clear ht10 hb10
            have hcw := (HC.out _ HT10.out.bel).1
            go_wp2_with fail
            refine (nDrop_top b c' m' x _ HT10.out.nat HT10.out.inv hr0 hr1 (HP7.out.mem_iff.2 (by simp))).mono ?_
            rintro e w11 ⟨c'', m'', rfl, hn11, hi11, hp11, hk11⟩
            have HT11 := Lib.hid (HT10.out.nstep hn11 hi11 hk11)
            have HP11 : Hid ((live c'').Perm bo) := Lib.hid (((List.perm_cons x).1 (hp11.trans HP7.out)).trans HPR.out)
            clear hn11 hi11 hp11 hk11
            go_wp2
            go_roundw
            case rel => exact ⟨j + 1, _, _, _, _, _, hlt, by omega, by omega, by simp, HT11.out, HP11.out, HSUB.out⟩
            case measure => simp [intOf]; omega
        · have HT7 := Lib.hid (HTR.out.nstep hn7 HTR.out.inv hk7)
          have HE1 := Lib.hid hen1
          clear hn7 hk7 hcw hen0 hen1
          have hcw := (HC.out _ HT7.out.bel).1
          by_cases hk0 : k = 0
          · subst hk0
            go_wp2_with fail
            refine (tAdd_yes x HT7.out.tab HK.out).mono ?_
            rintro e w8 ⟨rfl, h8, hk8⟩
            have HT8 := Lib.hid (HT7.out.tstep h8 hk8)
            clear h8 hk8 hcw
            go_wp2_with fail
            refine (eErr_no en 1 _ (HC.out _ HT8.out.bel).2 HE1.out).mono ?_
            rintro e w9 ⟨rfl, hb9⟩
            obtain ⟨O9, ht9⟩ := HT8.out.below hb9
            have HT9 := Lib.hid ht9
            clear ht9 hb9
            go_wp2_with fail
            refine (eErr_nil 1 _ (by decide)).mono ?_
            rintro e w10 ⟨rfl, hb10⟩
            obtain ⟨O10, ht10⟩ := HT9.out.below hb10
            have HT10 := Lib.hid ht10
            clear ht10 hb10
            go_wp2
            go_roundw
            case rel => exact ⟨j + 1, _, _, _, _, _, hlt, by omega, by omega, by simp, HT10.out, HPR.out, fun y hy => mem_insK.2 (.inr (HSUB.out y hy))⟩
            case measure => simp [intOf]; omega
          · have HK0 := Lib.hid hk0
            clear hk0
            go_wp2_with fail
            refine (tAdd_no x k HT7.out.tab HK.out HK0.out).mono ?_
            rintro e w8 ⟨rfl, h8, hk8⟩
            have HT8 := Lib.hid (HT7.out.tstep h8 hk8)
            clear h8 hk8 hcw
            go_wp2_with fail
            refine (eErr_no en 1 _ (HC.out _ HT8.out.bel).2 HE1.out).mono ?_
            rintro e w9 ⟨rfl, hb9⟩
            obtain ⟨O9, ht9⟩ := HT8.out.below hb9
            have HT9 := Lib.hid ht9
            clear ht9 hb9
            go_wp2_with fail
            refine (eErr_no k 1 _ (HC.out _ HT9.out.bel).2 HK1.out).mono ?_
            rintro e w10 ⟨rfl, hb10⟩
            obtain ⟨O10, ht10⟩ := HT9.out.below hb10
            have HT10 := Lib.hid ht10
            clear ht10 hb10
            go_wp2
            go_roundw
            case rel => exact ⟨j + 1, _, _, _, _, _, hlt, by omega, by omega, by simp, HT10.out, HPR.out, HSUB.out⟩
            case measure => simp [intOf]; omega
      · have HR : Hid (x < 0 ∨ 1000000 < x) := Lib.hid (by omega)
        have HK : Hid (addE S x = 1) := Lib.hid (by unfold addE; rw [if_pos hr])
        clear hr
        go_wp2_with fail
        refine (nAdd_range b x _ HR.out).mono ?_
        rintro e w7 ⟨rfl, rfl⟩
        go_wp2_with fail
        refine (tAdd_no x 1 HTR.out.tab HK.out (by decide)).mono ?_
        rintro e w8 ⟨rfl, h8, hk8⟩
        have HT8 := Lib.hid (HTR.out.tstep h8 hk8)
        clear h8 hk8 hcw
        go_wp2_with fail
        refine (eErr_is 1 _ (HC.out _ HT8.out.bel).2).mono ?_
        rintro e w9 ⟨rfl, hb9⟩
        obtain ⟨O9, ht9⟩ := HT8.out.below hb9
        have HT9 := Lib.hid ht9
        clear ht9 hb9
        go_wp2_with fail
        refine (eErr_is 1 _ (HC.out _ HT9.out.bel).2).mono ?_
        rintro e w10 ⟨rfl, hb10⟩
        obtain ⟨O10, ht10⟩ := HT9.out.below hb10
        have HT10 := Lib.hid ht10
        clear ht10 hb10
        go_wp2
        go_roundw
        case rel => exact ⟨j + 1, _, _, _, _, _, hlt, by omega, by omega, by simp, HT10.out, HPR.out, HSUB.out⟩
        case measure => simp [intOf]; omega
    · obtain ⟨av, cv, rfl, _⟩ := HTR.out.own.shape
      obtain ⟨hl, hhl⟩ : ∃ hl, bo.length = hl := ⟨_, rfl⟩
      rw [hhl] at hbl HTR ⊢
      have HHL := Lib.hid hhl
      have HVI : Hid (∀ (w' : World) (O' : Nat → Prop), TT w w' b t c m S (.slice av hl cv) bo O' → IntsIn w' w'.heap.size av bo) := Lib.hid fun w' O' ht => by
        obtain ⟨a2, c2, e2, hin⟩ := ht.own.shape
        simp only [Value.slice.injEq] at e2
        rw [e2.1]; exact hin
      clear hhl
      have hcase : (j < n ∧ decide ((j : Int) < 30) = false) ∨ ¬ j < n := by
        rcases Nat.lt_or_ge j n with g | g
        · exact .inl ⟨g, by simp; omega⟩
        · exact .inr (by omega)
      have hx1b : decide ((j : Int) < (n : Int)) = decide (j < n) := by simp
      obtain ⟨bv, hbv⟩ : ∃ bv, decide (x1 ∈ live c) = bv := ⟨_, rfl⟩
      have HBV := Lib.hid hbv
      have HBV2 : Hid (decide (x1 ∈ bo) = bv) := Lib.hid (by rw [← hbv]; exact decide_eq_decide.2 HPR.out.mem_iff.symm)
      clear hbv hlt
      rcases hcase with ⟨g1, g2⟩ | g1
      all_goals
        first
          | (have g3 : decide (j < n) = true := (by simpa using g1))
          | (have g3 : decide (j < n) = false := (by simpa using g1))
      all_goals clear hx1b g1
      all_goals
        go_wp2
        go_loopw [11] (fun i wr => TopRel2 w b t hl c m S (.slice av hl cv) bo i wr) (fun i _ => hl - (intOf i).toNat)
        case atStart => exact ⟨0, O, by omega, rfl, HTR.out⟩
        case round =>
          obtain ⟨q, O2, hq, rfl, ht2⟩ := hrel
          have HT2 := Lib.hid ht2
          have hvi := HVI.out _ _ ht2
          clear ht2
          by_cases hlt : q < hl
          · have hql : q < bo.length := by rw [HHL.out]; exact hlt
            obtain ⟨bq, oq, rfl, hbb, hcq⟩ := hvi.at_ hql
            have hmem := List.getElem_mem hql
            obtain ⟨x, hx⟩ : ∃ x, x = bo[q] := ⟨_, rfl⟩
            rw [← hx] at hcq hmem
            have hxS := HSUB.out x hmem
            have hxb := HT2.out.tab.up.2 x hxS
            have HD1 : Hid (decide (x ∈ live c) = true) := Lib.hid (by simpa using HPR.out.mem_iff.2 hmem)
            have HD2 : Hid (decide (x ∈ S) = true) := Lib.hid (by simpa using hxS)
            have hqi : (q : Int) < (hl : Int) := by omega
            have hq0 : (0 : Int) ≤ (q : Int) := by omega
            clear hx hmem hxS hvi
            go_wp2_with fail
            refine (nHas_top b c m x _ true HD1.out HT2.out.nat HT2.out.inv (by omega)).mono ?_
            rintro e w7 ⟨rfl, hb7⟩
            have hcq7 := (hb7.cell (p := ⟨bq, oq + q, none⟩) hbb).trans hcq
            obtain ⟨O7, ht7⟩ := HT2.out.below hb7
            have HT7 := Lib.hid ht7
            obtain ⟨D, deep, htd, _, _⟩ := ht7.tab.open_
            have HTD := Lib.hid htd
            clear ht7 hb7 hcq htd
            go_wp2_with fail
            refine (HTD.out.has x true (by omega) HD2.out).mono ?_
            rintro e w8 ⟨rfl, hk8⟩
            obtain ⟨O8, ht8⟩ := HT7.out.below (hk8.below (Nat.le_refl _) (by simp))
            have HT8 := Lib.hid ht8
            clear ht8 hk8
            go_wp2
            go_roundw
            case rel => exact ⟨q + 1, _, hlt, by simp, HT8.out⟩
            case measure => simp [intOf]; omega
          · obtain rfl : q = hl := by omega
            have HVJ := Lib.hid hvi
            clear hvi
            go_wp2_with fail
            refine (nHas_top b c m x1 _ bv HBV.out HT2.out.nat HT2.out.inv HX1.out).mono ?_
            rintro e w7 ⟨rfl, hb7⟩
            have HB7 : Hid (Below w.heap.size w w7) := Lib.hid (HT2.out.bel.trans (hb7.mono HT2.out.bel.size))
            have HVK := Lib.hid (HVJ.out.below hb7)
            clear hb7
            go_wp2_with fail
            refine (rHas_is av q cv _ bo x1 bv _ HHL.out HVK.out (by omega) HBV2.out).mono ?_
            rintro e w' ⟨rfl, rfl⟩
            go_wp2
            go_ret
            exact ⟨by simp, HB7.out⟩
end Go.Proofs.YthldhbcidcmmaaaDoor
