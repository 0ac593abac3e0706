/-
  SplitDeep: the walk.
-/
import Derived.Test.YthldhbcidcmmaaaSplitFindsWalk
namespace Go.Proofs.Ythldhbcidcmmaaa
open Go.RowKit

def mx (deep : Nat → Nat) : Nat → Nat
  | 0 => 0
  | k + 1 => if mx deep k < deep k then deep k else mx deep k
theorem mx_ge {deep : Nat → Nat} : ∀ {k i : Nat}, i < k → deep i ≤ mx deep k
  | 0, i, h => by omega
  | k + 1, i, h => by
    unfold mx
    rcases Nat.lt_or_ge i k with g | g
    · have := mx_ge (deep := deep) g
      split <;> omega
    · obtain rfl : i = k := by omega
      split <;> omega
theorem mx_le {deep : Nat → Nat} {D : Nat} (h : ∀ i, deep i ≤ D) : ∀ k, mx deep k ≤ D
  | 0 => Nat.zero_le _
  | k + 1 => by
    have := mx_le h k
    have := h k
    unfold mx
    split <;> omega
theorem mx_top {S S' : List Int} {D : Nat} {deep : Nat → Nat} (h : Dir S S' D deep) : mx deep (2 ^ D) = D := by
  obtain ⟨i, hi⟩ := h.top
  have hlt : i % 2 ^ D < 2 ^ D := Nat.mod_lt _ (Nat.pow_pos (by decide))
  have e : deep (i % 2 ^ D) = deep i := h.same _ _ (by
    rw [hi, cast_mod, Nat.mod_mod])
  have h1 := mx_ge (deep := deep) hlt
  have h2 := mx_le h.le (2 ^ D)
  omega
/-- How many of a list are of a class. -/
def manyTo (hs : List Int) (k : Nat) (e : Nat) (i : Nat) : Nat := ((hs.take i).filter fun x => x % 2 ^ e == (k : Int) % 2 ^ e).length
theorem manyTo_succ {hs : List Int} {k e i : Nat} (h : i < hs.length) : manyTo hs k e (i + 1) = manyTo hs k e i + if hs[i] % 2 ^ e = (k : Int) % 2 ^ e then 1 else 0 := by
  unfold manyTo
  rw [List.take_succ_eq_append_getElem h, List.filter_append, List.length_append]
  congr 1
  by_cases g : hs[i] % 2 ^ e = (k : Int) % 2 ^ e
  · rw [if_pos g]; simp [g]
  · rw [if_neg g]; simp [g]
theorem manyTo_all {hs S : List Int} (hp : hs.Perm S) (k e : Nat) : manyTo hs k e hs.length = (cls S k e).length := by
  unfold manyTo cls
  rw [List.take_length]
  exact (hp.filter _).length_eq
theorem manyTo_le (hs : List Int) (k e i : Nat) : manyTo hs k e i ≤ hs.length := Nat.le_trans (List.length_filter_le _ _) (by rw [List.length_take]; omega)
def DeepRel3 (w5 : World) (deep : Nat → Nat) (N : Nat) (d k : Value) (wr : World) : Prop := ∃ j : Nat, j ≤ N ∧ k = .int .i64 j ∧ d = .int .i64 (mx deep j) ∧ Below w5.heap.size w5 wr
def ManyRel (w7 : World) (hs : List Int) (k e : Nat) (m i : Value) (wr : World) : Prop := ∃ j : Nat, j ≤ hs.length ∧ i = .int .i64 j ∧ m = .int .i64 (manyTo hs k e j) ∧ wr = w7

set_option maxHeartbeats 8000000 in
set_option maxRecDepth 100000 in
theorem splitDeep_walk (a0 : Option Addr) (c0 : Nat) (l0 : List Int) (w : World) (h0 : IntsIn w w.heap.size a0 l0) (_ : ∀ y ∈ l0, I64 y) (m0 : Reached l0) :
    Calls Try.prog 8 #[.slice a0 l0.length c0] w fun e w' => e = .returned (.bool true) ∧ Below w.heap.size w w' := by
  unfold Reached reachBytes at m0
  have H0 := Lib.hid h0
  obtain ⟨n, hn⟩ : ∃ n, l0.length = n := ⟨_, rfl⟩
  rw [hn] at m0 ⊢
  have HN := Lib.hid hn
  obtain ⟨i0, hi, hz0, hz1, hz2⟩ := info_parts info_int
  clear h0 hn
  go_enter Try.func8, Try.ntmps8
  go_wp2_with fail
  refine (splitFact_any _).mono ?_
  rintro e w1 ⟨rfl, hb1⟩
  have HB1 := Lib.hid hb1
  clear hb1
  go_wp2_with fail
  refine (tNew_any _).mono ?_
  rintro e w2 ⟨t, rfl, h2, hb2⟩
  have HST : Hid (TabHas w w2 t (.slice none 0 0) [] []) := Lib.hid ⟨_, h2, OwnInts.nil _ _, fun x hx => by simp [Value.ownBlock] at hx, fun x hx => by have := HB1.out.size; omega, HB1.out.trans (hb2.mono HB1.out.size), List.Perm.refl _⟩
  clear h2 hb2
  go_wp2
  go_loopw [5, 6] (fun has i wr => FindRel w t n has i wr) (fun _ i _ => n - (intOf i).toNat)
  case atStart => exact ⟨0, [], [], by omega, by omega, by simp, rfl, HST.out⟩
  case round =>
    obtain ⟨j, S, hs, hj, hj40, hsl, rfl, hth⟩ := hrel
    have HTH := Lib.hid hth
    clear hth
    by_cases hlt : j < n ∧ j < 40
    · obtain ⟨hlt, hlt40⟩ := hlt
      have hjl : j < l0.length := by rw [HN.out]; exact hlt
      obtain ⟨b, off, rfl, hb, hc⟩ := H0.out.at_ hjl
      obtain ⟨x, hx⟩ : ∃ x, x = l0[j] := ⟨_, rfl⟩
      rw [← hx] at hc
      clear hx
      obtain ⟨O, hT, hv, hno, hlo, hbel, hp⟩ := HTH.out
      have hcw := (hbel.cell (p := ⟨b, off + j, none⟩) hb).trans hc
      have hji : (j : Int) < (n : Int) := by omega
      have hj40i : (j : Int) < 40 := by omega
      have hj0 : (0 : Int) ≤ (j : Int) := by omega
      have HT := Lib.hid hT; have HV := Lib.hid hv; have HNO := Lib.hid hno; have HLO := Lib.hid hlo; have HBEL := Lib.hid hbel; have HPM := Lib.hid hp
      have HC : Hid (∀ w' : World, Below w.heap.size w w' → w'.cell? ⟨b, off + j, none⟩ = some (.int .i64 x)) := Lib.hid fun w' hb' => (hb'.cell (p := ⟨b, off + j, none⟩) hb).trans hc
      clear hT hv hno hlo hbel hp hc
      obtain ⟨k, hk⟩ : ∃ k, addE S x = k := ⟨_, rfl⟩
      by_cases h0 : k = 0
      · subst h0
        have HK := Lib.hid hk
        clear hk
        go_wp2_with fail
        refine (tAdd_yes x HT.out HK.out).mono ?_
        rintro e w3 ⟨rfl, h3, hk3⟩
        have hb3 : Below w.heap.size w w3 := HBEL.out.trans (hk3.toBelow HBEL.out.size HLO.out)
        have hc3 := HC.out w3 hb3
        have hv3 := HV.out.keepP hk3 HNO.out
        have H3 := Lib.hid h3; have HK3 := Lib.hid hk3; have HB3 := Lib.hid hb3; have HV3 := Lib.hid hv3
        have hs3 := hb3.size
        clear h3 hk3 hb3 hv3 hcw
        go_wp2_with (at_builtin; refine wpList_append_own_at _ rfl _ _ 22 rfl w.heap.size 3 i0 (.int .i64 0) 1 8 Try.underlying22 hi hz0 hz1 hz2 rfl (by decide) _ _ _ rfl (HV3.out.alloc _) ⟨w3.heap.size, 0, none⟩ 1 1 [.int .i64 x] rfl rfl (cell_one_new _ _ _) (by intro u hu; simp at hu; subst hu; rfl) (by unfold maxLen; omega) (by omega) (by simp; omega) ?_; intro v' w4 hown' hgrow _ hat; have ho : OwnInts w4 w.heap.size v' (hs ++ [x]) := (by unfold OwnInts; simpa [ints] using hown'); have HNX := Lib.hid (TabHas.yes HV.out HNO.out HLO.out HBEL.out HPM.out H3.out HK3.out ho hgrow hat); clear hown' hgrow hat ho)
        go_roundw
        case rel => exact ⟨j + 1, _, _, hlt, by omega, by simp; omega, by simp, HNX.out⟩
        case measure => simp [intOf]; omega
      · have HK := Lib.hid hk
        have HK0 := Lib.hid h0
        clear hk h0
        go_wp2_with fail
        refine (tAdd_no x k HT.out HK.out HK0.out).mono ?_
        rintro e w3 ⟨rfl, h3, hk3⟩
        have HNX := Lib.hid (TabHas.no HV.out HNO.out HLO.out HBEL.out HPM.out h3 hk3)
        clear h3 hk3 hcw
        go_wp2
        go_roundw
        case rel => exact ⟨j + 1, S, hs, hlt, by omega, by omega, by simp, HNX.out⟩
        case measure => simp [intOf]; omega
    · have hgo : (j : Int) < (n : Int) → ¬ (j : Int) < 40 := fun h => by omega
      obtain ⟨O, hT, hv, hno, hlo, hbel, hp⟩ := HTH.out
      obtain ⟨hup, hSb⟩ := hT.up
      obtain ⟨D, deep, hTD, hdir, hD6⟩ := hT.open_
      obtain ⟨av, cv, rfl, hvin⟩ := hv.shape
      obtain ⟨hl, hhl⟩ : ∃ hl, hs.length = hl := ⟨_, rfl⟩
      rw [hhl] at hsl ⊢
      have HMEM := Lib.hid HTH.out.mem
      have HTD := Lib.hid hTD; have HDIR := Lib.hid hdir; have HSB := Lib.hid hSb; have HVI := Lib.hid hvin; have HHL := Lib.hid hhl; have HBEL := Lib.hid hbel
      have HVX : Hid (∀ w', Below wr.heap.size wr w' → IntsIn w' w'.heap.size av hs ∧ TabD O w' t S D deep) := Lib.hid fun w' hb' => ⟨(hvin.below hb').more hb'.size, hTD.bel hb'⟩
      clear hT hv hno hlo hbel hp hup hSb hTD hdir hvin hhl
      have hcase : (j < n ∧ decide ((j : Int) < 40) = false) ∨ ¬ j < n := by
        rcases Nat.lt_or_ge j n with g | g
        · exact .inl ⟨g, by simp; omega⟩
        · exact .inr (by omega)
      have hD0 : (0 : Int) ≤ (D : Int) := by omega
      have hD6i : (D : Int) ≤ 6 := by omega
      obtain ⟨w5, rfl⟩ : ∃ w5, w5 = wr := ⟨_, rfl⟩
      have hx1b : decide ((j : Int) < (n : Int)) = decide (j < n) := by simp
      have HPM : Hid (hs.Perm S) := Lib.hid (by obtain ⟨_, _, _, _, _, _, h⟩ := HTH.out; exact h)
      rcases hcase with ⟨g1, g2⟩ | g1
      all_goals
        first
          | (have g3 : decide (j < n) = true := (by simpa using g1))
          | (have g3 : decide (j < n) = false := (by simpa using g1))
      all_goals clear hx1b g1
      all_goals
        go_wp2_with fail
        refine HTD.out.depth.mono ?_
        rintro e w' ⟨rfl, rfl⟩
        go_wp2_with fail
        refine (in_yes _ _ _ _ hD0 hD6i).mono ?_
        rintro e w' ⟨rfl, rfl⟩
        obtain ⟨N, hN⟩ : ∃ N, N = 2 ^ D := ⟨_, rfl⟩
        have hN64 : N ≤ 64 := by
          have : 2 ^ D ≤ 2 ^ 6 := Nat.pow_le_pow_right (by decide) (by omega)
          omega
        have HNN := Lib.hid hN
        clear hN
        go_wp2
        go_loop [8, 9] (fun p i => PowRel D p i) (fun _ i => D - (intOf i).toNat)
        case atStart => exact ⟨0, by omega, rfl, rfl⟩
        case round =>
          obtain ⟨k, hk, rfl, rfl⟩ := hrel
          have hp : 2 ^ k ≤ 2 ^ 6 := Nat.pow_le_pow_right (by decide) (by omega)
          have hs2 : 2 ^ (k + 1) = 2 ^ k * 2 := Nat.pow_succ ..
          obtain ⟨z, hz⟩ : ∃ z, z = 2 ^ k := ⟨_, rfl⟩
          rw [← hz] at hs2 hp ⊢
          have HZ := Lib.hid hz; have HS2 := Lib.hid hs2
          clear hz hs2
          by_cases hlt3 : k < D
          · have hki : (k : Int) < (D : Int) := by omega
            go_wp2
            go_round
            case rel => exact ⟨k + 1, hlt3, by simp, by rw [HS2.out]; go_num⟩
            case measure => simp [intOf]; omega
          · obtain rfl : k = D := by omega
            obtain rfl : z = N := by rw [HZ.out, HNN.out]
            go_wp2
            go_loopw [10, 11, 12, 13, 14, 15] (fun d i _ _ _ _ wr => DeepRel3 w5 deep z d i wr) (fun _ i _ _ _ _ _ => z - (intOf i).toNat)
            case atStart => exact ⟨0, by omega, rfl, rfl, Below.refl _ _⟩
            case round =>
              obtain ⟨i, hi4, rfl, rfl, hbi⟩ := hrel
              obtain ⟨hvi, hti⟩ := HVX.out _ hbi
              have HBI := Lib.hid hbi; have HTI := Lib.hid hti
              clear hvi hti hbi
              have hmxl := mx_le HDIR.out.le i
              obtain ⟨mxi, hmx⟩ : ∃ mxi, mxi = mx deep i := ⟨_, rfl⟩
              rw [← hmx] at hmxl ⊢
              have HMX := Lib.hid hmx
              clear hmx
              by_cases hlt4 : i < z
              · have hii : (i : Int) < (z : Int) := by omega
                have hi0 : (0 : Int) ≤ (i : Int) := by omega
                go_wp2_with fail
                refine (HTI.out.page i (by rw [← HNN.out]; exact hlt4)).mono ?_
                rintro e w7 ⟨a7, c7, rfl, hown7, hb7⟩
                have hbt7 : Below w5.heap.size w5 w7 := HBI.out.trans (hb7.mono HBI.out.size)
                have hde := HDIR.out.le i
                generalize (cls S i (deep i)).length = m7
                have hneed := HDIR.out.need i
                obtain ⟨ei, hei⟩ : ∃ ei, ei = deep i := ⟨_, rfl⟩
                rw [← hei] at hde hneed ⊢
                have HEI := Lib.hid hei; have HBT7 := Lib.hid hbt7; have HNEED := Lib.hid hneed
                have HV7 := Lib.hid (HVX.out _ hbt7).1
                have hei0 : (0 : Int) ≤ (ei : Int) := by omega
                have heiD : (ei : Int) ≤ (k : Int) := by omega
                clear hown7 hb7 hbt7 hei hneed
                have HNXT : Hid (mx deep (i + 1) = if mxi < ei then ei else mxi) := Lib.hid (by rw [HMX.out, HEI.out]; rfl)
                obtain ⟨nx, hnx⟩ : ∃ nx, nx = if mxi < ei then ei else mxi := ⟨_, rfl⟩
                rw [← hnx] at HNXT
                go_wp2_with fail
                refine (in_yes _ _ _ _ hei0 heiD).mono ?_
                rintro e w' ⟨rfl, rfl⟩
                have hgt : (mxi < ei ∧ Hid (nx = ei)) ∨ (¬ mxi < ei ∧ Hid (nx = mxi)) := by
                  by_cases g : mxi < ei
                  · exact .inl ⟨g, Lib.hid (by rw [hnx, if_pos g])⟩
                  · exact .inr ⟨g, Lib.hid (by rw [hnx, if_neg g])⟩
                clear hnx
                rcases hgt with ⟨g5, HG5⟩ | ⟨g5, HG5⟩
                all_goals
                  have g6 : decide ((mxi : Int) < (ei : Int)) = decide (mxi < ei) := (by simp)
                  by_cases he0 : 0 < ei
                  · have he1 : ((ei : Int) - 1) = ((ei - 1 : Nat) : Int) := (by omega)
                    have hwe : IntKind.i64.wrap (((ei - 1 : Nat)) : Int) = ((ei - 1 : Nat) : Int) := IntWalk.i64_in _ (by omega)
                    obtain ⟨e1, hee1⟩ : ∃ e1, e1 = ei - 1 := ⟨_, rfl⟩
                    rw [← hee1] at he1 hwe
                    have he0i : (0 : Int) < (ei : Int) := (by omega)
                    have he16 : e1 ≤ 6 := (by omega)
                    have HM4 : Hid (¬ (manyTo hs i e1 hl : Int) < 4) := Lib.hid (by
                      have := HNEED.out he0
                      rw [← hee1, ← manyTo_all HPM.out, HHL.out] at this
                      omega)
                    have HEE := Lib.hid hee1
                    clear hee1 g6
                    go_wp2
                    go_loopw [14, 15] (fun m i' wr => ManyRel w7 hs i e1 m i' wr) (fun _ i' _ => hl - (intOf i').toNat)
                    case atStart => exact ⟨0, by omega, rfl, rfl, rfl⟩
                    case round =>
                      obtain ⟨q, hq, rfl, rfl, hwr⟩ := hrel
                      subst hwr
                      have hqh : q ≤ hl := (by have := HHL.out; omega)
                      have hml := manyTo_le hs i e1 q
                      rw [HHL.out] at hml
                      by_cases hlt6 : q < hl
                      · have hql : q < hs.length := (by rw [HHL.out]; exact hlt6)
                        obtain ⟨bq, oq, rfl, hbb, hcq⟩ := HV7.out.at_ hql
                        have hmem := (HMEM.out _).1 (List.getElem_mem hql)
                        have HMS := Lib.hid (manyTo_succ (k := i) (e := e1) hql)
                        obtain ⟨x, hx⟩ : ∃ x, x = hs[q] := ⟨_, rfl⟩
                        rw [← hx] at hcq hmem HMS
                        obtain ⟨hx0, hx6⟩ := HSB.out x hmem
                        obtain ⟨r1, _, hr1⟩ := mod_lt_pow x e1
                        obtain ⟨r2, _, hr2⟩ := mod_lt_pow (i : Int) e1
                        have HR1 := Lib.hid hr1; have HR2 := Lib.hid hr2
                        have hqi : (q : Int) < (hl : Int) := (by omega)
                        have hq0 : (0 : Int) ≤ (q : Int) := (by omega)
                        obtain ⟨mq, hmq⟩ : ∃ mq, mq = manyTo hs i e1 q := ⟨_, rfl⟩
                        rw [← hmq] at hml HMS ⊢
                        have hcase : ((r1 = r2) ∧ Hid (manyTo hs i e1 (q + 1) = mq + 1)) ∨ ((r1 ≠ r2) ∧ Hid (manyTo hs i e1 (q + 1) = mq)) := (by
                          by_cases g : r1 = r2
                          · exact .inl ⟨g, Lib.hid (by rw [HMS.out, if_pos (by rw [HR1.out, HR2.out, g])])⟩
                          · exact .inr ⟨g, Lib.hid (by rw [HMS.out, if_neg (fun h => g (by rw [HR1.out, HR2.out] at h; omega))]; rfl)⟩)
                        clear hx hmem hr1 hr2 hmq
                        rcases hcase with ⟨g7, HG7⟩ | ⟨g7, HG7⟩
                        · have hrr : (((r1 : Nat) : Int) == ((r2 : Nat) : Int)) = true := (by rw [g7]; simp)
                          clear g7
                          go_wp2_with fail
                          refine (bits_is x e1 r1 _ hx0 hx6 he16 HR1.out).mono ?_
                          rintro e w' ⟨rfl, rfl⟩
                          go_wp2_with fail
                          refine (bits_is (i : Int) e1 r2 _ hi0 (by omega) he16 HR2.out).mono ?_
                          rintro e w' ⟨rfl, rfl⟩
                          go_wp2
                          go_roundw
                          case rel => exact ⟨q + 1, hql, by simp, by rw [HG7.out]; go_num, rfl⟩
                          case measure => simp [intOf]; omega
                        · have hrr : (((r1 : Nat) : Int) == ((r2 : Nat) : Int)) = false := beq_eq_false_iff_ne.2 (by omega)
                          clear g7
                          go_wp2_with fail
                          refine (bits_is x e1 r1 _ hx0 hx6 he16 HR1.out).mono ?_
                          rintro e w' ⟨rfl, rfl⟩
                          go_wp2_with fail
                          refine (bits_is (i : Int) e1 r2 _ hi0 (by omega) he16 HR2.out).mono ?_
                          rintro e w' ⟨rfl, rfl⟩
                          go_wp2
                          go_roundw
                          case rel => exact ⟨q + 1, hql, by simp, by rw [HG7.out], rfl⟩
                          case measure => simp [intOf]; omega
                      · obtain rfl : q = hl := (by omega)
                        have hm4 := HM4.out
                        obtain ⟨mq, hmq⟩ : ∃ mq, mq = manyTo hs i e1 q := ⟨_, rfl⟩
                        rw [← hmq] at hm4 ⊢
                        clear hmq hml
                        go_wp2
                        go_roundw
                        case rel => exact ⟨i + 1, hlt4, by simp, by rw [HNXT.out, HG5.out], HBT7.out⟩
                        case measure => simp [intOf]; omega
                  · have he0i : ¬ (0 : Int) < (ei : Int) := (by omega)
                    clear g6
                    by_cases h00 : 0 < hl
                    · have h01 : (0 : Int) < (hl : Int) := (by omega)
                      go_wp2
                      refine wp_loop_rounds 1 ?_
                      rw [rounds_succ]
                      go_wp2
                      go_roundw
                      case rel => exact ⟨i + 1, hlt4, by simp, by rw [HNXT.out, HG5.out], HBT7.out⟩
                      case measure => simp [intOf]; omega
                    · have h01 : ¬ (0 : Int) < (hl : Int) := (by omega)
                      go_wp2
                      refine wp_loop_rounds 1 ?_
                      rw [rounds_succ]
                      go_wp2
                      go_roundw
                      case rel => exact ⟨i + 1, hlt4, by simp, by rw [HNXT.out, HG5.out], HBT7.out⟩
                      case measure => simp [intOf]; omega
              · obtain rfl : i = z := (by omega)
                have hmxk : mxi = k := (by rw [HMX.out, HNN.out]; exact mx_top HDIR.out)
                have hmb : (((mxi : Nat) : Int) == ((k : Nat) : Int)) = true := (by rw [hmxk]; simp)
                clear hmxk
                go_wp2
                go_ret
                exact ⟨ret_bool (by first | rfl | exact hmb), HBEL.out.trans (HBI.out.mono HBEL.out.size)⟩
end Go.Proofs.Ythldhbcidcmmaaa
