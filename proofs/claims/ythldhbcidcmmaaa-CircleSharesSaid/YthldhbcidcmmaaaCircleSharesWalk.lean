/-
  CircleShares: the plain law, the walk.
-/
import Derived.Test.YthldhbcidcmmaaaCircleMovesWalk
import Derived.Test.YthldhbcidcmmaaaSameSum
namespace Go.Proofs.Ythldhbcidcmmaaa
open Go.RowKit

theorem sum_add (f h : Int → Int) : ∀ l : List Int, (l.map fun v => f v + h v).sum = (l.map f).sum + (l.map h).sum
  | [] => by simp
  | x :: l => by have := sum_add f h l; simp only [List.map_cons, List.sum_cons]; omega
theorem sum_none (o : Int) : ∀ l : List Int, ¬ o ∈ l → (l.map fun v => if o = v then (1 : Int) else 0).sum = 0
  | [], _ => by simp
  | x :: l, h => by
    simp only [List.mem_cons, not_or] at h
    have := sum_none o l h.2
    simp only [List.map_cons, List.sum_cons, if_neg h.1]
    omega
theorem sum_one (o : Int) : ∀ l : List Int, l.Nodup → o ∈ l → (l.map fun v => if o = v then (1 : Int) else 0).sum = 1
  | [], _, h => by simp at h
  | x :: l, hn, h => by
    rw [List.nodup_cons] at hn
    simp only [List.map_cons, List.sum_cons]
    by_cases e : o = x
    · subst e
      rw [if_pos rfl, sum_none o l hn.1]
      rfl
    · rw [if_neg e, sum_one o l hn.2 (by simpa [e] using h)]
      rfl
theorem shares_sum {l : List Int} (hn : l.Nodup) (hne : l ≠ []) : ∀ k, (shares l k).sum = k
  | 0 => by rw [shares_zero]; induction l.length with
    | zero => rfl
    | succ n ih => rw [List.replicate_succ, List.sum_cons, ih]; rfl
  | k + 1 => by
    have ih := shares_sum hn hne k
    have e : shares l (k + 1) = l.map fun v => cnt l k v + if ownO k l = v then 1 else 0 := rfl
    rw [e, sum_add, sum_one _ l hn (ownO_mem k hne)]
    unfold shares at ih
    rw [ih]
    omega
theorem cnt_less {l : List Int} {x v : Int} (hne : l ≠ []) (hv : v ≠ x) : ∀ k, cnt (l ++ [x]) k v ≤ cnt l k v
  | 0 => Int.le_refl _
  | k + 1 => by
    have ih := cnt_less hne hv k
    unfold cnt
    have hm := own_moves k hne x
    by_cases e : ownO k (l ++ [x]) = v
    · rw [if_pos e]
      have : ownO k l = v := by
        rcases hm with h | h
        · rw [← h]; exact e
        · exact absurd (by rw [← e]; exact h) hv
      rw [if_pos this]; omega
    · rw [if_neg e]
      split <;> omega

def CsRel (w6 : World) (n : Nat) (i : Value) (wr : World) : Prop := ∃ k : Nat, k ≤ n ∧ i = .int .i64 k ∧ Keep [] w6 wr

set_option maxHeartbeats 4000000 in
set_option maxRecDepth 100000 in
theorem circleShares_walk (a0 : Option Addr) (c0 : Nat) (l0 : List Int) (x1 : Int) (w : World) (h0 : IntsIn w w.heap.size a0 l0) (_ : ∀ y ∈ l0, I64 y) (m0 : Reached l0) (z0 : (a0 = none → c0 = 0) ∧ l0.length ≤ c0) (_ : I64 x1) :
    Calls Try.prog 4 #[.slice a0 l0.length c0, .int .i64 x1] w fun e w' => e = .returned (.bool true) ∧ Below w.heap.size w w' := by
  obtain ⟨z1, z2⟩ := z0
  unfold Reached reachBytes at m0
  have H0 := Lib.hid h0; have HZ1 := Lib.hid z1; have HZ2 := Lib.hid z2; clear h0 z1 z2
  obtain ⟨n, hn⟩ : ∃ n, n = l0.length := ⟨_, rfl⟩
  rw [← hn] at HZ2 m0 ⊢
  have HN := Lib.hid hn; clear hn
  obtain ⟨i0, hi, hz0, hz1, hz2⟩ := info_parts info_int
  go_enter Try.func4, Try.ntmps4
  go_wp2_with fail
  refine (circleFact_any _).mono ?_
  rintro e wf ⟨rfl, hbf⟩
  have hsf := hbf.size
  have HBF := Lib.hid hbf; clear hbf
  have H1 : Hid (IntsIn wf wf.heap.size a0 l0) := Lib.hid ((H0.out.below HBF.out).more hsf)
  go_wp2_with fail
  refine (shares_any a0 n c0 l0 _ HN.out.symm H1.out HZ2.out).mono ?_
  rintro e w1 ⟨hb1, ⟨hg, rfl, hblk⟩ | ⟨hno, er, rfl⟩⟩
  · have HB1 : Hid (Below w.heap.size w w1) := Lib.hid (HBF.out.trans (hb1.mono hsf))
    have hs1 := HB1.out.size
    have HI1 : Hid (IntsIn w1 w.heap.size a0 l0) := Lib.hid (H0.out.below HB1.out)
    obtain ⟨g1, hg1⟩ : ∃ g, g = wf.heap.size := ⟨_, rfl⟩
    rw [← hg1] at hblk ⊢
    rw [← HN.out]
    obtain ⟨S, hS⟩ : ∃ S, S = if l0 = [] then [] else shares l0 1000 := ⟨_, rfl⟩
    rw [← hS] at hblk
    have hSl : S.length = n := by
      rw [hS, HN.out]
      by_cases e : l0 = []
      · rw [if_pos e, e]
      · rw [if_neg e, shares_len]
    have hS0 : ∀ x ∈ S, 0 ≤ x := fun x hx => by
      rw [hS] at hx
      by_cases e : l0 = []
      · rw [if_pos e] at hx; simp at hx
      · rw [if_neg e] at hx
        unfold shares at hx
        rw [List.mem_map] at hx
        obtain ⟨v, _, rfl⟩ := hx
        exact (cnt_bd l0 1000 v).1
    have hSs : 0 < n → S.sum = 1000 := fun h => by
      have e : l0 ≠ [] := fun h2 => by rw [HN.out, h2] at h; simp at h
      rw [hS, if_neg e]
      exact shares_sum hg.2.2 e 1000
    have hn12 : n ≤ 12 := by rw [HN.out]; exact hg.1
    have hn12i : (n : Int) ≤ 12 := by omega
    have HG := Lib.hid hg; have HBLK := Lib.hid hblk; have HSL := Lib.hid hSl; have HS0 := Lib.hid hS0; have HSS := Lib.hid hSs; have HSD := Lib.hid hS; have HG1 := Lib.hid hg1
    have HIS : Hid (IntsIn w1 w1.heap.size (some ⟨g1, 0, none⟩) S) := Lib.hid (fun _ => ⟨g1, 0, rfl, hblk.lt, fun i x hx => by rw [Nat.zero_add]; exact hblk.cell_ (ints_get hx)⟩)
    clear hb1 hblk hS hSl hS0 hSs hg hg1
    have hpart : Hid (n = 0) ∨ 0 < n := by
      rcases Nat.eq_zero_or_pos n with h | h
      · exact .inl (Lib.hid h)
      · exact .inr h
    rcases hpart with hz | hpos
    focus
      have hzi : decide ((0 : Int) < (n : Int)) = false := by rw [decide_eq_false_iff_not]; have := hz.out; omega
      go_wp2_with (first
        | (at_builtin; refine wpList_append_src rfl (.tmp 39) (.tmp 40) 22 rfl w1.heap.size 3 i0 (.int .i64 0) 8 Try.underlying22 hi hz0 hz1 hz2 rfl (.slice none 0 0) 0 [] rfl (World.ownsRow_nil _ _ _ _) a0 n c0 (ints l0) rfl (src_ints HN.out.symm HI1.out HZ1.out) (ints_one _) (by unfold maxLen; omega) (by omega) (Nat.le_refl _) ?_; intro v4 w4 hown4 hgrow4; have hk4 : Keep [] w1 w4 := (Keep.refl [] w1).grown hgrow4 (by simp [Value.ownBlock]); simp only [Nat.zero_add, List.nil_append] at hown4; have HO4 := Lib.hid hown4; have HK4 := Lib.hid hk4; clear hown4 hgrow4 hk4)
        | (at_builtin; refine wpList_append_own _ rfl _ _ 22 rfl w1.heap.size 3 i0 (.int .i64 0) 1 8 Try.underlying22 hi hz0 hz1 hz2 rfl (by decide) _ _ _ rfl (HO4.out.alloc _) ⟨w4.heap.size, 0, none⟩ 1 1 [.int .i64 x1] rfl rfl (by intro p u hp; match p, hp with | 0, hp => simp at hp; subst hp; simp [Addr.add]) (by intro u hu; simp at hu; subst hu; rfl) (by unfold maxLen; omega) (by omega) (by have := HK4.out.size; simp; omega) ?_; intro v5 w5 hown5 hgrow5 hlies; (obtain ⟨a5, c5, rfl, hin5, hc5⟩ := own_row HN.out hown5); have hk5 : Keep [] w1 w5 := (HK4.out.alloc _).grown hgrow5 (fun k hk hlt => absurd (HO4.out.lt k hk).1 (by omega)); have HK5 := Lib.hid hk5; have HI5 := Lib.hid hin5; have HC5 := Lib.hid hc5; clear hown5 hgrow5 hlies hin5 hk5 hc5))
      all_goals (try (exfalso; have := hz.out; omega))
    rotate_left 1
    focus
      have hzi : (0 : Int) < (n : Int) := by omega
      have hsum := HSS.out hpos
      go_wp2_with fail
      refine (sum_small (some ⟨g1, 0, none⟩) n n _ S _ HSL.out HIS.out HS0.out (by rw [hsum]; decide) (by omega)).mono ?_
      rintro e w2 ⟨rfl, rfl⟩
      rw [hsum]
      clear hsum
      go_wp2_with (first
        | (at_builtin; refine wpList_append_src rfl (.tmp 39) (.tmp 40) 22 rfl w1.heap.size 3 i0 (.int .i64 0) 8 Try.underlying22 hi hz0 hz1 hz2 rfl (.slice none 0 0) 0 [] rfl (World.ownsRow_nil _ _ _ _) a0 n c0 (ints l0) rfl (src_ints HN.out.symm HI1.out HZ1.out) (ints_one _) (by unfold maxLen; omega) (by omega) (Nat.le_refl _) ?_; intro v4 w4 hown4 hgrow4; have hk4 : Keep [] w1 w4 := (Keep.refl [] w1).grown hgrow4 (by simp [Value.ownBlock]); simp only [Nat.zero_add, List.nil_append] at hown4; have HO4 := Lib.hid hown4; have HK4 := Lib.hid hk4; clear hown4 hgrow4 hk4)
        | (at_builtin; refine wpList_append_own _ rfl _ _ 22 rfl w1.heap.size 3 i0 (.int .i64 0) 1 8 Try.underlying22 hi hz0 hz1 hz2 rfl (by decide) _ _ _ rfl (HO4.out.alloc _) ⟨w4.heap.size, 0, none⟩ 1 1 [.int .i64 x1] rfl rfl (by intro p u hp; match p, hp with | 0, hp => simp at hp; subst hp; simp [Addr.add]) (by intro u hu; simp at hu; subst hu; rfl) (by unfold maxLen; omega) (by omega) (by have := HK4.out.size; simp; omega) ?_; intro v5 w5 hown5 hgrow5 hlies; (obtain ⟨a5, c5, rfl, hin5, hc5⟩ := own_row HN.out hown5); have hk5 : Keep [] w1 w5 := (HK4.out.alloc _).grown hgrow5 (fun k hk hlt => absurd (HO4.out.lt k hk).1 (by omega)); have HK5 := Lib.hid hk5; have HI5 := Lib.hid hin5; have HC5 := Lib.hid hc5; clear hown5 hgrow5 hlies hin5 hk5 hc5))
    all_goals
      refine (shares_any a5 (n + 1) c5 (l0 ++ [x1]) _ (by rw [List.length_append, HN.out]; rfl) HI5.out HC5.out).mono ?_
      rintro e w6 ⟨hb6, ⟨hg6, rfl, hblk6⟩ | ⟨hno6, er6, rfl⟩⟩
      · have HB6 : Hid (Below w.heap.size w w6) := Lib.hid ((HB1.out.trans (HK5.out.below hs1 (by simp))).trans (hb6.mono (by have := HK5.out.size; omega)))
        have hk6 : Keep [] w1 w6 := HK5.out.trans (Keep.of_below hb6 (Nat.le_refl _))
        rw [if_neg (by simp)] at hblk6
        have hblk1 := HBLK.out.keep hk6 (by simp)
        have hlen6 : (l0 ++ [x1]).length = n + 1 := by rw [List.length_append, HN.out]; rfl
        rw [hlen6]
        obtain ⟨g6, hg6e⟩ : ∃ g, g = w5.heap.size := ⟨_, rfl⟩
        rw [← hg6e] at hblk6 ⊢
        have hcells : ∀ i, i < n → ∃ u v : Int, v ≤ u ∧ 0 ≤ u ∧ w6.cell? ⟨g1, i, none⟩ = some (.int .i64 u) ∧ w6.cell? ⟨g6, i, none⟩ = some (.int .i64 v) := fun i hi => by
          have hil : i < l0.length := by rw [← HN.out]; exact hi
          have hne : l0 ≠ [] := fun h => by rw [h] at hil; simp at hil
          have hnx : l0[i] ≠ x1 := fun h => by
            have := hg6.2.2
            rw [List.nodup_append] at this
            exact this.2.2 _ (List.getElem_mem hil) x1 (by simp) h
          refine ⟨cnt l0 1000 l0[i], cnt (l0 ++ [x1]) 1000 l0[i], cnt_less hne hnx 1000, (cnt_bd l0 1000 _).1, hblk1.cell_ (ints_get ?_), hblk6.cell_ (ints_get ?_)⟩
          · rw [HSD.out, if_neg hne]; exact shares_get hil
          · have hil2 : i < (l0 ++ [x1]).length := by rw [hlen6]; omega
            rw [shares_get hil2, List.getElem_append_left hil]
        have HCELLS := Lib.hid hcells
        have HL1 := Lib.hid hblk1.lt; have HL6 := Lib.hid hblk6.lt
        clear hb6 hblk6 hblk1 hcells hlen6 hg6e hk6 hg6
        go_wp2
        go_loopw [10] (fun i wr => CsRel w6 n i wr) (fun i _ => n - (intOf i).toNat)
        case atStart => exact ⟨0, by omega, rfl, Keep.refl _ _⟩
        case round =>
          obtain ⟨k, hk, rfl, hkr⟩ := hrel
          have HKR := Lib.hid hkr; clear hkr
          by_cases hlt : k < n
          · obtain ⟨u, v, huv, hu0, hcu, hcv⟩ := HCELLS.out k hlt
            have hcu2 := (HKR.out.cell (p := ⟨g1, k, none⟩) HL1.out (by simp)).trans hcu
            have hcv2 := (HKR.out.cell (p := ⟨g6, k, none⟩) HL6.out (by simp)).trans hcv
            clear hcu hcv
            have hki : (k : Int) < (n : Int) := by omega
            have hk0 : (0 : Int) ≤ (k : Int) := by omega
            have hkm : (k : Int) < (n : Int) + 1 := by omega
            have hkm2 : (k : Int) < ((n + 1 : Nat) : Int) := by omega
            have hd1 : decide (((n + 1 : Nat) : Int) ≤ (k : Int)) = false := by simp; omega
            have hd1' : decide ((n : Int) + 1 ≤ (k : Int)) = false := by simp; omega
            have hd2 : decide (u < v) = false := by simp; omega
            have hd3 : decide (u < 0) = false := by simp; omega
            go_wp2
            go_quiet (fail)
            go_wp2
            go_roundw
            case rel => exact ⟨k + 1, hlt, by simp, HKR.out.drewN _⟩
            case measure => simp [intOf]; omega
          · have hki : ¬ (k : Int) < (n : Int) := by omega
            go_wp2
            go_ret
            exact ⟨by simp, HB6.out.trans (HKR.out.below HB6.out.size (by simp))⟩
      · have HB6 : Hid (Below w.heap.size w w6) := Lib.hid ((HB1.out.trans (HK5.out.below hs1 (by simp))).trans (hb6.mono (by have := HK5.out.size; omega)))
        clear hb6
        go_wp2
        go_ret
        exact ⟨rfl, HB6.out⟩
  · have HB1 : Hid (Below w.heap.size w w1) := Lib.hid (HBF.out.trans (hb1.mono hsf))
    clear hb1
    go_wp2
    go_ret
    exact ⟨by simp, HB1.out⟩
end Go.Proofs.Ythldhbcidcmmaaa
