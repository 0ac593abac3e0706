/-
  BookKeeps: the walk.
-/
import Derived.Test.YticckfioggeaeaaDoorGL
import Derived.Test.YticckfioggeaeaaDoorBookKeepsLaw
import Derived.Test.YticckfioggeaeaaDoorGA
import Derived.Deep.DeepCutAuto
set_option linter.unusedVariables false
set_option linter.unusedSimpArgs false
set_option linter.unnecessarySimpa false
set_option linter.unusedVariables false
namespace Go.Proofs.YticckfioggeaeaaDoor
open Go.RowKit

theorem KS.drew {w wr : World} {O : Nat → Prop} {b slots : Nat} {s : Bk} {rows : List (Value × List Int)} (h : KS w wr O b slots s rows) : KS w wr.drew O b slots s rows := h.below ⟨rfl, rfl, rfl, Nat.le_refl _, fun _ _ => rfl⟩
theorem KS.keep0 {w wr w' : World} {O : Nat → Prop} {b slots : Nat} {s : Bk} {rows : List (Value × List Int)} (h : KS w wr O b slots s rows) (hk : Keep [] wr w') : KS w w' O b slots s rows := h.below (hk.below (Nat.le_refl _) (by simp))
set_option maxRecDepth 100000 in
theorem keeps_no (n : Int) (a : Option Addr) (m c : Nat) (w : World) (h : ¬ (1 ≤ n ∧ n ≤ 8)) (ht : Tab w) :
    Calls Tryd.prog 3 #[.int .i64 n, .slice a m c] w fun e w' => e = .returned (.bool true) ∧ Below w.heap.size w w' := by
  have HT := Lib.hid ht
  have hc : n < 1 ∨ (1 ≤ n ∧ 8 < n) := by omega
  have HC := Lib.hid h
  clear ht h
  rcases hc with h | ⟨h0, h⟩
  all_goals
    go_enter Tryd.func3, Tryd.ntmps3
    go_wp2_with fail
    refine (fact_any _ HT.out).mono ?_
    rintro e w1 ⟨rfl, hb1⟩
    have HB1 := Lib.hid hb1
    clear hb1
    go_wp2_with fail
    refine (new_no n _ HC.out).mono ?_
    rintro e w2 ⟨rfl, rfl⟩
    go_wp2
    go_ret
    exact ⟨rfl, HB1.out⟩
theorem OwnInts.shape_in {w : World} {base : Nat} {a : Option Addr} {n c : Nat} {xs : List Int} (h : OwnInts w base (.slice a n c) xs) : IntsIn w w.heap.size a xs := by
  obtain ⟨a', c', e, h2⟩ := h.shape
  injection e with e1 _ _
  subst e1
  exact h2
/-- What holds between two steps. -/
def KpRel (w : World) (b slots n : Nat) (vA vK vV i : Value) (wr : World) : Prop := ∃ (j : Nat) (t : KT) (O : Nat → Prop) (xA xK xV : Value), j ≤ n ∧ j ≤ 50 ∧ i = .int .i64 j ∧ xA = vA ∧ xK = vK ∧ xV = vV ∧ KS w wr O b slots t.s [(xA, t.asked), (xK, t.ks), (xV, t.vs)] ∧ KI slots t ∧ t.asked.length ≤ j
def WantRel (w : World) (b slots na : Nat) (t : KT) (vA vW i : Value) (wr : World) : Prop := ∃ (k : Nat) (O : Nat → Prop) (xW : Value), k ≤ na ∧ i = .int .i64 ((na : Int) - 1 - k) ∧ xW = vW ∧ KS w wr O b slots t.s [(xW, uniq (t.asked.reverse.take k)), (vA, t.asked)] ∧ (uniq (t.asked.reverse.take k)).length ≤ slots
theorem uniq_take {l : List Int} {k : Nat} (hk : k < l.length) : uniq (l.reverse.take (k + 1)) = addU (uniq (l.reverse.take k)) (l[l.length - 1 - k]'(by omega)) := by
  rw [List.take_succ_eq_append_getElem (by simpa using hk), uniq_snoc, List.getElem_reverse]
set_option maxHeartbeats 8000000 in
set_option maxRecDepth 1000000 in
theorem keeps_yes (slots : Nat) (h1 : 1 ≤ slots) (h8 : slots ≤ 8) (a : Option Addr) (c : Nat) (xss : List (List Int)) (w : World) (hx : RowsIn w w.heap.size a xss) (hn : xss.length ≤ maxLen) (ht : Tab w) :
    Calls Tryd.prog 3 #[.int .i64 slots, .slice a xss.length c] w fun e w' => e = .returned (.bool true) ∧ Below w.heap.size w w' := by
  obtain ⟨i0, hi, hz0, hz1, hz2⟩ := info_parts info_int
  have HT := Lib.hid ht; have HX := Lib.hid hx; have HN := Lib.hid hn
  obtain ⟨n, hnn⟩ : ∃ n, n = xss.length := ⟨_, rfl⟩
  rw [← hnn]
  have HNN := Lib.hid hnn
  clear ht hx hn hnn
  go_enter Tryd.func3, Tryd.ntmps3
  go_wp2_with fail
  refine (fact_any _ HT.out).mono ?_
  rintro e w1 ⟨rfl, hb1⟩
  have HB1 := Lib.hid hb1
  clear hb1
  go_wp2_with fail
  refine (new_yes slots _ h1 h8).mono ?_
  rintro e w2 ⟨b, rfl, hb2, _, hbel2⟩
  have HKS : Hid (∃ O, KS w w2 O b slots bk0 []) := Lib.hid ⟨_, ⟨hb2, by simp, by simp, List.Pairwise.nil, HB1.out.trans (hbel2.mono HB1.out.size), fun x hx ho => by have := HB1.out.size; omega⟩⟩
  clear hb2 hbel2 HB1
  go_wp2
  go_loopw [8, 9, 10, 11] (fun vA vK vV i wr => KpRel w b slots n vA vK vV i wr) (fun _ _ _ i _ => n - (intOf i).toNat)
  case atStart =>
    obtain ⟨O, hks⟩ := HKS.out
    exact ⟨0, kt0, O, _, _, _, by omega, by omega, rfl, rfl, rfl, rfl, hks.nil.nil.nil, ki0 slots, Nat.le_refl _⟩
  case round =>
    obtain ⟨j, t, O, vA, vK, vV, hj, hj5, rfl, rfl, rfl, rfl, hks, hki, hja⟩ := hrel
    have HK := Lib.hid hks; have HI := Lib.hid hki
    clear hks hki HKS
    by_cases hlt : j < n ∧ j < 50
    · obtain ⟨hlt, hlt5⟩ := hlt
      obtain ⟨bx, off, a', c', rfl, hbB, hcell, hrow⟩ := HX.out.at_ (by rw [← HNN.out]; exact hlt : j < xss.length)
      have hcell2 := (HK.out.bel.cell (p := ⟨bx, off + j, none⟩) hbB).trans hcell
      obtain ⟨l, hl⟩ : ∃ l, l = xss[j]'(by rw [← HNN.out]; exact hlt) := ⟨_, rfl⟩
      obtain ⟨m, hm⟩ : ∃ m, m = l.length := ⟨_, rfl⟩
      rw [← hl] at hrow
      rw [← hl, ← hm] at hcell2
      have HR := Lib.hid hrow
      clear hl hcell hrow
      have hj50 : (j : Int) < 50 := by omega
      have hjn : (j : Int) < (n : Int) := by omega
      have hj0 : (0 : Int) ≤ (j : Int) := by omega
      by_cases hm2 : m = 2
      · subst hm2
        obtain ⟨x, y, rfl⟩ : ∃ x y, l = [x, y] := by
          match l, hm with
          | [x, y], _ => exact ⟨x, y, rfl⟩
        obtain ⟨b3, off3, rfl, hb3, hc3⟩ := HR.out (by simp)
        have HC3 : Hid (∀ w' : World, Below w.heap.size w w' → w'.cell? ⟨b3, off3, none⟩ = some (.int .i64 x) ∧ w'.cell? ⟨b3, off3 + 1, none⟩ = some (.int .i64 y)) := Lib.hid fun w' hb => ⟨(hb.cell (p := ⟨b3, off3, none⟩) hb3).trans (hc3 0 x rfl), (hb.cell (p := ⟨b3, off3 + 1, none⟩) hb3).trans (hc3 1 y rfl)⟩
        clear hc3 hm HR
        obtain ⟨hy0, hy1⟩ := HC3.out wr HK.out.bel
        go_wp2
        clear hy0 hy1
        go_region_held3 (fun w' => w'.cell? ⟨b3, off3, none⟩ = some (.int .i64 x) ∧ w'.cell? ⟨b3, off3 + 1, none⟩ = some (.int .i64 y))
          (first | exact HC3.out _ HK.out.drew.bel | exact HC3.out _ HK3.out.bel | fail)
          (first | (go_at_call 9; refine (put_any b slots t.s x y _ HK.out.drew.bk (HK.out.drew.tab HT.out)).mono ?_; rintro e w3 ⟨rfl, hb3', hk3⟩; have HK3 := Lib.hid (HK.out.drew.book hb3' hk3); clear hb3' hk3))
        clear hcell2
        by_cases he : putE t.s x y = 0
        · have HE := Lib.hid he
          have hks3 := HK3.out
          unfold putS at hks3
          rw [if_pos HE.out] at hks3
          have HK3 := Lib.hid hks3
          have HI3 := Lib.hid (HI.out.put h1 (v := y) HE.out)
          obtain ⟨y0, y1⟩ := HC3.out w3 HK3.out.bel
          have hla := HI.out.lenA
          have hlv := HI.out.len
          obtain ⟨na, hna⟩ : ∃ na, na = t.asked.length := ⟨_, rfl⟩
          rw [he, errw_zero]
          clear he hks3
          have HOA : Hid (∀ o, (w3.alloc o).ownsRow w.heap.size 3 1 vA t.asked.length (ints t.asked)) := Lib.hid fun o => (HK3.out.below ((Below.refl _ _).alloc (Nat.le_refl _) o)).own (vA, t.asked) (by simp)
          have hsz3 := HK3.out.bel.size
          have hkl : t.ks.length ≤ 50 := by omega
          have hvl : t.vs.length ≤ 50 := by omega
          clear hlv hla hna
          go_wp2_with (first
            | (at_builtin; refine wpList_append_own_at _ rfl (.tmp 67) (.tmp 71) 29 rfl w.heap.size 3 i0 (.int .i64 0) 1 8 Tryd.underlying29 hi hz0 hz1 hz2 rfl (by decide) _ _ _ rfl (HOA.out _) ⟨w3.heap.size, 0, none⟩ 1 1 [.int .i64 x] rfl rfl (by intro p u hp; match p, hp with | 0, hp => simp at hp; subst hp; simp [Addr.add]) (by intro u hu; simp at hu; subst hu; rfl) (by unfold maxLen; omega) (by omega) (by simp; omega) ?_; intro vA' w4 hown' hgrow _ hat; have hks4 := HK3.out.app 0 rfl (x := x) (by unfold OwnInts; simpa [ints] using hown') hgrow hat; have HK4 := Lib.hid hks4; have ⟨z0, z1⟩ := HC3.out w4 hks4.bel; have HOK : Hid (∀ o, (w4.alloc o).ownsRow w.heap.size 3 1 vK t.ks.length (ints t.ks)) := (Lib.hid fun o => (HK4.out.below ((Below.refl _ _).alloc (Nat.le_refl _) o)).own (vK, t.ks) (by simp)); have hsz4 := hks4.bel.size; clear hown' hgrow hat hks4 y0 y1)
            | (at_builtin; refine wpList_append_own_at _ rfl (.tmp 73) (.tmp 77) 29 rfl w.heap.size 3 i0 (.int .i64 0) 1 8 Tryd.underlying29 hi hz0 hz1 hz2 rfl (by decide) _ _ _ rfl (HOK.out _) ⟨w4.heap.size, 0, none⟩ 1 1 [.int .i64 x] rfl rfl (by intro p u hp; match p, hp with | 0, hp => simp at hp; subst hp; simp [Addr.add]) (by intro u hu; simp at hu; subst hu; rfl) (by unfold maxLen; omega) (by omega) (by simp; omega) ?_; intro vK' w5 hown' hgrow _ hat; have hks5 := HK4.out.app 1 rfl (x := x) (by unfold OwnInts; simpa [ints] using hown') hgrow hat; have HK5 := Lib.hid hks5; have ⟨q0, q1⟩ := HC3.out w5 hks5.bel; have HOV : Hid (∀ o, (w5.alloc o).ownsRow w.heap.size 3 1 vV t.vs.length (ints t.vs)) := (Lib.hid fun o => (HK5.out.below ((Below.refl _ _).alloc (Nat.le_refl _) o)).own (vV, t.vs) (by simp)); have hsz5 := hks5.bel.size; clear hown' hgrow hat hks5 z0 z1)
            | (at_builtin; refine wpList_append_own_at _ rfl (.tmp 79) (.tmp 83) 29 rfl w.heap.size 3 i0 (.int .i64 0) 1 8 Tryd.underlying29 hi hz0 hz1 hz2 rfl (by decide) _ _ _ rfl (HOV.out _) ⟨w5.heap.size, 0, none⟩ 1 1 [.int .i64 y] rfl rfl (by intro p u hp; match p, hp with | 0, hp => simp at hp; subst hp; simp [Addr.add]) (by intro u hu; simp at hu; subst hu; rfl) (by unfold maxLen; omega) (by omega) (by simp; omega) ?_; intro vV' w6 hown' hgrow _ hat; have hks6 := HK5.out.app 2 rfl (x := y) (by unfold OwnInts; simpa [ints] using hown') hgrow hat; have HK6 := Lib.hid hks6; clear hown' hgrow hat hks6 q0 q1))
          go_roundw
          case rel => exact ⟨j + 1, ⟨putB slots t.s x y, t.asked ++ [x], t.ks ++ [x], t.vs ++ [y]⟩, _, _, _, _, hlt, by omega, by simp, rfl, rfl, rfl, HK6.out, HI3.out, by simp; omega⟩
          case measure => simp [intOf]; omega
        · have hks3 := HK3.out
          unfold putS at hks3
          rw [if_neg he] at hks3
          have HK3 := Lib.hid hks3
          rw [errw_of he]
          clear he hks3
          go_wp2
          go_roundw
          case rel => exact ⟨j + 1, t, _, _, _, _, hlt, by omega, by simp, rfl, rfl, rfl, HK3.out, HI.out, by omega⟩
          case measure => simp [intOf]; omega
      · have hm2' : ((m : Int) == 2) = false := beq_eq_false_iff_ne.2 (by omega)
        by_cases hm1 : m = 1
        · subst hm1
          obtain ⟨x, rfl⟩ : ∃ x, l = [x] := by
            match l, hm with
            | [x], _ => exact ⟨x, rfl⟩
          obtain ⟨b3, off3, rfl, hb3, hc3⟩ := HR.out (by simp)
          have HC3 : Hid (∀ w' : World, Below w.heap.size w w' → w'.cell? ⟨b3, off3, none⟩ = some (.int .i64 x)) := Lib.hid fun w' hb => (hb.cell (p := ⟨b3, off3, none⟩) hb3).trans (hc3 0 x rfl)
          clear hc3 hm HR hm2 hm2'
          have hy0 := HC3.out wr HK.out.bel
          go_wp2_with fail
          refine (get_any b slots t.s x _ HK.out.bk (HK.out.tab HT.out)).mono ?_
          rintro e w3 ⟨rfl, hb3', hk3⟩
          have HK3 := Lib.hid (HK.out.book hb3' hk3)
          clear hb3' hk3 hy0 hcell2
          by_cases he : getE t.s x = 0
          · have HE := Lib.hid he
            have hks3 := HK3.out
            unfold getS at hks3
            rw [if_pos HE.out] at hks3
            have HK3 := Lib.hid hks3
            obtain ⟨hI3, hL3⟩ := HI.out.get h1 HE.out
            have HI3 := Lib.hid hI3; have HL3 := Lib.hid hL3
            have HGV : Hid (getV t.s x = valOf t.s x) := Lib.hid (by unfold getV; rw [if_pos HE.out])
            rw [he, errw_zero, HGV.out]
            obtain ⟨q, hq⟩ : ∃ q, q = valOf t.s x := ⟨_, rfl⟩
            rw [← hq]
            have HQ := Lib.hid hq
            have y0 := HC3.out w3 HK3.out.bel
            have hla := HI.out.lenA
            have hlv := HI.out.len
            have HOA : Hid (∀ o, (w3.alloc o).ownsRow w.heap.size 3 1 vA t.asked.length (ints t.asked)) := Lib.hid fun o => (HK3.out.below ((Below.refl _ _).alloc (Nat.le_refl _) o)).own (vA, t.asked) (by simp)
            have hsz3 := HK3.out.bel.size
            obtain ⟨nk, hnk⟩ : ∃ nk, nk = t.ks.length := ⟨_, rfl⟩
            have hkl : nk ≤ 50 := by omega
            obtain ⟨aK, cK, hvK, _⟩ := (HK3.out.own (vK, t.ks) (by simp)).shape
            obtain ⟨aV, cV, hvV, _⟩ := (HK3.out.own (vV, t.vs) (by simp)).shape
            rw [← hlv, ← hnk] at hvV
            rw [← hnk] at hvK
            simp only at hvK hvV
            subst hvK hvV
            have HNK := Lib.hid hnk; have HLV := Lib.hid hlv
            clear he hks3 hI3 hL3 hq hla hlv hnk
            go_wp2_with (at_builtin; refine wpList_append_own_at _ rfl (.tmp 98) (.tmp 102) 29 rfl w.heap.size 3 i0 (.int .i64 0) 1 8 Tryd.underlying29 hi hz0 hz1 hz2 rfl (by decide) _ _ _ rfl (HOA.out _) ⟨w3.heap.size, 0, none⟩ 1 1 [.int .i64 x] rfl rfl (by intro p u hp; match p, hp with | 0, hp => simp at hp; subst hp; simp [Addr.add]) (by intro u hu; simp at hu; subst hu; rfl) (by unfold maxLen; omega) (by omega) (by simp; omega) ?_; intro vA' w4 hown' hgrow _ hat; have hks4 := HK3.out.app 0 rfl (x := x) (by unfold OwnInts; simpa [ints] using hown') hgrow hat; have HK4 := Lib.hid hks4; clear hown' hgrow hat hks4 y0)
            go_loopw [17, 18] (fun lv kv wr => ∃ k : Nat, k ≤ nk ∧ kv = .int .i64 k ∧ lv = .int .i64 (lastTo t.ks t.vs x k) ∧ Keep [] w4 wr) (fun _ kv _ => nk - (intOf kv).toNat)
            case atStart => exact ⟨0, Nat.zero_le _, rfl, rfl, Keep.refl _ _⟩
            case round =>
              obtain ⟨k, hk, rfl, rfl, hkk⟩ := hrel
              have HKK := Lib.hid hkk
              clear hkk
              have HKq := Lib.hid (HK4.out.keep0 HKK.out)
              obtain ⟨q1, hq1⟩ : ∃ q1, q1 = lastTo t.ks t.vs x k := ⟨_, rfl⟩
              rw [← hq1]
              have HQ1 := Lib.hid hq1
              clear hq1
              by_cases hlt2 : k < nk
              · have hki : (k : Int) < (nk : Int) := by omega
                have hk0 : (0 : Int) ≤ (k : Int) := by omega
                obtain ⟨gK, oK, heK, _, hcK⟩ := (HKq.out.own (.slice aK nk cK, t.ks) (by simp)).shape_in.at_ (by rw [← HNK.out]; exact hlt2 : k < t.ks.length)
                obtain ⟨gV, oV, heV, _, hcV⟩ := (HKq.out.own (.slice aV nk cV, t.vs) (by simp)).shape_in.at_ (by rw [← HLV.out, ← HNK.out]; exact hlt2 : k < t.vs.length)
                subst heK heV
                have hgK : t.ks.getD k 0 = t.ks[k]'(by rw [← HNK.out]; exact hlt2) := by rw [List.getD_eq_getElem?_getD, List.getElem?_eq_getElem (by rw [← HNK.out]; exact hlt2), Option.getD_some]
                have hgV : t.vs.getD k 0 = t.vs[k]'(by rw [← HLV.out, ← HNK.out]; exact hlt2) := by rw [List.getD_eq_getElem?_getD, List.getElem?_eq_getElem (by rw [← HLV.out, ← HNK.out]; exact hlt2), Option.getD_some]
                have HLS : Hid (lastTo t.ks t.vs x (k + 1) = if t.ks.getD k 0 = x then t.vs.getD k 0 else q1) := Lib.hid (by rw [lastTo, ← HQ1.out])
                obtain ⟨xk, hxk⟩ : ∃ xk, xk = t.ks[k]'(by rw [← HNK.out]; exact hlt2) := ⟨_, rfl⟩
                obtain ⟨yk, hyk⟩ : ∃ yk, yk = t.vs[k]'(by rw [← HLV.out, ← HNK.out]; exact hlt2) := ⟨_, rfl⟩
                rw [← hxk] at hcK hgK
                rw [← hyk] at hcV hgV
                rw [hgK, hgV] at HLS
                have hy0 := HC3.out wr HKq.out.bel
                clear hxk hyk hgK hgV
                have hcVq : ∀ q, (wr.drewN q).cell? ⟨gV, oV + k, none⟩ = some (.int .i64 yk) := fun q => hcV
                by_cases e : xk = x
                · have e' : (xk == x) = true := by rw [e]; simp
                  have HNX : Hid (lastTo t.ks t.vs x (k + 1) = yk) := Lib.hid (by rw [HLS.out, if_pos e])
                  clear e HLS
                  go_wp2
                  go_quiet (fail)
                  go_wp2
                  go_roundw
                  case rel => exact ⟨k + 1, hlt2, by simp, congrArg (Value.int .i64) HNX.out.symm, HKK.out.trans ((Keep.refl _ _).drewN _)⟩
                  case measure => simp [intOf]; omega
                · have e' : (xk == x) = false := beq_eq_false_iff_ne.2 e
                  have HNX : Hid (lastTo t.ks t.vs x (k + 1) = q1) := Lib.hid (by rw [HLS.out, if_neg e])
                  clear e HLS
                  go_wp2
                  go_quiet (fail)
                  go_wp2
                  go_roundw
                  case rel => exact ⟨k + 1, hlt2, by simp, congrArg (Value.int .i64) HNX.out.symm, HKK.out.trans ((Keep.refl _ _).drewN _)⟩
                  case measure => simp [intOf]; omega
              · obtain rfl : k = nk := by omega
                have hqq : q1 = q := by rw [HQ1.out, HQ.out, ← HL3.out, ← HNK.out]
                subst hqq
                have hqe : (q1 != q1) = false := by simp
                go_wp2
                go_roundw
                case rel => exact ⟨j + 1, ⟨getB t.s x, t.asked ++ [x], t.ks, t.vs⟩, _, _, _, _, hlt, by omega, by simp, rfl, rfl, rfl, HKq.out, HI3.out, by simp; omega⟩
                case measure => simp [intOf]; omega
          · have hks3 := HK3.out
            unfold getS at hks3
            rw [if_neg he] at hks3
            have HK3 := Lib.hid hks3
            rw [errw_of he]
            clear he hks3
            go_wp2
            go_roundw
            case rel => exact ⟨j + 1, t, _, _, _, _, hlt, by omega, by simp, rfl, rfl, rfl, HK3.out, HI.out, by omega⟩
            case measure => simp [intOf]; omega
        · have hm1' : ((m : Int) == 1) = false := beq_eq_false_iff_ne.2 (by omega)
          go_wp2
          go_roundw
          case rel => exact ⟨j + 1, t, _, _, _, _, hlt, by omega, by simp, rfl, rfl, rfl, HK.out, HI.out, by omega⟩
          case measure => simp [intOf]; omega
    · have hend : (¬ j < n) ∨ (j < n ∧ ¬ j < 50) := by omega
      have HEND := Lib.hid hend
      clear hend hlt
      obtain ⟨aA, cA, hvA, _⟩ := (HK.out.own (vA, t.asked) (by simp)).shape
      obtain ⟨na, hna⟩ : ∃ na, na = t.asked.length := ⟨_, rfl⟩
      simp only at hvA
      rw [← hna] at hvA hja
      subst hvA
      have HNA := Lib.hid hna
      have HKT : Hid (t.s.keys = (uniq t.asked.reverse).take slots) := Lib.hid HI.out.key
      have hna50 : na ≤ 50 := by omega
      have HKA : Hid (KS w wr O b slots t.s [(.slice aA na cA, t.asked)]) := Lib.hid { HK.out with own := fun r hr => HK.out.own r (by simp at hr; simp [hr]), apart := fun r hr => HK.out.apart r (by simp at hr; simp [hr]), pair := by simp }
      clear hna HI
      rcases HEND.out with hend | ⟨hend1, hend⟩
      all_goals
        go_wp2
        go_loopw [19, 20] (fun vW iv wr => WantRel w b slots na t (.slice aA na cA) vW iv wr) (fun _ iv _ => (intOf iv + 1).toNat)
        case atStart => exact ⟨0, O, _, by omega, by simp, rfl, by simpa [uniq] using HKA.out.nil, by simp [uniq]⟩
        case round =>
          obtain ⟨k, O2, vW, hk, rfl, rfl, hks2, hlw⟩ := hrel
          have HK2 := Lib.hid hks2
          obtain ⟨aW, cW, hvW, hinW⟩ := (hks2.own (vW, uniq (t.asked.reverse.take k)) (by simp)).shape
          obtain ⟨u, hu⟩ : ∃ u, u = uniq (t.asked.reverse.take k) := ⟨_, rfl⟩
          simp only at hvW hinW
          rw [← hu] at hvW hlw hinW
          have HU := Lib.hid hu
          obtain ⟨nw, hnw⟩ : ∃ nw, nw = u.length := ⟨_, rfl⟩
          rw [← hnw] at hvW hlw
          have HNW := Lib.hid hnw; have HIW := Lib.hid hinW
          subst hvW
          clear hks2 hu hnw hinW
          by_cases hgo : k < na ∧ nw < slots
          · obtain ⟨hkn, hws⟩ := hgo
            have hkA : k < t.asked.length := by rw [← HNA.out]; exact hkn
            obtain ⟨q, hq⟩ : ∃ q, q = na - 1 - k := ⟨_, rfl⟩
            have hqi : (na : Int) - 1 - (k : Int) = (q : Int) := by omega
            have hqn : q < na := by omega
            have hqA : q < t.asked.length := by rw [← HNA.out]; exact hqn
            obtain ⟨gA, oA, heA, _, hcA⟩ := (HK2.out.own (.slice aA na cA, t.asked) (by simp)).shape_in.at_ hqA
            subst heA
            have hut := uniq_take hkA
            have hxx : t.asked[t.asked.length - 1 - k]'(by omega) = t.asked[q] := by congr 1; rw [← HNA.out, hq]
            rw [hxx] at hut
            obtain ⟨x, hx⟩ : ∃ x, x = t.asked[q] := ⟨_, rfl⟩
            rw [← hx] at hcA hut
            have HUT : Hid (uniq (t.asked.reverse.take (k + 1)) = addU u x) := Lib.hid (by rw [hut, HU.out])
            have HQ := Lib.hid hq
            rw [hqi]
            have hqw : IntKind.i64.wrap ((q : Int) - 1) = (q : Int) - 1 := IntWalk.i64_in _ (by omega)
            have hq0 : (0 : Int) ≤ (q : Int) := by omega
            have hqni : (q : Int) < (na : Int) := by omega
            have hwsi : (nw : Int) < (slots : Int) := by omega
            have HQI := Lib.hid hqi
            clear hut hxx hx hq hqA hkA hqi
            by_cases hm : x ∈ u
            · have HAD : Hid (addU u x = u) := Lib.hid (by unfold addU; rw [if_pos hm])
              have HD : Hid (decide (x ∈ u) = true) := Lib.hid (decide_eq_true hm)
              clear hm
              go_wp2_with (go_at_call 11; refine (rHas_is aW nw cW _ u x true _ HNW.out.symm HIW.out (by omega) HD.out).mono ?_; rintro e w' ⟨rfl, rfl⟩)
              go_roundw
              case rel => exact ⟨k + 1, _, _, hkn, congrArg (Value.int .i64) (by have := HQI.out; simp; omega), rfl, by rw [HUT.out, HAD.out, HU.out]; exact HK2.out, by rw [HUT.out, HAD.out, ← HNW.out]; exact hlw⟩
              case measure => first | (simp [intOf]; done) | (simp [intOf]; omega)
            · have HAD : Hid (addU u x = u ++ [x]) := Lib.hid (by unfold addU; rw [if_neg hm])
              have HD : Hid (decide (x ∈ u) = false) := Lib.hid (decide_eq_false hm)
              have HOW : Hid (∀ o, (wr.alloc o).ownsRow w.heap.size 3 1 (.slice aW nw cW) u.length (ints u)) := Lib.hid fun o => by
                have := (HK2.out.below ((Below.refl _ _).alloc (Nat.le_refl _) o)).own (.slice aW nw cW, uniq (t.asked.reverse.take k)) (by simp)
                rw [← HU.out] at this
                exact this
              have hszr := HK2.out.bel.size
              have hul : u.length ≤ 8 := by rw [← HNW.out]; omega
              clear hm
              go_wp2_with (first
                | (go_at_call 11; refine (rHas_is aW nw cW _ u x false _ HNW.out.symm HIW.out (by omega) HD.out).mono ?_; rintro e w' ⟨rfl, rfl⟩)
                | (at_builtin; refine wpList_append_own_at _ rfl (.tmp 145) (.tmp 150) 29 rfl w.heap.size 3 i0 (.int .i64 0) 1 8 Tryd.underlying29 hi hz0 hz1 hz2 rfl (by decide) _ _ _ rfl (HOW.out _) ⟨wr.heap.size, 0, none⟩ 1 1 [.int .i64 x] rfl rfl (by intro p u hp; match p, hp with | 0, hp => simp at hp; subst hp; simp [Addr.add]) (by intro u hu; simp at hu; subst hu; rfl) (by unfold maxLen; omega) (by omega) (by simp; omega) ?_; intro vW' w6 hown' hgrow _ hat; have hks6 := HK2.out.app 0 rfl (x := x) (by rw [← HU.out]; unfold OwnInts; simpa [ints] using hown') hgrow hat; have HK6 := Lib.hid hks6; clear hown' hgrow hat hks6))
              go_roundw
              case rel => exact ⟨k + 1, _, _, hkn, congrArg (Value.int .i64) (by have := HQI.out; simp; omega), rfl, by rw [HUT.out, HAD.out]; have := HK6.out; rw [← HU.out] at this; exact this, by rw [HUT.out, HAD.out, List.length_append, ← HNW.out]; simp; omega⟩
              case measure => first | (simp [intOf]; done) | (simp [intOf]; omega)
          · have hkeq : u = t.s.keys := by
              rw [HKT.out, HU.out]
              refine want_end (by rw [← HNA.out]; exact hk) (by rw [← HU.out, ← HNW.out]; exact hlw) ?_
              rw [← HU.out, ← HNW.out, ← HNA.out]
              omega
            have HKE := Lib.hid hkeq
            have hcase : k = na ∨ (k < na ∧ nw = slots) := by omega
            clear hkeq hgo
            rcases hcase with hc1 | ⟨hc1, hc2⟩
            · have hni : (na : Int) - 1 - (k : Int) = -1 := by omega
              rw [hni]
              clear hni hc1
              go_wp2_with fail
              refine (keysB_any _ HK2.out.bk).mono ?_
              rintro e w7 ⟨v7, rfl, ho7, hb7⟩
              obtain ⟨a7, c7, hv7, hi7⟩ := ho7.shape
              have HI7 : Hid (IntsIn w7 w7.heap.size a7 u) := Lib.hid (by rw [HKE.out]; exact hi7)
              rw [← HKE.out, ← HNW.out] at hv7
              subst hv7
              have HK7 := Lib.hid (HK2.out.below hb7)
              have HIW7 := Lib.hid (HIW.out.below hb7)
              clear ho7 hb7 hi7
              go_wp2_with fail
              refine (ints_same_keep a7 aW nw c7 cW _ _ u _ HNW.out.symm HI7.out HIW7.out (by unfold maxLen; omega)).mono ?_
              rintro e w8 ⟨rfl, hk8⟩
              have HK8 := Lib.hid (HK7.out.keep0 hk8)
              clear hk8
              go_wp2
              go_ret
              exact ⟨rfl, HK8.out.bel⟩
            · obtain ⟨q, hq⟩ : ∃ q, q = na - 1 - k := ⟨_, rfl⟩
              have hqi : (na : Int) - 1 - (k : Int) = (q : Int) := by omega
              have hq0 : (0 : Int) ≤ (q : Int) := by omega
              rw [hqi]
              have hws : ¬ (nw : Int) < (slots : Int) := by omega
              have hw8 : nw ≤ 8 := by omega
              clear hqi hq hc2
              go_wp2_with fail
              refine (keysB_any _ HK2.out.bk).mono ?_
              rintro e w7 ⟨v7, rfl, ho7, hb7⟩
              obtain ⟨a7, c7, hv7, hi7⟩ := ho7.shape
              have HI7 : Hid (IntsIn w7 w7.heap.size a7 u) := Lib.hid (by rw [HKE.out]; exact hi7)
              rw [← HKE.out, ← HNW.out] at hv7
              subst hv7
              have HK7 := Lib.hid (HK2.out.below hb7)
              have HIW7 := Lib.hid (HIW.out.below hb7)
              clear ho7 hb7 hi7
              go_wp2_with fail
              refine (ints_same_keep a7 aW nw c7 cW _ _ u _ HNW.out.symm HI7.out HIW7.out (by unfold maxLen; omega)).mono ?_
              rintro e w8 ⟨rfl, hk8⟩
              have HK8 := Lib.hid (HK7.out.keep0 hk8)
              clear hk8
              go_wp2
              go_ret
              exact ⟨rfl, HK8.out.bel⟩

theorem bookKeeps_walk (x0 : Int) (a1 : Option Addr) (c1 : Nat) (l1 : List (List Int)) (w : World) (_ : I64 x0) (h1 : RowsIn w w.heap.size a1 l1) (_ : ∀ r ∈ l1, r.length ≤ maxLen ∧ ∀ y ∈ r, I64 y) (m1 : l1.length ≤ maxLen) (hg : Tab w) :
    Calls Tryd.prog 3 #[.int .i64 x0, .slice a1 l1.length c1] w fun e w' => e = .returned (.bool true) ∧ Below w.heap.size w w' := by
  by_cases h : 1 ≤ x0 ∧ x0 ≤ 8
  · obtain ⟨d, rfl⟩ := Int.eq_ofNat_of_zero_le (show 0 ≤ x0 by omega)
    exact keeps_yes d (by omega) (by omega) a1 c1 l1 w h1 m1 hg
  · exact keeps_no x0 a1 _ c1 w h hg
end Go.Proofs.YticckfioggeaeaaDoor
