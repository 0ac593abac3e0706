/-
  slices.SortFunc of 12 or fewer by falling turns (printed by wip/gen_booksort.py out of XRankSort and XRankFunc).
-/
import Derived.Test.YticckfioggeaeaaGreatDoorGC
import Derived.Deep.LoopGhost
import Derived.StillTailTactics
set_option linter.unusedVariables false
set_option linter.unusedSimpArgs false
set_option linter.unnecessarySimpa false
namespace Go.Proofs.YticckfioggeaeaaGreatDoor
open Go.RowKit

theorem CmpAt.keep {w w' : World} {bx bs gm g : Nat} {M : List Ent} (h : CmpAt w bx bs gm M) (hk : Keep [g] w w') (hne : bx ≠ g ∧ bs ≠ g ∧ gm ≠ g) : CmpAt w' bx bs gm M where
  box := (hk.cell (p := ⟨bx, 0, none⟩) (World.block_lt_of_cell? w _ h.box) (by simpa using hne.1)).trans h.box
  at_ := (hk.cell (p := ⟨bs, 1, none⟩) (World.block_lt_of_cell? w _ h.at_) (by simpa using hne.2.1)).trans h.at_
  map := h.map.keep (hk.block gm h.map.lt (by simpa using hne.2.2))
theorem CmpAt.drew {w : World} {bx bs gm : Nat} {M : List Ent} (h : CmpAt w bx bs gm M) : CmpAt w.drew bx bs gm M := ⟨h.box, h.at_, h.map.keep rfl⟩
/-- The row holds some order of l, and the first i stand in their order. -/
def SrtRel (w : World) (g n : Nat) (k : Int → Int) (l : List Int) (rest : List Value) (i : Value) (wr : World) : Prop :=
  ∃ (j : Nat) (xs : List Int), 1 ≤ j ∧ j ≤ max n 1 ∧ i = .int .i64 j ∧ xs.Perm l ∧ SortedTo k xs j ∧ Blk wr g 3 (ints xs ++ rest) ∧ Keep [g] w wr
def InsRel (w : World) (g n : Nat) (k : Int → Int) (l : List Int) (rest : List Value) (i : Nat) (jv : Value) (wr : World) : Prop :=
  ∃ (j : Nat) (xs : List Int), j ≤ i ∧ jv = .int .i64 j ∧ xs.Perm l ∧ Srt k xs i j ∧ Blk wr g 3 (ints xs ++ rest) ∧ Keep [g] w wr
def SortPost (w : World) (g : Nat) (k : Int → Int) (l : List Int) (rest : List Value) (e : Ending) (w' : World) : Prop :=
  e = .returned (.tuple #[]) ∧ ∃ xs : List Int, xs.Perm l ∧ SortedTo k xs l.length ∧ Blk w' g 3 (ints xs ++ rest) ∧ Keep [g] w w'

set_option maxHeartbeats 2000000 in
set_option maxRecDepth 100000 in
theorem insSort_any (g n c : Nat) (k : Int → Int) (bx bs gm : Nat) (M : List Ent) (l : List Int) (rest : List Value) (w : World) (hl : l.length = n) (h : Blk w g 3 (ints l ++ rest)) (hc : CmpAt w bx bs gm M) (had : bx ≠ g ∧ bs ≠ g ∧ gm ≠ g) (hk : k = turnOf M) (hb : ∀ x ∈ l, x ∈ M.map (·.1)) (hn : n ≤ 12) :
    Calls Tryz.prog 108 #[.slice (some ⟨g, 0, none⟩) n c, .int .i64 0, .int .i64 n, .func (.func 64) #[] #[.pointer (some ⟨bx, 0, none⟩)]] w (SortPost w g k l rest) := by
  have HL := Lib.hid hl; have H := Lib.hid h; have HC := Lib.hid hc; have HB := Lib.hid hb; have HKK := Lib.hid hk; clear hl h hc hb hk
  have hn2 : (n : Int) ≤ 12 := by omega
  go_enter Tryz.func108, Tryz.ntmps108
  go_wp2
  go_loopw [8, 9] (fun i _ wr => SrtRel w g n k l rest i wr) (fun i _ _ => n - (intOf i).toNat)
  case atStart => exact ⟨1, l, by omega, by omega, rfl, List.Perm.refl _, fun a b _ _ h1 h2 => by omega, H.out, Keep.refl _ _⟩
  case round =>
    obtain ⟨i, xs, hi1, hin, rfl, hp, hs, hblk, hk⟩ := hrel
    have HP := Lib.hid hp; have HS := Lib.hid hs; have HBK := Lib.hid hblk; have HK := Lib.hid hk; clear hp hs hblk hk
    by_cases hlt : i < n
    · have hii : (i : Int) < (n : Int) := by omega
      have hi0 : (0 : Int) ≤ (i : Int) := by omega
      obtain ⟨wo, rfl⟩ : ∃ wo : World, wo = wr := ⟨_, rfl⟩
      go_wp2
      go_loopw [9] (fun j wr => InsRel w g n k l rest i j wr) (fun j _ => (intOf j).toNat)
      case atStart => exact ⟨i, xs, Nat.le_refl _, rfl, HP.out, srt_start HS.out, HBK.out, HK.out⟩
      case round =>
        obtain ⟨j, ys, hji, rfl, hp2, hs2, hblk2, hk2⟩ := hrel
        have HP2 := Lib.hid hp2; have HS2 := Lib.hid hs2; have HBK2 := Lib.hid hblk2; have HK2 := Lib.hid hk2; clear hp2 hs2 hblk2 hk2
        have hyl : ys.length = n := by rw [HP2.out.length_eq]; exact HL.out
        by_cases hj : j = 0
        · subst hj
          have hst := srt_end0 HS2.out
          have HST := Lib.hid hst; clear hst
          go_wp2
          go_quiet (fail)
          go_wp2
          go_roundw
          case rel => exact ⟨i + 1, ys, by omega, by omega, by simp, HP2.out, HST.out, HBK2.out.drewN _, HK2.out.drewN _⟩
          case measure => simp [intOf]; omega
        · obtain ⟨m, hjm⟩ : ∃ m, j = m + 1 := ⟨j - 1, by omega⟩
          have hm1 : m + 1 < ys.length := by omega
          have hga := ints_get (List.getElem?_eq_getElem hm1)
          have hgb := ints_get (List.getElem?_eq_getElem (show m < ys.length by omega))
          have hxa := HB.out ys[m + 1] (HP2.out.mem_iff.1 (List.getElem_mem hm1))
          have hxb := HB.out (ys[m]'(by omega)) (HP2.out.mem_iff.1 (List.getElem_mem (by omega)))
          have hsw := fun hle => srt_swap (k := k) (i := i) (xs := ys) (j := m) (by rw [← hjm]; exact HS2.out) hm1 hle
          have hen := fun hle => srt_end (k := k) (i := i) (xs := ys) (j := m) (by rw [← hjm]; exact HS2.out) hm1 (by omega) hle
          have hsp := swp_perm ys m hm1
          have hse : swp ys m hm1 = (ys.set (m + 1) (ys[m]'(by omega))).set m ys[m + 1] := rfl
          obtain ⟨zs, hzs⟩ : ∃ zs, zs = swp ys m hm1 := ⟨_, rfl⟩
          rw [← hzs] at hse hsp hsw
          obtain ⟨x, hx⟩ : ∃ x, x = ys[m + 1] := ⟨_, rfl⟩
          obtain ⟨y, hy⟩ : ∃ y, y = ys[m]'(by omega) := ⟨_, rfl⟩
          rw [← hx] at hga hxa hse hsw hen
          rw [← hy] at hgb hxb hse hsw hen
          have hca : wr.cell? ⟨g, m + 1, none⟩ = some (.int .i64 x) := HBK2.out.cell_ (by rw [List.getElem?_append_left (by rw [ints_len]; omega)]; exact hga)
          have hcb : wr.cell? ⟨g, m, none⟩ = some (.int .i64 y) := HBK2.out.cell_ (by rw [List.getElem?_append_left (by rw [ints_len]; omega)]; exact hgb)
          have hck := HC.out.keep HK2.out had
          have HCK := Lib.hid hck; have HSW := Lib.hid hsw; have HEN := Lib.hid hen; have HSP := Lib.hid hsp; have HSE := Lib.hid hse
          have HYL := Lib.hid hyl
          have HXA := Lib.hid hxa; have HXB := Lib.hid hxb
          clear hxa hxb
          have hmn : m + 1 < n := by omega
          clear hck hsw hen hsp hse hx hy hzs hga hgb hyl hm1
          have hji : (j : Int) < (n : Int) := by omega
          have hj0 : (0 : Int) < (j : Int) := by omega
          have hj00 : (0 : Int) ≤ (j : Int) := by omega
          have hjd : decide ((0 : Int) < (j : Int)) = true := by simpa using hj0
          have hjd2 : decide (0 < j) = true := by simp; omega
          have hmi : (m : Int) < (n : Int) := by omega
          have hm0 : (0 : Int) ≤ (m : Int) := by omega
          have hsub : (j : Int) - 1 = (m : Int) := by omega
          have hsub2 : IntKind.i64.wrap (m : Int) = (m : Int) := IntWalk.i64_in _ (by omega)
          have hcj : wr.cell? ⟨g, j, none⟩ = some (.int .i64 x) := by rw [hjm]; exact hca
          clear hca
          have HJM := Lib.hid hjm
          clear hjm
          obtain ⟨r, hr⟩ : ∃ r, ordR k x y = r := ⟨_, rfl⟩
          have HR := Lib.hid hr; clear hr
          go_wp2
          go_still_tail 14, (by kernel_rfl)
          go_wp2_with fail
          refine (keys1_any bx bs gm M x y wr.drew HCK.out.drew HXA.out HXB.out).mono ?_
          rintro e w2 ⟨rfl, q2, rfl⟩
          rw [← HKK.out, show cmpO (k y) (k x) = r from HR.out]
          have hk2' : Keep [] wr (wr.drew.drewN q2) := ((Keep.refl [] wr).drew).drewN q2
          generalize wr.drew.drewN q2 = w2 at hk2' ⊢
          have hgl := HBK2.out.lt
          have hcj2 := (hk2'.cell (p := ⟨g, j, none⟩) hgl (by simp)).trans hcj
          have hcb2 := (hk2'.cell (p := ⟨g, m, none⟩) hgl (by simp)).trans hcb
          have hbk2 := HBK2.out.keep hk2' (by simp)
          have hfj := hbk2.free j
          have hfm := hbk2.free m
          have HBK3 := Lib.hid hbk2
          have HK3 : Hid (Keep [g] w w2) := Lib.hid (HK2.out.trans (hk2'.mono (by simp)))
          clear hk2' hcj hcb hbk2
          by_cases hless : r < 0
          · have hle : leR k x y := by
              have h1 := (ordR_neg k x y).1 (by rw [HR.out]; exact hless)
              rcases leR_total k x y with h | h
              · exact h
              · exact absurd h h1
            have HLE := Lib.hid hle; clear hle
            have hjm2 : ¬ j = m := by have := HJM.out; omega
            have hmj2 : ¬ m = j := by have := HJM.out; omega
            go_wp2
            go_region
            all_goals
              go_wp2
              go_roundw
              case rel =>
                refine ⟨m, zs, by omega, by first | rfl | exact congrArg (Value.int .i64) hsub, HSP.out.trans HP2.out, HSW.out HLE.out, ?_, ?_⟩
                · have h9 := (HBK3.out.set j (.int .i64 y)).set m (.int .i64 x)
                  have hy9 := HYL.out
                  have hj9 := HJM.out
                  rw [List.set_append_left _ _ (by rw [ints_len]; omega), ints_set, List.set_append_left _ _ (by rw [ints_len, List.length_set]; omega), ints_set] at h9
                  have e9 : (ys.set j y).set m x = zs := by rw [HSE.out, hj9]
                  rw [e9] at h9
                  exact h9.drew
                · exact ((HK3.out.set (fun _ => by simp) _).set (fun _ => by simp) _).drew
              case measure => simp [intOf]; have := HJM.out; omega
          · have hle : leR k y x := by
              by_cases h : leR k y x
              · exact h
              · exact absurd (by have := (ordR_neg k x y).2 h; rw [HR.out] at this; exact this) hless
            have HST := Lib.hid (HEN.out hle); clear hle
            go_wp2
            go_roundw
            case rel => exact ⟨i + 1, ys, by omega, by omega, by simp, HP2.out, HST.out, HBK3.out, HK3.out⟩
            case measure => simp [intOf]; omega
    · have hii : ¬ (i : Int) < (n : Int) := by omega
      have hst : SortedTo k xs l.length := by rw [HL.out]; exact fun a b ha hb hab hbn => HS.out a b ha hb hab (by omega)
      have HST := Lib.hid hst; clear hst
      go_wp2
      go_end0
      exact ⟨rfl, xs, HP.out, HST.out, HBK.out, HK.out⟩

/-! ### SortFunc -/
set_option maxRecDepth 100000 in
theorem len64_some (n : Nat) (w : World) (hn : n ≤ 12) : Calls Tryz.prog 117 #[.int .u64 n] w fun e w' => (∃ v, e = .returned (.int .i64 v)) ∧ w = w' := by
  have hcase : n = 0 ∨ n = 1 ∨ n = 2 ∨ n = 3 ∨ n = 4 ∨ n = 5 ∨ n = 6 ∨ n = 7 ∨ n = 8 ∨ n = 9 ∨ n = 10 ∨ n = 11 ∨ n = 12 := by omega
  clear hn
  rcases hcase with rfl | rfl | rfl | rfl | rfl | rfl | rfl | rfl | rfl | rfl | rfl | rfl | rfl
  all_goals
    go_enter Tryz.func117, Tryz.ntmps117
    go_wp2
    go_ret
    exact ⟨⟨_, rfl⟩, rfl⟩
theorem len_some (n : Nat) (w : World) (hn : n ≤ 12) : Calls Tryz.prog 93 #[.int .u64 n] w fun e w' => (∃ v, e = .returned (.int .i64 v)) ∧ w = w' := by
  go_enter Tryz.func93, Tryz.ntmps93
  go_wp2_with fail
  refine (len64_some n _ hn).mono ?_
  rintro e w' ⟨⟨v, rfl⟩, rfl⟩
  go_wp2
  go_ret
  exact ⟨⟨_, rfl⟩, rfl⟩

set_option maxHeartbeats 1000000 in
set_option maxRecDepth 100000 in
theorem pdq_any (g n c : Nat) (k : Int → Int) (lim : Int) (bx bs gm : Nat) (M : List Ent) (l : List Int) (rest : List Value) (w : World) (hl : l.length = n) (h : Blk w g 3 (ints l ++ rest)) (hc : CmpAt w bx bs gm M) (had : bx ≠ g ∧ bs ≠ g ∧ gm ≠ g) (hk : k = turnOf M) (hb : ∀ x ∈ l, x ∈ M.map (·.1)) (hn : n ≤ 12) :
    Calls Tryz.prog 92 #[.slice (some ⟨g, 0, none⟩) n c, .int .i64 0, .int .i64 n, .int .i64 lim, .func (.func 64) #[] #[.pointer (some ⟨bx, 0, none⟩)]] w (SortPost w g k l rest) := by
  have HL := Lib.hid hl; have H := Lib.hid h; have HC := Lib.hid hc; have HB := Lib.hid hb; have HKK := Lib.hid hk; clear hl h hc hb hk
  have hn2 : (n : Int) ≤ 12 := by omega
  have hn0 : (0 : Int) ≤ (n : Int) := by omega
  go_enter Tryz.func92, Tryz.ntmps92
  go_wp2
  refine wp_loop_rounds 1 ?_
  rw [rounds_succ]
  go_wp2_with fail
  refine (insSort_any g n c k bx bs gm M l rest _ HL.out H.out HC.out had HKK.out HB.out hn).mono ?_
  rintro e w2 ⟨rfl, xs, hp, hs, hb2, hk2⟩
  have HP := Lib.hid hp; have HS := Lib.hid hs; have HB2 := Lib.hid hb2; have HK2 := Lib.hid hk2; clear hp hs hb2 hk2
  go_wp2
  go_end0
  exact ⟨rfl, xs, HP.out, HS.out, HB2.out, HK2.out⟩

set_option maxHeartbeats 1000000 in
set_option maxRecDepth 100000 in
theorem sortFunc_any (g n c : Nat) (k : Int → Int) (bx bs gm : Nat) (M : List Ent) (l : List Int) (rest : List Value) (w : World) (hl : l.length = n) (h : Blk w g 3 (ints l ++ rest)) (hc : CmpAt w bx bs gm M) (had : bx ≠ g ∧ bs ≠ g ∧ gm ≠ g) (hk : k = turnOf M) (hb : ∀ x ∈ l, x ∈ M.map (·.1)) (hn : n ≤ 12) :
    Calls Tryz.prog 63 #[.slice (some ⟨g, 0, none⟩) n c, .func (.func 64) #[] #[.pointer (some ⟨bx, 0, none⟩)]] w (SortPost w g k l rest) := by
  have HL := Lib.hid hl; have H := Lib.hid h; have HC := Lib.hid hc; have HB := Lib.hid hb; have HKK := Lib.hid hk; clear hl h hc hb hk
  have hn2 : (n : Int) ≤ 12 := by omega
  have hn0 : (0 : Int) ≤ (n : Int) := by omega
  go_enter Tryz.func63, Tryz.ntmps63
  go_wp2_with fail
  refine (len_some n _ hn).mono ?_
  rintro e w' ⟨⟨v, rfl⟩, rfl⟩
  go_wp2_with fail
  refine (pdq_any g n c k v bx bs gm M l rest _ HL.out H.out HC.out had HKK.out HB.out hn).mono ?_
  rintro e w2 ⟨rfl, xs, hp, hs, hb2, hk2⟩
  have HP := Lib.hid hp; have HS := Lib.hid hs; have HB2 := Lib.hid hb2; have HK2 := Lib.hid hk2; clear hp hs hb2 hk2
  go_wp2
  go_end0
  exact ⟨rfl, xs, HP.out, HS.out, HB2.out, HK2.out⟩
end Go.Proofs.YticckfioggeaeaaGreatDoor
