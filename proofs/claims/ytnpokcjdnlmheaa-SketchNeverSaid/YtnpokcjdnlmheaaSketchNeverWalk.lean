/-
  SketchNever: the walk.
-/
import Derived.Test.YtnpokcjdnlmheaaSketchAddsWalk
import Derived.Test.YtnpokcjdnlmheaaSameSum
import Derived.Deep.RegionWith
import Derived.Deep.RegionHeld3
import Derived.Deep.QuietTactic
import Derived.BigQuiet
namespace Go.Proofs.Ytnpokcjdnlmheaa
open Go.RowKit

/-- What was added at the key 'ask' is counted at each of its places. -/
def Counts (ask : Int) (width : Nat) (rows : List (List Int)) (times : Int) : Prop := ∀ r : Nat, r < rows.length → times ≤ entry rows r (hashN ask r width)

theorem counts_zero (ask : Int) (depth width : Nat) : Counts ask width (sk0 depth width) 0 := fun r _ => (entry_bd (skInv_zero depth width) r _).1
theorem counts_other {ask key n times : Int} {width : Nat} {rows : List (List Int)} {sum : Int} (h : Counts ask width rows times) (hi : SkInv width rows sum) (hn : 0 ≤ n) (hw : 0 < width) : Counts ask width (skAdd key n width rows) times := fun r hr => by
  rw [skAdd_len] at hr
  have := h r hr
  have := (entry_add (key := key) hi hn hw r (hashN ask r width) hr).1
  omega
theorem counts_self {ask n times : Int} {width : Nat} {rows : List (List Int)} {sum : Int} (h : Counts ask width rows times) (hi : SkInv width rows sum) (hn : 0 ≤ n) (hw : 0 < width) : Counts ask width (skAdd ask n width rows) (times + n) := fun r hr => by
  rw [skAdd_len] at hr
  have := h r hr
  have := (entry_add (key := ask) hi hn hw r (hashN ask r width) hr).2.2 rfl
  omega
theorem counts_le {ask times : Int} {width : Nat} {rows : List (List Int)} (h : Counts ask width rows times) (ht : times ≤ 1000000) : times ≤ skCount ask width rows := by
  have main : ∀ k, k ≤ rows.length → times ≤ cntTo ask width rows k := by
    intro k hk
    induction k with
    | zero => simpa [cntTo] using ht
    | succ k ih =>
      have h1 := ih (by omega)
      have h2 := h k hk
      simp only [cntTo]; omega
  exact main _ (Nat.le_refl _)

def NvRel (w : World) (b depth width g cap : Nat) (L : List Nat) (n : Nat) (ask : Int) (t i : Value) (wr : World) : Prop :=
  ∃ (k : Nat) (rows : List (List Int)) (sum times : Int), k ≤ n ∧ k ≤ 60 ∧ i = .int .i64 k ∧ t = .int .i64 times ∧ SketchAt wr b g cap L width rows sum ∧ rows.length = depth ∧ SkInv width rows sum ∧ sum ≤ 1000 * k ∧
    Counts ask width rows times ∧ 0 ≤ times ∧ times ≤ sum ∧ Below w.heap.size w wr

theorem sketchNever_no (depth width : Int) (a : Option Addr) (n c : Nat) (ask : Int) (w : World) (h : ¬ (1 ≤ depth ∧ depth ≤ 4 ∧ 1 ≤ width ∧ width ≤ 16)) :
    Calls Try.prog 7 #[.int .i64 depth, .int .i64 width, .slice a n c, .int .i64 ask] w fun e w' => e = .returned (.bool true) ∧ Below w.heap.size w w' := by
  by_cases h1 : 1 ≤ depth ∧ depth ≤ 4
  · have h2 : width < 1 ∨ 16 < width := by omega
    obtain ⟨h3, h4⟩ := h1
    go_enter Try.func7, Try.ntmps7
    go_wp2_with (first
      | (go_at_call 12; refine (sketchFact_any _).mono ?_; rintro e w1 ⟨rfl, hb1⟩)
      | (go_at_call 13; refine (sketchNew_no _ _ _ h).mono ?_; rintro e w2 ⟨rfl, rfl⟩)
      | (go_at_call 14; refine (in_yes _ _ _ _ (by omega) (by omega)).mono ?_; rintro e w' ⟨rfl, rfl⟩)
      | (go_at_call 14; refine (in_no _ _ _ _ (by omega)).mono ?_; rintro e w' ⟨rfl, rfl⟩))
    go_ret
    exact ⟨rfl, hb1⟩
  · have h2 : depth < 1 ∨ 4 < depth := by omega
    go_enter Try.func7, Try.ntmps7
    go_wp2_with (first
      | (go_at_call 12; refine (sketchFact_any _).mono ?_; rintro e w1 ⟨rfl, hb1⟩)
      | (go_at_call 13; refine (sketchNew_no _ _ _ h).mono ?_; rintro e w2 ⟨rfl, rfl⟩)
      | (go_at_call 14; refine (in_no _ _ _ _ (by omega)).mono ?_; rintro e w' ⟨rfl, rfl⟩))
    go_ret
    exact ⟨rfl, hb1⟩

set_option maxHeartbeats 1000000 in
set_option maxRecDepth 100000 in
theorem sketchNever_yes (depth width : Nat) (h1 : 1 ≤ (depth : Int)) (h2 : (depth : Int) ≤ 4) (h3 : 1 ≤ (width : Int)) (h4 : (width : Int) ≤ 16) (a : Option Addr) (c : Nat) (xss : List (List Int)) (ask : Int) (w : World)
    (hx : RowsIn w w.heap.size a xss) (hn : xss.length ≤ maxLen) :
    Calls Try.prog 7 #[.int .i64 depth, .int .i64 width, .slice a xss.length c, .int .i64 ask] w fun e w' => e = .returned (.bool true) ∧ Below w.heap.size w w' := by
  have HN := Lib.hid hn; clear hn
  go_enter Try.func7, Try.ntmps7
  go_wp2_with (first
    | (go_at_call 12; refine (sketchFact_any _).mono ?_; rintro e w1 ⟨rfl, hb1⟩)
    | (go_at_call 13; refine (sketchNew_yes depth width _ h1 h2 h3 h4).mono ?_; rintro e w2 ⟨g, cap, L, rfl, hs, hg, hLb, hb2⟩))
  have hsz1 := hb1.size
  have hlen := hs.len
  rw [List.length_replicate] at hlen
  have hL0 : 0 < L.length := by omega
  have hL4 : L.length ≤ 4 := by omega
  have HLEN := Lib.hid hlen; clear hlen
  have hF : ∀ x ∈ w1.heap.size :: L, w.heap.size ≤ x := by
    intro x hx
    rcases List.mem_cons.1 hx with h | h
    · omega
    · have := hLb x h; omega
  have HS := Lib.hid hs; clear hs
  have hbw : Below w.heap.size w w2 := hb1.trans (hb2.mono hsz1)
  go_loopw [12, 13] (NvRel w w1.heap.size depth width g cap L xss.length ask) (fun _ i _ => xss.length - (intOf i).toNat)
  case atStart => exact ⟨0, _, 0, 0, by omega, by omega, rfl, rfl, HS.out, by simp, skInv_zero _ _, by omega, counts_zero _ _ _, by omega, by omega, hbw⟩
  case round =>
    obtain ⟨k, rows, sum, times, hk, hk6, rfl, rfl, hs, hr, hi, hsum, hcs, ht0, hts, hbel⟩ := hrel
    have hw0 : 0 < width := by omega
    by_cases hlt : k < xss.length ∧ k < 60
    · obtain ⟨hlt, hlt6⟩ := hlt
      obtain ⟨b, off, a', c', rfl, hbB, hcell, hrow⟩ := hx.at_ hlt
      obtain ⟨l, hl⟩ : ∃ l, l = xss[k] := ⟨_, rfl⟩
      rw [← hl] at hcell hrow
      clear hl
      have hcell2 := (hbel.cell (p := ⟨b, off + k, none⟩) hbB).trans hcell
      clear hcell
      have hk60 : (k : Int) < 60 := by omega
      have hkn : (k : Int) < (xss.length : Int) := by omega
      by_cases hl2 : l.length = 2
      · obtain ⟨x, y, rfl⟩ : ∃ x y, l = [x, y] := by
          match l, hl2 with
          | [x, y], _ => exact ⟨x, y, rfl⟩
        obtain ⟨b3, off3, rfl, hb3, hx0, hx1⟩ := hrow.two
        have hb3' : b3 < wr.heap.size := by have := hbel.size; omega
        clear hl2 hrow
        have HX0 := Lib.hid hx0; have HX1 := Lib.hid hx1; clear hx0 hx1
        have hx0 : wr.cell? ⟨b3, off3, none⟩ = some (.int .i64 x) := (hbel.cell (p := ⟨b3, off3, none⟩) hb3).trans HX0.out
        have hx1 : wr.cell? ⟨b3, off3 + 1, none⟩ = some (.int .i64 y) := (hbel.cell (p := ⟨b3, off3 + 1, none⟩) hb3).trans HX1.out
        have HS := Lib.hid hs; clear hs
        by_cases hrg : 0 ≤ x ∧ x ≤ 1000000 ∧ 0 ≤ y ∧ y ≤ 1000
        · obtain ⟨g1, g2, g3, g4⟩ := hrg
          by_cases hxa : x = ask
          · have hxa' : (x == ask) = true := beq_iff_eq.2 hxa
            have HXA := Lib.hid hxa; clear hxa
            go_wp2
            go_region_held3 (fun w' => w'.cell? ⟨b3, off3, none⟩ = some (.int .i64 x) ∧ w'.cell? ⟨b3, off3 + 1, none⟩ = some (.int .i64 y)) (first | exact ⟨hx0, hx1⟩ | exact ⟨hy0, hy1⟩) (first | (go_at_call 15; refine (add_ok _ g cap L width rows sum x y _ ?_ hL0 hL4 h3 h4 g1 g2 g3 g4 hi.2 (by omega) (skBd_inv hi (by omega))).mono ?_; exact HS.out.drew; rintro e w3 ⟨rfl, hs3, hk3⟩; have hb4 := hbel.drew.trans (hk3.below (by simpa using hbel.size) hF); have hy0 := (hb4.cell (p := ⟨b3, off3, none⟩) hb3).trans HX0.out; have hy1 := (hb4.cell (p := ⟨b3, off3 + 1, none⟩) hb3).trans HX1.out))
            go_wp2
            go_roundw
            case rel =>
              refine ⟨k + 1, _, _, times + y, hlt, hlt6, by go_num, rfl, hs3, by rw [skAdd_len, hr], skInv_add hi g3 hw0, by omega, ?_, by omega, by omega, hb4⟩
              have := HXA.out
              subst this
              exact counts_self hcs hi g3 hw0
            case measure => simp [intOf]; omega
          · have hxa' : (x == ask) = false := beq_eq_false_iff_ne.2 hxa
            clear hxa
            go_wp2
            go_region_held3 (fun w' => w'.cell? ⟨b3, off3, none⟩ = some (.int .i64 x) ∧ w'.cell? ⟨b3, off3 + 1, none⟩ = some (.int .i64 y)) (first | exact ⟨hx0, hx1⟩ | exact ⟨hy0, hy1⟩) (first | (go_at_call 15; refine (add_ok _ g cap L width rows sum x y _ ?_ hL0 hL4 h3 h4 g1 g2 g3 g4 hi.2 (by omega) (skBd_inv hi (by omega))).mono ?_; exact HS.out.drew; rintro e w3 ⟨rfl, hs3, hk3⟩; have hb4 := hbel.drew.trans (hk3.below (by simpa using hbel.size) hF); have hy0 := (hb4.cell (p := ⟨b3, off3, none⟩) hb3).trans HX0.out; have hy1 := (hb4.cell (p := ⟨b3, off3 + 1, none⟩) hb3).trans HX1.out))
            go_wp2
            go_roundw
            case rel => exact ⟨k + 1, _, _, times, hlt, hlt6, by go_num, rfl, hs3, by rw [skAdd_len, hr], skInv_add hi g3 hw0, by omega, counts_other hcs hi g3 hw0, by omega, by omega, hb4⟩
            case measure => simp [intOf]; omega
        · go_wp2
          go_quiet ((go_at_call 15; exact quiet_eq (add_range _ x y _ hrg)))
          go_wp2
          go_roundw
          case rel => exact ⟨k + 1, _, _, times, hlt, hlt6, by go_num, rfl, HS.out.keep ((Keep.refl [] wr).drewN _) (by simp), hr, hi, by omega, hcs, by omega, by omega, hbel.trans (((Keep.refl [] wr).drewN _).below hbel.size (by simp))⟩
          case measure => simp [intOf]; omega
      · have hl3 : ((l.length : Int) == 2) = false := beq_eq_false_iff_ne.2 (by omega)
        have HS := Lib.hid hs; clear hs
        go_wp2
        go_quiet (fail)
        go_wp2
        go_roundw
        case rel => exact ⟨k + 1, rows, sum, times, hlt, hlt6, by go_num, rfl, HS.out.keep ((Keep.refl [] wr).drewN _) (by simp), hr, hi, by omega, hcs, by omega, by omega, hbel.trans (((Keep.refl [] wr).drewN _).below hbel.size (by simp))⟩
        case measure => simp [intOf]; omega
    · have HS := Lib.hid hs; clear hs
      have hx : ¬ (k : Int) < (xss.length : Int) ∨ ((k : Int) < (xss.length : Int) ∧ ¬ (k : Int) < 60) := by omega
      clear hlt
      have hC1 := counts_le hcs (by omega)
      have hC2 := count_le (key := ask) hi (by omega)
      clear hcs
      rcases hx with hx | ⟨hx, hx2⟩
      all_goals
        go_wp2_with fail
        obtain ⟨wo, rfl⟩ : ∃ wo : World, wo = wr := ⟨_, rfl⟩
        go_loopw [15] (fun j wx => ∃ r : Nat, r ≤ depth ∧ j = .int .i64 r ∧ SketchAt wx w1.heap.size g cap L width rows sum ∧ Below w.heap.size w wx) (fun j _ => depth - (intOf j).toNat)
        case atStart => exact ⟨0, Nat.zero_le _, rfl, HS.out, hbel⟩
        case round =>
          obtain ⟨r, hrd, rfl, hsx, hbx⟩ := hrel
          have HSX := Lib.hid hsx; clear hsx
          by_cases hlt : r < depth
          · have hrr : r < rows.length := by omega
            obtain ⟨q1, q2, q3⟩ := hi.1 _ (List.getElem_mem hrr)
            have HQ1 := Lib.hid q1; have HQ2 := Lib.hid q2; have HQ3 := Lib.hid q3
            clear q1 q2 q3
            go_wp2_with fail
            refine (row_ok _ g cap L width rows sum r _ HSX.out hL4 h3 h4 hrr).mono ?_
            rintro e wy ⟨v, rfl, hv, hby⟩
            obtain ⟨ar, cr, rfl, hin⟩ := hv.shape
            clear hv
            go_wp2_with fail
            refine (sum_small ar _ cr _ rows[r] _ rfl hin HQ2.out (by rw [HQ3.out]; omega) (by rw [HQ1.out]; omega)).mono ?_
            rintro e wz ⟨he, rfl⟩
            rw [HQ3.out] at he
            subst he
            go_wp2_with fail
            refine (sum_any _ g cap L width rows sum _ (HSX.out.keep (Keep.of_below hby (Nat.le_refl _)) (F := []) (by simp))).mono ?_
            rintro e wz ⟨rfl, rfl⟩
            go_wp2
            go_roundw
            case rel => exact ⟨r + 1, hlt, by go_num, HSX.out.keep (Keep.of_below hby (Nat.le_refl _)) (F := []) (by simp), hbx.trans (hby.mono hbx.size)⟩
            case measure => simp [intOf]; omega
          · by_cases hask : 0 ≤ ask ∧ ask ≤ 1000000
            · obtain ⟨ha1, ha2⟩ := hask
              go_wp2_with fail
              refine (count_ok _ g cap L width rows sum ask _ HSX.out hL0 hL4 h3 h4 ha1 ha2).mono ?_
              rintro e wy ⟨rfl, hsy, hky⟩
              have HSY := Lib.hid hsy; clear hsy
              go_wp2_with fail
              refine (sum_any _ g cap L width rows sum _ HSY.out).mono ?_
              rintro e wz ⟨rfl, rfl⟩
              go_wp2
              go_ret
              exact ⟨rfl, hbx.trans (hky.below hbx.size (by simp))⟩
            · have hask' : ask < 0 ∨ 1000000 < ask := by omega
              go_wp2_with fail
              refine (count_range _ ask _ hask').mono ?_
              rintro e wy ⟨rfl, rfl⟩
              go_wp2_with fail
              refine (in_no _ _ _ _ hask').mono ?_
              rintro e wz ⟨rfl, rfl⟩
              go_wp2
              go_ret
              exact ⟨rfl, hbx⟩

theorem sketchNever_walk (x0 x1 : Int) (a2 : Option Addr) (c2 : Nat) (l2 : List (List Int)) (x3 : Int) (w : World) (_ : I64 x0) (_ : I64 x1) (h2 : RowsIn w w.heap.size a2 l2) (_ : ∀ r ∈ l2, r.length ≤ maxLen ∧ ∀ y ∈ r, I64 y) (m2 : l2.length ≤ maxLen)
    (_ : I64 x3) :
    Calls Try.prog 7 #[.int .i64 x0, .int .i64 x1, .slice a2 l2.length c2, .int .i64 x3] w fun e w' => e = .returned (.bool true) ∧ Below w.heap.size w w' := by
  by_cases h : 1 ≤ x0 ∧ x0 ≤ 4 ∧ 1 ≤ x1 ∧ x1 ≤ 16
  · obtain ⟨h1, h2', h3, h4⟩ := h
    obtain ⟨d, rfl⟩ := Int.eq_ofNat_of_zero_le (show 0 ≤ x0 by omega)
    obtain ⟨e, rfl⟩ := Int.eq_ofNat_of_zero_le (show 0 ≤ x1 by omega)
    exact sketchNever_yes d e h1 h2' h3 h4 a2 c2 l2 x3 w h2 m2
  · exact sketchNever_no x0 x1 a2 _ c2 x3 w h
end Go.Proofs.Ytnpokcjdnlmheaa
