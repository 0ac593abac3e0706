/-
  SketchAdds: the walk.
-/
import Derived.Test.YtnpokcjdnlmheaaSketchLaw
import Derived.Test.YtnpokcjdnlmheaaLift
import Derived.StillTailTactics
import Derived.Outline
namespace Go.Proofs.Ytnpokcjdnlmheaa
open Go.RowKit

/-- A row of two numbers, read. -/
theorem IntsIn.two {w : World} {B : Nat} {a : Option Addr} {x y : Int} (h : IntsIn w B a [x, y]) : ∃ b off, a = some ⟨b, off, none⟩ ∧ b < B ∧ w.cell? ⟨b, off, none⟩ = some (.int .i64 x) ∧ w.cell? ⟨b, off + 1, none⟩ = some (.int .i64 y) := by
  obtain ⟨b, off, e, hb, hc⟩ := h (by simp)
  exact ⟨b, off, e, hb, hc 0 x rfl, hc 1 y rfl⟩

/-- A sketch of the call's own, behind k steps. -/
def SkRel (w : World) (b depth width g cap : Nat) (L : List Nat) (n : Nat) (i : Value) (wr : World) : Prop :=
  ∃ (k : Nat) (rows : List (List Int)) (sum : Int), k ≤ n ∧ k ≤ 60 ∧ i = .int .i64 k ∧ SketchAt wr b g cap L width rows sum ∧ rows.length = depth ∧ SkInv width rows sum ∧ sum ≤ 1000 * k ∧ Below w.heap.size w wr

theorem sketchAdds_no (depth width : Int) (a : Option Addr) (n c : Nat) (key m other : Int) (w : World) (h : ¬ (1 ≤ depth ∧ depth ≤ 4 ∧ 1 ≤ width ∧ width ≤ 16)) :
    Calls Try.prog 3 #[.int .i64 depth, .int .i64 width, .slice a n c, .int .i64 key, .int .i64 m, .int .i64 other] w fun e w' => e = .returned (.bool true) ∧ Below w.heap.size w w' := by
  by_cases h1 : 1 ≤ depth ∧ depth ≤ 4
  · have h2 : width < 1 ∨ 16 < width := by omega
    obtain ⟨h3, h4⟩ := h1
    go_enter Try.func3, Try.ntmps3
    go_wp2_with (first
      | (go_at_call 12; refine (sketchFact_any _).mono ?_; rintro e w1 ⟨rfl, hb1⟩)
      | (go_at_call 13; refine (sketchNew_no _ _ _ h).mono ?_; rintro e w2 ⟨rfl, rfl⟩)
      | (go_at_call 14; refine (in_yes _ _ _ _ (by omega) (by omega)).mono ?_; rintro e w' ⟨rfl, rfl⟩)
      | (go_at_call 14; refine (in_no _ _ _ _ (by omega)).mono ?_; rintro e w' ⟨rfl, rfl⟩))
    go_ret
    exact ⟨rfl, hb1⟩
  · have h2 : depth < 1 ∨ 4 < depth := by omega
    go_enter Try.func3, Try.ntmps3
    go_wp2_with (first
      | (go_at_call 12; refine (sketchFact_any _).mono ?_; rintro e w1 ⟨rfl, hb1⟩)
      | (go_at_call 13; refine (sketchNew_no _ _ _ h).mono ?_; rintro e w2 ⟨rfl, rfl⟩)
      | (go_at_call 14; refine (in_no _ _ _ _ (by omega)).mono ?_; rintro e w' ⟨rfl, rfl⟩))
    go_ret
    exact ⟨rfl, hb1⟩
theorem SketchAt.drew {w : World} {b g cap : Nat} {L : List Nat} {width : Nat} {rows : List (List Int)} {sum : Int} (hs : SketchAt w b g cap L width rows sum) : SketchAt w.drew b g cap L width rows sum :=
  hs.keep (Keep.refl [] w).drew (by simp)

def AddAny (w : World) (b g cap : Nat) (L : List Nat) (depth width : Nat) (s0 : Int) (e : Ending) (w' : World) : Prop :=
  ∃ v rows' sum', e = .returned v ∧ SketchAt w' b g cap L width rows' sum' ∧ rows'.length = depth ∧ SkInv width rows' sum' ∧ sum' ≤ s0 + 1000 ∧ Keep (b :: L) w w'

/-- Add, whatever is told. -/
theorem add_some (b g cap : Nat) (L : List Nat) (width : Nat) (rows : List (List Int)) (sum key n : Int) (w : World) (hs : SketchAt w b g cap L width rows sum) (hL0 : 0 < L.length) (hL : L.length ≤ 4) (hw1 : 1 ≤ (width : Int)) (hw2 : (width : Int) ≤ 16)
    (hi : SkInv width rows sum) (hsum : sum ≤ 60000) :
    Calls Try.prog 15 #[.pointer (some ⟨b, 0, none⟩), .int .i64 key, .int .i64 n] w (AddAny w b g cap L rows.length width sum) := by
  by_cases h : 0 ≤ key ∧ key ≤ 1000000 ∧ 0 ≤ n ∧ n ≤ 1000
  · obtain ⟨h1, h2, h3, h4⟩ := h
    refine (add_ok b g cap L width rows sum key n w hs hL0 hL hw1 hw2 h1 h2 h3 h4 hi.2 (by omega) (skBd_inv hi (by omega))).mono ?_
    rintro e w' ⟨rfl, hs', hk⟩
    exact ⟨_, _, _, rfl, hs', skAdd_len _ _ _ _, skInv_add hi h3 (by omega), by omega, hk⟩
  · refine (add_range b key n w h).mono ?_
    rintro e w' ⟨rfl, rfl⟩
    exact ⟨_, _, _, rfl, hs, rfl, hi, by omega, Keep.refl _ _⟩

set_option maxHeartbeats 1000000 in
set_option maxRecDepth 100000 in
theorem sketchAdds_yes (depth width : Nat) (h1 : 1 ≤ (depth : Int)) (h2 : (depth : Int) ≤ 4) (h3 : 1 ≤ (width : Int)) (h4 : (width : Int) ≤ 16) (a : Option Addr) (c : Nat) (xss : List (List Int)) (key m other : Int) (w : World)
    (hx : RowsIn w w.heap.size a xss) (hn : xss.length ≤ maxLen) :
    Calls Try.prog 3 #[.int .i64 depth, .int .i64 width, .slice a xss.length c, .int .i64 key, .int .i64 m, .int .i64 other] w fun e w' => e = .returned (.bool true) ∧ Below w.heap.size w w' := by
  have HN := Lib.hid hn; clear hn
  go_enter Try.func3, Try.ntmps3
  go_wp2_with (first
    | (go_at_call 12; refine (sketchFact_any _).mono ?_; rintro e w1 ⟨rfl, hb1⟩)
    | (go_at_call 13; refine (sketchNew_yes depth width _ h1 h2 h3 h4).mono ?_; rintro e w2 ⟨g, cap, L, rfl, hs, hg, hLb, hb2⟩))
  have hsz1 := hb1.size
  have hlen := hs.len
  rw [List.length_replicate] at hlen
  have hL0 : 0 < L.length := by omega
  have hL4 : L.length ≤ 4 := by omega
  have HLEN := Lib.hid hlen; clear hlen
  have hF : ∀ x ∈ w1.heap.size :: L, w.heap.size ≤ x := by
    intro x hx
    rcases List.mem_cons.1 hx with h | h
    · omega
    · have := hLb x h; omega
  have HS := Lib.hid hs; clear hs
  have hbw : Below w.heap.size w w2 := hb1.trans (hb2.mono hsz1)
  go_loopw [16] (SkRel w w1.heap.size depth width g cap L xss.length) (fun i _ => xss.length - (intOf i).toNat)
  case atStart => exact ⟨0, _, 0, by omega, by omega, rfl, HS.out, by simp, skInv_zero _ _, by omega, hbw⟩
  case round =>
    obtain ⟨k, rows, sum, hk, hk6, rfl, hs, hr, hi, hsum, hbel⟩ := hrel
    by_cases hlt : k < xss.length ∧ k < 60
    · obtain ⟨hlt, hlt6⟩ := hlt
      obtain ⟨b, off, a', c', rfl, hbB, hcell, hrow⟩ := hx.at_ hlt
      obtain ⟨l, hl⟩ : ∃ l, l = xss[k] := ⟨_, rfl⟩
      rw [← hl] at hcell hrow
      clear hl
      have hcell2 := (hbel.cell (p := ⟨b, off + k, none⟩) hbB).trans hcell
      clear hcell
      by_cases hl2 : l.length = 2
      · obtain ⟨x, y, rfl⟩ : ∃ x y, l = [x, y] := by
          match l, hl2 with
          | [x, y], _ => exact ⟨x, y, rfl⟩
        obtain ⟨b3, off3, rfl, hb3, hx0, hx1⟩ := (hrow.below hbel).two
        clear hl2
        have hk60 : (k : Int) < 60 := by omega
        have hkn : (k : Int) < (xss.length : Int) := by omega
        have HS := Lib.hid hs; clear hs
        go_wp2
        go_still_tail 13, (by kernel_rfl)
        go_wp2_with (go_at_call 15; refine (add_some w1.heap.size g cap L width rows sum x y _ HS.out.drew hL0 hL4 h3 h4 hi (by omega)).mono ?_; rintro e w3 ⟨v, rows2, sum2, rfl, hs3, hr3, hi3, hsum3, hk3⟩)
        go_wp2
        go_roundw
        case rel => exact ⟨k + 1, rows2, sum2, hlt, hlt6, by go_num, hs3, by omega, hi3, by omega, hbel.drew.trans (hk3.below (by simpa using hbel.size) hF)⟩
        case measure => simp [intOf]; omega
      · have hl3 : ((l.length : Int) == 2) = false := beq_eq_false_iff_ne.2 (by omega)
        have hk60 : (k : Int) < 60 := by omega
        have hkn : (k : Int) < (xss.length : Int) := by omega
        have HS := Lib.hid hs; clear hs
        go_wp2
        go_roundw
        case rel => exact ⟨k + 1, rows, sum, hlt, hlt6, by go_num, HS.out, hr, hi, by omega, hbel⟩
        case measure => simp [intOf]; omega
    · have HS := Lib.hid hs; clear hs
      have hx : ¬ (k : Int) < (xss.length : Int) ∨ ((k : Int) < (xss.length : Int) ∧ ¬ (k : Int) < 60) := by omega
      have hr0 : 0 < rows.length := by omega
      have hsm : sum ≤ 60000 := by omega
      have hend : ∀ (F : List Nat) (w' : World), (∀ x ∈ F, w.heap.size ≤ x) → Keep F wr w' → Below w.heap.size w w' := fun F w' hF hk => hbel.trans (hk.below hbel.size hF)
      have HE := Lib.hid hend; clear hend
      clear hlt
      by_cases hkey : 0 ≤ key ∧ key ≤ 1000000
      · obtain ⟨hk1, hk2⟩ := hkey
        by_cases hoth : 0 ≤ other ∧ other ≤ 1000000
        · obtain ⟨ho1, ho2⟩ := hoth
          by_cases hm : 0 ≤ m ∧ m ≤ 1000
          · obtain ⟨hm1, hm2⟩ := hm
            have hself := count_self (key := key) hi hm1 (by omega) hr0 (by omega)
            obtain ⟨hot1, hot2⟩ := count_other (key := key) (other := other) hi hm1 (by omega)
            have hA := count_le (key := key) hi hr0
            have hB := count_le (key := other) hi hr0
            have hA0 := count_ge key hi
            have hB0 := count_ge other hi
            have hself2 : (skCount key width (skAdd key m width rows) == skCount key width rows + m) = true := by rw [hself]; simp
            clear hself
            rcases hx with hx | ⟨hx, hx2⟩
            all_goals
              go_wp2_with fail
              refine (count_ok _ g cap L width rows sum key _ HS.out hL0 hL4 h3 h4 hk1 hk2).mono ?_
              rintro e w4 ⟨rfl, hs4, hk4⟩
              have HS4 := Lib.hid hs4; clear hs4
              go_wp2_with fail
              refine (count_ok _ g cap L width rows sum other _ HS4.out hL0 hL4 h3 h4 ho1 ho2).mono ?_
              rintro e w5 ⟨rfl, hs5, hk5⟩
              have HS5 := Lib.hid hs5; clear hs5
              go_wp2_with fail
              refine (add_ok _ g cap L width rows sum key m _ HS5.out hL0 hL4 h3 h4 hk1 hk2 hm1 hm2 hi.2 (by omega) (skBd_inv hi (by omega))).mono ?_
              rintro e w6 ⟨rfl, hs6, hk6⟩
              have HS6 := Lib.hid hs6; clear hs6
              go_wp2_with fail
              refine (count_ok _ g cap L width _ _ key _ HS6.out hL0 hL4 h3 h4 hk1 hk2).mono ?_
              rintro e w7 ⟨rfl, hs7, hk7⟩
              have HS7 := Lib.hid hs7; clear hs7
              go_wp2_with fail
              refine (count_ok _ g cap L width _ _ other _ HS7.out hL0 hL4 h3 h4 ho1 ho2).mono ?_
              rintro e w8 ⟨rfl, hs8, hk8⟩
              have HS8 := Lib.hid hs8; clear hs8
              go_wp2_with fail
              go_ret
              exact ⟨rfl, HE.out (w1.heap.size :: L) _ hF ((hk4.mono (by simp)).trans ((hk5.mono (by simp)).trans (hk6.trans ((hk7.mono (by simp)).trans (hk8.mono (by simp))))))⟩
          · have hm' : m < 0 ∨ 1000 < m := by omega
            rcases hx with hx | ⟨hx, hx2⟩
            all_goals
              go_wp2_with fail
              refine (count_ok _ g cap L width rows sum key _ HS.out hL0 hL4 h3 h4 hk1 hk2).mono ?_
              rintro e w4 ⟨rfl, hs4, hk4⟩
              have HS4 := Lib.hid hs4; clear hs4
              go_wp2_with fail
              refine (count_ok _ g cap L width rows sum other _ HS4.out hL0 hL4 h3 h4 ho1 ho2).mono ?_
              rintro e w5 ⟨rfl, hs5, hk5⟩
              have HS5 := Lib.hid hs5; clear hs5
              go_wp2_with fail
              refine (add_range _ key m _ (by omega)).mono ?_
              rintro e w6 ⟨rfl, rfl⟩
              go_wp2_with (go_at_call 14; refine (in_no _ _ _ _ hm').mono ?_; rintro e w' ⟨rfl, rfl⟩)
              go_ret
              exact ⟨rfl, HE.out [] _ (by simp) (hk4.trans hk5)⟩
        · have hoth' : other < 0 ∨ 1000000 < other := by omega
          rcases hx with hx | ⟨hx, hx2⟩
          all_goals
            go_wp2_with fail
            refine (count_ok _ g cap L width rows sum key _ HS.out hL0 hL4 h3 h4 hk1 hk2).mono ?_
            rintro e w4 ⟨rfl, hs4, hk4⟩
            clear hs4
            go_wp2_with fail
            refine (count_range _ other _ hoth').mono ?_
            rintro e w5 ⟨rfl, rfl⟩
            go_wp2_with fail
            refine (in_yes _ _ _ _ hk1 hk2).mono ?_
            rintro e w' ⟨rfl, rfl⟩
            go_wp2_with fail
            refine (in_no _ _ _ _ hoth').mono ?_
            rintro e w' ⟨rfl, rfl⟩
            go_wp2_with fail
            go_ret
            exact ⟨rfl, HE.out [] _ (by simp) hk4⟩
      · have hkey' : key < 0 ∨ 1000000 < key := by omega
        by_cases hoth : 0 ≤ other ∧ other ≤ 1000000
        · obtain ⟨ho1, ho2⟩ := hoth
          rcases hx with hx | ⟨hx, hx2⟩
          all_goals
            go_wp2_with fail
            refine (count_range _ key _ hkey').mono ?_
            rintro e w5 ⟨rfl, rfl⟩
            go_wp2_with fail
            refine (count_ok _ g cap L width rows sum other _ HS.out hL0 hL4 h3 h4 ho1 ho2).mono ?_
            rintro e w4 ⟨rfl, hs4, hk4⟩
            clear hs4
            go_wp2_with fail
            refine (in_no _ _ _ _ hkey').mono ?_
            rintro e w' ⟨rfl, rfl⟩
            go_wp2_with fail
            go_ret
            exact ⟨rfl, HE.out [] _ (by simp) hk4⟩
        · have hoth' : other < 0 ∨ 1000000 < other := by omega
          rcases hx with hx | ⟨hx, hx2⟩
          all_goals
            go_wp2_with fail
            refine (count_range _ key _ hkey').mono ?_
            rintro e w5 ⟨rfl, rfl⟩
            go_wp2_with fail
            refine (count_range _ other _ hoth').mono ?_
            rintro e w4 ⟨rfl, rfl⟩
            go_wp2_with fail
            refine (in_no _ _ _ _ hkey').mono ?_
            rintro e w' ⟨rfl, rfl⟩
            go_wp2_with fail
            go_ret
            exact ⟨rfl, HE.out [] _ (by simp) (Keep.refl _ _)⟩

theorem sketchAdds_walk (x0 x1 : Int) (a2 : Option Addr) (c2 : Nat) (l2 : List (List Int)) (x3 x4 x5 : Int) (w : World) (_ : I64 x0) (_ : I64 x1) (h2 : RowsIn w w.heap.size a2 l2) (_ : ∀ r ∈ l2, r.length ≤ maxLen ∧ ∀ y ∈ r, I64 y) (m2 : l2.length ≤ maxLen)
    (_ : I64 x3) (_ : I64 x4) (_ : I64 x5) :
    Calls Try.prog 3 #[.int .i64 x0, .int .i64 x1, .slice a2 l2.length c2, .int .i64 x3, .int .i64 x4, .int .i64 x5] w fun e w' => e = .returned (.bool true) ∧ Below w.heap.size w w' := by
  by_cases h : 1 ≤ x0 ∧ x0 ≤ 4 ∧ 1 ≤ x1 ∧ x1 ≤ 16
  · obtain ⟨h1, h2', h3, h4⟩ := h
    obtain ⟨d, rfl⟩ := Int.eq_ofNat_of_zero_le (show 0 ≤ x0 by omega)
    obtain ⟨e, rfl⟩ := Int.eq_ofNat_of_zero_le (show 0 ≤ x1 by omega)
    exact sketchAdds_yes d e h1 h2' h3 h4 a2 c2 l2 x3 x4 x5 w h2 m2
  · exact sketchAdds_no x0 x1 a2 _ c2 x3 x4 x5 w h
end Go.Proofs.Ytnpokcjdnlmheaa
