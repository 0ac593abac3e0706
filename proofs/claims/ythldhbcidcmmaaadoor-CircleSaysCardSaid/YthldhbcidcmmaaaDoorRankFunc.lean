/-
  math/bits.Len of a small number, slices.SortFunc of 12 or fewer, circle.Rank, by their contracts.
-/
import Derived.Test.YthldhbcidcmmaaaDoorRankSort
namespace Go.Proofs.YthldhbcidcmmaaaDoor
open Go.RowKit

/-! ### SortFunc -/
set_option maxRecDepth 100000 in
theorem len64_some (n : Nat) (w : World) (hn : n ≤ 12) : Calls Tryd.prog 82 #[.int .u64 n] w fun e w' => (∃ v, e = .returned (.int .i64 v)) ∧ w = w' := by
  have hcase : n = 0 ∨ n = 1 ∨ n = 2 ∨ n = 3 ∨ n = 4 ∨ n = 5 ∨ n = 6 ∨ n = 7 ∨ n = 8 ∨ n = 9 ∨ n = 10 ∨ n = 11 ∨ n = 12 := by omega
  clear hn
  rcases hcase with rfl | rfl | rfl | rfl | rfl | rfl | rfl | rfl | rfl | rfl | rfl | rfl | rfl
  all_goals
    go_enter Tryd.func82, Tryd.ntmps82
    go_wp2
    go_ret
    exact ⟨⟨_, rfl⟩, rfl⟩
theorem len_some (n : Nat) (w : World) (hn : n ≤ 12) : Calls Tryd.prog 66 #[.int .u64 n] w fun e w' => (∃ v, e = .returned (.int .i64 v)) ∧ w = w' := by
  go_enter Tryd.func66, Tryd.ntmps66
  go_wp2_with fail
  refine (len64_some n _ hn).mono ?_
  rintro e w' ⟨⟨v, rfl⟩, rfl⟩
  go_wp2
  go_ret
  exact ⟨⟨_, rfl⟩, rfl⟩

set_option maxHeartbeats 1000000 in
set_option maxRecDepth 100000 in
theorem pdq_any (g n c : Nat) (k lim : Int) (ad : Addr) (l : List Int) (rest : List Value) (w : World) (hl : l.length = n) (h : Blk w g 3 (ints l ++ rest)) (hc : w.cell? ad = some (.int .i64 k)) (had : ad.block ≠ g) (hal : ad.block < w.heap.size) (hk0 : 0 ≤ k) (hk1 : k ≤ 1000000) (hb : InB l) (hn : n ≤ 12) :
    Calls Tryd.prog 65 #[.slice (some ⟨g, 0, none⟩) n c, .int .i64 0, .int .i64 n, .int .i64 lim, .func (.func 52) #[] #[.pointer (some ad)]] w (SortPost w g k l rest) := by
  have HL := Lib.hid hl; have H := Lib.hid h; have HC := Lib.hid hc; have HB := Lib.hid hb; clear hl h hc hb
  have hn2 : (n : Int) ≤ 12 := by omega
  have hn0 : (0 : Int) ≤ (n : Int) := by omega
  go_enter Tryd.func65, Tryd.ntmps65
  go_wp2
  refine wp_loop_rounds 1 ?_
  rw [rounds_succ]
  go_wp2_with fail
  refine (insSort_any g n c k ad l rest _ HL.out H.out HC.out had hal hk0 hk1 HB.out hn).mono ?_
  rintro e w2 ⟨rfl, xs, hp, hs, hb2, hk2⟩
  have HP := Lib.hid hp; have HS := Lib.hid hs; have HB2 := Lib.hid hb2; have HK2 := Lib.hid hk2; clear hp hs hb2 hk2
  go_wp2
  go_end0
  exact ⟨rfl, xs, HP.out, HS.out, HB2.out, HK2.out⟩

set_option maxHeartbeats 1000000 in
set_option maxRecDepth 100000 in
theorem sortFunc_any (g n c : Nat) (k : Int) (ad : Addr) (l : List Int) (rest : List Value) (w : World) (hl : l.length = n) (h : Blk w g 3 (ints l ++ rest)) (hc : w.cell? ad = some (.int .i64 k)) (had : ad.block ≠ g) (hal : ad.block < w.heap.size) (hk0 : 0 ≤ k) (hk1 : k ≤ 1000000) (hb : InB l) (hn : n ≤ 12) :
    Calls Tryd.prog 51 #[.slice (some ⟨g, 0, none⟩) n c, .func (.func 52) #[] #[.pointer (some ad)]] w (SortPost w g k l rest) := by
  have HL := Lib.hid hl; have H := Lib.hid h; have HC := Lib.hid hc; have HB := Lib.hid hb; clear hl h hc hb
  have hn2 : (n : Int) ≤ 12 := by omega
  have hn0 : (0 : Int) ≤ (n : Int) := by omega
  go_enter Tryd.func51, Tryd.ntmps51
  go_wp2_with fail
  refine (len_some n _ hn).mono ?_
  rintro e w' ⟨⟨v, rfl⟩, rfl⟩
  go_wp2_with fail
  refine (pdq_any g n c k v ad l rest _ HL.out H.out HC.out had hal hk0 hk1 HB.out hn).mono ?_
  rintro e w2 ⟨rfl, xs, hp, hs, hb2, hk2⟩
  have HP := Lib.hid hp; have HS := Lib.hid hs; have HB2 := Lib.hid hb2; have HK2 := Lib.hid hk2; clear hp hs hb2 hk2
  go_wp2
  go_end0
  exact ⟨rfl, xs, HP.out, HS.out, HB2.out, HK2.out⟩
end Go.Proofs.YthldhbcidcmmaaaDoor
