/-
  'in', by its contracts.
-/
import Derived.Test.YthldhbcidcmmaaaDoorCore
namespace Go.Proofs.YthldhbcidcmmaaaDoor
open Go.RowKit

theorem kin_yes (n l h : Int) (w : World) (h1 : l ≤ n) (h2 : n ≤ h) :
    Calls Tryd.prog 41 #[.int .i64 n, .int .i64 l, .int .i64 h] w fun e w' => e = .returned (.bool true) ∧ w = w' := by
  go_enter Tryd.func41, Tryd.ntmps41
  go_wp2
  go_ret
  simp
theorem kin_no (n l h : Int) (w : World) (h1 : n < l ∨ h < n) :
    Calls Tryd.prog 41 #[.int .i64 n, .int .i64 l, .int .i64 h] w fun e w' => e = .returned (.bool false) ∧ w = w' := by
  by_cases h2 : l ≤ n
  · have h3 : h < n := by omega
    clear h1
    go_enter Tryd.func41, Tryd.ntmps41
    go_wp2
    go_ret
    simp [h3]
  · have h3 : n < l := by omega
    clear h1 h2
    go_enter Tryd.func41, Tryd.ntmps41
    go_wp2
    go_ret
    simp

end Go.Proofs.YthldhbcidcmmaaaDoor
