/-
  CircleMoves: the walk.
-/
import Derived.Test.YthldhbcidcmmaaaCircleFact
import Derived.Test.YthldhbcidcmmaaaAppend
import Derived.Test.YthldhbcidcmmaaaLift3
namespace Go.Proofs.Ythldhbcidcmmaaa
open Go.RowKit

theorem own_moves (p : Int) {l : List Int} (h : l ≠ []) (x : Int) : ownO p (l ++ [x]) = ownO p l ∨ ownO p (l ++ [x]) = x := by
  rw [ownO_snoc p h]
  unfold stepO
  split
  · exact .inr rfl
  · exact .inl rfl

theorem own_row {w : World} {base n : Nat} {v : Value} {l : List Int} {x : Int} (hn : n = l.length) (h : w.ownsRow base 3 1 v (n + 1) (ints l ++ [.int .i64 x])) :
    ∃ a c, v = .slice a (n + 1) c ∧ IntsIn w w.heap.size a (l ++ [x]) ∧ n + 1 ≤ c := by
  have ho : OwnInts w base v (l ++ [x]) := by
    unfold OwnInts
    rw [List.length_append, List.length_cons, List.length_nil, ← hn]
    simpa [ints] using h
  obtain ⟨a, c, e, hi, hc, _⟩ := ho.new
  rw [List.length_append, List.length_cons, List.length_nil, Nat.zero_add, ← hn] at e hc
  exact ⟨a, c, e, hi.ints, hc⟩

set_option maxHeartbeats 2000000 in
set_option maxRecDepth 100000 in
theorem circleMoves_walk (a0 : Option Addr) (c0 : Nat) (l0 : List Int) (x1 x2 : Int) (w : World) (h0 : IntsIn w w.heap.size a0 l0) (_ : ∀ y ∈ l0, I64 y) (m0 : Reached l0) (z0 : (a0 = none → c0 = 0) ∧ l0.length ≤ c0) (_ : I64 x1) (_ : I64 x2) :
    Calls Try.prog 3 #[.slice a0 l0.length c0, .int .i64 x1, .int .i64 x2] w fun e w' => e = .returned (.bool true) ∧ Below w.heap.size w w' := by
  obtain ⟨z1, z2⟩ := z0
  unfold Reached reachBytes at m0
  have H0 := Lib.hid h0; have HZ1 := Lib.hid z1; have HZ2 := Lib.hid z2; clear h0 z1 z2
  obtain ⟨n, hn⟩ : ∃ n, n = l0.length := ⟨_, rfl⟩
  rw [← hn] at HZ2 m0 ⊢
  have HN := Lib.hid hn; clear hn
  obtain ⟨i0, hi, hz0, hz1, hz2⟩ := info_parts info_int
  go_enter Try.func3, Try.ntmps3
  go_wp2_with fail
  refine (circleFact_any _).mono ?_
  rintro e wf ⟨rfl, hbf⟩
  have hsf := hbf.size
  have HBF := Lib.hid hbf; clear hbf
  have H1 : Hid (IntsIn wf wf.heap.size a0 l0) := Lib.hid ((H0.out.below HBF.out).more hsf)
  go_wp2_with fail
  refine (cOwner_any a0 n c0 l0 x2 _ HN.out.symm H1.out HZ2.out).mono ?_
  rintro e w1 ⟨hb1, ⟨hg, hk0, hk1, hne, rfl⟩ | ⟨hno, er, rfl⟩⟩
  all_goals
    have HB1 : Hid (Below w.heap.size w w1) := Lib.hid (HBF.out.trans (hb1.mono hsf))
    have hs1 := HB1.out.size
    have HI1 : Hid (IntsIn w1 w.heap.size a0 l0) := Lib.hid (H0.out.below HB1.out)
    clear hb1
    go_wp2_with (first
      | (at_builtin; refine wpList_append_src rfl (.tmp 22) (.tmp 23) 22 rfl w1.heap.size 3 i0 (.int .i64 0) 8 Try.underlying22 hi hz0 hz1 hz2 rfl (.slice none 0 0) 0 [] rfl (World.ownsRow_nil _ _ _ _) a0 n c0 (ints l0) rfl (src_ints HN.out.symm HI1.out HZ1.out) (ints_one _) (by unfold maxLen; omega) (by omega) (Nat.le_refl _) ?_; intro v4 w4 hown4 hgrow4; have hk4 : Keep [] w1 w4 := (Keep.refl [] w1).grown hgrow4 (by simp [Value.ownBlock]); simp only [Nat.zero_add, List.nil_append] at hown4; have HO4 := Lib.hid hown4; have HK4 := Lib.hid hk4; clear hown4 hgrow4 hk4)
      | (at_builtin; refine wpList_append_own _ rfl _ _ 22 rfl w1.heap.size 3 i0 (.int .i64 0) 1 8 Try.underlying22 hi hz0 hz1 hz2 rfl (by decide) _ _ _ rfl (HO4.out.alloc _) ⟨w4.heap.size, 0, none⟩ 1 1 [.int .i64 x1] rfl rfl (by intro p u hp; match p, hp with | 0, hp => simp at hp; subst hp; simp [Addr.add]) (by intro u hu; simp at hu; subst hu; rfl) (by unfold maxLen; omega) (by omega) (by have := HK4.out.size; simp; omega) ?_; intro v5 w5 hown5 hgrow5 hlies; (obtain ⟨a5, c5, rfl, hin5, hc5⟩ := own_row HN.out hown5); have hk5 : Keep [] w1 w5 := (HK4.out.alloc _).grown hgrow5 (fun k hk hlt => absurd (HO4.out.lt k hk).1 (by omega)); have HK5 := Lib.hid hk5; have HI5 := Lib.hid hin5; have HC5 := Lib.hid hc5; clear hown5 hgrow5 hlies hin5 hk5 hc5))
    refine (cOwner_any a5 (n + 1) c5 (l0 ++ [x1]) x2 _ (by rw [List.length_append, HN.out]; rfl) HI5.out HC5.out).mono ?_
    rintro e w6 ⟨hb6, ⟨hg6, hk06, hk16, hne6, rfl⟩ | ⟨hno6, er6, rfl⟩⟩
    all_goals
      have HB6 : Hid (Below w.heap.size w w6) := Lib.hid ((HB1.out.trans (HK5.out.below hs1 (by simp))).trans (hb6.mono (by have := HK5.out.size; omega)))
      clear hb6
      first
        | (have hmv := own_moves (plc x2) hne x1
           obtain ⟨o5, ho5⟩ : ∃ o, o = ownO (plc x2) (l0 ++ [x1]) := ⟨_, rfl⟩
           obtain ⟨o1, ho1⟩ : ∃ o, o = ownO (plc x2) l0 := ⟨_, rfl⟩
           rw [← ho5, ← ho1] at hmv ⊢
           clear ho5 ho1 hg6 hg hk06 hk16 hne6 hk0 hk1 hne
           rcases hmv with rfl | rfl
           all_goals
             go_wp2
           all_goals
             go_ret
             exact ⟨by simp, HB6.out⟩)
        | (go_wp2
           go_ret
           exact ⟨rfl, HB6.out⟩)
end Go.Proofs.Ythldhbcidcmmaaa
