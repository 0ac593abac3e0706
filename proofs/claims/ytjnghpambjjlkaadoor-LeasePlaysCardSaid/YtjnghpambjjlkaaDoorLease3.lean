/-
  A lender: Back, by its contracts.
-/
import Derived.Test.YtjnghpambjjlkaaDoorLease2
namespace Go.Proofs.YtjnghpambjjlkaaDoor
open Go.RowKit

theorem back_range (b g n : Nat) (s : Ls) (p : Int) (w : World) (hs : LAt w b g n s) (hn : (n : Int) ≤ 4) (h : p < 0 ∨ (n : Int) - 1 < p) :
    Calls Tryd.prog 29 #[.pointer (some ⟨b, 0, none⟩), .int .i64 p] w fun e w' => e = .returned (errv 1) ∧ w = w' := by
  have hc3 := hs.top.cell_ (i := 3) rfl
  go_enter Tryd.func29, Tryd.ntmps29
  go_wp2_with (go_at_call 43; refine (within_no _ _ _ _ (by omega)).mono ?_; rintro e w' ⟨rfl, rfl⟩)
  go_ret
  exact ⟨rfl, rfl⟩

set_option maxRecDepth 100000 in
theorem back_none (b g n p : Nat) (s : Ls) (w : World) (hs : LAt w b g n s) (hn : (n : Int) ≤ 4) (hp : (p : Int) < (n : Int)) (hcu : s.until_ p ≤ s.now) :
    Calls Tryd.prog 29 #[.pointer (some ⟨b, 0, none⟩), .int .i64 p] w fun e w' => e = .returned (errv 5) ∧ Keep [] w w' := by
  have hp0 : (0 : Int) ≤ (p : Int) := by omega
  have hc0 := hs.top.cell_ (i := 0) rfl
  have hc3 := hs.top.cell_ (i := 3) rfl
  obtain ⟨_, hl1⟩ := hs.loan_ (p := p) (by omega)
  have HS := Lib.hid hs; clear hs
  obtain ⟨u, hu⟩ : ∃ u, u = s.until_ p := ⟨_, rfl⟩
  rw [← hu] at hl1 hcu
  clear hu
  go_enter Tryd.func29, Tryd.ntmps29
  go_wp2_with (go_at_call 43; refine (within_yes _ _ _ _ (by omega) (by omega)).mono ?_; rintro e w' ⟨rfl, rfl⟩)
  go_quiet (fail)
  go_wp2
  go_ret
  exact ⟨rfl, (Keep.refl _ _).drewN _⟩

def Ls.back (s : Ls) (n p : Nat) : Ls :=
  if s.want < 0 then s.put p 0 0
  else if maxU (s.put p 0 0) n = s.now then { s.put p 0 0 with ready := s.now, value := s.want, want := -1 } else { s.put p 0 0 with ready := maxU (s.put p 0 0) n }
def BackPost (w : World) (b g n p : Nat) (s : Ls) (e : Ending) (w' : World) : Prop := e = .returned .nilIface ∧ LAt w' b g n (s.back n p) ∧ Keep [b, g] w w'

def BackRel (w : World) (b g n : Nat) (s1 : Ls) (i : Value) (wr : World) : Prop :=
  ∃ q : Nat, q ≤ n ∧ i = .int .i64 q ∧ LAt wr b g n { s1 with ready := maxU s1 q } ∧ Keep [b, g] w wr
theorem backRel_step {w wr w2 : World} {b g n q : Nat} {s1 : Ls} {m y : Int} (hlt : q < n) (hm : maxU s1 (q + 1) = if m < y then y else m) (hw : LAt wr b g n { s1 with ready := m }) (hk : Keep [b, g] w wr) {o : Obj}
    (h1 : w2.heap = ((wr.setCell ⟨b, 5, none⟩ (.int .i64 (if m < y then y else m))).alloc o).heap) (h2 : w2.os = wr.os) (h3 : w2.tape = wr.tape) (h4 : w2.output = wr.output) : BackRel w b g n s1 (.int .i64 ((q : Int) + 1)) w2 := by
  refine ⟨q + 1, hlt, by simp, ?_, ?_⟩
  · rw [hm]
    have h5 := (hw.set 5 (.int .i64 (if m < y then y else m)) { s1 with ready := if m < y then y else m } rfl rfl).keep ((Keep.refl [] _).alloc o) (by simp)
    exact h5.keep (F := []) (keep_heap h1 h2 h3 h4) (by simp)
  · exact ((hk.set (p := ⟨b, 5, none⟩) (fun _ => by simp) (.int .i64 (if m < y then y else m))).alloc o).trans (keep_heap h1 h2 h3 h4)

set_option maxHeartbeats 1000000 in
set_option maxRecDepth 100000 in
theorem back_ok (b g n p : Nat) (s : Ls) (w : World) (hs : LAt w b g n s) (hn : (n : Int) ≤ 4) (hp : (p : Int) < (n : Int)) (hcu : s.now < s.until_ p) :
    Calls Tryd.prog 29 #[.pointer (some ⟨b, 0, none⟩), .int .i64 p] w (BackPost w b g n p s) := by
  have hp0 : (0 : Int) ≤ (p : Int) := by omega
  have hc0 := hs.top.cell_ (i := 0) rfl
  have hc3 := hs.top.cell_ (i := 3) rfl
  have hc4 := hs.top.cell_ (i := 4) rfl
  have hc5 := hs.top.cell_ (i := 5) rfl
  have hf5 := hs.top.free 5
  obtain ⟨hl0, hl1⟩ := hs.loan_ (p := p) (by omega)
  have hf0 := hs.arr.free (p * 2)
  have hf1 := hs.arr.free (p * 2 + 1)
  have hne := hs.ne
  have hne' := hne.symm
  have HS := Lib.hid hs; clear hs
  obtain ⟨x, hx⟩ : ∃ x, x = s.had p := ⟨_, rfl⟩
  obtain ⟨u, hu⟩ : ∃ u, u = s.until_ p := ⟨_, rfl⟩
  rw [← hx] at hl0
  rw [← hu] at hl1 hcu
  clear hx hu
  by_cases hw : s.want < 0
  · have HR : Hid (s.back n p = s.put p 0 0) := Lib.hid (by unfold Ls.back; rw [if_pos hw])
    go_enter Tryd.func29, Tryd.ntmps29
    go_wp2_with (go_at_call 43; refine (within_yes _ _ _ _ (by omega) (by omega)).mono ?_; rintro e w' ⟨rfl, rfl⟩)
    go_quiet (fail)
    go_wp2
    go_ret
    exact ⟨rfl, by rw [HR.out]; exact (HS.out.put p 0 0).keep (F := []) (keep_heap rfl rfl rfl rfl) (by simp), ((((Keep.refl [b, g] w).set (p := ⟨g, p * 2, none⟩) (fun _ => by simp) (.int .i64 0)).set (p := ⟨g, p * 2 + 1, none⟩) (fun _ => by simp) (.int .i64 0))).trans (keep_heap rfl rfl rfl rfl)⟩
  · have hw' : 0 ≤ s.want := by omega
    have HNW := Lib.hid hw'; clear hw
    go_enter Tryd.func29, Tryd.ntmps29
    go_wp2_with (go_at_call 43; refine (within_yes _ _ _ _ (by omega) (by omega)).mono ?_; rintro e w' ⟨rfl, rfl⟩)
    go_quiet (fail)
    go_wp2
    go_loopw [6, 55] (fun _ i wr => BackRel w b g n (s.put p 0 0) i wr) (fun _ i _ => n - (intOf i).toNat)
    case atStart =>
      refine ⟨0, Nat.zero_le _, rfl, ?_, ?_⟩
      · exact ((HS.out.put p 0 0).set 5 (.int .i64 s.now) { s.put p 0 0 with ready := s.now } rfl rfl).keep (F := []) (keep_heap rfl rfl rfl rfl) (by simp)
      · exact (((((Keep.refl [b, g] w).set (p := ⟨g, p * 2, none⟩) (fun _ => by simp) (.int .i64 0)).set (p := ⟨g, p * 2 + 1, none⟩) (fun _ => by simp) (.int .i64 0))).set (p := ⟨b, 5, none⟩) (fun _ => by simp) (.int .i64 s.now)).trans (keep_heap rfl rfl rfl rfl)
    case round =>
      obtain ⟨q, hq, rfl, hwr, hk⟩ := hrel
      obtain ⟨s1, hs1⟩ : ∃ s1, s1 = s.put p 0 0 := ⟨_, rfl⟩
      rw [← hs1] at hwr ⊢
      have HS1 := Lib.hid hs1; clear hs1
      have hc5 : wr.cell? ⟨b, 5, none⟩ = some (.int .i64 (maxU s1 q)) := hwr.top.cell_ (i := 5) rfl
      have hf5 := hwr.top.free 5
      by_cases hlt : q < n
      · obtain ⟨hl0, hl1⟩ := hwr.loan_ hlt
        have hq0 : (0 : Int) ≤ (q : Int) := by omega
        have hqn : (q : Int) < (n : Int) := by omega
        have HM : Hid (maxU s1 (q + 1) = if maxU s1 q < s1.until_ q then s1.until_ q else maxU s1 q) := Lib.hid rfl
        have hwl := hwr.top.lt
        have hc3' : wr.cell? ⟨b, 3, none⟩ = some (.slice (some ⟨g, 0, none⟩) n n) := hwr.top.cell_ (i := 3) rfl
        have hl1' : wr.cell? ⟨g, q * 2 + 1, none⟩ = some (.int .i64 (s1.until_ q)) := hl1
        obtain ⟨m, hm⟩ : ∃ m, m = maxU s1 q := ⟨_, rfl⟩
        obtain ⟨y, hy⟩ : ∃ y, y = s1.until_ q := ⟨_, rfl⟩
        rw [← hm] at HM hc5
        rw [← hy] at hl1' HM
        rw [← hm] at hwr
        have HW := Lib.hid hwr
        clear hwr hm hy hl1
        go_wp2
        go_region
        all_goals (try go_wp2)
        all_goals go_roundw
        all_goals first | exact backRel_step hlt HM.out HW.out hk rfl rfl rfl rfl | (simp [intOf]; omega)
      · obtain rfl : q = n := by omega
        have hc0 : wr.cell? ⟨b, 0, none⟩ = some (.int .i64 s1.now) := hwr.top.cell_ (i := 0) rfl
        have hc2 : wr.cell? ⟨b, 2, none⟩ = some (.int .i64 s1.value) := hwr.top.cell_ (i := 2) rfl
        have hc4 : wr.cell? ⟨b, 4, none⟩ = some (.int .i64 s1.want) := hwr.top.cell_ (i := 4) rfl
        have hf2 := hwr.top.free 2
        have hf4 := hwr.top.free 4
        have e0 : s1.now = s.now := by rw [HS1.out]; rfl
        have e4 : s1.want = s.want := by rw [HS1.out]; rfl
        have e2 : s1.value = s.value := by rw [HS1.out]; rfl
        rw [e0] at hc0
        rw [e4] at hc4
        rw [e2] at hc2
        have HE0 := Lib.hid e0; have HE4 := Lib.hid e4; clear e0 e4 e2
        have HW := Lib.hid hwr; clear hwr
        by_cases hm : maxU s1 q = s.now
        · have HR : Hid (s.back q p = { s1 with ready := s.now, value := s.want, want := -1 }) := Lib.hid (by
            unfold Ls.back
            rw [if_neg (by have := HNW.out; omega), ← HS1.out, if_pos hm])
          rw [hm] at hc5
          have HM := Lib.hid hm; clear hm
          go_wp2
          go_quiet (fail)
          go_wp2
          go_ret
          refine ⟨rfl, ?_, (((hk.set (p := ⟨b, 2, none⟩) (fun _ => by simp) (.int .i64 s.want)).set (p := ⟨b, 4, none⟩) (fun _ => by simp) (.int .i64 (-1)))).trans (keep_heap rfl rfl rfl rfl)⟩
          rw [HR.out]
          have h5 := HW.out
          rw [HM.out] at h5
          have h6 := (h5.set 2 (.int .i64 s.want) { s1 with ready := s.now, value := s.want } rfl (by rw [← HE4.out]; rfl)).set 4 (.int .i64 (-1)) { s1 with ready := s.now, value := s.want, want := -1 } rfl rfl
          exact h6.keep (F := []) (keep_heap rfl rfl rfl rfl) (by simp)
        · have hme : (maxU s1 q == s.now) = false := beq_eq_false_iff_ne.2 hm
          have HR : Hid (s.back q p = { s1 with ready := maxU s1 q }) := Lib.hid (by
            unfold Ls.back
            rw [if_neg (by have := HNW.out; omega), ← HS1.out, if_neg hm])
          clear hm
          go_wp2
          go_quiet (fail)
          go_wp2
          go_ret
          exact ⟨rfl, by rw [HR.out]; exact HW.out.keep (F := []) (keep_heap rfl rfl rfl rfl) (by simp), hk.trans (keep_heap rfl rfl rfl rfl)⟩
end Go.Proofs.YtjnghpambjjlkaaDoor
