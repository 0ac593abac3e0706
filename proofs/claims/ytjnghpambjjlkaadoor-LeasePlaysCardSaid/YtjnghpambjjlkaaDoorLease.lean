/-
  A lender: how it lies in memory; New, Value, Until, Read, Wait, by their contracts.
-/
import Derived.Test.YtjnghpambjjlkaaDoorCore
import Derived.StillTailTactics
import Derived.RegionTactic
import Derived.Outline
namespace Go.Proofs.YtjnghpambjjlkaaDoor
open Go.RowKit

structure Ls where
  now : Int
  term : Int
  value : Int
  want : Int
  ready : Int
  ls : List Int

structure LAt (w : World) (b g n : Nat) (s : Ls) : Prop where
  top : Blk w b 90 [.int .i64 s.now, .int .i64 s.term, .int .i64 s.value, .slice (some ⟨g, 0, none⟩) n n, .int .i64 s.want, .int .i64 s.ready]
  arr : Blk w g 94 (ints s.ls)
  size : s.ls.length = 2 * n

def Ls.had (s : Ls) (p : Nat) : Int := s.ls.getD (p * 2) 0
def Ls.until_ (s : Ls) (p : Nat) : Int := s.ls.getD (p * 2 + 1) 0

section
variable {w w' : World} {b g n : Nat} {s : Ls} {F : List Nat}
theorem LAt.keep (h : LAt w b g n s) (hk : Keep F w w') (hF : b ∉ F ∧ g ∉ F) : LAt w' b g n s := ⟨h.top.keep hk hF.1, h.arr.keep hk hF.2, h.size⟩
theorem LAt.ne (h : LAt w b g n s) : b ≠ g := h.top.ne h.arr (by decide)
theorem LAt.loan_ (h : LAt w b g n s) {p : Nat} (hp : p < n) : w.cell? ⟨g, p * 2, none⟩ = some (.int .i64 (s.had p)) ∧ w.cell? ⟨g, p * 2 + 1, none⟩ = some (.int .i64 (s.until_ p)) := by
  have := h.size
  refine ⟨h.arr.cell_ (ints_get ?_), h.arr.cell_ (ints_get ?_)⟩
  · simp [Ls.had, List.getD, List.getElem?_eq_getElem (show p * 2 < s.ls.length by omega)]
  · simp [Ls.until_, List.getD, List.getElem?_eq_getElem (show p * 2 + 1 < s.ls.length by omega)]
end
def Ls.put (s : Ls) (p : Nat) (x y : Int) : Ls := { s with ls := (s.ls.set (p * 2) x).set (p * 2 + 1) y }
theorem LAt.put {w : World} {b g n : Nat} {s : Ls} (h : LAt w b g n s) (p : Nat) (x y : Int) : LAt ((w.setCell ⟨g, p * 2, none⟩ (.int .i64 x)).setCell ⟨g, p * 2 + 1, none⟩ (.int .i64 y)) b g n (s.put p x y) := by
  refine ⟨(h.top.far (by simpa using h.ne) _).far (by simpa using h.ne) _, ?_, by simpa [Ls.put] using h.size⟩
  have := (h.arr.set (p * 2) (.int .i64 x)).set (p * 2 + 1) (.int .i64 y)
  rwa [ints_set, ints_set] at this
theorem LAt.set {w : World} {b g n : Nat} {s : Ls} (h : LAt w b g n s) (i : Nat) (v : Value) (s' : Ls) (hl : s'.ls = s.ls) (ht : [Value.int .i64 s.now, .int .i64 s.term, .int .i64 s.value, .slice (some ⟨g, 0, none⟩) n n, .int .i64 s.want, .int .i64 s.ready].set i v = [.int .i64 s'.now, .int .i64 s'.term, .int .i64 s'.value, .slice (some ⟨g, 0, none⟩) n n, .int .i64 s'.want, .int .i64 s'.ready]) :
    LAt (w.setCell ⟨b, i, none⟩ v) b g n s' := by
  refine ⟨?_, by rw [hl]; exact h.arr.far (by simpa using h.ne.symm) _, by rw [hl]; exact h.size⟩
  have := h.top.set i v
  rwa [ht] at this

theorem info_loan : (Tryd.prog.info? 94).map (fun i => (i.zero, i.size, i.bytes)) = some (some (.agg #[.int .i64 0, .int .i64 0]), 2, 16) := by kernel_rfl

theorem leaseNew_no (n t : Int) (w : World) (h : ¬ (1 ≤ n ∧ n ≤ 4 ∧ 1 ≤ t ∧ t ≤ 20)) :
    Calls Tryd.prog 20 #[.int .i64 n, .int .i64 t] w fun e w' => e = .returned (.tuple #[.pointer none, errv 1]) ∧ w = w' := by
  have hc : (n < 1 ∨ 4 < n) ∨ ((1 ≤ n ∧ n ≤ 4) ∧ (t < 1 ∨ 20 < t)) := by omega
  clear h
  rcases hc with h | ⟨h1, h2⟩
  all_goals
    go_enter Tryd.func20, Tryd.ntmps20
    go_wp2_with (first
      | (go_at_call 43; refine (within_yes _ _ _ _ (by omega) (by omega)).mono ?_; rintro e w' ⟨rfl, rfl⟩)
      | (go_at_call 43; refine (within_no _ _ _ _ (by omega)).mono ?_; rintro e w' ⟨rfl, rfl⟩))
    go_ret2
    exact ⟨rfl, rfl⟩

def l0 (n : Nat) (t : Int) : Ls := ⟨0, t, 0, -1, 0, List.replicate (2 * n) 0⟩
def NewLease (w : World) (n : Nat) (t : Int) (e : Ending) (w' : World) : Prop :=
  e = .returned (.tuple #[.pointer (some ⟨w.heap.size + 1, 0, none⟩), .nilIface]) ∧ LAt w' (w.heap.size + 1) w.heap.size n (l0 n t) ∧ Below w.heap.size w w'

theorem leaseNew_yes (n : Nat) (t : Int) (w : World) (h1 : 1 ≤ (n : Int)) (h2 : (n : Int) ≤ 4) (h3 : 1 ≤ t) (h4 : t ≤ 20) :
    Calls Tryd.prog 20 #[.int .i64 n, .int .i64 t] w (NewLease w n t) := by
  have hz8 : madeCells #[Value.int .i64 0, .int .i64 0] (n * 2) = (ints (List.replicate (2 * n) 0)).toArray := by
    apply Array.ext
    · simp [madeCells, ints]; omega
    · intro i h1 h2
      have h8 : i % 2 < 2 := Nat.mod_lt _ (by omega)
      simp only [madeCells, ints, Array.getElem_map, Array.getElem_range, List.getElem_toArray, List.getElem_map, List.getElem_replicate]
      show (#[Value.int .i64 0, .int .i64 0])[i % 2]! = _
      generalize i % 2 = j at h8
      match j, h8 with
      | 0, _ => rfl
      | 1, _ => rfl
  have hmk : ∀ wx : World, (Instr.makeSlice 88 (.int .i64 (n : Int)) (.int .i64 (n : Int))).run Tryd.prog wx = .ok (.slice (some ⟨wx.heap.size, 0, none⟩) n n) (wx.alloc (.cells (ints (List.replicate (2 * n) 0)).toArray 94)) := by
    intro wx
    obtain ⟨i, hi, hz⟩ := Option.map_eq_some_iff.1 info_loan
    simp only [Prod.mk.injEq] at hz
    obtain ⟨hz, hs, hb⟩ := hz
    have := run_make (P := Tryd.prog) wx 88 94 i _ Tryd.underlying88 hi hz .i64 .i64 (n : Int) (n : Int) (by omega) (by omega) (by rw [hb]; omega) (by omega)
    rw [this, hs]
    simp only [Int.toNat_natCast]
    rw [← hz8]
    rfl
  clear hz8
  go_enter Tryd.func20, Tryd.ntmps20
  go_wp2_with (go_at_call 43; refine (within_yes _ _ _ _ (by omega) (by omega)).mono ?_; rintro e w' ⟨rfl, rfl⟩)
  go_ret2
  refine ⟨rfl, ⟨?_, ?_, by simp [l0]⟩, ((Below.refl _ _).alloc (Nat.le_refl _) _).alloc (by simp) _⟩
  · have := Blk.new (w.alloc (.cells (ints (List.replicate (2 * n) 0)).toArray 94)) 90 [.int .i64 0, .int .i64 t, .int .i64 0, .slice (some ⟨w.heap.size, 0, none⟩) n n, .int .i64 (-1), .int .i64 0]
    rw [World.size_alloc] at this
    exact this
  · exact (Blk.new _ _ _).alloc _

theorem value_any (b g n : Nat) (s : Ls) (w : World) (hs : LAt w b g n s) :
    Calls Tryd.prog 30 #[.pointer (some ⟨b, 0, none⟩)] w fun e w' => e = .returned (.tuple #[.int .i64 s.value, .int .i64 s.want, .int .i64 s.now]) ∧ ∃ q, w' = w.drewN q := by
  have h0 := hs.top.cell_ (i := 0) rfl
  have h2 := hs.top.cell_ (i := 2) rfl
  have h4 := hs.top.cell_ (i := 4) rfl
  go_enter Tryd.func30, Tryd.ntmps30
  go_wp2
  go_quiet (fail)
  go_wp2
  go_ret3
  exact ⟨rfl, _, rfl⟩

/-! ### Wait -/
def Ls.wait (s : Ls) (d : Int) : Ls := if 0 ≤ s.want ∧ s.ready ≤ s.now + d then { s with now := s.now + d, value := s.want, want := -1 } else { s with now := s.now + d }

theorem wait_range (b : Nat) (d : Int) (w : World) (h : d < 0 ∨ 20 < d) :
    Calls Tryd.prog 23 #[.pointer (some ⟨b, 0, none⟩), .int .i64 d] w fun e w' => e = .returned (errv 1) ∧ w = w' := by
  go_enter Tryd.func23, Tryd.ntmps23
  go_wp2_with (go_at_call 43; refine (within_no _ _ _ _ h).mono ?_; rintro e w' ⟨rfl, rfl⟩)
  go_ret
  exact ⟨rfl, rfl⟩
theorem wait_full (b g n : Nat) (s : Ls) (d : Int) (w : World) (hs : LAt w b g n s) (h1 : 0 ≤ d) (h2 : d ≤ 20) (h3 : 0 ≤ s.now) (h5 : s.now ≤ 1000) (h4 : 1000 < s.now + d) :
    Calls Tryd.prog 23 #[.pointer (some ⟨b, 0, none⟩), .int .i64 d] w fun e w' => e = .returned (errv 4) ∧ w = w' := by
  have hc0 := hs.top.cell_ (i := 0) rfl
  go_enter Tryd.func23, Tryd.ntmps23
  go_wp2_with (go_at_call 43; refine (within_yes _ _ _ _ h1 h2).mono ?_; rintro e w' ⟨rfl, rfl⟩)
  go_ret
  exact ⟨rfl, rfl⟩
def WaitPost (w : World) (b g n : Nat) (s : Ls) (d : Int) (e : Ending) (w' : World) : Prop := e = .returned .nilIface ∧ LAt w' b g n (s.wait d) ∧ Keep [b] w w'
set_option maxRecDepth 100000 in
theorem wait_ok (b g n : Nat) (s : Ls) (d : Int) (w : World) (hs : LAt w b g n s) (h1 : 0 ≤ d) (h2 : d ≤ 20) (h3 : 0 ≤ s.now) (h4 : s.now + d ≤ 1000) :
    Calls Tryd.prog 23 #[.pointer (some ⟨b, 0, none⟩), .int .i64 d] w (WaitPost w b g n s d) := by
  have hc0 := hs.top.cell_ (i := 0) rfl
  have hc2 := hs.top.cell_ (i := 2) rfl
  have hc4 := hs.top.cell_ (i := 4) rfl
  have hc5 := hs.top.cell_ (i := 5) rfl
  have hf0 := hs.top.free 0
  have hf2 := hs.top.free 2
  have hf4 := hs.top.free 4
  obtain ⟨now, term, value, want, ready, ls⟩ := s
  simp only at hc0 hc2 hc4 hc5 h3 h4
  have HS := Lib.hid hs; clear hs
  have hcase : want < 0 ∨ (0 ≤ want ∧ now + d < ready) ∨ (0 ≤ want ∧ ready ≤ now + d) := by omega
  rcases hcase with hw | ⟨hw, hr⟩ | ⟨hw, hr⟩
  · have hd : decide (0 ≤ want) = false := decide_eq_false (by omega)
    have HW : Hid (Ls.wait ⟨now, term, value, want, ready, ls⟩ d = ⟨now + d, term, value, want, ready, ls⟩) := Lib.hid (by unfold Ls.wait; rw [if_neg (fun h => by have := h.1; simp only at this; omega)])
    go_enter Tryd.func23, Tryd.ntmps23
    go_wp2_with (go_at_call 43; refine (within_yes _ _ _ _ h1 h2).mono ?_; rintro e w' ⟨rfl, rfl⟩)
    go_quiet (fail)
    go_wp2
    go_ret
    exact ⟨rfl, by rw [HW.out]; exact (HS.out.set 0 (.int .i64 (now + d)) ⟨now + d, term, value, want, ready, ls⟩ rfl rfl).keep ((Keep.refl [] _).drewN _) (by simp), ((Keep.refl _ _).set (fun _ => by simp) _).drewN _⟩
  · have HW : Hid (Ls.wait ⟨now, term, value, want, ready, ls⟩ d = ⟨now + d, term, value, want, ready, ls⟩) := Lib.hid (by unfold Ls.wait; rw [if_neg (fun h => by have := h.2; simp only at this; omega)])
    have hd2 : decide (ready ≤ now + d) = false := decide_eq_false (by omega)
    go_enter Tryd.func23, Tryd.ntmps23
    go_wp2_with (go_at_call 43; refine (within_yes _ _ _ _ h1 h2).mono ?_; rintro e w' ⟨rfl, rfl⟩)
    go_quiet (fail)
    go_wp2
    go_ret
    exact ⟨rfl, by rw [HW.out]; exact (HS.out.set 0 (.int .i64 (now + d)) ⟨now + d, term, value, want, ready, ls⟩ rfl rfl).keep ((Keep.refl [] _).drewN _) (by simp), ((Keep.refl _ _).set (fun _ => by simp) _).drewN _⟩
  · have HW : Hid (Ls.wait ⟨now, term, value, want, ready, ls⟩ d = ⟨now + d, term, want, -1, ready, ls⟩) := Lib.hid (by unfold Ls.wait; rw [if_pos ⟨hw, hr⟩])
    go_enter Tryd.func23, Tryd.ntmps23
    go_wp2_with (go_at_call 43; refine (within_yes _ _ _ _ h1 h2).mono ?_; rintro e w' ⟨rfl, rfl⟩)
    go_quiet (fail)
    go_wp2
    go_ret
    refine ⟨rfl, ?_, ((((Keep.refl _ _).set (fun _ => by simp) _).drewN _).set (fun _ => by simp) _).set (fun _ => by simp) _⟩
    rw [HW.out]
    have h5 := (HS.out.set 0 (.int .i64 (now + d)) ⟨now + d, term, value, want, ready, ls⟩ rfl rfl)
    have h6 := h5.set 2 (.int .i64 want) ⟨now + d, term, want, want, ready, ls⟩ rfl rfl
    have h7 := h6.set 4 (.int .i64 (-1)) ⟨now + d, term, want, -1, ready, ls⟩ rfl rfl
    exact h7.keep ((Keep.refl [] _).drewN _) (by simp)
/-! ### Read, Until -/
def Ls.read (s : Ls) (p : Nat) : Ls := if s.until_ p ≤ s.now then s.put p s.value (s.now + s.term) else s

theorem lRead_range (b g n : Nat) (s : Ls) (p : Int) (w : World) (hs : LAt w b g n s) (hn : (n : Int) ≤ 4) (h : p < 0 ∨ (n : Int) - 1 < p) :
    Calls Tryd.prog 25 #[.pointer (some ⟨b, 0, none⟩), .int .i64 p] w fun e w' => e = .returned (.tuple #[.int .i64 0, errv 1]) ∧ w = w' := by
  have hc3 := hs.top.cell_ (i := 3) rfl
  go_enter Tryd.func25, Tryd.ntmps25
  go_wp2_with (go_at_call 43; refine (within_no _ _ _ _ (by omega)).mono ?_; rintro e w' ⟨rfl, rfl⟩)
  go_ret2
  exact ⟨rfl, rfl⟩

set_option maxRecDepth 100000 in
theorem lRead_state (b g n p : Nat) (s : Ls) (w : World) (hs : LAt w b g n s) (hn : (n : Int) ≤ 4) (hp : (p : Int) < (n : Int)) (hcu : s.until_ p ≤ s.now) (hcw : 0 ≤ s.want) :
    Calls Tryd.prog 25 #[.pointer (some ⟨b, 0, none⟩), .int .i64 p] w fun e w' => e = .returned (.tuple #[.int .i64 0, errv 7]) ∧ Keep [] w w' := by
  have hp0 : (0 : Int) ≤ (p : Int) := by omega
  have hc0 := hs.top.cell_ (i := 0) rfl
  have hc1 := hs.top.cell_ (i := 1) rfl
  have hc2 := hs.top.cell_ (i := 2) rfl
  have hc3 := hs.top.cell_ (i := 3) rfl
  have hc4 := hs.top.cell_ (i := 4) rfl
  obtain ⟨hl0, hl1⟩ := hs.loan_ (p := p) (by omega)
  have hf0 := hs.arr.free (p * 2)
  have hf1 := hs.arr.free (p * 2 + 1)
  have hne := hs.ne
  have hne' := hne.symm
  have HSZ := Lib.hid hs.size
  have HS := Lib.hid hs; clear hs
  obtain ⟨x, hx⟩ : ∃ x, x = s.had p := ⟨_, rfl⟩
  obtain ⟨u, hu⟩ : ∃ u, u = s.until_ p := ⟨_, rfl⟩
  rw [← hx] at hl0
  rw [← hu] at hl1 hcu
  have HX := Lib.hid hx; have HU := Lib.hid hu; clear hx hu
  go_enter Tryd.func25, Tryd.ntmps25
  go_wp2_with (go_at_call 43; refine (within_yes _ _ _ _ (by omega) (by omega)).mono ?_; rintro e w' ⟨rfl, rfl⟩)
  go_quiet (fail)
  go_wp2
  go_ret2
  exact ⟨rfl, (Keep.refl _ _).drewN _⟩

set_option maxRecDepth 100000 in
theorem lRead_had (b g n p : Nat) (s : Ls) (w : World) (hs : LAt w b g n s) (hn : (n : Int) ≤ 4) (hp : (p : Int) < (n : Int)) (hcu : s.now < s.until_ p) :
    Calls Tryd.prog 25 #[.pointer (some ⟨b, 0, none⟩), .int .i64 p] w fun e w' => e = .returned (.tuple #[.int .i64 (s.had p), .nilIface]) ∧ Keep [] w w' := by
  have hp0 : (0 : Int) ≤ (p : Int) := by omega
  have hc0 := hs.top.cell_ (i := 0) rfl
  have hc1 := hs.top.cell_ (i := 1) rfl
  have hc2 := hs.top.cell_ (i := 2) rfl
  have hc3 := hs.top.cell_ (i := 3) rfl
  have hc4 := hs.top.cell_ (i := 4) rfl
  obtain ⟨hl0, hl1⟩ := hs.loan_ (p := p) (by omega)
  have hf0 := hs.arr.free (p * 2)
  have hf1 := hs.arr.free (p * 2 + 1)
  have hne := hs.ne
  have hne' := hne.symm
  have HSZ := Lib.hid hs.size
  have HS := Lib.hid hs; clear hs
  obtain ⟨x, hx⟩ : ∃ x, x = s.had p := ⟨_, rfl⟩
  obtain ⟨u, hu⟩ : ∃ u, u = s.until_ p := ⟨_, rfl⟩
  rw [← hx] at hl0
  rw [← hu] at hl1 hcu
  have HX := Lib.hid hx; have HU := Lib.hid hu; clear hx hu
  go_enter Tryd.func25, Tryd.ntmps25
  go_wp2_with (go_at_call 43; refine (within_yes _ _ _ _ (by omega) (by omega)).mono ?_; rintro e w' ⟨rfl, rfl⟩)
  go_quiet (fail)
  go_wp2
  go_ret2
  exact ⟨ret2_int HX.out, (Keep.refl _ _).drewN _⟩

def LendPost (w : World) (b g n : Nat) (s : Ls) (p : Nat) (e : Ending) (w' : World) : Prop :=
  e = .returned (.tuple #[.int .i64 s.value, .nilIface]) ∧ LAt w' b g n (s.put p s.value (s.now + s.term)) ∧ Keep [g] w w'

set_option maxRecDepth 100000 in
theorem lRead_lend (b g n p : Nat) (s : Ls) (w : World) (hs : LAt w b g n s) (hn : (n : Int) ≤ 4) (hp : (p : Int) < (n : Int)) (hcu : s.until_ p ≤ s.now) (hcw : s.want < 0) (h1 : 0 ≤ s.now) (h2 : s.now ≤ 1000) (h3 : 0 ≤ s.term) (h4 : s.term ≤ 20) :
    Calls Tryd.prog 25 #[.pointer (some ⟨b, 0, none⟩), .int .i64 p] w (LendPost w b g n s p) := by
  have hp0 : (0 : Int) ≤ (p : Int) := by omega
  have hc0 := hs.top.cell_ (i := 0) rfl
  have hc1 := hs.top.cell_ (i := 1) rfl
  have hc2 := hs.top.cell_ (i := 2) rfl
  have hc3 := hs.top.cell_ (i := 3) rfl
  have hc4 := hs.top.cell_ (i := 4) rfl
  obtain ⟨hl0, hl1⟩ := hs.loan_ (p := p) (by omega)
  have hf0 := hs.arr.free (p * 2)
  have hf1 := hs.arr.free (p * 2 + 1)
  have hne := hs.ne
  have hne' := hne.symm
  have HSZ := Lib.hid hs.size
  have HS := Lib.hid hs; clear hs
  obtain ⟨x, hx⟩ : ∃ x, x = s.had p := ⟨_, rfl⟩
  obtain ⟨u, hu⟩ : ∃ u, u = s.until_ p := ⟨_, rfl⟩
  rw [← hx] at hl0
  rw [← hu] at hl1 hcu
  have HX := Lib.hid hx; have HU := Lib.hid hu; clear hx hu
  go_enter Tryd.func25, Tryd.ntmps25
  go_wp2_with (go_at_call 43; refine (within_yes _ _ _ _ (by omega) (by omega)).mono ?_; rintro e w' ⟨rfl, rfl⟩)
  go_quiet (fail)
  go_wp2
  go_region
  all_goals (try go_wp2)
  all_goals go_ret2
  all_goals exact ⟨rfl, (HS.out.put p s.value (s.now + s.term)).keep (F := []) (keep_heap rfl rfl rfl rfl) (by simp), ((((Keep.refl [g] w).set (p := ⟨g, p * 2, none⟩) (fun _ => by simp) (.int .i64 s.value)).set (p := ⟨g, p * 2 + 1, none⟩) (fun _ => by simp) (.int .i64 (s.now + s.term)))).trans (keep_heap rfl rfl rfl rfl)⟩
end Go.Proofs.YtjnghpambjjlkaaDoor
