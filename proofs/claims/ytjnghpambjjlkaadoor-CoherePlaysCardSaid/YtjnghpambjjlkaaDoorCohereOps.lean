/-
  Caches: check, Read, Write, Leave, State, Memory, Moves, by their contracts.
-/
import Derived.Test.YtjnghpambjjlkaaDoorCohere
namespace Go.Proofs.YtjnghpambjjlkaaDoor
open Go.RowKit

theorem cGetD_set (l : List Int) (i : Nat) (x : Int) (h : i < l.length) : (l.set i x).getD i 0 = x := by
  simp [List.getD, List.getElem?_set, h]
theorem getD_set_ne (l : List Int) (i j : Nat) (x : Int) (h : i ≠ j) : (l.set i x).getD j 0 = l.getD j 0 := by
  simp [List.getD, List.getElem?_set, h]

structure Cs where
  mem : List Int
  ls : List Int
  mv : Int

def Cs.calm (n k : Nat) (s : Cs) : Cs := ⟨(calmK k s.mem s.ls s.mv n).1, (calmK k s.mem s.ls s.mv n).2.1, (calmK k s.mem s.ls s.mv n).2.2⟩
def Cs.st (s : Cs) (p k : Nat) : Int := s.ls.getD (at_ p k) 0
def Cs.va (s : Cs) (p k : Nat) : Int := s.ls.getD (at_ p k + 1) 0
def Cs.me (s : Cs) (k : Nat) : Int := s.mem.getD k 0
def Cs.put (s : Cs) (p k : Nat) (x y : Int) : Cs := ⟨s.mem, (s.ls.set (at_ p k) x).set (at_ p k + 1) y, s.mv⟩
def Cs.more (s : Cs) : Cs := ⟨s.mem, s.ls, s.mv + 1⟩
def Cs.read (n p k : Nat) (s : Cs) : Cs := if s.st p k = 0 then ((s.calm n k).put p k 1 ((s.calm n k).me k)).more else s
/-- No cache has line k: the first q. -/
def Cs.none_ (k : Nat) (s : Cs) : Nat → Cs
  | 0 => s
  | q + 1 => (Cs.none_ k s q).put q k 0 0
def Cs.write (n p k : Nat) (v : Int) (s : Cs) : Cs := (if s.st p k = 2 then s else ((s.calm n k).none_ k n).more).put p k 2 v
def Cs.leave (n p k : Nat) (s : Cs) : Cs := if s.st p k = 0 then s else (if s.st p k = 2 then s.calm n k else s).put p k 0 0

theorem put_va (s : Cs) (p k : Nat) (x y : Int) (h : at_ p k + 1 < s.ls.length) : (s.put p k x y).va p k = y := by
  unfold Cs.put Cs.va
  exact cGetD_set _ _ _ (by simpa using h)

abbrev CAt (w : World) (b g n : Nat) (s : Cs) : Prop := CachesAt w b g n s.mem s.ls s.mv

theorem check_yes (b g n : Nat) (s : Cs) (p k : Int) (w : World) (hs : CAt w b g n s) (hn : (n : Int) ≤ 4) (h1 : 0 ≤ p) (h2 : p < n) (h3 : 0 ≤ k) (h4 : k ≤ 3) :
    Calls Tryd.prog 51 #[.pointer (some ⟨b, 0, none⟩), .int .i64 p, .int .i64 k] w fun e w' => e = .returned .nilIface ∧ w = w' := by
  have hc := hs.lines_
  go_enter Tryd.func51, Tryd.ntmps51
  go_wp2_with (go_at_call 43; refine (within_yes _ _ _ _ (by omega) (by omega)).mono ?_; rintro e w' ⟨rfl, rfl⟩)
  go_ret
  exact ⟨rfl, rfl⟩
theorem check_no (b g n : Nat) (s : Cs) (p k : Int) (w : World) (hs : CAt w b g n s) (hn : (n : Int) ≤ 4) (h : ¬ (0 ≤ p ∧ p < n ∧ 0 ≤ k ∧ k ≤ 3)) :
    Calls Tryd.prog 51 #[.pointer (some ⟨b, 0, none⟩), .int .i64 p, .int .i64 k] w fun e w' => e = .returned (errv 1) ∧ w = w' := by
  have hc := hs.lines_
  by_cases h1 : 0 ≤ p ∧ p < n
  · have h2 : k < 0 ∨ 3 < k := by omega
    obtain ⟨h3, h4⟩ := h1
    clear h
    go_enter Tryd.func51, Tryd.ntmps51
    go_wp2_with (first
      | (go_at_call 43; refine (within_yes _ _ _ _ (by omega) (by omega)).mono ?_; rintro e w' ⟨rfl, rfl⟩)
      | (go_at_call 43; refine (within_no _ _ _ _ (by omega)).mono ?_; rintro e w' ⟨rfl, rfl⟩))
    go_ret
    exact ⟨rfl, rfl⟩
  · have h2 : p < 0 ∨ (n : Int) - 1 < p := by omega
    clear h h1
    go_enter Tryd.func51, Tryd.ntmps51
    go_wp2_with (go_at_call 43; refine (within_no _ _ _ _ (by omega)).mono ?_; rintro e w' ⟨rfl, rfl⟩)
    go_ret
    exact ⟨rfl, rfl⟩

theorem cRead_no (b g n : Nat) (s : Cs) (p k : Int) (w : World) (hs : CAt w b g n s) (hn : (n : Int) ≤ 4) (h : ¬ (0 ≤ p ∧ p < n ∧ 0 ≤ k ∧ k ≤ 3)) :
    Calls Tryd.prog 35 #[.pointer (some ⟨b, 0, none⟩), .int .i64 p, .int .i64 k] w fun e w' => e = .returned (.tuple #[.int .i64 0, errv 1]) ∧ w = w' := by
  go_enter Tryd.func35, Tryd.ntmps35
  go_wp2_with (go_at_call 51; refine (check_no b g n s p k _ hs hn h).mono ?_; rintro e w' ⟨rfl, rfl⟩)
  go_ret2
  exact ⟨rfl, rfl⟩

def CReadPost (w : World) (b g n p k : Nat) (s : Cs) (e : Ending) (w' : World) : Prop :=
  e = .returned (.tuple #[.int .i64 ((s.read n p k).va p k), .nilIface]) ∧ CAt w' b g n (s.read n p k) ∧ Keep [b, g] w w'

theorem CachesAt.put {w : World} {b g n : Nat} {s : Cs} (h : CAt w b g n s) (p k : Nat) (x y : Int) : CAt ((w.setCell ⟨g, at_ p k, none⟩ (.int .i64 x)).setCell ⟨g, at_ p k + 1, none⟩ (.int .i64 y)) b g n (s.put p k x y) :=
  (h.setLine _ _).setLine _ _
theorem calm_len {w : World} {b g n : Nat} {s : Cs} (h : CAt w b g n s) : s.mem.length = 4 ∧ s.ls.length = 8 * n := ⟨h.len, h.size⟩

set_option maxRecDepth 100000 in
theorem cRead_yes (b g n p k : Nat) (s : Cs) (w : World) (hs : CAt w b g n s) (hn : (n : Int) ≤ 4) (h2 : (p : Int) < n) (h4 : (k : Int) ≤ 3) (hm0 : 0 ≤ s.mv) (hm1 : s.mv ≤ 1000) :
    Calls Tryd.prog 35 #[.pointer (some ⟨b, 0, none⟩), .int .i64 p, .int .i64 k] w (CReadPost w b g n p k s) := by
  have hp0 : (0 : Int) ≤ (p : Int) := by omega
  have hk0 : (0 : Int) ≤ (k : Int) := by omega
  have hk4 : (k : Int) < 4 := by omega
  have hcl := hs.lines_
  have hs0 := (hs.line_ (i := p * 8 + k * 2) (by omega)).1
  have hv0 := (hs.line_ (i := p * 8 + k * 2 + 1) (by omega)).1
  by_cases hx : s.ls.getD (p * 8 + k * 2) 0 = 0
  · have HR : Hid (s.read n p k = ((s.calm n k).put p k 1 ((s.calm n k).me k)).more) := Lib.hid (by unfold Cs.read; exact if_pos hx)
    rw [hx] at hs0
    clear hx hv0
    have HS := Lib.hid hs; clear hs
    go_enter Tryd.func35, Tryd.ntmps35
    go_wp2_with fail
    refine (check_yes b g n s p k _ HS.out hn hp0 h2 hk0 h4).mono ?_
    rintro e w' ⟨rfl, rfl⟩
    go_wp2_with fail
    refine (calm_any b g n k s.mem s.ls s.mv _ HS.out (by omega) hn hm0 hm1).mono ?_
    rintro e w1 ⟨rfl, hc1, hk1⟩
    have hmv := calmK_mv k s.mem s.ls s.mv n
    obtain ⟨t, ht⟩ : ∃ t, t = s.calm n k := ⟨_, rfl⟩
    have hc : CAt w1 b g n t := by rw [ht]; exact hc1
    have htm : 0 ≤ t.mv ∧ t.mv ≤ 1004 := by rw [ht]; show 0 ≤ (calmK k s.mem s.ls s.mv n).2.2 ∧ (calmK k s.mem s.ls s.mv n).2.2 ≤ 1004; omega
    rw [← ht] at HR
    clear ht hc1 hmv
    obtain ⟨q1, q2⟩ := htm
    have hm := (hc.mem_ (k := k) (by omega)).1
    obtain ⟨hq0, hq1⟩ := hc.moves_
    have hf0 := (hc.line_ (i := p * 8 + k * 2) (by omega)).2
    have hf1 := (hc.line_ (i := p * 8 + k * 2 + 1) (by omega)).2
    have hd0 := (hc.line_ (i := p * 8 + k * 2) (by omega)).1
    have hd1 := (hc.line_ (i := p * 8 + k * 2 + 1) (by omega)).1
    have hne := hc.ne
    have hne' := hne.symm
    have HC := Lib.hid hc; clear hc
    obtain ⟨y, hy⟩ : ∃ y, y = t.me k := ⟨_, rfl⟩
    have hm' : w1.cell? ⟨b, k, none⟩ = some (.int .i64 y) := by rw [hy]; exact hm
    rw [← hy] at HR
    clear hm hy
    go_wp2
    go_ret2
    refine ⟨?_, ?_, ?_⟩
    · rw [HR.out]
      have e : ((t.put p k 1 y).more).va p k = y := put_va t p k 1 y (by have := HC.out.size; unfold at_; omega)
      exact ret2_int e.symm
    · rw [HR.out]
      exact (HC.out.put p k 1 y).setMv _
    · exact ((hk1.set (fun _ => by simp) _).set (fun _ => by simp) _).set (fun _ => by simp) _
  · have hx0 : (s.ls.getD (p * 8 + k * 2) 0 == 0) = false := beq_eq_false_iff_ne.2 hx
    have HR : Hid (s.read n p k = s) := Lib.hid (by unfold Cs.read; exact if_neg hx)
    have HV : Hid (s.va p k = s.ls.getD (p * 8 + k * 2 + 1) 0) := Lib.hid rfl
    obtain ⟨x, hxx⟩ : ∃ x, x = s.ls.getD (p * 8 + k * 2) 0 := ⟨_, rfl⟩
    obtain ⟨y, hyy⟩ : ∃ y, y = s.ls.getD (p * 8 + k * 2 + 1) 0 := ⟨_, rfl⟩
    rw [← hxx] at hs0 hx0
    rw [← hyy] at hv0 HV
    clear hx hxx hyy
    have HS := Lib.hid hs; clear hs
    go_enter Tryd.func35, Tryd.ntmps35
    go_wp2_with fail
    refine (check_yes b g n s p k _ HS.out hn hp0 h2 hk0 h4).mono ?_
    rintro e w' ⟨rfl, rfl⟩
    go_wp2
    go_ret2
    exact ⟨ret2_int (by rw [HR.out, HV.out]), by rw [HR.out]; exact HS.out, Keep.refl _ _⟩

theorem cWrite_no (b g n : Nat) (s : Cs) (p k v : Int) (w : World) (hs : CAt w b g n s) (hn : (n : Int) ≤ 4) (h : ¬ (0 ≤ p ∧ p < n ∧ 0 ≤ k ∧ k ≤ 3 ∧ 0 ≤ v ∧ v ≤ 1000)) :
    Calls Tryd.prog 37 #[.pointer (some ⟨b, 0, none⟩), .int .i64 p, .int .i64 k, .int .i64 v] w fun e w' => e = .returned (errv 1) ∧ w = w' := by
  by_cases h1 : 0 ≤ p ∧ p < n ∧ 0 ≤ k ∧ k ≤ 3
  · have hv : v < 0 ∨ 1000 < v := by omega
    clear h
    go_enter Tryd.func37, Tryd.ntmps37
    go_wp2_with (first
      | (go_at_call 51; refine (check_yes b g n s p k _ hs hn h1.1 h1.2.1 h1.2.2.1 h1.2.2.2).mono ?_; rintro e w' ⟨rfl, rfl⟩)
      | (go_at_call 43; refine (within_no _ _ _ _ hv).mono ?_; rintro e w' ⟨rfl, rfl⟩))
    go_ret
    exact ⟨rfl, rfl⟩
  · clear h
    go_enter Tryd.func37, Tryd.ntmps37
    go_wp2_with (go_at_call 51; refine (check_no b g n s p k _ hs hn h1).mono ?_; rintro e w' ⟨rfl, rfl⟩)
    go_ret
    exact ⟨rfl, rfl⟩

def CWritePost (w : World) (b g n p k : Nat) (v : Int) (s : Cs) (e : Ending) (w' : World) : Prop :=
  e = .returned .nilIface ∧ CAt w' b g n (s.write n p k v) ∧ Keep [b, g] w w'

theorem none_mv (k : Nat) (s : Cs) (q : Nat) : (s.none_ k q).mv = s.mv := by
  induction q with
  | zero => rfl
  | succ q ih => simpa [Cs.none_, Cs.put] using ih

set_option maxHeartbeats 1000000 in
set_option maxRecDepth 100000 in
theorem cWrite_yes (b g n p k : Nat) (v : Int) (s : Cs) (w : World) (hs : CAt w b g n s) (hn : (n : Int) ≤ 4) (h2 : (p : Int) < n) (h4 : (k : Int) ≤ 3) (hv0 : 0 ≤ v) (hv1 : v ≤ 1000) (hm0 : 0 ≤ s.mv) (hm1 : s.mv ≤ 1000) :
    Calls Tryd.prog 37 #[.pointer (some ⟨b, 0, none⟩), .int .i64 p, .int .i64 k, .int .i64 v] w (CWritePost w b g n p k v s) := by
  have hp0 : (0 : Int) ≤ (p : Int) := by omega
  have hk0 : (0 : Int) ≤ (k : Int) := by omega
  have hk4 : (k : Int) < 4 := by omega
  have hcl := hs.lines_
  have hs0 := (hs.line_ (i := p * 8 + k * 2) (by omega)).1
  by_cases hx : s.ls.getD (p * 8 + k * 2) 0 = 2
  · have HR : Hid (s.write n p k v = s.put p k 2 v) := Lib.hid (by have hx' : s.st p k = 2 := hx; unfold Cs.write; rw [if_pos hx'])
    rw [hx] at hs0
    clear hx
    have hf0 := (hs.line_ (i := p * 8 + k * 2) (by omega)).2
    have hf1 := (hs.line_ (i := p * 8 + k * 2 + 1) (by omega)).2
    have hd1 := (hs.line_ (i := p * 8 + k * 2 + 1) (by omega)).1
    have HS := Lib.hid hs; clear hs
    go_enter Tryd.func37, Tryd.ntmps37
    go_wp2_with (first
      | (go_at_call 51; refine (check_yes b g n s p k _ HS.out hn hp0 h2 hk0 h4).mono ?_; rintro e w' ⟨rfl, rfl⟩)
      | (go_at_call 43; refine (within_yes _ _ _ _ hv0 hv1).mono ?_; rintro e w' ⟨rfl, rfl⟩))
    go_ret
    refine ⟨rfl, ?_, ((Keep.refl _ _).set (fun _ => by simp) _).set (fun _ => by simp) _⟩
    rw [HR.out]
    exact HS.out.put p k 2 v
  · have hx0 : (s.ls.getD (p * 8 + k * 2) 0 != 2) = true := by rw [bne_iff_ne]; exact hx
    have HR : Hid (s.write n p k v = (((s.calm n k).none_ k n).more).put p k 2 v) := Lib.hid (by have hx' : ¬ s.st p k = 2 := hx; unfold Cs.write; rw [if_neg hx'])
    obtain ⟨x, hxx⟩ : ∃ x, x = s.ls.getD (p * 8 + k * 2) 0 := ⟨_, rfl⟩
    rw [← hxx] at hs0 hx0
    clear hx hxx
    have HS := Lib.hid hs; clear hs
    go_enter Tryd.func37, Tryd.ntmps37
    go_wp2_with (first
      | (go_at_call 51; refine (check_yes b g n s p k _ HS.out hn hp0 h2 hk0 h4).mono ?_; rintro e w' ⟨rfl, rfl⟩)
      | (go_at_call 43; refine (within_yes _ _ _ _ hv0 hv1).mono ?_; rintro e w' ⟨rfl, rfl⟩))
    refine (calm_any b g n k s.mem s.ls s.mv _ HS.out (by omega) hn hm0 hm1).mono ?_
    rintro e w1 ⟨rfl, hc1, hk1⟩
    have hmv := calmK_mv k s.mem s.ls s.mv n
    obtain ⟨t, ht⟩ : ∃ t, t = s.calm n k := ⟨_, rfl⟩
    have hc : CAt w1 b g n t := by rw [ht]; exact hc1
    have htm : 0 ≤ t.mv ∧ t.mv ≤ 1004 := by rw [ht]; show 0 ≤ (calmK k s.mem s.ls s.mv n).2.2 ∧ (calmK k s.mem s.ls s.mv n).2.2 ≤ 1004; omega
    rw [← ht] at HR
    clear ht hc1 hmv
    have hcl1 := hc.lines_
    have HC := Lib.hid hc; clear hc
    go_wp2
    go_loopw [10, 41] (fun _ i wr => ∃ q : Nat, q ≤ n ∧ i = .int .i64 q ∧ CAt wr b g n (t.none_ k q) ∧ Keep [b, g] w wr) (fun _ i _ => n - (intOf i).toNat)
    case atStart => exact ⟨0, Nat.zero_le _, rfl, HC.out, hk1⟩
    case round =>
      obtain ⟨q, hq, rfl, hw, hkk⟩ := hrel
      have hclw := hw.lines_
      by_cases hlt : q < n
      · have hf0 := (hw.line_ (i := q * 8 + k * 2) (by omega)).2
        have hf1 := (hw.line_ (i := q * 8 + k * 2 + 1) (by omega)).2
        have hd0 := (hw.line_ (i := q * 8 + k * 2) (by omega)).1
        have hd1 := (hw.line_ (i := q * 8 + k * 2 + 1) (by omega)).1
        have hq0 : (0 : Int) ≤ (q : Int) := by omega
        have hqn : (q : Int) < (n : Int) := by omega
        have HW := Lib.hid hw; clear hw
        go_wp2
        go_roundw
        case rel => exact ⟨q + 1, hlt, by go_num, HW.out.put q k 0 0, (hkk.set (fun _ => by simp) _).set (fun _ => by simp) _⟩
        case measure => simp [intOf]; omega
      · obtain rfl : q = n := by omega
        obtain ⟨hq0, hq1⟩ := hw.moves_
        rw [none_mv] at hq0
        obtain ⟨q1, q2⟩ := htm
        have hf0 := (hw.line_ (i := p * 8 + k * 2) (by omega)).2
        have hf1 := (hw.line_ (i := p * 8 + k * 2 + 1) (by omega)).2
        have hd0 := (hw.line_ (i := p * 8 + k * 2) (by omega)).1
        have hd1 := (hw.line_ (i := p * 8 + k * 2 + 1) (by omega)).1
        have hne := hw.ne
        have hne' := hne.symm
        have HW := Lib.hid hw; clear hw
        go_wp2
        go_ret
        refine ⟨rfl, ?_, ((hkk.set (fun _ => by simp) _).set (fun _ => by simp) _).set (fun _ => by simp) _⟩
        rw [HR.out]
        have h5 := HW.out.setMv (t.mv + 1)
        have h6 : CAt (wr.setCell ⟨b, 5, none⟩ (.int .i64 (t.mv + 1))) b g q ((t.none_ k q).more) := by
          show CachesAt _ _ _ _ _ _ ((t.none_ k q).mv + 1)
          rw [none_mv]; exact h5
        exact h6.put p k 2 v

theorem cLeave_no (b g n : Nat) (s : Cs) (p k : Int) (w : World) (hs : CAt w b g n s) (hn : (n : Int) ≤ 4) (h : ¬ (0 ≤ p ∧ p < n ∧ 0 ≤ k ∧ k ≤ 3)) :
    Calls Tryd.prog 39 #[.pointer (some ⟨b, 0, none⟩), .int .i64 p, .int .i64 k] w fun e w' => e = .returned (errv 1) ∧ w = w' := by
  go_enter Tryd.func39, Tryd.ntmps39
  go_wp2_with (go_at_call 51; refine (check_no b g n s p k _ hs hn h).mono ?_; rintro e w' ⟨rfl, rfl⟩)
  go_ret
  exact ⟨rfl, rfl⟩

def LeavePost (w : World) (b g n p k : Nat) (s : Cs) (e : Ending) (w' : World) : Prop :=
  e = .returned (if s.st p k = 0 then errv 5 else .nilIface) ∧ CAt w' b g n (s.leave n p k) ∧ Keep [b, g] w w'

set_option maxRecDepth 100000 in
theorem cLeave_yes (b g n p k : Nat) (s : Cs) (w : World) (hs : CAt w b g n s) (hn : (n : Int) ≤ 4) (h2 : (p : Int) < n) (h4 : (k : Int) ≤ 3) (hm0 : 0 ≤ s.mv) (hm1 : s.mv ≤ 1000) :
    Calls Tryd.prog 39 #[.pointer (some ⟨b, 0, none⟩), .int .i64 p, .int .i64 k] w (LeavePost w b g n p k s) := by
  have hp0 : (0 : Int) ≤ (p : Int) := by omega
  have hk0 : (0 : Int) ≤ (k : Int) := by omega
  have hk4 : (k : Int) < 4 := by omega
  have hcl := hs.lines_
  have hs0 := (hs.line_ (i := p * 8 + k * 2) (by omega)).1
  by_cases hx : s.st p k = 0
  · have HR : Hid (s.leave n p k = s) := Lib.hid (by unfold Cs.leave; rw [if_pos hx])
    have hx' : s.ls.getD (p * 8 + k * 2) 0 = 0 := hx
    rw [hx'] at hs0
    have HX := Lib.hid hx; clear hx hx'
    have HS := Lib.hid hs; clear hs
    go_enter Tryd.func39, Tryd.ntmps39
    go_wp2_with (go_at_call 51; refine (check_yes b g n s p k _ HS.out hn hp0 h2 hk0 h4).mono ?_; rintro e w' ⟨rfl, rfl⟩)
    go_ret
    exact ⟨ret_eq (if_pos HX.out).symm, by rw [HR.out]; exact HS.out, Keep.refl _ _⟩
  · have HX := Lib.hid hx
    have hx0 : (s.ls.getD (p * 8 + k * 2) 0 == 0) = false := beq_eq_false_iff_ne.2 hx
    by_cases hy : s.st p k = 2
    · have HR : Hid (s.leave n p k = (s.calm n k).put p k 0 0) := Lib.hid (by unfold Cs.leave; rw [if_neg hx, if_pos hy])
      have hy' : s.ls.getD (p * 8 + k * 2) 0 = 2 := hy
      rw [hy'] at hs0
      clear hx hy hy' hx0
      have HS := Lib.hid hs; clear hs
      go_enter Tryd.func39, Tryd.ntmps39
      go_wp2_with (go_at_call 51; refine (check_yes b g n s p k _ HS.out hn hp0 h2 hk0 h4).mono ?_; rintro e w' ⟨rfl, rfl⟩)
      refine (calm_any b g n k s.mem s.ls s.mv _ HS.out (by omega) hn hm0 hm1).mono ?_
      rintro e w1 ⟨rfl, hc1, hk1⟩
      obtain ⟨t, ht⟩ : ∃ t, t = s.calm n k := ⟨_, rfl⟩
      have hc : CAt w1 b g n t := by rw [ht]; exact hc1
      rw [← ht] at HR
      clear ht hc1
      have hcl1 := hc.lines_
      have hf0 := (hc.line_ (i := p * 8 + k * 2) (by omega)).2
      have hf1 := (hc.line_ (i := p * 8 + k * 2 + 1) (by omega)).2
      have hd0 := (hc.line_ (i := p * 8 + k * 2) (by omega)).1
      have hd1 := (hc.line_ (i := p * 8 + k * 2 + 1) (by omega)).1
      have HC := Lib.hid hc; clear hc
      go_wp2
      go_ret
      exact ⟨ret_eq (if_neg HX.out).symm, by rw [HR.out]; exact HC.out.put p k 0 0, (hk1.set (fun _ => by simp) _).set (fun _ => by simp) _⟩
    · have HR : Hid (s.leave n p k = s.put p k 0 0) := Lib.hid (by unfold Cs.leave; rw [if_neg hx, if_neg hy])
      have hy0 : (s.ls.getD (p * 8 + k * 2) 0 == 2) = false := beq_eq_false_iff_ne.2 hy
      obtain ⟨x, hxx⟩ : ∃ x, x = s.ls.getD (p * 8 + k * 2) 0 := ⟨_, rfl⟩
      rw [← hxx] at hs0 hx0 hy0
      clear hx hy hxx
      have hf0 := (hs.line_ (i := p * 8 + k * 2) (by omega)).2
      have hf1 := (hs.line_ (i := p * 8 + k * 2 + 1) (by omega)).2
      have hd1 := (hs.line_ (i := p * 8 + k * 2 + 1) (by omega)).1
      have HS := Lib.hid hs; clear hs
      go_enter Tryd.func39, Tryd.ntmps39
      go_wp2_with (go_at_call 51; refine (check_yes b g n s p k _ HS.out hn hp0 h2 hk0 h4).mono ?_; rintro e w' ⟨rfl, rfl⟩)
      go_ret
      exact ⟨ret_eq (if_neg HX.out).symm, by rw [HR.out]; exact HS.out.put p k 0 0, ((Keep.refl _ _).set (fun _ => by simp) _).set (fun _ => by simp) _⟩

end Go.Proofs.YtjnghpambjjlkaaDoor
