/-
  Caches of lines: how they lie in memory; New; calm.
-/
import Derived.Test.YtjnghpambjjlkaaDoorCore
import Derived.StillTailTactics
import Derived.RegionTactic
import Derived.Outline
namespace Go.Proofs.YtjnghpambjjlkaaDoor
open Go.RowKit

theorem info_line4 : (Tryd.prog.info? 103).map (fun i => (i.zero, i.size, i.bytes)) = some (some (.agg #[.int .i64 0, .int .i64 0, .int .i64 0, .int .i64 0, .int .i64 0, .int .i64 0, .int .i64 0, .int .i64 0]), 8, 64) := by kernel_rfl

/-- Caches at block b, their lines at block g: state and value, by 8 a cache, by 2 a line. -/
structure CachesAt (w : World) (b g n : Nat) (mem ls : List Int) (mv : Int) : Prop where
  top : Blk w b 98 (ints mem ++ [.slice (some ⟨g, 0, none⟩) n n, .int .i64 mv])
  len : mem.length = 4
  arr : Blk w g 103 (ints ls)
  size : ls.length = 8 * n

section
variable {w w' : World} {b g n : Nat} {mem ls : List Int} {mv : Int} {F : List Nat}
theorem CachesAt.keep (h : CachesAt w b g n mem ls mv) (hk : Keep F w w') (hF : b ∉ F ∧ g ∉ F) : CachesAt w' b g n mem ls mv := ⟨h.top.keep hk hF.1, h.len, h.arr.keep hk hF.2, h.size⟩
theorem CachesAt.ne (h : CachesAt w b g n mem ls mv) : b ≠ g := h.top.ne h.arr (by decide)
theorem CachesAt.mem_ (h : CachesAt w b g n mem ls mv) {k : Nat} (hk : k < 4) : w.cell? ⟨b, k, none⟩ = some (.int .i64 (mem.getD k 0)) ∧ w.frozen? ⟨b, k, none⟩ = false := by
  refine ⟨h.top.cell_ ?_, h.top.free k⟩
  have hl := h.len
  rw [List.getElem?_append_left (by rw [ints_len, hl]; exact hk)]
  exact ints_get (by simp [List.getD, List.getElem?_eq_getElem (show k < mem.length by omega)])
theorem CachesAt.lines_ (h : CachesAt w b g n mem ls mv) : w.cell? ⟨b, 4, none⟩ = some (.slice (some ⟨g, 0, none⟩) n n) := by
  refine h.top.cell_ ?_
  rw [List.getElem?_append_right (by rw [ints_len, h.len]; omega), ints_len, h.len]; rfl
theorem CachesAt.moves_ (h : CachesAt w b g n mem ls mv) : w.cell? ⟨b, 5, none⟩ = some (.int .i64 mv) ∧ w.frozen? ⟨b, 5, none⟩ = false := by
  refine ⟨h.top.cell_ ?_, h.top.free 5⟩
  rw [List.getElem?_append_right (by rw [ints_len, h.len]; omega), ints_len, h.len]; rfl
theorem CachesAt.line_ (h : CachesAt w b g n mem ls mv) {i : Nat} (hi : i < 8 * n) : w.cell? ⟨g, i, none⟩ = some (.int .i64 (ls.getD i 0)) ∧ w.frozen? ⟨g, i, none⟩ = false := by
  refine ⟨h.arr.cell_ ?_, h.arr.free i⟩
  have := h.size
  exact ints_get (by simp [List.getD, List.getElem?_eq_getElem (show i < ls.length by omega)])
theorem CachesAt.setMem (h : CachesAt w b g n mem ls mv) {k : Nat} (hk : k < 4) (x : Int) : CachesAt (w.setCell ⟨b, k, none⟩ (.int .i64 x)) b g n (mem.set k x) ls mv := by
  refine ⟨?_, by simpa using h.len, h.arr.far (by simpa using h.ne.symm) _, h.size⟩
  have := h.top.set k (.int .i64 x)
  rw [List.set_append_left _ _ (by rw [ints_len, h.len]; exact hk), ints_set] at this
  exact this
theorem CachesAt.setMv (h : CachesAt w b g n mem ls mv) (x : Int) : CachesAt (w.setCell ⟨b, 5, none⟩ (.int .i64 x)) b g n mem ls x := by
  refine ⟨?_, h.len, h.arr.far (by simpa using h.ne.symm) _, h.size⟩
  have := h.top.set 5 (.int .i64 x)
  rw [List.set_append_right _ _ (by rw [ints_len, h.len]; omega), ints_len, h.len] at this
  exact this
theorem CachesAt.setLine (h : CachesAt w b g n mem ls mv) (i : Nat) (x : Int) : CachesAt (w.setCell ⟨g, i, none⟩ (.int .i64 x)) b g n mem (ls.set i x) mv := by
  refine ⟨h.top.far (by simpa using h.ne) _, h.len, ?_, by simpa using h.size⟩
  have := h.arr.set i (.int .i64 x)
  rwa [ints_set] at this
end

theorem cohereNew_no (n : Int) (w : World) (h : n < 1 ∨ 4 < n) :
    Calls Tryd.prog 32 #[.int .i64 n] w fun e w' => e = .returned (.tuple #[.pointer none, errv 1]) ∧ w = w' := by
  go_enter Tryd.func32, Tryd.ntmps32
  go_wp2_with (go_at_call 43; refine (within_no _ _ _ _ h).mono ?_; rintro e w' ⟨rfl, rfl⟩)
  go_ret2
  exact ⟨rfl, rfl⟩

def NewCaches (w : World) (n : Nat) (e : Ending) (w' : World) : Prop :=
  e = .returned (.tuple #[.pointer (some ⟨w.heap.size + 1, 0, none⟩), .nilIface]) ∧ CachesAt w' (w.heap.size + 1) w.heap.size n [0, 0, 0, 0] (List.replicate (8 * n) 0) 0 ∧ Below w.heap.size w w'

theorem cohereNew_yes (n : Nat) (w : World) (h1 : 1 ≤ (n : Int)) (h2 : (n : Int) ≤ 4) :
    Calls Tryd.prog 32 #[.int .i64 n] w (NewCaches w n) := by
  have hz8 : madeCells #[Value.int .i64 0, .int .i64 0, .int .i64 0, .int .i64 0, .int .i64 0, .int .i64 0, .int .i64 0, .int .i64 0] (n * 8) = (ints (List.replicate (8 * n) 0)).toArray := by
    apply Array.ext
    · simp [madeCells, ints]; omega
    · intro i h1 h2
      have h8 : i % 8 < 8 := Nat.mod_lt _ (by omega)
      simp only [madeCells, ints, Array.getElem_map, Array.getElem_range, List.getElem_toArray, List.getElem_map, List.getElem_replicate]
      show (#[Value.int .i64 0, .int .i64 0, .int .i64 0, .int .i64 0, .int .i64 0, .int .i64 0, .int .i64 0, .int .i64 0])[i % 8]! = _
      generalize i % 8 = j at h8
      match j, h8 with
      | 0, _ => rfl
      | 1, _ => rfl
      | 2, _ => rfl
      | 3, _ => rfl
      | 4, _ => rfl
      | 5, _ => rfl
      | 6, _ => rfl
      | 7, _ => rfl
  have hmk : ∀ wx : World, (Instr.makeSlice 95 (.int .i64 (n : Int)) (.int .i64 (n : Int))).run Tryd.prog wx = .ok (.slice (some ⟨wx.heap.size, 0, none⟩) n n) (wx.alloc (.cells (ints (List.replicate (8 * n) 0)).toArray 103)) := by
    intro wx
    obtain ⟨i, hi, hz⟩ := Option.map_eq_some_iff.1 info_line4
    simp only [Prod.mk.injEq] at hz
    obtain ⟨hz, hs, hb⟩ := hz
    have := run_make (P := Tryd.prog) wx 95 103 i _ Tryd.underlying95 hi hz .i64 .i64 (n : Int) (n : Int) (by omega) (by omega) (by rw [hb]; omega) (by omega)
    rw [this, hs]
    simp only [Int.toNat_natCast]
    rw [← hz8]
    rfl
  clear hz8
  go_enter Tryd.func32, Tryd.ntmps32
  go_wp2_with (go_at_call 43; refine (within_yes _ _ _ _ h1 h2).mono ?_; rintro e w' ⟨rfl, rfl⟩)
  go_ret2
  refine ⟨rfl, ⟨?_, rfl, ?_, by simp⟩, ((Below.refl _ _).alloc (Nat.le_refl _) _).alloc (by simp) _⟩
  · have := Blk.new (w.alloc (.cells (ints (List.replicate (8 * n) 0)).toArray 103)) 98 (ints [0, 0, 0, 0] ++ [.slice (some ⟨w.heap.size, 0, none⟩) n n, .int .i64 0])
    rw [World.size_alloc] at this
    exact this
  · exact (Blk.new _ _ _).alloc _

/-- The places of cache p's line k: its state, its value. -/
def at_ (p k : Nat) : Nat := p * 8 + k * 2
/-- Whoever of the first p owns line k writes it back, and shares it. -/
def calmK (k : Nat) (mem ls : List Int) (mv : Int) : Nat → List Int × List Int × Int
  | 0 => (mem, ls, mv)
  | p + 1 =>
    let s := calmK k mem ls mv p
    if s.2.1.getD (at_ p k) 0 = 2 then (s.1.set k (s.2.1.getD (at_ p k + 1) 0), s.2.1.set (at_ p k) 1, s.2.2 + 1) else s

def CalmPost (w : World) (b g n k : Nat) (mem ls : List Int) (mv : Int) (e : Ending) (w' : World) : Prop :=
  e = .returned (.tuple #[]) ∧ CachesAt w' b g n (calmK k mem ls mv n).1 (calmK k mem ls mv n).2.1 (calmK k mem ls mv n).2.2 ∧ Keep [b, g] w w'

theorem calmK_mv (k : Nat) (mem ls : List Int) (mv : Int) (p : Nat) : mv ≤ (calmK k mem ls mv p).2.2 ∧ (calmK k mem ls mv p).2.2 ≤ mv + p := by
  induction p with
  | zero => simp [calmK]
  | succ p ih =>
    simp only [calmK]
    split
    · show mv ≤ _ + 1 ∧ _ + 1 ≤ mv + _; omega
    · omega

set_option maxRecDepth 100000 in
theorem calm_any (b g n k : Nat) (mem ls : List Int) (mv : Int) (w : World) (hs : CachesAt w b g n mem ls mv) (hk : k < 4) (hn : (n : Int) ≤ 4) (h1 : 0 ≤ mv) (h2 : mv ≤ 1000) :
    Calls Tryd.prog 52 #[.pointer (some ⟨b, 0, none⟩), .int .i64 k] w (CalmPost w b g n k mem ls mv) := by
  have hc := hs.lines_
  go_enter Tryd.func52, Tryd.ntmps52
  go_wp2
  go_loopw [4, 5, 11] (fun _ _ i wr => ∃ p : Nat, p ≤ n ∧ i = .int .i64 p ∧ CachesAt wr b g n (calmK k mem ls mv p).1 (calmK k mem ls mv p).2.1 (calmK k mem ls mv p).2.2 ∧ Keep [b, g] w wr) (fun _ _ i _ => n - (intOf i).toNat)
  case atStart => exact ⟨0, Nat.zero_le _, rfl, hs, Keep.refl _ _⟩
  case round =>
    obtain ⟨p, hp, rfl, hw, hkk⟩ := hrel
    by_cases hlt : p < n
    · have hmv := calmK_mv k mem ls mv p
      obtain ⟨m1, l1, v1, hce⟩ : ∃ m1 l1 v1, calmK k mem ls mv p = (m1, l1, v1) := ⟨_, _, _, rfl⟩
      have HC1 : Hid (calmK k mem ls mv (p + 1) = if l1.getD (at_ p k) 0 = 2 then (m1.set k (l1.getD (at_ p k + 1) 0), l1.set (at_ p k) 1, v1 + 1) else (m1, l1, v1)) := Lib.hid (by simp only [calmK, hce])
      rw [hce] at hw hmv
      simp only at hw hmv
      clear hce
      have hcl := hw.lines_
      have hs0 := hw.line_ (i := p * 8 + k * 2) (by omega)
      have hv0 := (hw.line_ (i := p * 8 + k * 2 + 1) (by omega)).1
      obtain ⟨hm0, hm1⟩ := hw.mem_ hk
      obtain ⟨hq0, hq1⟩ := hw.moves_
      have hne := hw.ne
      have hne' := hne.symm
      have HW := Lib.hid hw; clear hw
      have hx : l1.getD (at_ p k) 0 = l1.getD (p * 8 + k * 2) 0 := rfl
      have hy : l1.getD (at_ p k + 1) 0 = l1.getD (p * 8 + k * 2 + 1) 0 := rfl
      rw [hx, hy] at HC1
      clear hx hy
      generalize hgx : l1.getD (p * 8 + k * 2) 0 = x at hs0 HC1
      generalize hgy : l1.getD (p * 8 + k * 2 + 1) 0 = y at hv0 HC1
      generalize hgz : m1.getD k 0 = z at hm0
      clear hgx hgy hgz
      obtain ⟨hs0, hs1⟩ := hs0
      have hp0 : (0 : Int) ≤ (p : Int) := by omega
      have hpn : (p : Int) < (n : Int) := by omega
      have hk0 : (0 : Int) ≤ (k : Int) := by omega
      have hk4 : (k : Int) < 4 := by omega
      have hk5 : ¬ k = 5 := by omega
      have hk5' : ¬ 5 = k := by omega
      obtain ⟨hmv1, hmv2⟩ := hmv
      have hv2 : 0 ≤ v1 ∧ v1 ≤ 1004 := by omega
      obtain ⟨hv3, hv4⟩ := hv2
      clear hmv1 hmv2
      by_cases hx2 : x = 2
      · subst hx2
        go_wp2
        go_still_tail 9, (by kernel_rfl)
        go_wp2
        go_roundw
        case rel =>
          refine ⟨p + 1, hlt, by go_num, ?_, ((hkk.drew.set (fun _ => by simp) _).set (fun _ => by simp) _).set (fun _ => by simp) _⟩
          rw [HC1.out]
          simp only [↓reduceIte]
          exact (((HW.out.keep (Keep.refl [] wr).drew (by simp)).setMem hk y).setLine (p * 8 + k * 2) 1).setMv (v1 + 1)
        case measure => simp [intOf]; omega
      · have hx3 : (x == 2) = false := beq_eq_false_iff_ne.2 hx2
        go_wp2
        go_roundw
        case rel =>
          refine ⟨p + 1, hlt, by go_num, ?_, hkk⟩
          rw [HC1.out, if_neg hx2]
          exact HW.out
        case measure => simp [intOf]; omega
    · have HW := Lib.hid hw; clear hw
      go_wp2
      obtain rfl : p = n := by omega
      go_end0
      exact ⟨rfl, HW.out, hkk⟩
end Go.Proofs.YtjnghpambjjlkaaDoor
