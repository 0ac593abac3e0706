/-
  split: Has, Page, same, by their contracts.
-/
import Derived.Test.YthldhbcidcmmaaaDoorSplit
import Derived.Test.YthldhbcidcmmaaaDoorBinSearch
import Derived.Test.YthldhbcidcmmaaaDoorClone
import Derived.Deep.RegionWith
import Derived.Deep.RegionHeld3
import Derived.Outline
namespace Go.Proofs.YthldhbcidcmmaaaDoor
open Go.RowKit

theorem mem_cls_self {S : List Int} {x : Int} {e : Nat} : x ∈ cls S x e ↔ x ∈ S := by rw [mem_cls]; simp

theorem bs_is (a : Option Addr) (n c B : Nat) (l : List Int) (x : Int) (p : Nat) (d : Bool) (w : World) (hl : l.length = n) (h : IntsIn w B a l) (hn : n ≤ 1000) (hs : Up l) (hp : posK l x = p) (hd : decide (x ∈ l) = d) :
    Calls Tryd.prog 38 #[.slice a n c, .int .i64 x] w fun e w' => e = .returned (.tuple #[.int .i64 p, .bool d]) ∧ w = w' := by
  subst hp; subst hd; exact bs_any a n c B l x w hl h hn hs

theorem tHas_any {O : Nat → Prop} {w : World} {t g cap D : Nat} {pg deep : Nat → Nat} {kv : Nat → Value} {S S' : List Int} (x : Int) (h : TAt O w t g cap D pg deep kv S) (hd : Dir S S' D deep) (hx : x < 9223372036854775808) :
    Calls Tryd.prog 13 #[.pointer (some ⟨t, 0, none⟩), .int .i64 x] w fun e w' => e = .returned (.bool (decide (x ∈ S))) ∧ Keep [] w w' := by
  by_cases h0 : 0 ≤ x
  · obtain ⟨k, rfl⟩ := Int.eq_ofNat_of_zero_le h0
    have hle := hd.le
    have hfew := hd.few k
    have hup := hd.up.cls k (deep k)
    have H := Lib.hid h; have HLE := Lib.hid hle; have HUP := Lib.hid hup
    obtain ⟨d, hdd⟩ : ∃ d, decide ((k : Int) ∈ S) = d := ⟨_, rfl⟩
    have hdc : decide ((k : Int) ∈ cls S k (deep k)) = d := by rw [← hdd]; exact decide_eq_decide.2 mem_cls_self
    rw [hdd]
    obtain ⟨l, hl⟩ : ∃ l, l = cls S k (deep k) := ⟨_, rfl⟩
    rw [← hl] at hfew HUP hdc
    have HL := Lib.hid hl; have HDC := Lib.hid hdc
    clear h hle hup hd hl hdd hdc
    have hk1 : ¬ (k : Int) < 0 := by omega
    go_enter Tryd.func13, Tryd.ntmps13
    go_wp2_with fail
    refine (of_any k H.out HLE.out (by omega)).mono ?_
    rintro e w1 ⟨rfl, hk1⟩
    have h1 := H.out.keep0 hk1
    have hc1 := (h1.pgs k).cell_ (i := 1) rfl
    have hkey := h1.key k
    rw [← HL.out] at hkey
    obtain ⟨a, c, hkv, hin⟩ := hkey.shape
    rw [hkv] at hc1
    have HIN := Lib.hid hin; have HK1 := Lib.hid hk1
    obtain ⟨n, hn⟩ : ∃ n, l.length = n := ⟨_, rfl⟩
    rw [hn] at hc1 hfew
    have HN := Lib.hid hn
    clear h1 hkey hkv hin hk1 hn
    go_wp2_with fail
    refine (bs_is a n c _ l k _ d _ HN.out HIN.out (by omega) HUP.out rfl HDC.out).mono ?_
    rintro e w2 ⟨rfl, rfl⟩
    go_wp2
    go_ret
    exact ⟨rfl, HK1.out⟩
  · have hx0 : x < 0 := by omega
    have HD : Hid (decide (x ∈ S) = false) := Lib.hid (by
      have : ¬ x ∈ S := fun hm => by have := hd.pos x hm; omega
      simpa using this)
    clear h hd h0
    go_enter Tryd.func13, Tryd.ntmps13
    go_wp2
    go_ret
    exact ⟨ret_bool HD.out.symm, Keep.refl _ _⟩

/-- slices.Clone of whatever row. -/
theorem clone_all (a : Option Addr) (c B n : Nat) (xs : List Int) (w : World) (hl : xs.length = n) (h : IntsIn w B a xs) (hn : n ≤ 1000000) :
    Calls Tryd.prog 36 #[.slice a n c] w fun e w' => ∃ a' c', e = .returned (.slice a' n c') ∧ OwnInts w' w.heap.size (.slice a' n c') xs ∧ Below w.heap.size w w' := by
  rcases Nat.eq_zero_or_pos n with h0 | h0
  · subst h0
    have hx : xs = [] := List.length_eq_zero_iff.1 hl
    subst hx
    have he := fun wx => Lib.run_eql_slice_nil (P := Tryd.prog) wx 22 3 a 0 c 0 0 Tryd.underlying22
    obtain ⟨i0, hi, hz0, hz1, hz2⟩ := info_parts info_int
    cases a with
    | none =>
      go_enter Tryd.func36, Tryd.ntmps36
      go_wp2
      go_ret
      exact ⟨_, _, rfl, OwnInts.nil _ _, Below.refl _ _⟩
    | some ad =>
      go_enter Tryd.func36, Tryd.ntmps36
      go_wp2_with (at_builtin; refine wpList_append_own _ rfl _ _ 22 rfl w.heap.size 3 i0 (.int .i64 0) 1 8 Tryd.underlying22 hi hz0 hz1 hz2 rfl (by decide) _ 0 [] rfl (World.ownsRow_made w #[] 0 (Nat.le_refl _) (by decide) rfl) ad 0 c [] rfl rfl (by simp) (by simp) (by unfold maxLen; omega) (by omega) (by simp) ?_; intro v' w1 hown hgrow _; (obtain ⟨a', c', hv, _⟩ := OwnInts.shape (xs := []) (v := v') hown); subst hv; have HOWN := Lib.hid hown; clear hown; simp only [List.length_nil])
      go_ret
      refine ⟨_, _, rfl, HOWN.out, ((Below.refl _ _).alloc (Nat.le_refl _) _).grown hgrow (by simp) (fun k hk => ?_)⟩
      exact Nat.le_of_eq (Option.some.inj hk)
  · refine (clone_at a c B n xs w hl h h0 (by omega)).mono ?_
    rintro e w' ⟨v, rfl, hown, hb⟩
    obtain ⟨a', c', rfl, _⟩ := hown.shape
    rw [hl] at hown ⊢
    exact ⟨a', c', rfl, hown, hb⟩

def PagePost (w : World) (S : List Int) (deep : Nat → Nat) (i : Nat) (e : Ending) (w' : World) : Prop :=
  ∃ a c, e = .returned (.tuple #[.int .i64 (deep i), .slice a (cls S i (deep i)).length c]) ∧ OwnInts w' w.heap.size (.slice a (cls S i (deep i)).length c) (cls S i (deep i)) ∧ Below w.heap.size w w'

theorem tPage_no {O : Nat → Prop} {w : World} {t g cap D : Nat} {pg deep : Nat → Nat} {kv : Nat → Value} {S : List Int} (x : Int) (h : TAt O w t g cap D pg deep kv S) (hx : x < 0 ∨ ((2 ^ D : Nat) : Int) ≤ x) :
    Calls Tryd.prog 18 #[.pointer (some ⟨t, 0, none⟩), .int .i64 x] w fun e w' => e = .returned (.tuple #[.int .i64 (-1), .slice none 0 0]) ∧ w = w' := by
  have hp := h.pow
  have x1 := h.top.cell_ (i := 1) rfl
  obtain ⟨n, hn⟩ : ∃ n, n = 2 ^ D := ⟨_, rfl⟩
  rw [← hn] at hx hp x1
  clear h hn
  go_enter Tryd.func18, Tryd.ntmps18
  go_wp2_with (go_at_call 32; refine (within_no _ _ _ _ (by omega)).mono ?_; rintro e w' ⟨rfl, rfl⟩)
  go_ret2
  exact ⟨rfl, rfl⟩

set_option maxHeartbeats 2000000 in
set_option maxRecDepth 100000 in
theorem tPage_any {O : Nat → Prop} {w : World} {t g cap D : Nat} {pg deep : Nat → Nat} {kv : Nat → Value} {S : List Int} (i : Nat) (h : TAt O w t g cap D pg deep kv S) (hf : (cls S i (deep i)).length ≤ 3) (hi : i < 2 ^ D) :
    Calls Tryd.prog 18 #[.pointer (some ⟨t, 0, none⟩), .int .i64 i] w (PagePost w S deep i) := by
  have hp := h.pow
  have x1 := h.top.cell_ (i := 1) rfl
  have hc := h.cell hi
  have y0 := (h.pgs i).cell_ (i := 0) rfl
  have y1 := (h.pgs i).cell_ (i := 1) rfl
  have hkey := h.key i
  obtain ⟨a, c, hkv, hin⟩ := hkey.shape
  rw [hkv] at y1
  obtain ⟨l, hl⟩ : ∃ l, l = cls S i (deep i) := ⟨_, rfl⟩
  obtain ⟨m, hm⟩ : ∃ m, m = l.length := ⟨_, rfl⟩
  obtain ⟨d, hd⟩ : ∃ d, d = deep i := ⟨_, rfl⟩
  obtain ⟨p, hpp⟩ : ∃ p, p = pg i := ⟨_, rfl⟩
  obtain ⟨n, hn⟩ : ∃ n, n = 2 ^ D := ⟨_, rfl⟩
  rw [← hn] at hi hp x1
  rw [← hpp] at hc y0 y1
  rw [← hl] at hf hin y1
  rw [← hd] at y0
  rw [← hm] at hf y1
  have hin2 : (i : Int) < (n : Int) := by omega
  have hi0 : (0 : Int) ≤ (i : Int) := by omega
  have HL := Lib.hid hl; have HM := Lib.hid hm.symm; have HD := Lib.hid hd; have HIN := Lib.hid hin
  have HS : Hid (∀ w' : World, (∀ k, k < w.heap.size → w'.heap[k]? = w.heap[k]?) → w'.cell? ⟨t, 1, none⟩ = some (.slice (some ⟨g, 0, none⟩) n cap) ∧ w'.cell? ⟨g, i, none⟩ = some (.pointer (some ⟨p, 0, none⟩)) ∧ w'.cell? ⟨p, 0, none⟩ = some (.int .i64 d) ∧ w'.cell? ⟨p, 1, none⟩ = some (.slice a m c)) := Lib.hid fun w' hw =>
    ⟨(World.cell?_of_block (w := w) (a := ⟨t, 1, none⟩) (hw _ (World.block_lt_of_cell? w _ x1))).trans x1, (World.cell?_of_block (w := w) (a := ⟨g, i, none⟩) (hw _ (World.block_lt_of_cell? w _ hc))).trans hc,
      (World.cell?_of_block (w := w) (a := ⟨p, 0, none⟩) (hw _ (World.block_lt_of_cell? w _ y0))).trans y0, (World.cell?_of_block (w := w) (a := ⟨p, 1, none⟩) (hw _ (World.block_lt_of_cell? w _ y1))).trans y1⟩
  clear h hkey hkv hin hl hm hd hpp hn
  go_enter Tryd.func18, Tryd.ntmps18
  go_wp2_with (go_at_call 32; refine (within_yes _ _ _ _ (by omega) (by omega)).mono ?_; rintro e w' ⟨rfl, rfl⟩)
  go_region_held3 (fun wx => wx.cell? ⟨t, 1, none⟩ = some (.slice (some ⟨g, 0, none⟩) n cap) ∧ wx.cell? ⟨g, i, none⟩ = some (.pointer (some ⟨p, 0, none⟩)) ∧ wx.cell? ⟨p, 0, none⟩ = some (.int .i64 d) ∧ wx.cell? ⟨p, 1, none⟩ = some (.slice a m c))
    (first | go_keep | exact HS.out _ hb3.block | fail)
    ((go_at_call 36; refine (clone_all a c _ m l _ HM.out HIN.out.drew (by omega)).mono ?_; rintro e w3 ⟨a3, c3, rfl, hown3, hb3⟩))
  all_goals
    have HOWN := Lib.hid hown3
    have HB := Lib.hid hb3
    clear hown3 hb3
    go_wp2
    go_ret2
    exact ⟨a3, c3, by rw [← HL.out, ← HD.out, HM.out]; rfl, by rw [← HL.out, HM.out]; exact HOWN.out, HB.out.os, HB.out.tape, HB.out.output, HB.out.size, HB.out.block⟩
theorem xor_mod (a b d : Nat) : (a ^^^ b) % 2 ^ d = 0 ↔ a % 2 ^ d = b % 2 ^ d := by
  rw [Nat.xor_mod_two_pow]
  constructor
  · intro h
    have h2 : (a % 2 ^ d ^^^ b % 2 ^ d) ^^^ b % 2 ^ d = 0 ^^^ b % 2 ^ d := by rw [h]
    rwa [Nat.xor_assoc, Nat.xor_self, Nat.xor_zero, Nat.zero_xor] at h2
  · intro h
    rw [h, Nat.xor_self]
end Go.Proofs.YthldhbcidcmmaaaDoor
