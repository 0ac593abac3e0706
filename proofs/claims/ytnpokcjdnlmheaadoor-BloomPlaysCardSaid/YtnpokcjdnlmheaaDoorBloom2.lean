/-
  A filter of bits: Has, Set, Both, by their contracts.
-/
import Derived.Test.YtnpokcjdnlmheaaDoorBloom
namespace Go.Proofs.YtnpokcjdnlmheaaDoor
open Go.RowKit

def hasK (key : Int) (n : Nat) (bits : List Bool) : Nat → Bool
  | 0 => true
  | k + 1 => hasK key n bits k && bits.getD (hashN key k n) false

theorem hasK_false {key : Int} {n k : Nat} {bits : List Bool} (hk : bits.getD (hashN key k n) false = false) : ∀ m, k < m → hasK key n bits m = false := by
  intro m hm
  induction m with
  | zero => omega
  | succ m ih =>
    by_cases e : k = m
    · subst e; simp only [hasK, hk, Bool.and_false]
    · simp only [hasK, ih (by omega), Bool.false_and]

theorem bloomHas_no (b : Nat) (key : Int) (w : World) (h : key < 0 ∨ 1000000 < key) :
    Calls Tryd.prog 22 #[.pointer (some ⟨b, 0, none⟩), .int .i64 key] w fun e w' => e = .returned (.tuple #[.bool false, errv 1]) ∧ w = w' := by
  go_enter Tryd.func22, Tryd.ntmps22
  go_wp2_with (go_at_call 36; refine (check_no _ _ h).mono ?_; rintro e w' ⟨rfl, rfl⟩)
  go_ret2
  exact ⟨rfl, rfl⟩

def HasPost (w : World) (bits : List Bool) (hashes : Nat) (key : Int) (e : Ending) (w' : World) : Prop :=
  e = .returned (.tuple #[.bool (hasK key bits.length bits hashes), .nilIface]) ∧ Keep [] w w'

set_option maxRecDepth 100000 in
theorem bloomHas_yes (b g : Nat) (bits : List Bool) (hashes : Nat) (key : Int) (w : World) (hf : FilterAt w b g bits hashes) (h1 : 0 ≤ key) (h2 : key ≤ 1000000) (h3 : 1 ≤ (bits.length : Int)) (h4 : (bits.length : Int) ≤ 128) (h5 : (hashes : Int) ≤ 4) :
    Calls Tryd.prog 22 #[.pointer (some ⟨b, 0, none⟩), .int .i64 key] w (HasPost w bits hashes key) := by
  have hc1 := hf.top.cell_ (i := 1) rfl
  go_enter Tryd.func22, Tryd.ntmps22
  go_wp2_with (go_at_call 36; refine (check_yes _ _ h1 h2).mono ?_; rintro e w' ⟨rfl, rfl⟩)
  go_loopw [17] (fun i wr => ∃ k : Nat, k ≤ hashes ∧ i = .int .i64 k ∧ hasK key bits.length bits k = true ∧ FilterAt wr b g bits hashes ∧ Keep [] w wr) (fun i _ => hashes - (intOf i).toNat)
  case atStart => exact ⟨0, Nat.zero_le _, rfl, rfl, hf, Keep.refl _ _⟩
  case round =>
    obtain ⟨k, hk, rfl, hks, hw, hkk⟩ := hrel
    have HKS := Lib.hid hks; clear hks
    have hc0 := hw.top.cell_ (i := 0) rfl
    by_cases hlt : k < hashes
    · have hh := hashN_lt key k bits.length (by omega)
      have hh0 : (0 : Int) ≤ (hashN key k bits.length : Int) := by omega
      have hh1 : (hashN key k bits.length : Int) < (bits.length : Int) := by omega
      obtain ⟨hx, _⟩ := hw.cell_ (i := hashN key k bits.length) hh
      have HW := Lib.hid hw; clear hw
      cases hbit : bits.getD (hashN key k bits.length) false with
      | false =>
        rw [hbit] at hx
        have HB := Lib.hid hbit; clear hbit
        go_wp2
        go_quiet ((go_at_call 37; exact quiet_eq (hash_any key k bits.length _ (by omega) h1 h2 h3 h4)))
        go_wp2
        go_ret2
        exact ⟨ret2_bool (hasK_false HB.out hashes hlt).symm, hkk.drewN _⟩
      | true =>
        rw [hbit] at hx
        have HB := Lib.hid hbit; clear hbit
        go_wp2
        go_quiet ((go_at_call 37; exact quiet_eq (hash_any key k bits.length _ (by omega) h1 h2 h3 h4)))
        go_wp2
        go_roundw
        case rel => exact ⟨k + 1, hlt, by go_num, by simp only [hasK, HKS.out, HB.out, Bool.and_self], HW.out.keep ((Keep.refl [] wr).drewN _) (by simp), hkk.drewN _⟩
        case measure => simp [intOf]; omega
    · go_wp2
      go_ret2
      obtain rfl : k = hashes := by omega
      exact ⟨ret2_bool HKS.out.symm, hkk⟩

/-- The bits that are set among the first k. -/
def setTo (bits : List Bool) : Nat → List Int
  | 0 => []
  | k + 1 => if bits.getD k false then setTo bits k ++ [(k : Int)] else setTo bits k
theorem setTo_len (bits : List Bool) (k : Nat) : (setTo bits k).length ≤ k := by
  induction k with
  | zero => simp [setTo]
  | succ k ih =>
    simp only [setTo]
    split
    · rw [List.length_append]; simp; omega
    · omega

theorem clip_any (a : Option Addr) (n c : Nat) (w : World) (hnc : n ≤ c) (hz : a = none → c = 0) (hc : (c : Int) ≤ 9223372036854775807) :
    Calls Tryd.prog 38 #[.slice a n c] w fun e w' => e = .returned (.slice a n n) ∧ w = w' := by
  cases a with
  | none =>
    have := hz rfl
    obtain rfl : c = 0 := this
    obtain rfl : n = 0 := by omega
    go_enter Tryd.func38, Tryd.ntmps38
    go_wp2
    go_ret
    exact ⟨rfl, rfl⟩
  | some ad =>
    have HC := Lib.hid hc; clear hc
    go_enter Tryd.func38, Tryd.ntmps38
    go_wp2
    go_ret
    exact ⟨rfl, rfl⟩

def SetPost (w : World) (bits : List Bool) (e : Ending) (w' : World) : Prop :=
  ∃ a c, e = .returned (.slice a (setTo bits bits.length).length c) ∧ NewInts w' w.heap.size a (setTo bits bits.length) ∧ Below w.heap.size w w'

theorem setTo_succ_yes {bits : List Bool} {k : Nat} (h : bits.getD k false = true) : setTo bits (k + 1) = setTo bits k ++ [(k : Int)] := by simp only [setTo, h, if_true]
theorem setTo_succ_no {bits : List Bool} {k : Nat} (h : bits.getD k false = false) : setTo bits (k + 1) = setTo bits k := by simp only [setTo]; rw [if_neg (by rw [h]; decide)]

set_option maxRecDepth 100000 in
theorem bloomSet_any (b g : Nat) (bits : List Bool) (hashes : Nat) (w : World) (hf : FilterAt w b g bits hashes) (h4 : (bits.length : Int) ≤ 128) :
    Calls Tryd.prog 21 #[.pointer (some ⟨b, 0, none⟩)] w (SetPost w bits) := by
  have hc0 := hf.top.cell_ (i := 0) rfl
  have hbl := hf.top.lt
  have hgl := hf.arr.lt
  obtain ⟨i0, hi, hz0, hz1, hz2⟩ := info_parts info_int
  go_enter Tryd.func21, Tryd.ntmps21
  go_wp2
  go_loopw [3, 10] (fun v i wr => ∃ k : Nat, k ≤ bits.length ∧ i = .int .i64 k ∧ wr.ownsRow w.heap.size 3 1 v (setTo bits k).length (ints (setTo bits k)) ∧ Below w.heap.size w wr) (fun _ i _ => bits.length - (intOf i).toNat)
  case atStart => exact ⟨0, Nat.zero_le _, rfl, World.ownsRow_nil _ _ _ _, Below.refl _ _⟩
  case round =>
    obtain ⟨k, hk, rfl, hown, hbel⟩ := hrel
    have hsz := hbel.size
    have hcw := (hbel.cell (p := ⟨b, 0, none⟩) hbl).trans hc0
    by_cases hlt : k < bits.length
    · obtain ⟨hx, _⟩ := hf.cell_ hlt
      have hxw := (hbel.cell (p := ⟨g, k, none⟩) hgl).trans hx
      clear hx
      have hk0 : (0 : Int) ≤ (k : Int) := by omega
      have hkn : (k : Int) < (bits.length : Int) := by omega
      have hlen := setTo_len bits k
      cases hbit : bits.getD k false with
      | true =>
        rw [hbit] at hxw
        have HS := Lib.hid (setTo_succ_yes hbit)
        clear hbit
        go_wp2_with (at_builtin; refine wpList_append_own _ rfl _ _ 30 rfl w.heap.size 3 i0 (.int .i64 0) 1 8 Tryd.underlying30 hi hz0 hz1 hz2 rfl (by decide) _ _ _ rfl (hown.alloc _) ⟨wr.heap.size, 0, none⟩ 1 1 [.int .i64 k] rfl rfl (by intro j u hj; match j, hj with | 0, hj => simp at hj; subst hj; simp [Addr.add]) (by intro u hu; simp at hu; subst hu; rfl) (by unfold maxLen; omega) (by omega) (by simp; omega) ?_; intro v' w1 hown' hgrow _)
        go_roundw
        case rel => exact ⟨k + 1, hlt, by go_num, by rw [HS.out]; simpa [ints] using hown', (hbel.alloc hsz _).grown hgrow (by simp; omega) (fun x hx => (hown.lt x hx).1)⟩
        case measure => simp [intOf]; omega
      | false =>
        rw [hbit] at hxw
        have HS := Lib.hid (setTo_succ_no hbit)
        clear hbit
        go_wp2
        go_roundw
        case rel => exact ⟨k + 1, hlt, by go_num, by rw [HS.out]; exact hown, hbel⟩
        case measure => simp [intOf]; omega
    · obtain rfl : k = bits.length := by omega
      obtain ⟨a, c, rfl, hin, hc1, hc2, hc3⟩ := OwnInts.new hown
      have HI := Lib.hid hin; clear hin hown
      have HC := Lib.hid hc3; clear hc3
      go_wp2_with (go_at_call 38; refine (clip_any a _ c _ hc1 hc2 (by have := HC.out; unfold maxLen at this; omega)).mono ?_; rintro e w' ⟨rfl, rfl⟩)
      go_ret
      exact ⟨a, _, rfl, HI.out, hbel⟩

/-- The bits of one with the first k of the other one's. -/
def orK (bits other : List Bool) (k : Nat) : List Bool := bits.mapIdx fun i x => if i < k then x || other.getD i false else x
theorem orK_len (bits other : List Bool) (k : Nat) : (orK bits other k).length = bits.length := by simp [orK]
theorem orK_zero (bits other : List Bool) : orK bits other 0 = bits := by
  apply List.ext_getElem?; intro i; simp [orK, List.getElem?_mapIdx]
theorem orK_get (bits other : List Bool) (k : Nat) (hk : k < bits.length) : (orK bits other k).getD k false = bits.getD k false := by
  simp [orK, List.getD, List.getElem?_mapIdx, List.getElem?_eq_getElem hk]
theorem orK_succ (bits other : List Bool) (k : Nat) (hk : k < bits.length) : (orK bits other k).set k (bits.getD k false || other.getD k false) = orK bits other (k + 1) := by
  apply List.ext_getElem?
  intro i
  rw [List.getElem?_set]
  by_cases e : k = i
  · subst e
    simp [orK, hk, List.getD]
  · rw [if_neg e]
    simp only [orK, List.getElem?_mapIdx]
    cases bits[i]? with
    | none => rfl
    | some y =>
      by_cases h : i < k
      · simp [h, show i < k + 1 by omega]
      · simp [h, show ¬ i < k + 1 by omega]

def BothPost (w : World) (b g b' g' : Nat) (bits other : List Bool) (hashes : Nat) (e : Ending) (w' : World) : Prop :=
  e = .returned .nilIface ∧ FilterAt w' b g (orK bits other bits.length) hashes ∧ FilterAt w' b' g' other hashes ∧ Keep [g] w w'

set_option maxRecDepth 100000 in
theorem both_yes (b g b' g' n : Nat) (bits other : List Bool) (hashes : Nat) (w : World) (hf : FilterAt w b g bits hashes) (hf' : FilterAt w b' g' other hashes) (hn : bits.length = n) (hn' : other.length = n) (h4 : (n : Int) ≤ 128) (hg : g ≠ g') :
    Calls Tryd.prog 23 #[.pointer (some ⟨b, 0, none⟩), .pointer (some ⟨b', 0, none⟩)] w (BothPost w b g b' g' bits other hashes) := by
  have hc0 := hf.top.cell_ (i := 0) rfl
  have hc1 := hf.top.cell_ (i := 1) rfl
  have hd0 := hf'.top.cell_ (i := 0) rfl
  have hd1 := hf'.top.cell_ (i := 1) rfl
  rw [hn] at hc0
  rw [hn'] at hd0
  have HN := Lib.hid hn; have HN' := Lib.hid hn'; clear hn hn'
  go_enter Tryd.func23, Tryd.ntmps23
  go_wp2
  go_quiet (fail)
  go_wp2
  go_loopw [5, 6, 39] (fun _ _ i wr => ∃ k : Nat, k ≤ n ∧ i = .int .i64 k ∧ FilterAt wr b g (orK bits other k) hashes ∧ FilterAt wr b' g' other hashes ∧ Keep [g] w wr) (fun _ _ i _ => n - (intOf i).toNat)
  case atStart => exact ⟨0, Nat.zero_le _, rfl, by rw [orK_zero]; exact hf.keep ((Keep.refl [] w).drewN _) (by simp), hf'.keep ((Keep.refl [] w).drewN _) (by simp), (Keep.refl _ _).drewN _⟩
  case round =>
    obtain ⟨k, hk, rfl, hw, hw', hkk⟩ := hrel
    by_cases hlt : k < n
    · have hb : k < bits.length := by rw [HN.out]; exact hlt
      have hc0 := hw.top.cell_ (i := 0) rfl
      rw [orK_len, HN.out] at hc0
      obtain ⟨hx, hxf⟩ := hw.cell_ (i := k) (by rw [orK_len]; exact hb)
      rw [orK_get _ _ _ hb] at hx
      obtain ⟨hy, _⟩ := hw'.cell_ (i := k) (by rw [HN'.out]; exact hlt)
      have hk0 : (0 : Int) ≤ (k : Int) := by omega
      have hkn : (k : Int) < (n : Int) := by omega
      have HO := Lib.hid (orK_succ bits other k hb)
      have HW := Lib.hid hw; have HW' := Lib.hid hw'; clear hw hw'
      obtain ⟨x, hxx⟩ : ∃ x, x = bits.getD k false := ⟨_, rfl⟩
      obtain ⟨y, hyy⟩ : ∃ y, y = other.getD k false := ⟨_, rfl⟩
      rw [← hxx] at hx HO
      rw [← hyy] at hy HO
      clear hxx hyy
      cases x
      all_goals
        go_wp2
        go_still_tail 16, (by kernel_rfl)
        go_wp2
        go_roundw
        case rel => exact ⟨k + 1, hlt, by go_num, by rw [← HO.out]; exact (HW.out.keep (Keep.refl [] wr).drew (by simp)).set k _, (HW'.out.keep (Keep.refl [] wr).drew (by simp)).keep ((Keep.refl [g] wr.drew).set (p := ⟨g, k, none⟩) (fun _ => by simp) _) (by
          have := HW'.out.top.ne HW.out.arr (by decide)
          simp [this, Ne.symm hg]), hkk.drew.set (fun _ => by simp) _⟩
        case measure => simp [intOf]; omega
    · have HW := Lib.hid hw; have HW' := Lib.hid hw'; clear hw hw'
      go_wp2
      go_ret
      obtain rfl : k = n := by omega
      exact ⟨rfl, by rw [HN.out]; exact HW.out, HW'.out, hkk⟩
end Go.Proofs.YtnpokcjdnlmheaaDoor
