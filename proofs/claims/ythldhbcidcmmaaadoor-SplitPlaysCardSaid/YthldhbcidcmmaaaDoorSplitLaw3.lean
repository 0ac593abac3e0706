/-
  The plain law of keys that come in: whether there is room. No program in sight.
-/
import Derived.Test.YthldhbcidcmmaaaDoorSplitLaw2
import Derived.Test.YthldhbcidcmmaaaDoorSplit3
namespace Go.Proofs.YthldhbcidcmmaaaDoor

def toN (L : List Int) : List Nat := L.map Int.toNat
theorem natI_toN : ∀ {L : List Int}, (∀ x ∈ L, 0 ≤ x) → natI (toN L) = L
  | [], _ => rfl
  | x :: L, h => by
    have ih := natI_toN (L := L) (fun y hy => h y (by simp [hy]))
    have hx := h x (by simp)
    unfold natI toN at ih ⊢
    simp only [List.map_cons]
    rw [ih, Int.toNat_of_nonneg hx]
theorem toN_len (L : List Int) : (toN L).length = L.length := by simp [toN]

theorem allSame_snoc {L : List Int} {k d : Nat} (hL : ∀ x ∈ L, 0 ≤ x) : allSame (toN L ++ [k]) d ↔ ∀ x ∈ L, x % 2 ^ d = (k : Int) % 2 ^ d := by
  have hc : ∀ {x : Int}, 0 ≤ x → (x.toNat % 2 ^ d = k % 2 ^ d ↔ x % 2 ^ d = (k : Int) % 2 ^ d) := fun {x} hx => by
    obtain ⟨n, rfl⟩ := Int.eq_ofNat_of_zero_le hx
    rw [Int.toNat_natCast]
    exact (cast_mod n k d).symm
  cases L with
  | nil => simp [allSame, toN]
  | cons y r =>
    unfold allSame
    have h0 : (toN (y :: r) ++ [k]).headD 0 = y.toNat := by simp [toN]
    rw [h0]
    constructor
    · intro h x hx
      have h1 := h k (by simp)
      have h2 := h x.toNat (by rw [List.mem_append]; exact .inl (List.mem_map.2 ⟨x, hx, rfl⟩))
      exact (hc (hL x hx)).1 (by omega)
    · intro h x hx
      have hy := (hc (hL y (by simp))).2 (h y (by simp))
      rw [List.mem_append, List.mem_singleton] at hx
      rcases hx with hx | rfl
      · obtain ⟨z, hz, rfl⟩ := List.mem_map.1 hx
        have := (hc (hL z hz)).2 (h z hz)
        omega
      · exact hy.symm
theorem allSame_down {L : List Int} {k d e : Nat} (hL : ∀ x ∈ L, 0 ≤ x) (h : e ≤ d) (hd : allSame (toN L ++ [k]) d) : allSame (toN L ++ [k]) e := by
  rw [allSame_snoc hL] at hd ⊢
  exact fun x hx => mod_down h (hd x hx)
theorem all_cls {S : List Int} {k e d : Nat} (hed : e ≤ d) (h : ∀ x ∈ cls S k e, x % 2 ^ d = (k : Int) % 2 ^ d) : cls S k d = cls S k e := by
  rw [← cls_cls (S := S) (c := k) hed]
  apply List.filter_eq_self.2
  intro x hx
  simpa using h x hx
theorem not_all_cls {S : List Int} {k e d : Nat} (hed : e ≤ d) (h : ¬ ∀ x ∈ cls S k e, x % 2 ^ d = (k : Int) % 2 ^ d) : (cls S k d).length < (cls S k e).length := by
  rw [← cls_cls (S := S) (c := k) hed]
  rcases Nat.lt_or_ge ((cls S k e).filter fun x => x % 2 ^ d == (k : Int) % 2 ^ d).length (cls S k e).length with g | g
  · exact g
  · exfalso
    apply h
    intro x hx
    have h1 : (cls S k e).filter (fun x => x % 2 ^ d == (k : Int) % 2 ^ d) = cls S k e := List.Sublist.eq_of_length_le (List.filter_sublist) g
    rw [← h1] at hx
    simpa using (List.mem_filter.1 hx).2
/-- Three unlike numbers are parted by twenty bits. -/
theorem parted {L : List Int} {k : Nat} (hL : ∀ x ∈ L, 0 ≤ x ∧ x ≤ 1000000) (hk : k ≤ 1000000) (hx : ¬ (k : Int) ∈ L) (h0 : L ≠ []) : ¬ allSame (toN L ++ [k]) 20 := by
  rw [allSame_snoc (fun x hx => (hL x hx).1)]
  intro h
  cases L with
  | nil => exact h0 rfl
  | cons y r =>
    have h1 := h y (by simp)
    have h2 := hL y (by simp)
    have h3 : y = (k : Int) := by
      rw [show (2 : Int) ^ 20 = 1048576 by rfl] at h1
      omega
    exact hx (by rw [← h3]; simp)
/-- The depth that a full page would have to have tells whether there is room. -/
theorem room_iff {S : List Int} {k e d : Nat} (hS : ∀ x ∈ S, 0 ≤ x) (he : e ≤ 6) (hed : e < d) (h3 : (cls S k e).length = 3) (hno : ¬ allSame (toN (cls S k e) ++ [k]) d) (hyes : ∀ d', e < d' → d' < d → allSame (toN (cls S k e) ++ [k]) d') : room S k ↔ d ≤ 6 := by
  have hL : ∀ x ∈ cls S k e, 0 ≤ x := fun x hx => hS x (mem_cls.1 hx).1
  unfold room
  constructor
  · intro h
    rcases Nat.lt_or_ge 6 d with g | g
    · exfalso
      rcases Nat.lt_or_ge e 6 with g2 | g2
      · have := hyes 6 g2 g
        rw [allSame_snoc hL] at this
        rw [all_cls he this] at h
        omega
      · obtain rfl : e = 6 := by omega
        omega
    · exact g
  · intro h
    rw [allSame_snoc hL] at hno
    have h1 := not_all_cls (Nat.le_of_lt hed) hno
    have h2 := cls_len_down (S := S) (c := k) h
    omega
theorem room_few {S : List Int} {k e : Nat} (he : e ≤ 6) (h : (cls S k e).length ≤ 2) : room S k := Nat.le_trans (cls_len_down he) h
end Go.Proofs.YthldhbcidcmmaaaDoor
