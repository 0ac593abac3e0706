/-
  core.Within, by its contracts; numbers; facts on types.
-/
import Derived.Test.YticckfioggeaeaaGreatDoorRows
import Derived.Test.YticckfioggeaeaaGreatDoorBase
import Derived.WalkSpells
import Derived.WalkLawsBesides
import Derived.Lib.Hide
namespace Go.Proofs.YticckfioggeaeaaGreatDoor
open Go.RowKit

theorem info_ints : (Tryz.prog.info? 22).map (fun i => (i.zero, i.size, i.bytes)) = some (some (.slice none 0 0), 1, 24) := by kernel_rfl
theorem info_int : (Tryz.prog.info? 3).map (fun i => (i.zero, i.size, i.bytes)) = some (some (.int .i64 0), 1, 8) := by kernel_rfl

def ints (l : List Int) : List Value := l.map (Value.int .i64)
theorem ints_get {l : List Int} {i : Nat} {x : Int} (h : l[i]? = some x) : (ints l)[i]? = some (.int .i64 x) := by simp [ints, h]
theorem ints_len (l : List Int) : (ints l).length = l.length := by simp [ints]
theorem ints_set (l : List Int) (i : Nat) (x : Int) : (ints l).set i (.int .i64 x) = ints (l.set i x) := by simp [ints, List.map_set]

/-- An error of the program's own. -/
abbrev errv (n : Int) : Value := .iface 61 (.int .i64 n)

theorem ret_eq {a b : Value} (h : a = b) : Ending.returned a = .returned b := by rw [h]
theorem ret2_bool {a b : Bool} {v : Value} (h : a = b) : Ending.returned (.tuple #[.bool a, v]) = .returned (.tuple #[.bool b, v]) := by rw [h]
theorem ret2_int {k : IntKind} {a b : Int} {v : Value} (h : a = b) : Ending.returned (.tuple #[.int k a, v]) = .returned (.tuple #[.int k b, v]) := by rw [h]
theorem ret2_ints {k : IntKind} {a b c d : Int} (h : a = b) (h' : c = d) : Ending.returned (.tuple #[.int k a, .int k c]) = .returned (.tuple #[.int k b, .int k d]) := by rw [h, h']
theorem ret_int {k : IntKind} {a b : Int} (h : a = b) : Ending.returned (.int k a) = .returned (.int k b) := by rw [h]
theorem ret_bool {a b : Bool} (h : a = b) : Ending.returned (.bool a) = .returned (.bool b) := by rw [h]

/-! ### slices of ints -/
/-- A slice value's address leads to the numbers xs, in a block below B. -/
def IntsIn (w : World) (B : Nat) (a : Option Addr) (xs : List Int) : Prop :=
  0 < xs.length → ∃ b off, a = some ⟨b, off, none⟩ ∧ b < B ∧ ∀ (i : Nat) (x : Int), xs[i]? = some x → w.cell? ⟨b, off + i, none⟩ = some (.int .i64 x)

/-- A slice of such: its address leads to slices, of the lists xss. -/
def RowsIn (w : World) (B : Nat) (a : Option Addr) (xss : List (List Int)) : Prop :=
  0 < xss.length → ∃ b off, a = some ⟨b, off, none⟩ ∧ b < B ∧ ∀ (i : Nat) (xs : List Int), xss[i]? = some xs →
    ∃ a' c', w.cell? ⟨b, off + i, none⟩ = some (.slice a' xs.length c') ∧ IntsIn w B a' xs

/-- A slice value's address leads to the numbers xs, at the head of a block from lo on. -/
def NewInts (w : World) (lo : Nat) (a : Option Addr) (xs : List Int) : Prop :=
  0 < xs.length → ∃ b, a = some ⟨b, 0, none⟩ ∧ lo ≤ b ∧ b < w.heap.size ∧ ∀ (i : Nat) (x : Int), xs[i]? = some x → w.cell? ⟨b, i, none⟩ = some (.int .i64 x)

/-- What the call owns: a slice value that holds the numbers xs. -/
def OwnInts (w : World) (base : Nat) (v : Value) (xs : List Int) : Prop := w.ownsRow base 3 1 v xs.length (ints xs)

section
variable {w w' : World} {B B' base : Nat} {a : Option Addr} {xs : List Int} {xss : List (List Int)} {v : Value}
theorem IntsIn.keep (h : IntsIn w B a xs) (hk : ∀ k, k < B → w'.heap[k]? = w.heap[k]?) : IntsIn w' B a xs := fun hn => by
  obtain ⟨b, off, e, hb, hc⟩ := h hn
  exact ⟨b, off, e, hb, fun i x hx => (World.cell?_of_block (w := w) (hk b hb)).trans (hc i x hx)⟩
theorem IntsIn.below (h : IntsIn w B a xs) (hb : Below B w w') : IntsIn w' B a xs := h.keep hb.block
theorem IntsIn.more (h : IntsIn w B a xs) (hB : B ≤ B') : IntsIn w B' a xs := fun hn => by
  obtain ⟨b, off, e, hb, hc⟩ := h hn
  exact ⟨b, off, e, by omega, hc⟩
theorem IntsIn.at_ {i : Nat} (h : IntsIn w B a xs) (hi : i < xs.length) : ∃ b off, a = some ⟨b, off, none⟩ ∧ b < B ∧ w.cell? ⟨b, off + i, none⟩ = some (.int .i64 xs[i]) := by
  obtain ⟨b, off, e, hb, hc⟩ := h (by omega)
  exact ⟨b, off, e, hb, hc i _ (List.getElem?_eq_getElem hi)⟩
theorem IntsIn.drew (h : IntsIn w B a xs) : IntsIn w.drew B a xs := h
theorem IntsIn.drewN (h : IntsIn w B a xs) (n : Nat) : IntsIn (w.drewN n) B a xs := h
theorem RowsIn.keep (h : RowsIn w B a xss) (hk : ∀ k, k < B → w'.heap[k]? = w.heap[k]?) : RowsIn w' B a xss := fun hn => by
  obtain ⟨b, off, e, hb, hc⟩ := h hn
  refine ⟨b, off, e, hb, fun i xs hx => ?_⟩
  obtain ⟨a', c', h1, h2⟩ := hc i xs hx
  exact ⟨a', c', (World.cell?_of_block (w := w) (hk b hb)).trans h1, h2.keep hk⟩
theorem RowsIn.below (h : RowsIn w B a xss) (hb : Below B w w') : RowsIn w' B a xss := h.keep hb.block
theorem RowsIn.at_ {i : Nat} (h : RowsIn w B a xss) (hi : i < xss.length) : ∃ b off a' c', a = some ⟨b, off, none⟩ ∧ b < B ∧ w.cell? ⟨b, off + i, none⟩ = some (.slice a' xss[i].length c') ∧ IntsIn w B a' xss[i] := by
  obtain ⟨b, off, e, hb, hc⟩ := h (by omega)
  obtain ⟨a', c', h1, h2⟩ := hc i _ (List.getElem?_eq_getElem hi)
  exact ⟨b, off, a', c', e, hb, h1, h2⟩
theorem OwnInts.nil (w : World) (base : Nat) : OwnInts w base (.slice none 0 0) [] := World.ownsRow_nil _ _ _ _
theorem OwnInts.shape (h : OwnInts w base v xs) : ∃ a c, v = .slice a xs.length c ∧ IntsIn w w.heap.size a xs := by
  obtain ⟨hl, ⟨rfl, hn⟩ | ⟨g, cap, cur, rfl, _, hh, _, _, _, ht⟩⟩ := h
  · exact ⟨none, 0, by rw [hn], fun h0 => by omega⟩
  · refine ⟨_, _, rfl, fun _ => ⟨g, 0, rfl, ?_, fun i x hx => ?_⟩⟩
    · rcases Nat.lt_or_ge g w.heap.size with h | h
      · exact h
      · rw [Array.getElem?_eq_none h] at hh; cases hh
    · have hi : i < xs.length := (List.getElem?_eq_some_iff.1 hx).1
      have h2 : (cur.toList.take (xs.length * 1))[i]? = (ints xs)[i]? := by rw [ht]
      rw [List.getElem?_take_of_lt (by omega)] at h2
      simp only [World.cell?, hh, Nat.zero_add]
      simpa [ints, hx] using h2
theorem OwnInts.new (h : OwnInts w base v xs) : ∃ a c, v = .slice a xs.length c ∧ NewInts w base a xs ∧ xs.length ≤ c ∧ (a = none → c = 0) ∧ c ≤ maxLen := by
  obtain ⟨hl, ⟨rfl, hn⟩ | ⟨g, cap, cur, rfl, hb, hh, hc, hm, _, ht⟩⟩ := h
  · exact ⟨none, 0, by rw [hn], fun h0 => by omega, by omega, fun _ => rfl, by unfold maxLen; omega⟩
  · refine ⟨_, _, rfl, fun _ => ⟨g, rfl, hb, ?_, fun i x hx => ?_⟩, hc, (fun h => by cases h), hm⟩
    · rcases Nat.lt_or_ge g w.heap.size with h | h
      · exact h
      · rw [Array.getElem?_eq_none h] at hh; cases hh
    · have hi : i < xs.length := (List.getElem?_eq_some_iff.1 hx).1
      have h2 : (cur.toList.take (xs.length * 1))[i]? = (ints xs)[i]? := by rw [ht]
      rw [List.getElem?_take_of_lt (by omega)] at h2
      simp only [World.cell?, hh]
      simpa [ints, hx] using h2
theorem NewInts.ints (h : NewInts w B a xs) : IntsIn w w.heap.size a xs := fun hn => by
  obtain ⟨b, e, _, hb, hc⟩ := h hn
  exact ⟨b, 0, e, hb, fun i x hx => by rw [Nat.zero_add]; exact hc i x hx⟩
theorem NewInts.keep {F : List Nat} (h : NewInts w B a xs) (hk : Keep F w w') (hF : ∀ x ∈ F, x < B) : NewInts w' B a xs := fun hn => by
  obtain ⟨b, e, hb, hb2, hc⟩ := h hn
  exact ⟨b, e, hb, Nat.lt_of_lt_of_le hb2 hk.size, fun i x hx => (hk.cell (p := ⟨b, i, none⟩) hb2 (fun hm => by have := hF b hm; omega)).trans (hc i x hx)⟩
theorem NewInts.more (h : NewInts w B a xs) (hB : B' ≤ B) : NewInts w B' a xs := fun hn => by
  obtain ⟨b, e, hb, r⟩ := h hn
  exact ⟨b, e, by omega, r⟩
theorem OwnInts.keep (h : OwnInts w base v xs) (hk : ∀ g, v.ownBlock = some g → w'.heap[g]? = w.heap[g]?) : OwnInts w' base v xs := by
  obtain ⟨hl, h2⟩ := h
  refine ⟨hl, ?_⟩
  rcases h2 with h2 | ⟨g, cap, cur, e, hb, hh, r⟩
  · exact .inl h2
  · exact .inr ⟨g, cap, cur, e, hb, (hk g (by rw [e]; rfl)).trans hh, r⟩
end

theorem within_yes (n l h : Int) (w : World) (h1 : l ≤ n) (h2 : n ≤ h) :
    Calls Tryz.prog 44 #[.int .i64 n, .int .i64 l, .int .i64 h] w fun e w' => e = .returned (.bool true) ∧ w = w' := by
  go_enter Tryz.func44, Tryz.ntmps44
  go_wp2
  go_ret
  simp
theorem within_no (n l h : Int) (w : World) (h1 : n < l ∨ h < n) :
    Calls Tryz.prog 44 #[.int .i64 n, .int .i64 l, .int .i64 h] w fun e w' => e = .returned (.bool false) ∧ w = w' := by
  by_cases h2 : l ≤ n
  · have h3 : h < n := by omega
    clear h1
    go_enter Tryz.func44, Tryz.ntmps44
    go_wp2
    go_ret
    simp [h3]
  · have h3 : n < l := by omega
    clear h1 h2
    go_enter Tryz.func44, Tryz.ntmps44
    go_wp2
    go_ret
    simp
end Go.Proofs.YticckfioggeaeaaGreatDoor
