/-
  The counters of a key, by their contract: a new slice of pointers, one into each row.
-/
import Derived.Test.YtnpokcjdnlmheaaDoorSketchNew
import Derived.Outline
namespace Go.Proofs.YtnpokcjdnlmheaaDoor
open Go.RowKit

theorem info_pint : (Tryd.prog.info? 69).map (fun i => (i.zero, i.size, i.bytes)) = some (some (.pointer none), 1, 8) := by kernel_rfl

/-- Pointers into the rows' blocks L from row j on. -/
def ptrs (key : Int) (width : Nat) (L : List Nat) (k : Nat) : List Value := ((L.take k).mapIdx fun i r => Value.pointer (some ⟨r, hashN key i width, none⟩))

theorem ptrs_snoc (key : Int) (width : Nat) (L : List Nat) (k : Nat) (hk : k < L.length) : ptrs key width L (k + 1) = ptrs key width L k ++ [.pointer (some ⟨L[k], hashN key k width, none⟩)] := by
  unfold ptrs
  rw [List.take_succ_eq_append_getElem hk, List.mapIdx_append]
  simp [Nat.min_eq_left (Nat.le_of_lt hk)]

def CntRel (w : World) (key : Int) (width : Nat) (L : List Nat) (v i : Value) (wr : World) : Prop :=
  ∃ (k : Nat), k ≤ L.length ∧ i = .int .i64 k ∧ wr.ownsRow w.heap.size 69 1 v k (ptrs key width L k) ∧ Below w.heap.size w wr

def CntPost (w : World) (key : Int) (width : Nat) (L : List Nat) (e : Ending) (w' : World) : Prop :=
  ∃ g cap cur, e = .returned (.slice (some ⟨g, 0, none⟩) L.length cap) ∧ w.heap.size ≤ g ∧ Blk w' g 69 cur ∧ (∀ (i : Nat) (h : i < L.length), cur[i]? = some (.pointer (some ⟨L[i], hashN key i width, none⟩))) ∧ Below w.heap.size w w'

theorem ptrs_get (key : Int) (width : Nat) (L : List Nat) (k : Nat) (hk : k < L.length) : (ptrs key width L L.length)[k]? = some (.pointer (some ⟨L[k], hashN key k width, none⟩)) := by
  simp [ptrs, List.getElem?_mapIdx, List.getElem?_eq_getElem hk]

theorem counters_any (b g cap : Nat) (L : List Nat) (width : Nat) (rows : List (List Int)) (sum key : Int) (w : World) (hs : SketchAt w b g cap L width rows sum) (hL0 : 0 < L.length) (hL : L.length ≤ 4) (hw1 : 1 ≤ (width : Int)) (hw2 : (width : Int) ≤ 16)
    (h1 : 0 ≤ key) (h2 : key ≤ 1000000) :
    Calls Tryd.prog 34 #[.pointer (some ⟨b, 0, none⟩), .int .i64 key] w fun e w' => CntPost w key width L e w' := by
  have hc0 := hs.top.cell_ (i := 0) rfl
  obtain ⟨cur, hcur, hlead⟩ := hs.lead
  obtain ⟨i0, hi, hz0, hz1, hz2⟩ := info_parts info_pint
  go_enter Tryd.func34, Tryd.ntmps34
  go_wp2
  go_loopw [5, 13] (CntRel w key width L) (fun _ i _ => L.length - (intOf i).toNat)
  case atStart => exact ⟨0, Nat.zero_le _, rfl, World.ownsRow_nil _ _ _ _, Below.refl _ _⟩
  case round =>
    obtain ⟨k, hk, rfl, hown, hbel⟩ := hrel
    by_cases hlt : k < L.length
    · have hc := (hbel.cell (p := ⟨g, k, none⟩) hcur.lt).trans (hcur.cell_ (hlead k _ (List.getElem?_eq_getElem hlt)))
      have hh := hashN_lt key k width (by omega)
      have hsz := hbel.size
      have hsn := Lib.hid (ptrs_snoc key width L k hlt)
      have hh0 : (0 : Int) ≤ (hashN key k width : Int) := by omega
      have hh1 : (hashN key k width : Int) < (width : Int) := by omega
      go_wp2_with (first
        | (go_at_call 37; refine (hash_any key k width _ (by omega) h1 h2 hw1 (by omega)).mono ?_; rintro e w' ⟨rfl, rfl⟩)
        | (at_builtin; refine wpList_append_own _ rfl (.tmp 18) (.tmp 26) 67 rfl w.heap.size 69 i0 (.pointer none) 1 8 Tryd.underlying67 hi hz0 hz1 hz2 rfl (by decide) _ _ _ rfl (hown.alloc _) ⟨wr.heap.size, 0, none⟩ 1 1 [.pointer (some ⟨L[k], hashN key k width, none⟩)] rfl rfl (by intro j u hj; match j, hj with | 0, hj => simp at hj; subst hj; simp [Addr.add]) (by intro u hu; simp at hu; subst hu; rfl) (by unfold maxLen; omega) (by omega) (by simp; omega) ?_; intro v' w1 hown' hgrow _))
      have hown2 := hown'
      rw [← hsn.out] at hown2
      go_roundw
      case rel => exact ⟨k + 1, hlt, by go_num, hown2, (hbel.alloc hsz _).grown hgrow (by simp; omega) (fun x hx => (hown.lt x hx).1)⟩
      case measure => simp [intOf]; omega
    · obtain rfl : k = L.length := by omega
      go_wp2
      go_ret
      obtain ⟨g', cap', cur', rfl, hb', _, hblk, hx⟩ := own_blk hown hL0
      exact ⟨g', cap', cur', rfl, hb', hblk, fun i hi => hx i _ (ptrs_get key width L i hi), hbel⟩
end Go.Proofs.YtnpokcjdnlmheaaDoor
