/-
  The reference's set (a list with one number another), by its contract.
-/
import Derived.Test.YtgbccaplckiilaaDoorAppend
import Derived.Laws.ResultCell
import Derived.Laws.Rows
namespace Go.Proofs.YtgbccaplckiilaaDoor
open Go.RowKit

theorem OwnInts.setAt {w : World} {base : Nat} {v : Value} {l : List Int} {i : Nat} (h : OwnInts w base v l) (hi : i < l.length) :
    ∃ g cap, v = .slice (some ⟨g, 0, none⟩) l.length cap ∧ base ≤ g ∧ g < w.heap.size ∧ w.cell? ⟨g, i, none⟩ = some (.int .i64 l[i]) ∧ w.frozen? ⟨g, i, none⟩ = false ∧
      ∀ x : Int, OwnInts (w.setCell ⟨g, i, none⟩ (.int .i64 x)) base v (l.set i x) := by
  obtain ⟨hl, ⟨rfl, hn⟩ | ⟨g, cap, cur, rfl, hb, hh, hc, hm, hs, ht⟩⟩ := h
  · omega
  · have hblk : Blk w g 3 cur.toList := by unfold Blk; simpa using hh
    have hci : cur.toList[i]? = some (.int .i64 l[i]) := by
      have h1 : (cur.toList.take (l.length * 1))[i]? = (ints l)[i]? := by rw [ht]
      rw [List.getElem?_take_of_lt (by omega)] at h1
      rw [h1]; exact ints_get (List.getElem?_eq_getElem hi)
    refine ⟨g, cap, rfl, hb, hblk.lt, hblk.cell_ hci, hblk.free i, fun x => ?_⟩
    have h2 := hblk.set i (.int .i64 x)
    unfold OwnInts
    rw [List.length_set]
    refine ⟨by rw [ints_len, List.length_set]; omega, .inr ⟨g, cap, (cur.toList.set i (.int .i64 x)).toArray, rfl, hb, h2, hc, hm, by simpa using hs, ?_⟩⟩
    rw [List.take_set, ht]
    exact ints_set l i x

theorem OwnInts.lower {w : World} {b b' : Nat} {v : Value} {xs : List Int} (h : OwnInts w b v xs) (hb : b' ≤ b) : OwnInts w b' v xs := by
  obtain ⟨hl, h2⟩ := h
  refine ⟨hl, ?_⟩
  rcases h2 with h2 | ⟨g, cap, cur, e, hbb, r⟩
  · exact .inl h2
  · exact .inr ⟨g, cap, cur, e, by omega, r⟩

def SetPost (w : World) (l : List Int) (i : Nat) (x : Int) (e : Ending) (w' : World) : Prop := ∃ v, e = .returned v ∧ OwnInts w' w.heap.size v (l.set i x) ∧ Below w.heap.size w w'

set_option maxHeartbeats 1000000 in
set_option maxRecDepth 100000 in
theorem kSet (a : Option Addr) (n c B : Nat) (l : List Int) (i : Nat) (x : Int) (w : World) (hl : l.length = n) (h : IntsIn w B a l) (hz : a = none → c = 0) (hi : i < n) (hn : n ≤ 1000) :
    Calls Tryd.prog 29 #[.slice a n c, .int .i64 i, .int .i64 x] w (SetPost w l i x) := by
  have HL := Lib.hid hl; have hsrc := src_ints hl h hz; have HSRC := Lib.hid hsrc; clear hl hsrc h hz
  have hi1 : (i : Int) < (n : Int) := by omega
  have hi0 : (0 : Int) ≤ (i : Int) := by omega
  obtain ⟨i0, hii, hz0, hz1, hz2⟩ := info_parts info_int
  go_enter Tryd.func29, Tryd.ntmps29
  go_wp2_with (at_builtin; refine wpList_append_src rfl _ _ 30 rfl w.heap.size 3 i0 (.int .i64 0) 8 Tryd.underlying30 hii hz0 hz1 hz2 rfl _ _ [] rfl (World.ownsRow_nil _ _ _ _) _ _ _ (ints l) rfl HSRC.out (ints_one l) (by unfold maxLen; omega) (by omega) (Nat.le_refl _) ?_; intro v' w1 hown hgrow; have ho : OwnInts w1 w.heap.size v' l := (by unfold OwnInts; rw [HL.out]; simpa using hown); obtain ⟨g, cap, rfl, hgb, hglt, hcell, hfree, hset⟩ := ho.setAt (show i < l.length by rw [HL.out]; exact hi); rw [HL.out] at hset; have HSET := Lib.hid hset; have HGR := Lib.hid hgrow; clear ho hown hset hgrow; rw [HL.out])
  go_ret
  exact ⟨_, rfl, HSET.out x, ((Below.refl _ w).grown HGR.out (Nat.le_refl _) (fun k hk => by cases hk)).setCell hgb _⟩

/-- A struct result that lies in a block. -/
theorem results_cell1 {P : Program} {fn : Func} {p : Tmp} {ty : TypeId} (h : fn.results = #[.cell p ty]) (tmps : Array Value) (w : World) (g : Nat) (t : TypeId) (cs : List Value) (d : TypeDesc)
    (hp : tmps.getD p undef = .pointer (some ⟨g, 0, none⟩)) (hg : Blk w g t cs) (hu : P.underlying ty = some d) (hd : (match d with | .struct _ | .array _ _ => true | _ => false) = true) (hi : (P.info? ty).map (·.size) = some cs.toArray.size) :
    (results fn tmps).run P w = .ok (.agg cs.toArray) w := results_cell_row h tmps w g t cs.toArray (0, 0) d hp hg hu hd hi
theorem results_cell2 {P : Program} {fn : Func} {p u : Tmp} {ty : TypeId} (h : fn.results = #[.cell p ty, .tmp u]) (tmps : Array Value) (w : World) (g : Nat) (t : TypeId) (cs : List Value) (d : TypeDesc)
    (hp : tmps.getD p undef = .pointer (some ⟨g, 0, none⟩)) (hg : Blk w g t cs) (hu : P.underlying ty = some d) (hd : (match d with | .struct _ | .array _ _ => true | _ => false) = true) (hi : (P.info? ty).map (·.size) = some cs.toArray.size) :
    (results fn tmps).run P w = .ok (.tuple #[.agg cs.toArray, tmps.getD u undef]) w := by
  rw [results_cell_tmp h, hp]
  simp [asAddr, run_loadVar_row w g t ty cs.toArray (0, 0) d hg hu hd hi, Result.andThen]
theorem results_cell3 {P : Program} {fn : Func} {p u v : Tmp} {ty : TypeId} (h : fn.results = #[.cell p ty, .tmp u, .tmp v]) (tmps : Array Value) (w : World) (g : Nat) (t : TypeId) (cs : List Value) (d : TypeDesc)
    (hp : tmps.getD p undef = .pointer (some ⟨g, 0, none⟩)) (hg : Blk w g t cs) (hu : P.underlying ty = some d) (hd : (match d with | .struct _ | .array _ _ => true | _ => false) = true) (hi : (P.info? ty).map (·.size) = some cs.toArray.size) :
    (results fn tmps).run P w = .ok (.tuple #[.agg cs.toArray, tmps.getD u undef, tmps.getD v undef]) w := by
  have hp' : tmps[p]?.getD undef = .pointer (some ⟨g, 0, none⟩) := by simpa using hp
  simp [results, h, hp', asAddr, run_loadVar_row w g t ty cs.toArray (0, 0) d hg hu hd hi]
end Go.Proofs.YtgbccaplckiilaaDoor
