/-
  Add, by its contracts.
-/
import Derived.Test.YtnpokcjdnlmheaaDoorSketchOps
namespace Go.Proofs.YtnpokcjdnlmheaaDoor
open Go.RowKit

/-- Each of the first k rows counts n more at the key's place. -/
def addK (key n : Int) (width k : Nat) (rows : List (List Int)) : List (List Int) := rows.mapIdx fun i row => if i < k then row.modify (hashN key i width) (· + n) else row
def skAdd (key n : Int) (width : Nat) (rows : List (List Int)) : List (List Int) := rows.mapIdx fun i row => row.modify (hashN key i width) (· + n)
theorem addK_all (key n : Int) (width k : Nat) (rows : List (List Int)) (h : rows.length ≤ k) : addK key n width k rows = skAdd key n width rows := by
  apply List.ext_getElem?
  intro i
  simp only [addK, skAdd, List.getElem?_mapIdx]
  cases e : rows[i]? with
  | none => rfl
  | some y =>
    have := (List.getElem?_eq_some_iff.1 e).1
    simp [show i < k by omega]
def entry (rows : List (List Int)) (k h : Nat) : Int := (rows.getD k []).getD h 0

theorem addK_zero (key n : Int) (width : Nat) (rows : List (List Int)) : addK key n width 0 rows = rows := by
  unfold addK
  apply List.ext_getElem?
  intro i
  simp [List.getElem?_mapIdx]
theorem addK_len (key n : Int) (width k : Nat) (rows : List (List Int)) : (addK key n width k rows).length = rows.length := by simp [addK]

theorem SketchAt.cell_ {w : World} {b g cap : Nat} {L : List Nat} {width : Nat} {rows : List (List Int)} {sum : Int} (hs : SketchAt w b g cap L width rows sum) {k h : Nat} (hk : k < L.length) (hh : h < width) :
    w.cell? ⟨L[k], h, none⟩ = some (.int .i64 (entry rows k h)) ∧ w.frozen? ⟨L[k], h, none⟩ = false ∧ L[k] < w.heap.size := by
  have hk' : k < rows.length := by rw [hs.len]; exact hk
  obtain ⟨hl, hb⟩ := hs.row k L[k] rows[k] (List.getElem?_eq_getElem hk) (List.getElem?_eq_getElem hk')
  refine ⟨?_, hb.free h, hb.lt⟩
  refine hb.cell_ ?_
  have : (rows[k])[h]? = some (entry rows k h) := by
    simp [entry, List.getD, List.getElem?_eq_getElem hk', List.getElem?_eq_getElem (show h < rows[k].length by omega)]
  exact ints_get this

theorem SketchAt.ne_top {w : World} {b g cap : Nat} {L : List Nat} {width : Nat} {rows : List (List Int)} {sum : Int} (hs : SketchAt w b g cap L width rows sum) {r : Nat} (hr : r ∈ L) : r ≠ b ∧ r ≠ g := by
  obtain ⟨k, hk, rfl⟩ := List.mem_iff_getElem.1 hr
  have hk' : k < rows.length := by rw [hs.len]; exact hk
  obtain ⟨_, hb⟩ := hs.row k L[k] rows[k] (List.getElem?_eq_getElem hk) (List.getElem?_eq_getElem hk')
  obtain ⟨cur, hc, _⟩ := hs.lead
  exact ⟨hb.ne hs.top (by decide), hb.ne hc (by decide)⟩

theorem entry_addK (key n : Int) (width k h : Nat) (rows : List (List Int)) : entry (addK key n width k rows) k h = entry rows k h := by
  simp only [entry, addK, List.getD, List.getElem?_mapIdx]
  cases rows[k]? <;> simp
theorem SketchAt.keep {w w' : World} {b g cap : Nat} {L : List Nat} {width : Nat} {rows : List (List Int)} {sum : Int} {F : List Nat} (hs : SketchAt w b g cap L width rows sum) (hk : Keep F w w') (hF : ∀ x ∈ b :: g :: L, x ∉ F) :
    SketchAt w' b g cap L width rows sum := by
  obtain ⟨cur, hc, hl⟩ := hs.lead
  exact ⟨hs.top.keep hk (hF b (by simp)), ⟨cur, hc.keep hk (hF g (by simp)), hl⟩, hs.len, hs.nodup, fun i r x hi hx => ⟨(hs.row i r x hi hx).1, (hs.row i r x hi hx).2.keep hk (hF r (by simp [List.mem_of_getElem? hi]))⟩⟩

theorem addK_step {w : World} {b g cap : Nat} {L : List Nat} {width k : Nat} {rows : List (List Int)} {sum key n : Int} (hs : SketchAt w b g cap L width (addK key n width k rows) sum) (hk : k < L.length) (hw : 0 < width) :
    SketchAt (w.setCell ⟨L[k], hashN key k width, none⟩ (.int .i64 (entry rows k (hashN key k width) + n))) b g cap L width (addK key n width (k + 1) rows) sum := by
  have hne := hs.ne_top (List.getElem_mem hk)
  have hlen : rows.length = L.length := by have := hs.len; rwa [addK_len] at this
  obtain ⟨cur, hc, hl⟩ := hs.lead
  refine ⟨hs.top.far (by simpa using hne.1.symm) _, ⟨cur, hc.far (by simpa using hne.2.symm) _, hl⟩, by rw [addK_len, hlen], hs.nodup, fun i r x hi hx => ?_⟩
  by_cases e : i = k
  · subst e
    have hr : r = L[i] := by rw [List.getElem?_eq_getElem hk] at hi; exact (Option.some.inj hi).symm
    subst hr
    have hk' : i < rows.length := by omega
    have h0 : (addK key n width i rows)[i]? = some rows[i] := by simp [addK, List.getElem?_mapIdx, List.getElem?_eq_getElem hk']
    obtain ⟨h1, h2⟩ := hs.row i _ _ hi h0
    have h3 : (addK key n width (i + 1) rows)[i]? = some (rows[i].modify (hashN key i width) (· + n)) := by simp [addK, List.getElem?_mapIdx, List.getElem?_eq_getElem hk']
    rw [h3] at hx
    obtain rfl := Option.some.inj hx
    refine ⟨by simpa using h1, ?_⟩
    have h4 := h2.set (hashN key i width) (.int .i64 (entry rows i (hashN key i width) + n))
    rw [ints_set] at h4
    have hh := hashN_lt key i width hw
    have : rows[i].set (hashN key i width) (entry rows i (hashN key i width) + n) = rows[i].modify (hashN key i width) (· + n) := by
      have hb : hashN key i width < rows[i].length := by rw [h1]; exact hh
      apply List.ext_getElem?
      intro j
      rw [List.getElem?_set, List.getElem?_modify]
      by_cases ej : hashN key i width = j
      · subst ej
        simp [entry, List.getD, List.getElem?_eq_getElem hk', List.getElem?_eq_getElem hb, hb]
      · simp [ej]
    rw [← this]
    exact h4
  · have h3 : (addK key n width (k + 1) rows)[i]? = (addK key n width k rows)[i]? := by
      simp only [addK, List.getElem?_mapIdx]
      cases rows[i]? with
      | none => rfl
      | some y =>
        by_cases h : i < k
        · simp [h, show i < k + 1 by omega]
        · simp [h, show ¬ i < k + 1 by omega]
    rw [h3] at hx
    obtain ⟨h1, h2⟩ := hs.row i r x hi hx
    refine ⟨h1, h2.far ?_ _⟩
    intro e2
    have h5 : L[k]? = some r := by rw [List.getElem?_eq_getElem hk]; exact congrArg some e2.symm
    have hil : i < L.length := (List.getElem?_eq_some_iff.1 hi).1
    exact e ((List.getElem?_inj hil hs.nodup).1 (hi.trans h5.symm))

/-- The numbers of a sketch lie within bounds. -/
def SkBd (rows : List (List Int)) : Prop := ∀ k h : Nat, 0 ≤ entry rows k h ∧ entry rows k h ≤ 1000000

def AddRel (w : World) (b g cap : Nat) (L : List Nat) (width : Nat) (rows : List (List Int)) (sum key n : Int) (i : Value) (wr : World) : Prop :=
  ∃ k : Nat, k ≤ L.length ∧ i = .int .i64 k ∧ SketchAt wr b g cap L width (addK key n width k rows) sum ∧ Keep (b :: L) w wr

theorem SketchAt.sum {w : World} {b g cap : Nat} {L : List Nat} {width : Nat} {rows : List (List Int)} {sum : Int} (hs : SketchAt w b g cap L width rows sum) (x : Int) : SketchAt (w.setCell ⟨b, 1, none⟩ (.int .i64 x)) b g cap L width rows x := by
  obtain ⟨cur, hc, hl⟩ := hs.lead
  exact ⟨by simpa using hs.top.set 1 (.int .i64 x), ⟨cur, hc.far (by simpa using hc.ne hs.top (by decide)) _, hl⟩, hs.len, hs.nodup, fun i r y hi hy => ⟨(hs.row i r y hi hy).1, (hs.row i r y hi hy).2.far (by simpa using (hs.ne_top (List.mem_of_getElem? hi)).1) _⟩⟩

def AddPost (w : World) (b g cap : Nat) (L : List Nat) (width : Nat) (rows : List (List Int)) (sum key n : Int) (e : Ending) (w' : World) : Prop :=
  e = .returned .nilIface ∧ SketchAt w' b g cap L width (skAdd key n width rows) (sum + n) ∧ Keep (b :: L) w w'

set_option maxRecDepth 100000 in
theorem add_ok (b g cap : Nat) (L : List Nat) (width : Nat) (rows : List (List Int)) (sum key n : Int) (w : World) (hs : SketchAt w b g cap L width rows sum) (hL0 : 0 < L.length) (hL : L.length ≤ 4) (hw1 : 1 ≤ (width : Int)) (hw2 : (width : Int) ≤ 16)
    (h1 : 0 ≤ key) (h2 : key ≤ 1000000) (h3 : 0 ≤ n) (h4 : n ≤ 1000) (h5 : 0 ≤ sum) (h6 : sum + n ≤ 1000000) (hbd : SkBd rows) :
    Calls Tryd.prog 9 #[.pointer (some ⟨b, 0, none⟩), .int .i64 key, .int .i64 n] w (AddPost w b g cap L width rows sum key n) := by
  have hc1 := hs.top.cell_ (i := 1) rfl
  have hf1 := hs.top.free 1
  have HS := Lib.hid hs; clear hs
  go_enter Tryd.func9, Tryd.ntmps9
  go_wp2_with (first
    | (go_at_call 32; refine (within_yes _ _ _ _ (by omega) (by omega)).mono ?_; rintro e w' ⟨rfl, rfl⟩)
    | (go_at_call 34; refine (counters_any b g cap L width rows (sum + n) key _ (HS.out.sum _) hL0 hL hw1 hw2 h1 h2).mono ?_; rintro e w1 ⟨g1, cap1, cur1, rfl, hg1, hb1, hcur1, hbel⟩))
  have hs := HS.out.sum (sum + n)
  have hs1 := hs.keep (Keep.of_below hbel (Nat.le_refl _)) (F := []) (by simp)
  have hk1 := ((Keep.refl (b :: L) w).set (p := ⟨b, 1, none⟩) (fun _ => by simp) (.int .i64 (sum + n))).trans (Keep.of_below hbel (Nat.le_refl _))
  go_loopw [8, 38] (fun _ i wr => AddRel w b g cap L width rows (sum + n) key n i wr ∧ Blk wr g1 69 cur1) (fun _ i _ => L.length - (intOf i).toNat)
  case atStart => exact ⟨⟨0, Nat.zero_le _, rfl, by rw [addK_zero]; exact hs1, hk1⟩, hb1⟩
  case round =>
    obtain ⟨⟨k, hk, rfl, hsk, hkk⟩, hbk⟩ := hrel
    by_cases hlt : k < L.length
    · have hcp := hbk.cell_ (hcur1 k hlt)
      have hh := hashN_lt key k width (by omega)
      obtain ⟨hc, hf, hl⟩ := hsk.cell_ hlt hh
      rw [entry_addK] at hc
      obtain ⟨hb2, hb3⟩ := hbd k (hashN key k width)
      have hbk2 := hbk.far (p := ⟨L[k], hashN key k width, none⟩) (by
        have := (hsk.row k L[k] _ (List.getElem?_eq_getElem hlt) (List.getElem?_eq_getElem (by rw [hsk.len]; exact hlt))).2
        simpa using (this.ne hbk (by decide)).symm) (.int .i64 (entry rows k (hashN key k width) + n))
      go_wp2
      go_roundw
      case rel => exact ⟨⟨k + 1, hlt, by go_num, addK_step hsk hlt (by omega), hkk.set (fun _ => by simp) _⟩, hbk2⟩
      case measure => simp [intOf]; omega
    · go_wp2
      go_ret
      obtain rfl : k = L.length := by omega
      have hlen := HS.out.len
      rw [addK_all _ _ _ _ _ (by omega)] at hsk
      exact ⟨rfl, hsk, hkk⟩
end Go.Proofs.YtnpokcjdnlmheaaDoor
