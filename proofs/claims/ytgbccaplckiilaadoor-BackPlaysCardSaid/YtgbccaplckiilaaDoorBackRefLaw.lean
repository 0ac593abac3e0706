/-
  The reference's disk goes as the program's cache: Use, Flushed, Crashed in the words of the cache.
-/
import Derived.Test.YtgbccaplckiilaaDoorBackRef2
import Derived.Test.YtgbccaplckiilaaDoorBackOps
import Derived.Test.YtgbccaplckiilaaDoorBackFlush
import Derived.Test.YtgbccaplckiilaaDoorBackHeld
import Derived.Test.YtgbccaplckiilaaDoorBackDisk
set_option linter.unusedVariables false
namespace Go.Proofs.YtgbccaplckiilaaDoor
open Go.RowKit

def hdL (L : List Fr) : List Int := L.map fun f => f.1
def vaL (L : List Fr) : List Int := L.map fun f => f.2.1
def diL (L : List Fr) : List Int := L.map fun f => if f.2.2 = true then 1 else 0
theorem hdL_len (L : List Fr) : (hdL L).length = L.length := by simp [hdL]
theorem map_erase {α β : Type} (g : α → β) (L : List α) (i : Nat) : (L.eraseIdx i).map g = (L.map g).eraseIdx i := by
  rw [List.eraseIdx_eq_take_drop_succ, List.eraseIdx_eq_take_drop_succ, List.map_append, List.map_take, List.map_drop]
theorem map_getD {α : Type} (g : α → Int) {L : List α} {i : Nat} {f : α} (h : L[i]? = some f) : (L.map g).getD i 0 = g f := by
  rw [List.getD, List.getElem?_map, h]; rfl
theorem set_erase {α : Type} (L : List α) (i : Nat) (x : α) : (L.set i x).eraseIdx i = L.eraseIdx i := by
  rw [List.eraseIdx_eq_take_drop_succ, List.eraseIdx_eq_take_drop_succ, List.take_set_of_le (Nat.le_refl _), List.drop_set_of_lt (Nat.lt_succ_self _)]
theorem last_erase {α : Type} (L : List α) (h : 0 < L.length) : L.dropLast = L.eraseIdx (L.length - 1) := by
  rw [List.eraseIdx_eq_take_drop_succ, List.dropLast_eq_take]
  rw [List.drop_of_length_le (by omega)]; simp

/-- A key that is there: where. -/
theorem hit_at {L : List Fr} {k : Int} (h : ∃ x ∈ L, x.1 = k) : ∃ (i : Nat) (f : Fr), i < L.length ∧ L[i]? = some f ∧ f.1 = k ∧ plOf (hdL L) k = (i : Nat) ∧ L.find? (fun x => x.1 == k) = some f ∧ L.eraseP (fun x => x.1 == k) = L.eraseIdx i := by
  have h' : ∃ x ∈ L, (x.1 == k) = true := by obtain ⟨x, hx, e⟩ := h; exact ⟨x, hx, by simp [e]⟩
  have hlt : L.findIdx (fun x => x.1 == k) < L.length := List.findIdx_lt_length.2 h'
  have h1 : (L[L.findIdx (fun x => x.1 == k)].1 == k) = true := List.findIdx_getElem (w := hlt)
  obtain ⟨i, hi⟩ : ∃ i, i = L.findIdx (fun x => x.1 == k) := ⟨_, rfl⟩
  have hb : ∀ (j : Nat) (hj : j < L.length), j < i → (L[j].1 == k) = false := fun j hj hji => by
    rw [hi] at hji
    have := List.not_of_lt_findIdx hji
    exact Bool.eq_false_iff.2 (by simpa using this)
  have hil : i < L.length := by rw [hi]; exact hlt
  have h1' : (L[i].1 == k) = true := by simp only [hi]; exact h1
  have hg : L[i]? = some L[i] := List.getElem?_eq_getElem hil
  obtain ⟨e1, e2⟩ := first_erase (p := fun x : Fr => x.1 == k) L i L[i] hg h1' (fun j y hj hy => by
    obtain ⟨hjl, rfl⟩ := List.getElem?_eq_some_iff.1 hy
    exact hb j hjl hj)
  refine ⟨i, L[i], hil, hg, by simpa using h1', ?_, e1, e2⟩
  refine plOf_hit (by rw [hdL_len]; exact hil) (by simpa [hdL] using h1') (fun j hj hji => ?_)
  rw [hdL_len] at hj
  simpa [hdL] using hb j hj hji
theorem miss_at {L : List Fr} {k : Int} (h : ¬ ∃ x ∈ L, x.1 = k) : plOf (hdL L) k = -1 ∧ L.find? (fun x => x.1 == k) = none := by
  refine ⟨plOf_none fun y hy e => ?_, ?_⟩
  · obtain ⟨x, hx, rfl⟩ := List.mem_map.1 hy
    exact h ⟨x, hx, e⟩
  · rw [List.find?_eq_none]
    intro x hx e
    exact h ⟨x, hx, by simpa using e⟩

def DSt (w : World) (slots : Nat) (t : BSt) (V : Value) : Prop :=
  ∃ (n : Nat) (aB aH aV aD : Option Addr) (cB cH cV cD : Nat), n = t.fr.length ∧ V = .agg #[.int .i64 (slots : Nat), .slice aB 8 cB, .slice aH n cH, .slice aV n cV, .slice aD n cD, .int .i64 t.reads, .int .i64 t.writes] ∧
    DIn w aB aH aV aD 8 n n n cB cH cV cD t.disk (hdL t.fr) (vaL t.fr) (diL t.fr) t.reads t.writes
def DStPost (w : World) (slots : Nat) (t : BSt) (e : Ending) (w' : World) : Prop := ∃ V, e = .returned V ∧ DSt w' slots t V ∧ Below w.heap.size w w'
def DStPost2 (w : World) (slots : Nat) (t : BSt) (x : Int) (e : Ending) (w' : World) : Prop := ∃ V, e = .returned (.tuple #[V, .int .i64 x]) ∧ DSt w' slots t V ∧ Below w.heap.size w w'
theorem DPost2.st {w w' : World} {slots n : Nat} {t : BSt} {lB lH lV lD : List Int} {r q x x' : Int} {e : Ending} (h : DPost2 w slots 8 n n n lB lH lV lD r q x e w') (hn : n = t.fr.length) (hB : lB = t.disk) (hH : lH = hdL t.fr) (hV : lV = vaL t.fr) (hD : lD = diL t.fr) (hr : r = t.reads) (hq : q = t.writes) (hx : x = x') : DStPost2 w slots t x' e w' := by
  obtain ⟨aB, aH, aV, aD, cB, cH, cV, cD, rfl, hin, hb⟩ := h
  subst hB hH hV hD hr hq hx
  exact ⟨_, rfl, ⟨n, aB, aH, aV, aD, cB, cH, cV, cD, hn, rfl, hin⟩, hb⟩
theorem DPost.st {w w' : World} {slots n : Nat} {t : BSt} {lB lH lV lD : List Int} {r q : Int} {e : Ending} (h : DPost w slots 8 n n n lB lH lV lD r q e w') (hn : n = t.fr.length) (hB : lB = t.disk) (hH : lH = hdL t.fr) (hV : lV = vaL t.fr) (hD : lD = diL t.fr) (hr : r = t.reads) (hq : q = t.writes) : DStPost w slots t e w' := by
  obtain ⟨aB, aH, aV, aD, cB, cH, cV, cD, rfl, hin, hb⟩ := h
  subst hB hH hV hD hr hq
  exact ⟨_, rfl, ⟨n, aB, aH, aV, aD, cB, cH, cV, cD, hn, rfl, hin⟩, hb⟩

theorem evict_lists {L : List Fr} {f : Fr} (h0 : 0 < L.length) (hg : L[L.length - 1]? = some f) (hr : ∀ x ∈ L, 0 ≤ x.1 ∧ x.1 ≤ 7) (disk : List Int) (q : Int) :
    clB disk (hdL L) (vaL L) (diL L) (L.length - 1) = cleanD disk f ∧ (clD (diL L) (L.length - 1)).eraseIdx (L.length - 1) = diL L.dropLast ∧ clQ (diL L) q (L.length - 1) = q + cleanW f ∧ (hdL L).eraseIdx (L.length - 1) = hdL L.dropLast ∧ (vaL L).eraseIdx (L.length - 1) = vaL L.dropLast := by
  have e1 : (diL L).getD (L.length - 1) 0 = if f.2.2 = true then 1 else 0 := map_getD _ hg
  have e2 : (hdL L).getD (L.length - 1) 0 = f.1 := map_getD _ hg
  have e3 : (vaL L).getD (L.length - 1) 0 = f.2.1 := map_getD _ hg
  have e4 := last_erase L h0
  refine ⟨?_, ?_, ?_, ?_, ?_⟩
  · unfold clB cleanD
    rw [e1, e2, e3]
    by_cases h : f.2.2 = true
    · simp [h]
    · simp [h]
  · unfold clD
    rw [e4]
    show _ = (L.eraseIdx _).map _
    rw [map_erase]
    split
    · rw [set_erase]; rfl
    · rfl
  · unfold clQ cleanW
    rw [e1]
    by_cases h : f.2.2 = true
    · simp [h]
    · simp [h]
  · rw [e4]; exact (map_erase _ L _).symm
  · rw [e4]; exact (map_erase _ L _).symm
theorem room_full {slots : Nat} {s : BSt} {f : Fr} (h : s.fr.length = slots) (hg : s.fr[s.fr.length - 1]? = some f) : room slots s = evict s f := by
  unfold room
  rw [if_pos h, List.getLast?_eq_getElem?, hg]

theorem useB_head (slots : Nat) (s : BSt) (k : Nat) (rd : Bool) : ∃ (x : Int) (d : Bool) (r : List Fr), (useB slots s k rd).fr = ((k : Int), x, d) :: r := by
  by_cases h : ∃ x ∈ s.fr, x.1 = (k : Int)
  · obtain ⟨i, f, _, _, hf, _, e1, _⟩ := hit_at h
    obtain ⟨a, b, c⟩ := f
    simp only at hf
    subst hf
    unfold useB
    rw [e1]
    exact ⟨b, c, _, rfl⟩
  · obtain ⟨_, e1⟩ := miss_at h
    unfold useB
    rw [e1]
    exact ⟨_, _, _, rfl⟩

theorem kUseRead (slots k n : Nat) (s : BSt) (aB aH aV aD : Option Addr) (cB cH cV cD : Nat) (x : Int) (d : Bool) (r : List Fr) (w : World) (hnn : n = s.fr.length) (h1 : 1 ≤ slots) (h8 : slots ≤ 8) (hle : s.fr.length ≤ slots) (hrng : ∀ x ∈ s.fr, 0 ≤ x.1 ∧ x.1 ≤ 7) (hk : k ≤ 7)
    (hr0 : 0 ≤ s.reads) (hr1 : s.reads ≤ 1000000) (hw0 : 0 ≤ s.writes) (hw1 : s.writes ≤ 1000000) (hx : (useB slots s k true).fr = ((k : Int), x, d) :: r)
    (hin : DIn w aB aH aV aD 8 n n n cB cH cV cD s.disk (hdL s.fr) (vaL s.fr) (diL s.fr) s.reads s.writes) :
    Calls Tryd.prog 8 #[.agg #[.int .i64 (slots : Nat), .slice aB 8 cB, .slice aH n cH, .slice aV n cV, .slice aD n cD, .int .i64 s.reads, .int .i64 s.writes], .int .i64 k, .int .i64 (-1)] w (DStPost2 w slots (useB slots s k true) x) := by
  have hrl : ∀ y ∈ hdL s.fr, 0 ≤ y ∧ y ≤ 7 := fun y hy => by obtain ⟨f, hf, rfl⟩ := List.mem_map.1 hy; exact hrng f hf
  by_cases h : ∃ x ∈ s.fr, x.1 = (k : Int)
  · obtain ⟨i, f, hi, hg, hf, hp, e1, e2⟩ := hit_at h
    refine (kUseHr slots 8 n aB aH aV aD cB cH cV cD s.disk (hdL s.fr) (vaL s.fr) (diL s.fr) s.reads s.writes k i (by omega) (by omega) rfl (by omega) hrl hr0 hr1 hw0 hw1 hp w hin).mono fun e w' hpost => ?_
    have hu : useB slots s k true = { s with fr := f :: s.fr.eraseIdx i } := by unfold useB; rw [e1, e2]
    have ev : (vaL s.fr).getD i 0 = f.2.1 := map_getD _ hg
    have ed : (diL s.fr).getD i 0 = if f.2.2 = true then 1 else 0 := map_getD _ hg
    rw [hu] at hx
    injection hx with hx1 hx2
    rw [hu]
    rw [ev, ed] at hpost
    refine hpost.st ?_ rfl ?_ ?_ ?_ rfl rfl (by rw [hx1])
    · simp only [List.length_cons, List.length_eraseIdx, if_pos hi]; omega
    · show _ = f.1 :: (s.fr.eraseIdx i).map _
      rw [map_erase, hf]; rfl
    · show _ = f.2.1 :: (s.fr.eraseIdx i).map _
      rw [map_erase]; rfl
    · show _ = (if f.2.2 = true then 1 else 0) :: (s.fr.eraseIdx i).map _
      rw [map_erase]; rfl
  · obtain ⟨hp, e1⟩ := miss_at h
    by_cases hf : s.fr.length = slots
    · have h0 : 0 < s.fr.length := by omega
      have hg : s.fr[s.fr.length - 1]? = some (s.fr[s.fr.length - 1]'(by omega)) := List.getElem?_eq_getElem _
      obtain ⟨f, hff⟩ : ∃ f, f = s.fr[s.fr.length - 1]'(by omega) := ⟨_, rfl⟩
      rw [← hff] at hg
      obtain ⟨q1, q2, q3, q4, q5⟩ := evict_lists h0 hg hrng s.disk s.writes
      have hu : useB slots s k true = { disk := cleanD s.disk f, fr := ((k : Int), s.disk.getD k 0, false) :: s.fr.dropLast, reads := s.reads + 1, writes := s.writes + cleanW f } := by
        unfold useB; rw [e1, room_full hf hg]; simp [evict]
      rw [hu] at hx ⊢
      injection hx with hx1 hx2
      injection hx1 with _ hx3
      injection hx3 with hx3 _
      have hns : slots = n := by omega
      rw [hns]
      refine (kUseMrf 8 n aB aH aV aD cB cH cV cD s.disk (hdL s.fr) (vaL s.fr) (diL s.fr) s.reads s.writes k (by omega) rfl (by omega) hrl hr0 hr1 hw0 hw1 hp (by omega) w hin).mono fun e w' hpost => ?_
      rw [hnn] at hpost ⊢
      rw [q1, q2, q3, q4, q5] at hpost
      exact hpost.st (by simp) rfl rfl rfl rfl rfl rfl hx3
    · have hu : useB slots s k true = { disk := s.disk, fr := ((k : Int), s.disk.getD k 0, false) :: s.fr, reads := s.reads + 1, writes := s.writes } := by
        unfold useB room; rw [e1]; simp [hf]
      rw [hu] at hx ⊢
      injection hx with hx1 hx2
      injection hx1 with _ hx3
      injection hx3 with hx3 _
      refine (kUseMr slots 8 n aB aH aV aD cB cH cV cD s.disk (hdL s.fr) (vaL s.fr) (diL s.fr) s.reads s.writes k (by omega) rfl (by omega) hrl hr0 hr1 hw0 hw1 hp (by omega) w hin).mono fun e w' hpost => ?_
      exact hpost.st (by simp [hnn]) rfl rfl rfl rfl rfl rfl hx3

theorem kUseWrite (slots k n : Nat) (s : BSt) (y : Int) (aB aH aV aD : Option Addr) (cB cH cV cD : Nat) (w : World) (hnn : n = s.fr.length) (h1 : 1 ≤ slots) (h8 : slots ≤ 8) (hle : s.fr.length ≤ slots) (hrng : ∀ x ∈ s.fr, 0 ≤ x.1 ∧ x.1 ≤ 7) (hk : k ≤ 7) (hy : 0 ≤ y)
    (hr0 : 0 ≤ s.reads) (hr1 : s.reads ≤ 1000000) (hw0 : 0 ≤ s.writes) (hw1 : s.writes ≤ 1000000)
    (hin : DIn w aB aH aV aD 8 n n n cB cH cV cD s.disk (hdL s.fr) (vaL s.fr) (diL s.fr) s.reads s.writes) :
    Calls Tryd.prog 8 #[.agg #[.int .i64 (slots : Nat), .slice aB 8 cB, .slice aH n cH, .slice aV n cV, .slice aD n cD, .int .i64 s.reads, .int .i64 s.writes], .int .i64 k, .int .i64 y] w (DStPost2 w slots (putB (useB slots s k false) y) y) := by
  have hrl : ∀ y ∈ hdL s.fr, 0 ≤ y ∧ y ≤ 7 := fun y hy => by obtain ⟨f, hf, rfl⟩ := List.mem_map.1 hy; exact hrng f hf
  by_cases h : ∃ x ∈ s.fr, x.1 = (k : Int)
  · obtain ⟨i, f, hi, hg, hf, hp, e1, e2⟩ := hit_at h
    refine (kUseHw slots 8 n aB aH aV aD cB cH cV cD s.disk (hdL s.fr) (vaL s.fr) (diL s.fr) s.reads s.writes k y hy i (by omega) (by omega) rfl (by omega) hrl hr0 hr1 hw0 hw1 hp w hin).mono fun e w' hpost => ?_
    have hu : useB slots s k false = { s with fr := f :: s.fr.eraseIdx i } := by unfold useB; rw [e1, e2]
    rw [hu]
    refine hpost.st ?_ rfl ?_ ?_ ?_ rfl rfl rfl
    · simp only [putB, List.length_cons, List.length_eraseIdx, if_pos hi]; omega
    · show _ = f.1 :: (s.fr.eraseIdx i).map _
      rw [map_erase, hf]; rfl
    · show _ = y :: (s.fr.eraseIdx i).map _
      rw [map_erase]; rfl
    · show _ = (if true = true then 1 else 0) :: (s.fr.eraseIdx i).map _
      rw [map_erase]; rfl
  · obtain ⟨hp, e1⟩ := miss_at h
    by_cases hf : s.fr.length = slots
    · have h0 : 0 < s.fr.length := by omega
      have hg : s.fr[s.fr.length - 1]? = some (s.fr[s.fr.length - 1]'(by omega)) := List.getElem?_eq_getElem _
      obtain ⟨f, hff⟩ : ∃ f, f = s.fr[s.fr.length - 1]'(by omega) := ⟨_, rfl⟩
      rw [← hff] at hg
      obtain ⟨q1, q2, q3, q4, q5⟩ := evict_lists h0 hg hrng s.disk s.writes
      have hu : putB (useB slots s k false) y = { disk := cleanD s.disk f, fr := ((k : Int), y, true) :: s.fr.dropLast, reads := s.reads, writes := s.writes + cleanW f } := by
        unfold useB putB; rw [e1, room_full hf hg]; simp [evict]
      rw [hu]
      have hns : slots = n := by omega
      rw [hns]
      refine (kUseMwf 8 n aB aH aV aD cB cH cV cD s.disk (hdL s.fr) (vaL s.fr) (diL s.fr) s.reads s.writes k y hy (by omega) rfl (by omega) hrl hr0 hr1 hw0 hw1 hp (by omega) w hin).mono fun e w' hpost => ?_
      rw [hnn] at hpost ⊢
      rw [q1, q2, q3, q4, q5] at hpost
      exact hpost.st (by simp) rfl rfl rfl rfl rfl rfl rfl
    · have hu : putB (useB slots s k false) y = { disk := s.disk, fr := ((k : Int), y, true) :: s.fr, reads := s.reads, writes := s.writes } := by
        unfold useB putB room; rw [e1]; simp [hf]
      rw [hu]
      refine (kUseMw slots 8 n aB aH aV aD cB cH cV cD s.disk (hdL s.fr) (vaL s.fr) (diL s.fr) s.reads s.writes k y hy (by omega) rfl (by omega) hrl hr0 hr1 hw0 hw1 hp (by omega) w hin).mono fun e w' hpost => ?_
      exact hpost.st (by simp [hnn]) rfl rfl rfl rfl rfl rfl rfl

theorem flush_lists (s : BSt) (hr : ∀ x ∈ s.fr, 0 ≤ x.1 ∧ x.1 ≤ 7) : ∀ k, k ≤ s.fr.length → clTo s.disk (hdL s.fr) (vaL s.fr) (diL s.fr) s.writes k = ((flushTo s k).disk, diL (flushTo s k).fr, (flushTo s k).writes)
  | 0, _ => by rw [flushTo_zero]; rfl
  | k + 1, h => by
    have hk : k < s.fr.length := by omega
    obtain ⟨h1, h2⟩ := flushTo_at (s := s) (k := k) (x := s.fr[k]) (List.getElem?_eq_getElem hk)
    have ih := flush_lists s hr k (by omega)
    simp only [clTo, ih]
    have e1 : (diL (flushTo s k).fr).getD k 0 = if s.fr[k].2.2 = true then 1 else 0 := map_getD _ h1
    have e2 : (hdL s.fr).getD k 0 = s.fr[k].1 := map_getD _ (List.getElem?_eq_getElem hk)
    have e3 : (vaL s.fr).getD k 0 = s.fr[k].2.1 := map_getD _ (List.getElem?_eq_getElem hk)
    rw [h2]
    unfold clB clD clQ cleanD cleanW
    rw [e1, e2, e3]
    have e4 : diL ((flushTo s k).fr.set k (unD s.fr[k])) = (diL (flushTo s k).fr).set k 0 := by simp [diL, List.map_set, unD]
    by_cases hd : s.fr[k].2.2 = true
    · simp [hd, e4]
    · have e5 : (diL (flushTo s k).fr).set k 0 = diL (flushTo s k).fr := by
        have h3 : (diL (flushTo s k).fr)[k]? = some 0 := by
          simp only [diL, List.getElem?_map, h1, Option.map_some]
          simp [hd]
        obtain ⟨h4, h5⟩ := List.getElem?_eq_some_iff.1 h3
        rw [← h5]; exact List.set_getElem_self h4
      simp [hd, e4, e5]
theorem flush_keys (s : BSt) : (flushB s).fr.map (·.1) = s.fr.map (·.1) := by
  rw [flushB_eq]; simp [unD, Function.comp_def]
theorem flush_len (s : BSt) : (flushB s).fr.length = s.fr.length := by
  rw [flushB_eq]; simp
theorem flush_va (s : BSt) : vaL (flushB s).fr = vaL s.fr := by rw [flushB_eq]; simp [vaL, unD, Function.comp_def]
theorem kFlush (slots n : Nat) (s : BSt) (aB aH aV aD : Option Addr) (cB cH cV cD : Nat) (w : World) (hnn : n = s.fr.length) (h8 : s.fr.length ≤ 8) (hrng : ∀ x ∈ s.fr, 0 ≤ x.1 ∧ x.1 ≤ 7) (hw0 : 0 ≤ s.writes) (hw1 : s.writes ≤ 900000)
    (hin : DIn w aB aH aV aD 8 n n n cB cH cV cD s.disk (hdL s.fr) (vaL s.fr) (diL s.fr) s.reads s.writes) :
    Calls Tryd.prog 12 #[.agg #[.int .i64 (slots : Nat), .slice aB 8 cB, .slice aH n cH, .slice aV n cV, .slice aD n cD, .int .i64 s.reads, .int .i64 s.writes]] w (DStPost w slots (flushB s)) := by
  have hrl : ∀ y ∈ hdL s.fr, 0 ≤ y ∧ y ≤ 7 := fun y hy => by obtain ⟨f, hf, rfl⟩ := List.mem_map.1 hy; exact hrng f hf
  refine (kFlushed slots 8 n aB aH aV aD cB cH cV cD s.disk (hdL s.fr) (vaL s.fr) (diL s.fr) s.reads s.writes (by omega) rfl hrl hw0 hw1 w hin).mono fun e w' hpost => ?_
  have hf := flush_lists s hrng n (by omega)
  rw [hf] at hpost
  have e : flushB s = flushTo s n := by unfold flushB; rw [hnn]
  rw [e]
  refine hpost.st (by rw [← e, flush_len]; exact hnn) rfl ?_ ?_ rfl rfl rfl
  · rw [← e]; exact (flush_keys s).symm
  · rw [← e]; exact (flush_va s).symm
theorem kCrash (slots n : Nat) (s : BSt) (aB aH aV aD : Option Addr) (cB cH cV cD : Nat) (w : World)
    (hin : DIn w aB aH aV aD 8 n n n cB cH cV cD s.disk (hdL s.fr) (vaL s.fr) (diL s.fr) s.reads s.writes) :
    Calls Tryd.prog 14 #[.agg #[.int .i64 (slots : Nat), .slice aB 8 cB, .slice aH n cH, .slice aV n cV, .slice aD n cD, .int .i64 s.reads, .int .i64 s.writes]] w (DStPost w slots (crashB s)) :=
  (kCrashed slots 8 n aB aH aV aD cB cH cV cD s.disk (hdL s.fr) (vaL s.fr) (diL s.fr) s.reads s.writes w hin).mono fun _ _ hpost => hpost.st rfl rfl rfl rfl rfl rfl rfl
theorem kNew (slots : Nat) (w : World) : Calls Tryd.prog 7 #[.int .i64 slots] w (DStPost w slots bs0) :=
  (kNewDisk slots w).mono fun _ _ hpost => hpost.st rfl rfl rfl rfl rfl rfl rfl
end Go.Proofs.YtgbccaplckiilaaDoor
