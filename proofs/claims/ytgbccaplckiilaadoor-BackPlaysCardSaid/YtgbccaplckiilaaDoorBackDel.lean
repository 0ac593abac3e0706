/-
  slices.Delete of one frame, by its contract.
-/
import Derived.Test.YtgbccaplckiilaaDoorBack
namespace Go.Proofs.YtgbccaplckiilaaDoor
open Go.RowKit

theorem zero_frame (w : World) : (zeroValue 59).run Tryd.prog w = .ok (.agg #[.int .i64 0, .int .i64 0, .bool false]) w := by
  obtain ⟨i, hi, hz⟩ := Option.map_eq_some_iff.1 info_frame
  simp only [Prod.mk.injEq] at hz
  simp [zeroValue, typeInfo, hi, hz.1]
theorem run_clear_frame (w : World) (ty : TypeId) (b o c : Nat) (hc : ∀ j, j < 3 → (w.cell? ⟨b, o + j, none⟩).isSome = true) (hf : ∀ j, j < 3 → w.frozen? ⟨b, o + j, none⟩ = false) :
    (Builtin.clear_ #[50] ty #[.slice (some ⟨b, o, none⟩) 1 c]).run Tryd.prog w = .ok (.tuple #[]) (w.setCells b o [.int .i64 0, .int .i64 0, .bool false]) := by
  have hzc : (Builtin.zeroCells (Value.agg #[.int .i64 0, .int .i64 0, .bool false]).cells 1).toList = [.int .i64 0, .int .i64 0, .bool false] := by simp [Builtin.zeroCells, Value.cells, List.range_succ]
  have hst := run_storeCells_cells (P := Tryd.prog) b o [.int .i64 0, .int .i64 0, .bool false] 0 w (by simpa using hc) (by simpa using hf) (by intro v hv'; simp at hv'; rcases hv' with rfl | rfl | rfl <;> rfl)
  simp only [Nat.add_zero] at hst
  simp [Builtin.clear_, run_underlying Tryd.underlying50, zero_frame, hzc, hst]

def DelB (w : World) (g cap : Nat) (L : List Fr) (i : Nat) (e : Ending) (w' : World) : Prop :=
  e = .returned (.slice (some ⟨g, 0, none⟩) (L.length - 1) cap) ∧ (∃ rest, Blk w' g 59 (flat3 (L.eraseIdx i) ++ rest) ∧ (flat3 (L.eraseIdx i) ++ rest).length = cap * 3) ∧ Keep [g] w w'

set_option maxHeartbeats 1000000 in
set_option maxRecDepth 100000 in
theorem delFr (g cap n i : Nat) (L : List Fr) (rest : List Value) (w : World) (hl : L.length = n) (hi : i < n) (hcap : n ≤ cap) (hcm : cap ≤ maxLen) (hblk : Blk w g 59 (flat3 L ++ rest)) (hlen : (flat3 L ++ rest).length = cap * 3) (hn : n ≤ 1000) :
    Calls Tryd.prog 32 #[.slice (some ⟨g, 0, none⟩) n cap, .int .i64 i, .int .i64 ((i + 1 : Nat) : Int)] w (DelB w g cap L i) := by
  obtain ⟨i0, hi0, hz0, hz1, hz2⟩ := info_parts info_frame
  obtain ⟨j, hj⟩ : ∃ j, j = i + 1 := ⟨_, rfl⟩
  rw [← hj]
  have hg := hblk.lt
  obtain ⟨cs, hcs⟩ : ∃ cs, cs = flat3 L ++ rest := ⟨_, rfl⟩
  have hfl := flat3_len L
  have hct : cs.take (n * 3) = flat3 L := by rw [hcs, List.take_append_of_le_length (by omega), List.take_of_length_le (by omega)]
  rw [← hcs] at hblk hlen
  obtain ⟨news, hnews⟩ : ∃ news, news = flat3 (L.drop j) := ⟨_, rfl⟩
  have hnl : news.length = (n - j) * 3 := by rw [hnews, flat3_len, List.length_drop, hl]
  have hget : ∀ t u, news[t]? = some u → cs[j * 3 + t]? = some u := by
    intro t u hu
    have ht : t < (n - j) * 3 := by have := (List.getElem?_eq_some_iff.1 hu).1; omega
    rw [hnews, ← flat3_drop, List.getElem?_drop] at hu
    rw [hcs, List.getElem?_append_left (by omega)]
    exact hu
  obtain ⟨A, hA, hsrc⟩ : ∃ A : Addr, (if cap = j then some (⟨g, 0, none⟩ : Addr) else some ⟨g, j * 3, none⟩) = some A ∧ Hid (∀ t u, news[t]? = some u → w.drew.cell? (A.add t) = some u) := by
    by_cases h : cap = j
    · refine ⟨⟨g, 0, none⟩, by simp [h], fun t u hu => ?_⟩
      have ht := (List.getElem?_eq_some_iff.1 hu).1
      omega
    · refine ⟨⟨g, j * 3, none⟩, by simp [h], fun t u hu => ?_⟩
      rw [add_addr]
      exact hblk.cell_ (hget t u hu)
  have s1 : Hid (news.length = (n - j) * 3) := hnl
  have s2 : Hid (∀ u ∈ news, u.oneCell' = true) := by rw [hnews]; exact flat3_one _
  have s3 : Hid (∀ t, t < news.length → (w.drew.cell? ⟨g, 0 + i * 3 + t, none⟩).isSome = true ∧ w.drew.frozen? ⟨g, 0 + i * 3 + t, none⟩ = false) := by
    intro t ht
    refine ⟨?_, hblk.free _⟩
    have : w.cell? ⟨g, 0 + i * 3 + t, none⟩ = some (cs[0 + i * 3 + t]'(by omega)) := hblk.cell_ (List.getElem?_eq_getElem _)
    show (w.cell? _).isSome = true
    rw [this]; rfl
  obtain ⟨W1, hW1⟩ : ∃ W1, W1 = w.drew.setCells g (0 + i * 3) news := ⟨_, rfl⟩
  have hb1 : Blk W1 g 59 (sets cs (0 + i * 3) news) := by rw [hW1]; exact Blk.setCells news (0 + i * 3) cs _ hblk.drew
  have hk1 : Keep [g] w W1 := by rw [hW1]; exact Keep.setCells (fun _ => by simp) _ _ _ ((Keep.refl _ _).drew)
  have hm : n - (i + (n - j)) = 1 := by omega
  have hin : ∀ t, t < 3 → (i + (n - j)) * 3 + t < (sets cs (0 + i * 3) news).length := fun t ht => by rw [sets_len]; omega
  have hcl : ∀ ty, (Builtin.clear_ #[50] ty #[.slice (some ⟨g, (i + (n - j)) * 3, none⟩) 1 (cap - (i + (n - j)))]).run Tryd.prog W1 = .ok (.tuple #[]) (W1.setCells g ((i + (n - j)) * 3) [.int .i64 0, .int .i64 0, .bool false]) := by
    intro ty
    exact run_clear_frame W1 ty g ((i + (n - j)) * 3) _ (fun t ht => by rw [hb1.cell_ (List.getElem?_eq_getElem (hin t ht))]; rfl) (fun t ht => hb1.free _)
  have hfin : ∃ rest', Blk (W1.setCells g ((i + (n - j)) * 3) [.int .i64 0, .int .i64 0, .bool false]) g 59 (flat3 (L.eraseIdx i) ++ rest') ∧ (flat3 (L.eraseIdx i) ++ rest').length = cap * 3 := by
    have hb2 := Blk.setCells [.int .i64 0, .int .i64 0, .bool false] ((i + (n - j)) * 3) _ _ hb1
    obtain ⟨ds, hds⟩ : ∃ ds, ds = sets (sets cs (0 + i * 3) news) ((i + (n - j)) * 3) [.int .i64 0, .int .i64 0, .bool false] := ⟨_, rfl⟩
    rw [← hds] at hb2
    have hdl : ds.length = cap * 3 := by rw [hds, sets_len, sets_len]; exact hlen
    have hel : (L.eraseIdx i).length = n - 1 := by rw [List.length_eraseIdx_of_lt (by omega), hl]
    have htk : ds.take ((n - 1) * 3) = flat3 (L.eraseIdx i) := by
      apply List.ext_getElem?
      intro q
      by_cases hq : q < (n - 1) * 3
      · rw [List.getElem?_take_of_lt hq, hds, sets_get _ _ _ _ (by rw [sets_len]; simp; omega), if_neg (by simp; omega), sets_get _ _ _ _ (by omega), List.eraseIdx_eq_take_drop_succ, flat3_append, ← hj]
        have hti : (flat3 (L.take i)).length = i * 3 := by rw [flat3_len, List.length_take]; omega
        by_cases hq2 : q < i * 3
        · rw [if_neg (by omega), List.getElem?_append_left (by omega), ← flat3_take, List.getElem?_take_of_lt hq2, hcs, List.getElem?_append_left (by omega)]
        · rw [if_pos (by omega), List.getElem?_append_right (by omega), hti, hnews, Nat.zero_add]
      · rw [List.getElem?_eq_none (by rw [List.length_take]; omega), List.getElem?_eq_none (by rw [flat3_len]; omega)]
    refine ⟨ds.drop ((n - 1) * 3), ?_, ?_⟩
    · rw [← htk, List.take_append_drop]; exact hb2
    · rw [← htk, List.take_append_drop]; exact hdl
  have hkf : Keep [g] w (W1.setCells g ((i + (n - j)) * 3) [.int .i64 0, .int .i64 0, .bool false]) := Keep.setCells (fun _ => by simp) _ _ _ hk1
  have HFIN := Lib.hid hfin; have HKF := Lib.hid hkf; have HL := Lib.hid hl
  have hW : Hid (W1 = w.drew.setCells g (0 + i * 3) news) := hW1
  have h1 : (i : Int) ≤ (j : Int) := by omega
  have h2 : (j : Int) ≤ (n : Int) := by omega
  have h3 : (n : Int) ≤ (cap : Int) := by omega
  have h4 : ¬ (i : Int) = (j : Int) := by omega
  have h5 : (0 : Int) ≤ (i : Int) := by omega
  have h6 : (0 : Int) ≤ (j : Int) := by omega
  have h7 : i ≤ n := by omega
  have h8 : j ≤ n := by omega
  have h9 : i ≤ j := by omega
  have hic : i ≤ cap := by omega
  have hjc : j ≤ cap := by omega
  have hnc : ¬ cap = i + (n - j) := by omega
  have hi1 : (i : Int) + ((n - j : Nat) : Int) ≤ (n : Int) := by omega
  have hi2 : i + (n - j) ≤ n := by omega
  have HN1 : Hid (i + (n - j) = n - 1) := Lib.hid (by omega)
  clear hW1 hb1 hk1 hget hnews hnl hfin hkf hct hcs hblk hlen hin hl hfl hj
  go_enter Tryd.func32, Tryd.ntmps32
  go_wp2_with fail
  go_region_law (refine step_append_room rfl (.tmp 22) (.tmp 25) 50 rfl 59 i0 3 Tryd.underlying50 hi0 hz1 g 0 i cap (by simp [Act.eval, Act.put]) A (n - j) (cap - j) news (by simp [Act.eval, Act.put]) s1.out hsrc.out s2.out (by omega) s3.out ?_; rw [← hW.out])
  go_wp2
  go_ret
  exact ⟨ret_eq (show Value.slice (some ⟨g, 0, none⟩) (i + (n - j)) cap = .slice (some ⟨g, 0, none⟩) (L.length - 1) cap by rw [HN1.out, HL.out]), HFIN.out, HKF.out⟩
theorem delFr1 (g cap n i : Nat) (L : List Fr) (rest : List Value) (w : World) (hl : L.length = n) (hi : i < n) (hcap : n ≤ cap) (hcm : cap ≤ maxLen) (hblk : Blk w g 59 (flat3 L ++ rest)) (hlen : (flat3 L ++ rest).length = cap * 3) (hn : n ≤ 1000) :
    Calls Tryd.prog 32 #[.slice (some ⟨g, 0, none⟩) n cap, .int .i64 i, .int .i64 ((i : Int) + 1)] w (DelB w g cap L i) := by
  rw [show (i : Int) + 1 = ((i + 1 : Nat) : Int) by omega]
  exact delFr g cap n i L rest w hl hi hcap hcm hblk hlen hn
end Go.Proofs.YtgbccaplckiilaaDoor
