/-
  slices.Delete of one number (printed by gen_intslices.py), by its contract.
-/
import Derived.Test.YtgbccaplckiilaaBackDel
namespace Go.Proofs.Ytgbccaplckiilaa
open Go.RowKit

def fr1 (x : Int) : List Value := [.int .i64 x]
def flat1 (L : List Int) : List Value := L.flatMap fr1
theorem flat1_cons (x : Int) (L : List Int) : flat1 (x :: L) = .int .i64 x :: flat1 L := rfl
theorem flat1_append (L M : List Int) : flat1 (L ++ M) = flat1 L ++ flat1 M := by simp [flat1]
theorem flat1_ints : ∀ L : List Int, flat1 L = ints L
  | [] => rfl
  | x :: L => by rw [flat1_cons, flat1_ints L]; rfl
theorem flat1_len (L : List Int) : (flat1 L).length = L.length * 1 := by rw [flat1_ints]; simp [ints]
theorem flat1_take (L : List Int) (i : Nat) : (flat1 L).take (i * 1) = flat1 (L.take i) := by rw [flat1_ints, flat1_ints, Nat.mul_one]; simp [ints]
theorem flat1_drop (L : List Int) (i : Nat) : (flat1 L).drop (i * 1) = flat1 (L.drop i) := by rw [flat1_ints, flat1_ints, Nat.mul_one]; simp [ints]
theorem flat1_one (L : List Int) : ∀ v ∈ flat1 L, v.oneCell' = true := by
  rw [flat1_ints]; intro v hv
  obtain ⟨x, _, rfl⟩ := List.mem_map.1 hv
  rfl
theorem zero_i (w : World) : (zeroValue 3).run Try.prog w = .ok (.int .i64 0) w := by
  obtain ⟨i, hi, hz⟩ := Option.map_eq_some_iff.1 info_int
  simp only [Prod.mk.injEq] at hz
  simp [zeroValue, typeInfo, hi, hz.1]
theorem run_clear_i (w : World) (ty : TypeId) (b o c : Nat) (hc : ∀ j, j < 1 → (w.cell? ⟨b, o + j, none⟩).isSome = true) (hf : ∀ j, j < 1 → w.frozen? ⟨b, o + j, none⟩ = false) :
    (Builtin.clear_ #[35] ty #[.slice (some ⟨b, o, none⟩) 1 c]).run Try.prog w = .ok (.tuple #[]) (w.setCells b o [.int .i64 0]) := by
  have hzc : (Builtin.zeroCells (Value.int .i64 0).cells 1).toList = [.int .i64 0] := by simp [Builtin.zeroCells, Value.cells, List.range_succ]
  have hst := run_storeCells_cells (P := Try.prog) b o [.int .i64 0] 0 w (by simpa using hc) (by simpa using hf) (by intro v hv'; simp at hv'; subst hv'; rfl)
  simp only [Nat.add_zero] at hst
  simp [Builtin.clear_, run_underlying Try.underlying35, zero_i, hzc, hst]

def DelI (w : World) (g cap : Nat) (L : List Int) (i : Nat) (e : Ending) (w' : World) : Prop :=
  e = .returned (.slice (some ⟨g, 0, none⟩) (L.length - 1) cap) ∧ (∃ rest, Blk w' g 3 (flat1 (L.eraseIdx i) ++ rest) ∧ (flat1 (L.eraseIdx i) ++ rest).length = cap * 1) ∧ Keep [g] w w'

set_option maxHeartbeats 1000000 in
set_option maxRecDepth 100000 in
theorem delI (g cap n i : Nat) (L : List Int) (rest : List Value) (w : World) (hl : L.length = n) (hi : i < n) (hcap : n ≤ cap) (hcm : cap ≤ maxLen) (hblk : Blk w g 3 (flat1 L ++ rest)) (hlen : (flat1 L ++ rest).length = cap * 1) (hn : n ≤ 1000) :
    Calls Try.prog 36 #[.slice (some ⟨g, 0, none⟩) n cap, .int .i64 i, .int .i64 ((i + 1 : Nat) : Int)] w (DelI w g cap L i) := by
  obtain ⟨i0, hi0, hz0, hz1, hz2⟩ := info_parts info_int
  obtain ⟨j, hj⟩ : ∃ j, j = i + 1 := ⟨_, rfl⟩
  rw [← hj]
  have hg := hblk.lt
  obtain ⟨cs, hcs⟩ : ∃ cs, cs = flat1 L ++ rest := ⟨_, rfl⟩
  have hfl := flat1_len L
  have hct : cs.take (n * 1) = flat1 L := by rw [hcs, List.take_append_of_le_length (by omega), List.take_of_length_le (by omega)]
  rw [← hcs] at hblk hlen
  obtain ⟨news, hnews⟩ : ∃ news, news = flat1 (L.drop j) := ⟨_, rfl⟩
  have hnl : news.length = (n - j) * 1 := by rw [hnews, flat1_len, List.length_drop, hl]
  have hget : ∀ t u, news[t]? = some u → cs[j * 1 + t]? = some u := by
    intro t u hu
    have ht : t < (n - j) * 1 := by have := (List.getElem?_eq_some_iff.1 hu).1; omega
    rw [hnews, ← flat1_drop, List.getElem?_drop] at hu
    rw [hcs, List.getElem?_append_left (by omega)]
    exact hu
  obtain ⟨A, hA, hsrc⟩ : ∃ A : Addr, (if cap = j then some (⟨g, 0, none⟩ : Addr) else some ⟨g, j, none⟩) = some A ∧ Hid (∀ t u, news[t]? = some u → w.drew.cell? (A.add t) = some u) := by
    by_cases h : cap = j
    · refine ⟨⟨g, 0, none⟩, by simp [h], fun t u hu => ?_⟩
      have ht := (List.getElem?_eq_some_iff.1 hu).1
      omega
    · refine ⟨⟨g, j, none⟩, by simp [h], fun t u hu => ?_⟩
      rw [add_addr]
      have := hget t u hu; rw [Nat.mul_one] at this; exact hblk.cell_ this
  have s1 : Hid (news.length = (n - j) * 1) := hnl
  have s2 : Hid (∀ u ∈ news, u.oneCell' = true) := by rw [hnews]; exact flat1_one _
  have s3 : Hid (∀ t, t < news.length → (w.drew.cell? ⟨g, 0 + i * 1 + t, none⟩).isSome = true ∧ w.drew.frozen? ⟨g, 0 + i * 1 + t, none⟩ = false) := by
    intro t ht
    refine ⟨?_, hblk.free _⟩
    have : w.cell? ⟨g, 0 + i * 1 + t, none⟩ = some (cs[0 + i * 1 + t]'(by omega)) := hblk.cell_ (List.getElem?_eq_getElem _)
    show (w.cell? _).isSome = true
    rw [this]; rfl
  obtain ⟨W1, hW1⟩ : ∃ W1, W1 = w.drew.setCells g (0 + i * 1) news := ⟨_, rfl⟩
  have hb1 : Blk W1 g 3 (sets cs (0 + i * 1) news) := by rw [hW1]; exact Blk.setCells news (0 + i * 1) cs _ hblk.drew
  have hk1 : Keep [g] w W1 := by rw [hW1]; exact Keep.setCells (fun _ => by simp) _ _ _ ((Keep.refl _ _).drew)
  have hm : n - (i + (n - j)) = 1 := by omega
  have hin : ∀ t, t < 1 → (i + (n - j)) + t < (sets cs (0 + i * 1) news).length := fun t ht => by rw [sets_len]; omega
  have hcl : ∀ ty, (Builtin.clear_ #[35] ty #[.slice (some ⟨g, (i + (n - j)), none⟩) 1 (cap - (i + (n - j)))]).run Try.prog W1 = .ok (.tuple #[]) (W1.setCells g ((i + (n - j))) [.int .i64 0]) := by
    intro ty
    exact run_clear_i W1 ty g ((i + (n - j))) _ (fun t ht => by rw [hb1.cell_ (List.getElem?_eq_getElem (hin t ht))]; rfl) (fun t ht => hb1.free _)
  have hfin : ∃ rest', Blk (W1.setCells g ((i + (n - j))) [.int .i64 0]) g 3 (flat1 (L.eraseIdx i) ++ rest') ∧ (flat1 (L.eraseIdx i) ++ rest').length = cap * 1 := by
    have hb2 := Blk.setCells [.int .i64 0] ((i + (n - j))) _ _ hb1
    obtain ⟨ds, hds⟩ : ∃ ds, ds = sets (sets cs (0 + i * 1) news) ((i + (n - j))) [.int .i64 0] := ⟨_, rfl⟩
    rw [← hds] at hb2
    have hdl : ds.length = cap * 1 := by rw [hds, sets_len, sets_len]; exact hlen
    have hel : (L.eraseIdx i).length = n - 1 := by rw [List.length_eraseIdx_of_lt (by omega), hl]
    have htk : ds.take ((n - 1) * 1) = flat1 (L.eraseIdx i) := by
      apply List.ext_getElem?
      intro q
      by_cases hq : q < (n - 1) * 1
      · rw [List.getElem?_take_of_lt hq, hds, sets_get _ _ _ _ (by rw [sets_len]; simp; omega), if_neg (by simp; omega), sets_get _ _ _ _ (by omega), List.eraseIdx_eq_take_drop_succ, flat1_append, ← hj]
        have hti : (flat1 (L.take i)).length = i * 1 := by rw [flat1_len, List.length_take]; omega
        by_cases hq2 : q < i * 1
        · rw [if_neg (by omega), List.getElem?_append_left (by omega), ← flat1_take, List.getElem?_take_of_lt hq2, hcs, List.getElem?_append_left (by omega)]
        · rw [if_pos (by omega), List.getElem?_append_right (by omega), hti, hnews, Nat.zero_add]
      · rw [List.getElem?_eq_none (by rw [List.length_take]; omega), List.getElem?_eq_none (by rw [flat1_len]; omega)]
    refine ⟨ds.drop ((n - 1) * 1), ?_, ?_⟩
    · rw [← htk, List.take_append_drop]; exact hb2
    · rw [← htk, List.take_append_drop]; exact hdl
  have hkf : Keep [g] w (W1.setCells g ((i + (n - j))) [.int .i64 0]) := Keep.setCells (fun _ => by simp) _ _ _ hk1
  have HFIN := Lib.hid hfin; have HKF := Lib.hid hkf; have HL := Lib.hid hl
  have hW : Hid (W1 = w.drew.setCells g (0 + i * 1) news) := hW1
  have h1 : (i : Int) ≤ (j : Int) := by omega
  have h2 : (j : Int) ≤ (n : Int) := by omega
  have h3 : (n : Int) ≤ (cap : Int) := by omega
  have h4 : ¬ (i : Int) = (j : Int) := by omega
  have h5 : (0 : Int) ≤ (i : Int) := by omega
  have h6 : (0 : Int) ≤ (j : Int) := by omega
  have h7 : i ≤ n := by omega
  have h8 : j ≤ n := by omega
  have h9 : i ≤ j := by omega
  have hic : i ≤ cap := by omega
  have hjc : j ≤ cap := by omega
  have hnc : ¬ cap = i + (n - j) := by omega
  have hi1 : (i : Int) + ((n - j : Nat) : Int) ≤ (n : Int) := by omega
  have hi2 : i + (n - j) ≤ n := by omega
  have HN1 : Hid (i + (n - j) = n - 1) := Lib.hid (by omega)
  clear hW1 hb1 hk1 hget hnews hnl hfin hkf hct hcs hblk hlen hin hl hfl hj
  go_enter Try.func36, Try.ntmps36
  go_wp2_with fail
  go_region_law (refine step_append_room rfl (.tmp 22) (.tmp 25) 35 rfl 3 i0 1 Try.underlying35 hi0 hz1 g 0 i cap (by simp [Act.eval, Act.put]) A (n - j) (cap - j) news (by simp [Act.eval, Act.put]) s1.out hsrc.out s2.out (by omega) s3.out ?_; rw [← hW.out])
  go_wp2
  go_ret
  exact ⟨ret_eq (show Value.slice (some ⟨g, 0, none⟩) (i + (n - j)) cap = .slice (some ⟨g, 0, none⟩) (L.length - 1) cap by rw [HN1.out, HL.out]), HFIN.out, HKF.out⟩
theorem delI1 (g cap n i : Nat) (L : List Int) (rest : List Value) (w : World) (hl : L.length = n) (hi : i < n) (hcap : n ≤ cap) (hcm : cap ≤ maxLen) (hblk : Blk w g 3 (flat1 L ++ rest)) (hlen : (flat1 L ++ rest).length = cap * 1) (hn : n ≤ 1000) :
    Calls Try.prog 36 #[.slice (some ⟨g, 0, none⟩) n cap, .int .i64 i, .int .i64 ((i : Int) + 1)] w (DelI w g cap L i) := by
  rw [show (i : Int) + 1 = ((i + 1 : Nat) : Int) by omega]
  exact delI g cap n i L rest w hl hi hcap hcm hblk hlen hn
end Go.Proofs.Ytgbccaplckiilaa
