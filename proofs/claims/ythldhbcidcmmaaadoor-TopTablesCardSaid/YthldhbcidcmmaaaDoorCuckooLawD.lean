/-
  The plain law of nests: each key in one of its two, each once.
-/
import Derived.Test.YthldhbcidcmmaaaDoorCuckoo4D
namespace Go.Proofs.YthldhbcidcmmaaaDoor

def live (c : List Int) : List Int := (c.filter (fun x => decide (x ≠ 0))).map (· - 1)
def Pos (c : List Int) : Prop := ∀ i, i < 22 → c.getD i 0 ≠ 0 → spot (c.getD i 0 - 1).toNat (i / 11) = i

structure NInv (c : List Int) (m : Int) : Prop where
  len : c.length = 22
  fine : Fine c
  pos : Pos c
  cnt : m = (live c).length
  le : m ≤ 16
  nd : (live c).Nodup

theorem spot_row {k r : Nat} : spot k r / 11 = r := by have := nst_lt k r; unfold spot; omega

theorem perm_set : ∀ (c : List Int) (p : Nat) (v : Int), p < c.length → (c.getD p 0 :: c.set p v).Perm (v :: c)
  | [], _, _, h => by simp at h
  | a :: l, 0, v, _ => by simpa using List.Perm.swap v a l
  | a :: l, p + 1, v, h => by
    have ih := perm_set l p v (by simpa using h)
    simp only [List.getD_cons_succ, List.set_cons_succ]
    exact ((List.Perm.swap a _ _).trans (ih.cons a)).trans (List.Perm.swap v a l)

theorem live_perm {c d : List Int} (h : c.Perm d) : (live c).Perm (live d) := (h.filter _).map _
theorem live_cons0 (c : List Int) : live (0 :: c) = live c := by simp [live]
theorem live_cons {x : Int} (c : List Int) (h : x ≠ 0) : live (x :: c) = (x - 1) :: live c := by simp [live, h]

theorem live_set_new {c : List Int} {p : Nat} {v : Int} (hp : p < c.length) (h0 : c.getD p 0 = 0) (hv : v ≠ 0) : (live (c.set p v)).Perm ((v - 1) :: live c) := by
  have := live_perm (perm_set c p v hp)
  rwa [h0, live_cons0, live_cons _ hv] at this
theorem live_set_old {c : List Int} {p : Nat} {v : Int} (hp : p < c.length) (h0 : c.getD p 0 ≠ 0) (hv : v ≠ 0) : ((c.getD p 0 - 1) :: live (c.set p v)).Perm ((v - 1) :: live c) := by
  have := live_perm (perm_set c p v hp)
  rwa [live_cons _ h0, live_cons _ hv] at this
theorem live_set_none {c : List Int} {p : Nat} (hp : p < c.length) (h0 : c.getD p 0 ≠ 0) : ((c.getD p 0 - 1) :: live (c.set p 0)).Perm (live c) := by
  have := live_perm (perm_set c p 0 hp)
  rwa [live_cons _ h0, live_cons0] at this

theorem getD_set {c : List Int} {p i : Nat} {v : Int} (hp : p < c.length) : (c.set p v).getD i 0 = if p = i then v else c.getD i 0 := by
  simp only [List.getD, List.getElem?_set]
  by_cases e : p = i
  · subst e; simp [hp]
  · simp [e]

theorem Pos.set {c : List Int} (h : Pos c) {k r : Nat} (hr : r < 2) (hl : c.length = 22) : Pos (c.set (spot k r) ((k : Int) + 1)) := fun i hi hne => by
  rw [getD_set (by rw [hl]; exact spot_lt hr)] at hne ⊢
  by_cases e : spot k r = i
  · rw [if_pos e]
    rw [← e, spot_row, show ((k : Int) + 1 - 1).toNat = k by omega]
  · rw [if_neg e] at hne ⊢
    exact h i hi hne
theorem Pos.set0 {c : List Int} (h : Pos c) {p : Nat} (hp : p < 22) (hl : c.length = 22) : Pos (c.set p 0) := fun i hi hne => by
  rw [getD_set (by rw [hl]; exact hp)] at hne ⊢
  by_cases e : p = i
  · rw [if_pos e] at hne; exact absurd rfl hne
  · rw [if_neg e] at hne ⊢
    exact h i hi hne
theorem Fine.set0 {c : List Int} (h : Fine c) {p : Nat} (hp : p < 22) (hl : c.length = 22) : Fine (c.set p 0) := fun i hi => by
  rw [getD_set (by rw [hl]; exact hp)]
  by_cases e : p = i
  · rw [if_pos e]; omega
  · rw [if_neg e]; exact h i hi

theorem drive_inv : ∀ (f j k : Nat) (c c' : List Int), drive j f k c = some c' → c.length = 22 → Fine c → Pos c → k ≤ 1000000 → c'.length = 22 ∧ Fine c' ∧ Pos c' ∧ (live c').Perm ((k : Int) :: live c)
  | 0, _, _, _, _, h, _, _, _, _ => by simp [drive] at h
  | f + 1, j, k, c, c', h, hl, hf, hp, hk => by
    rw [drive] at h
    have hr : j % 2 < 2 := Nat.mod_lt _ (by decide)
    have hs := spot_lt (k := k) hr
    have hfx := hf _ hs
    by_cases e : c.getD (spot k (j % 2)) 0 < 1
    · rw [if_pos e] at h
      simp only [Option.some.injEq] at h
      subst h
      refine ⟨by simpa using hl, hf.set _ _ hk, hp.set hr hl, ?_⟩
      have := live_set_new (v := (k : Int) + 1) (by rw [hl]; exact hs) (show c.getD (spot k (j % 2)) 0 = 0 by omega) (by omega)
      rwa [show (k : Int) + 1 - 1 = k by omega] at this
    · rw [if_neg e] at h
      have ih := drive_inv f (j + 1) _ _ c' h (by simpa using hl) (hf.set _ _ hk) (hp.set hr hl) (by omega)
      refine ⟨ih.1, ih.2.1, ih.2.2.1, ih.2.2.2.trans ?_⟩
      have := live_set_old (v := (k : Int) + 1) (by rw [hl]; exact hs) (show c.getD (spot k (j % 2)) 0 ≠ 0 by omega) (by omega)
      rw [show (k : Int) + 1 - 1 = k by omega] at this
      rwa [show (((c.getD (spot k (j % 2)) 0 - 1).toNat : Nat) : Int) = c.getD (spot k (j % 2)) 0 - 1 by omega]

theorem mem_live {c : List Int} (hl : c.length = 22) (x : Int) : x ∈ live c ↔ ∃ i, i < 22 ∧ c.getD i 0 ≠ 0 ∧ c.getD i 0 - 1 = x := by
  simp only [live, List.mem_map, List.mem_filter, decide_eq_true_eq]
  constructor
  · rintro ⟨y, ⟨hy, hn⟩, rfl⟩
    obtain ⟨i, hi, e⟩ := List.getElem_of_mem hy
    refine ⟨i, by omega, ?_⟩
    have : c.getD i 0 = y := by simp [List.getD, List.getElem?_eq_getElem hi, e]
    rw [this]; exact ⟨hn, rfl⟩
  · rintro ⟨i, hi, hn, rfl⟩
    refine ⟨_, ⟨?_, hn⟩, rfl⟩
    simp [List.getD, List.getElem?_eq_getElem (show i < c.length by omega)]

theorem hasI_iff {c : List Int} (hl : c.length = 22) (hf : Fine c) (hp : Pos c) (x : Int) : hasI c x = true ↔ x ∈ live c := by
  rw [mem_live hl]
  unfold hasI
  simp only [Bool.and_eq_true, Bool.or_eq_true, decide_eq_true_eq]
  constructor
  · rintro ⟨h0, h | h⟩
    · exact ⟨_, spot_lt (k := x.toNat) (r := 0) (by decide), by omega, by omega⟩
    · exact ⟨_, spot_lt (k := x.toNat) (r := 1) (by decide), by omega, by omega⟩
  · rintro ⟨i, hi, hn, rfl⟩
    have hfx := hf i hi
    have hpx := hp i hi hn
    refine ⟨by omega, ?_⟩
    rcases (show i / 11 = 0 ∨ i / 11 = 1 by omega) with g | g
    · rw [g] at hpx; rw [hpx]; exact .inl (by omega)
    · rw [g] at hpx; rw [hpx]; exact .inr (by omega)

theorem NInv.hasE {c : List Int} {m : Int} (h : NInv c m) (x : Int) : hasI c x = decide (x ∈ live c) := by
  rw [Bool.eq_iff_iff, hasI_iff h.len h.fine h.pos]; simp

theorem NInv.add {c c' : List Int} {m : Int} {k : Nat} (h : NInv c m) (hk : k ≤ 1000000) (hn : hasI c k = false) (hm : m < 16) (hd : drive 0 16 k c = some c') : NInv c' (m + 1) ∧ (live c').Perm ((k : Int) :: live c) := by
  obtain ⟨h1, h2, h3, h4⟩ := drive_inv 16 0 k c c' hd h.len h.fine h.pos hk
  refine ⟨⟨h1, h2, h3, ?_, by omega, ?_⟩, h4⟩
  · rw [h4.length_eq]; have := h.cnt; simp; omega
  · rw [h4.nodup_iff, List.nodup_cons]
    refine ⟨?_, h.nd⟩
    rw [h.hasE] at hn
    simpa using hn

theorem NInv.drop {c c' : List Int} {m : Int} {k : Nat} (h : NInv c m) (hd : dropC c k = some c') : NInv c' (m - 1) ∧ ((k : Int) :: live c').Perm (live c) := by
  have key : ∀ r, r < 2 → c.getD (spot k r) 0 = (k : Int) + 1 → NInv (c.set (spot k r) 0) (m - 1) ∧ ((k : Int) :: live (c.set (spot k r) 0)).Perm (live c) := fun r hr he => by
    have hs := spot_lt (k := k) hr
    have hp := live_set_none (c := c) (p := spot k r) (by rw [h.len]; exact hs) (by omega)
    rw [he, show (k : Int) + 1 - 1 = k by omega] at hp
    have hl := hp.length_eq
    have hc := h.cnt
    have hle := h.le
    simp only [List.length_cons] at hl
    refine ⟨⟨by simpa using h.len, h.fine.set0 hs h.len, h.pos.set0 hs h.len, by omega, by omega, ?_⟩, hp⟩
    have := hp.nodup_iff.2 h.nd
    exact (List.nodup_cons.1 this).2
  unfold dropC at hd
  by_cases e : c.getD (spot k 0) 0 = (k : Int) + 1
  · rw [if_pos e] at hd
    simp only [Option.some.injEq] at hd
    subst hd; exact key 0 (by decide) e
  · rw [if_neg e] at hd
    by_cases e : c.getD (spot k 1) 0 = (k : Int) + 1
    · rw [if_pos e] at hd
      simp only [Option.some.injEq] at hd
      subst hd; exact key 1 (by decide) e
    · rw [if_neg e] at hd; cases hd

theorem rep0 (i n : Nat) : (List.replicate n (0 : Int)).getD i 0 = 0 := by rw [List.getD, List.getElem?_replicate]; split <;> rfl
theorem n0_inv : NInv (List.replicate 22 0) 0 := ⟨by simp, fun i _ => by rw [rep0]; omega, fun i _ h => absurd (rep0 i 22) h, by decide, by decide, by decide⟩

/-- How many of the first k of each row are not empty. -/
def nz (c : List Int) (k : Nat) : Nat := ((c.take k).filter (fun x => decide (x ≠ 0))).length + (((c.drop 11).take k).filter (fun x => decide (x ≠ 0))).length
theorem nz_zero (c : List Int) : nz c 0 = 0 := by simp [nz]
theorem filt_succ (c : List Int) {k : Nat} (hk : k < c.length) : ((c.take (k + 1)).filter (fun x => decide (x ≠ 0))).length = ((c.take k).filter (fun x => decide (x ≠ 0))).length + if c.getD k 0 = 0 then 0 else 1 := by
  rw [List.take_succ_eq_append_getElem hk, List.filter_append, List.length_append]
  have : c.getD k 0 = c[k] := by simp [List.getD, List.getElem?_eq_getElem hk]
  rw [this]
  by_cases e : c[k] = 0 <;> simp [e]
theorem nz_succ {c : List Int} {k : Nat} (hl : c.length = 22) (hk : k < 11) : nz c (k + 1) = nz c k + (if c.getD k 0 = 0 then 0 else 1) + if c.getD (11 + k) 0 = 0 then 0 else 1 := by
  unfold nz
  rw [filt_succ c (by omega), filt_succ (c.drop 11) (by simp; omega)]
  have : (c.drop 11).getD k 0 = c.getD (11 + k) 0 := by simp [List.getD]
  rw [this]
  omega
theorem nz_all {c : List Int} (hl : c.length = 22) : nz c 11 = (live c).length := by
  unfold nz live
  rw [List.length_map, ← List.length_append, ← List.filter_append]
  congr 2
  rw [List.take_of_length_le (l := c.drop 11) (by simp; omega), List.take_append_drop]
end Go.Proofs.YthldhbcidcmmaaaDoor
