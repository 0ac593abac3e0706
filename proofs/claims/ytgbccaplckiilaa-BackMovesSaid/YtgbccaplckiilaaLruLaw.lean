/-
  Plain: who goes by what was asked for, and that a cache over a disk that is only read goes with it.
-/
import Derived.Test.YtgbccaplckiilaaBackLaw
namespace Go.Proofs.Ytgbccaplckiilaa

structure Lr where
  held : List Int
  hits : List Bool
def lrRest (slots : Nat) (L : List Int) (p : Int) : List Int := if p ∈ L then L.erase p else if L.length = slots then L.take (slots - 1) else L
def lrStep (slots : Nat) (u : Lr) (p : Int) : Lr := ⟨p :: lrRest slots u.held p, u.hits ++ [decide (p ∈ u.held)]⟩
def lrRun (slots : Nat) (reqs : List Int) : Lr := reqs.foldl (lrStep slots) ⟨[], []⟩
def missed (l : List Bool) : Int := (l.countP (fun x => !x) : Nat)

theorem lrRun_succ (slots : Nat) (reqs : List Int) (p : Int) : lrRun slots (reqs ++ [p]) = lrStep slots (lrRun slots reqs) p := by simp [lrRun]
theorem lrRest_len {slots : Nat} {L : List Int} (p : Int) (h1 : 1 ≤ slots) (h : L.length ≤ slots) : (lrRest slots L p).length + 1 ≤ slots := by
  unfold lrRest
  split
  · rename_i hm
    rw [List.length_erase_of_mem hm]
    have := List.length_pos_of_mem hm
    omega
  · split
    · rw [List.length_take]; omega
    · omega
theorem lrRun_held {slots : Nat} (reqs : List Int) (h1 : 1 ≤ slots) : (lrRun slots reqs).held.length ≤ slots := by
  have : ∀ (l : List Int) (u : Lr), u.held.length ≤ slots → (l.foldl (lrStep slots) u).held.length ≤ slots := by
    intro l
    induction l with
    | nil => intro u h; exact h
    | cons p l ih => intro u h; exact ih _ (by have := lrRest_len p h1 h; simpa [lrStep] using this)
  exact this reqs _ (by simp)
theorem lrRun_hits (slots : Nat) (reqs : List Int) : (lrRun slots reqs).hits.length = reqs.length := by
  have : ∀ (l : List Int) (u : Lr), (l.foldl (lrStep slots) u).hits.length = u.hits.length + l.length := by
    intro l
    induction l with
    | nil => intro u; rfl
    | cons p l ih => intro u; rw [List.foldl_cons, ih]; simp [lrStep]; omega
  have := this reqs ⟨[], []⟩
  simpa [lrRun] using this
theorem missed_add (l : List Bool) (b : Bool) : missed (l ++ [b]) = missed l + if b then 0 else 1 := by
  unfold missed
  rw [List.countP_append]
  cases b <;> simp

/-- The frames of a cache that was only read. -/
structure LR (s : BSt) (u : Lr) : Prop where
  held : s.fr.map (·.1) = u.held
  cl : AllClean s
  wr : s.writes = 0
  rd : s.reads = missed u.hits

theorem lr0 : LR ⟨List.replicate 8 0, [], 0, 0⟩ ⟨[], []⟩ := ⟨rfl, (fun x hx => by simp at hx), rfl, rfl⟩
theorem map_eraseP_fst (b : Int) : ∀ L : List Fr, (L.eraseP (fun x => x.1 == b)).map (·.1) = (L.map (·.1)).erase b
  | [] => rfl
  | x :: L => by
    rw [List.eraseP_cons, List.map_cons, List.erase_cons]
    by_cases e : (x.1 == b) = true
    · rw [if_pos e]; simp [e]
    · have : (x.1 == b) = false := by simpa using e
      simp [this, map_eraseP_fst b L]

theorem LR.read {slots : Nat} {s : BSt} {u : Lr} (h : LR s u) (h1 : 1 ≤ slots) (b : Int) : LR (useB slots s b true) (lrStep slots u b) := by
  have hc := read_clean (slots := slots) h.cl b
  have hm : (∃ x ∈ s.fr, x.1 = b) ↔ b ∈ u.held := by
    rw [← h.held, List.mem_map]
  refine ⟨?_, hc.2.1, hc.2.2.trans h.wr, ?_⟩
  · unfold useB
    cases hf : s.fr.find? (fun x => x.1 == b) with
    | some f =>
      have hfb : f.1 = b := by simpa using List.find?_some hf
      have hb : b ∈ u.held := hm.1 ⟨f, List.mem_of_find?_eq_some hf, hfb⟩
      show (f :: s.fr.eraseP _).map (·.1) = b :: lrRest slots u.held b
      rw [List.map_cons, map_eraseP_fst, h.held, hfb, lrRest, if_pos hb]
    | none =>
      have hb : b ∉ u.held := fun hb => by
        obtain ⟨x, hx, e⟩ := hm.2 hb
        have := List.find?_eq_none.1 hf x hx
        simp [e] at this
      show ((b, _, false) :: (room slots s).fr).map (·.1) = b :: lrRest slots u.held b
      rw [List.map_cons, lrRest, if_neg hb]
      congr 1
      unfold room
      have hl : u.held.length = s.fr.length := by rw [← h.held, List.length_map]
      by_cases e : s.fr.length = slots
      · rw [if_pos e, if_pos (by omega)]
        cases hg : s.fr.getLast? with
        | none => rw [List.getLast?_eq_none_iff] at hg; rw [hg] at e; simp at e; omega
        | some f =>
          show (s.fr.dropLast).map (·.1) = _
          rw [List.dropLast_eq_take, List.map_take, h.held, e]
      · rw [if_neg e, if_neg (by omega)]; exact h.held
  · show _ = missed (u.hits ++ [decide (b ∈ u.held)])
    rw [missed_add]
    unfold useB
    cases hf : s.fr.find? (fun x => x.1 == b) with
    | some f =>
      have hfb : f.1 = b := by simpa using List.find?_some hf
      have hb : b ∈ u.held := hm.1 ⟨f, List.mem_of_find?_eq_some hf, hfb⟩
      rw [decide_eq_true hb]
      show s.reads = _
      rw [h.rd]; simp
    | none =>
      have hb : b ∉ u.held := fun hb => by
        obtain ⟨x, hx, e⟩ := hm.2 hb
        have := List.find?_eq_none.1 hf x hx
        simp [e] at this
      rw [decide_eq_false hb]
      show s.reads + (if true then 1 else 0) = _
      rw [h.rd]; simp
end Go.Proofs.Ytgbccaplckiilaa
