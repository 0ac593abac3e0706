/-
  The plain law of a cache over a disk.
-/
import Derived.Outline
namespace Go.Proofs.YtgbccaplckiilaaDoor

abbrev Fr := Int × Int × Bool
structure BSt where
  disk : List Int
  fr : List Fr
  reads : Int
  writes : Int

def cleanD (d : List Int) (f : Fr) : List Int := if f.2.2 then d.set f.1.toNat f.2.1 else d
def cleanW (f : Fr) : Int := if f.2.2 then 1 else 0
def unD (f : Fr) : Fr := (f.1, f.2.1, false)
/-- The last frame goes. -/
def evict (s : BSt) (f : Fr) : BSt := { s with disk := cleanD s.disk f, fr := s.fr.dropLast, writes := s.writes + cleanW f }
def room (slots : Nat) (s : BSt) : BSt := if s.fr.length = slots then (match s.fr.getLast? with | some f => evict s f | none => s) else s
def useB (slots : Nat) (s : BSt) (b : Int) (rd : Bool) : BSt :=
  match s.fr.find? (fun x => x.1 == b) with
  | some f => { s with fr := f :: s.fr.eraseP (fun x => x.1 == b) }
  | none => { disk := (room slots s).disk, fr := (b, if rd then s.disk.getD b.toNat 0 else 0, false) :: (room slots s).fr, reads := s.reads + (if rd then 1 else 0), writes := (room slots s).writes }
def putB (s : BSt) (v : Int) : BSt := { s with fr := match s.fr with | f :: r => (f.1, v, true) :: r | [] => [] }
def flushTo (s : BSt) (k : Nat) : BSt := { s with disk := (s.fr.take k).foldl cleanD s.disk, fr := (s.fr.take k).map unD ++ s.fr.drop k, writes := s.writes + ((s.fr.take k).countP (fun x => x.2.2) : Nat) }
def flushB (s : BSt) : BSt := flushTo s s.fr.length
def crashB (s : BSt) : BSt := { s with fr := [] }

theorem first_erase {α : Type} {p : α → Bool} : ∀ (L : List α) (i : Nat) (x : α), L[i]? = some x → p x = true → (∀ j y, j < i → L[j]? = some y → p y = false) → L.find? p = some x ∧ L.eraseP p = L.eraseIdx i
  | [], i, x, h, _, _ => by simp at h
  | a :: L, 0, x, h, hp, _ => by
    simp at h; subst h
    simp [hp]
  | a :: L, i + 1, x, h, hp, hb => by
    have ha : p a = false := hb 0 a (by omega) (by simp)
    have ih := first_erase L i x (by simpa using h) hp (fun j y hj hy => hb (j + 1) y (by omega) (by simpa using hy))
    simp [ha, ih]

structure BInv (slots : Nat) (s : BSt) (last : List Int) (nr nw : Int) : Prop where
  dl : s.disk.length = 8
  ll : last.length = 8
  le : s.fr.length ≤ slots
  rng : ∀ x ∈ s.fr, 0 ≤ x.1 ∧ x.1 ≤ 7
  nd : (s.fr.map (·.1)).Nodup
  val : ∀ x ∈ s.fr, last.getD x.1.toNat 0 = x.2.1
  cln : ∀ x ∈ s.fr, x.2.2 = false → s.disk.getD x.1.toNat 0 = x.2.1
  out : ∀ b : Nat, b < 8 → (∀ x ∈ s.fr, x.1 ≠ b) → s.disk.getD b 0 = last.getD b 0
  rd0 : 0 ≤ s.reads
  rd : s.reads ≤ nr
  wr0 : 0 ≤ s.writes
  wr : s.writes + (s.fr.countP (fun x => x.2.2) : Nat) ≤ nw

theorem getD_set {d : List Int} {i j : Nat} {v : Int} (h : i < d.length) : (d.set i v).getD j 0 = if i = j then v else d.getD j 0 := by
  simp only [List.getD, List.getElem?_set]
  by_cases e : i = j
  · subst e; simp [h]
  · simp [e]
theorem cleanD_len (d : List Int) (f : Fr) : (cleanD d f).length = d.length := by unfold cleanD; split <;> simp
theorem cleanD_get {d : List Int} {f : Fr} {j : Nat} (hd : d.length = 8) (h0 : 0 ≤ f.1) (h7 : f.1 ≤ 7) : (cleanD d f).getD j 0 = if f.2.2 = true ∧ f.1 = j then f.2.1 else d.getD j 0 := by
  unfold cleanD
  by_cases e : f.2.2 = true
  · rw [if_pos e, getD_set (by omega)]
    by_cases g : f.1 = j
    · rw [if_pos (by omega), if_pos ⟨e, g⟩]
    · rw [if_neg (by omega), if_neg (fun h => g h.2)]
  · rw [if_neg e, if_neg (fun h => e h.1)]

theorem BInv.perm {slots : Nat} {s : BSt} {last : List Int} {nr nw : Int} (h : BInv slots s last nr nw) {L : List Fr} (hp : L.Perm s.fr) : BInv slots { s with fr := L } last nr nw where
  dl := h.dl
  ll := h.ll
  le := by show L.length ≤ _; rw [hp.length_eq]; exact h.le
  rng := fun x hx => h.rng x (hp.mem_iff.1 hx)
  nd := (hp.map _).nodup_iff.2 h.nd
  val := fun x hx => h.val x (hp.mem_iff.1 hx)
  cln := fun x hx => h.cln x (hp.mem_iff.1 hx)
  out := fun b hb hx => h.out b hb fun x hm => hx x (hp.mem_iff.2 hm)
  rd0 := h.rd0
  rd := h.rd
  wr0 := h.wr0
  wr := by show s.writes + (L.countP _ : Nat) ≤ _; rw [hp.countP_eq]; exact h.wr

theorem BInv.mono {slots : Nat} {s : BSt} {last : List Int} {nr nw nr' nw' : Int} (h : BInv slots s last nr nw) (h1 : nr ≤ nr') (h2 : nw ≤ nw') : BInv slots s last nr' nw' :=
  { h with rd := by have := h.rd; omega, wr := by have := h.wr; omega }

theorem BInv.drop {slots : Nat} {s : BSt} {last : List Int} {nr nw : Int} (h : BInv slots s last nr nw) {L : List Fr} {f : Fr} (he : s.fr = L ++ [f]) : BInv slots { s with disk := cleanD s.disk f, fr := L, writes := s.writes + cleanW f } last nr nw := by
  have hf : f ∈ s.fr := by rw [he]; simp
  obtain ⟨h0, h7⟩ := h.rng f hf
  have hL : ∀ x ∈ L, x ∈ s.fr := fun x hx => by rw [he]; simp [hx]
  have hnd := h.nd
  rw [he, List.map_append, List.nodup_append] at hnd
  have hne : ∀ x ∈ L, x.1 ≠ f.1 := fun x hx => hnd.2.2 x.1 (List.mem_map_of_mem hx) f.1 (by simp)
  refine ⟨by show (cleanD _ _).length = 8; rw [cleanD_len]; exact h.dl, h.ll, by have := h.le; rw [he] at this; simp at this; show L.length ≤ _; omega, fun x hx => h.rng x (hL x hx), hnd.1, fun x hx => h.val x (hL x hx), fun x hx hd => ?_, fun b hb hx => ?_, h.rd0, h.rd, ?_, ?_⟩
  · show (cleanD _ _).getD _ 0 = _
    have hr := h.rng x (hL x hx)
    rw [cleanD_get h.dl h0 h7, if_neg (fun hh => hne x hx (by omega))]
    exact h.cln x (hL x hx) hd
  · show (cleanD _ _).getD _ 0 = _
    rw [cleanD_get h.dl h0 h7]
    by_cases g : f.1 = b
    · have hv := h.val f hf
      rw [g] at hv
      by_cases e : f.2.2 = true
      · rw [if_pos ⟨e, g⟩, ← hv]; simp
      · rw [if_neg (fun hh => e hh.1)]
        have := h.cln f hf (by simpa using e)
        rw [g] at this
        rw [show ((b : Nat) : Int).toNat = b by simp] at this hv
        rw [hv, this]
    · rw [if_neg (fun hh => g hh.2)]
      refine h.out b hb fun x hm => ?_
      rw [he] at hm
      rcases List.mem_append.1 hm with hm | hm
      · exact hx x hm
      · simp at hm; subst hm; exact g
  · show 0 ≤ s.writes + cleanW f
    have := h.wr0; unfold cleanW; split <;> omega
  · show s.writes + cleanW f + (L.countP _ : Nat) ≤ _
    have := h.wr
    rw [he, List.countP_append] at this
    unfold cleanW
    by_cases e : f.2.2 = true
    · rw [if_pos e]; simp [e] at this; omega
    · rw [if_neg e]; simp [e] at this; omega

theorem room_inv {slots : Nat} {s : BSt} {last : List Int} {nr nw : Int} (h : BInv slots s last nr nw) (h1 : 1 ≤ slots) : BInv slots (room slots s) last nr nw ∧ (room slots s).fr.length < slots ∧ (∀ x ∈ (room slots s).fr, x ∈ s.fr) ∧ (room slots s).reads = s.reads := by
  unfold room
  have hle := h.le
  by_cases e : s.fr.length = slots
  · rw [if_pos e]
    rcases List.eq_nil_or_concat s.fr with h0 | ⟨L, f, h2⟩
    · rw [h0] at e; simp at e; omega
    · have h2 : s.fr = L ++ [f] := by simpa using h2
      have hg : s.fr.getLast? = some f := by rw [h2]; simp
      rw [hg]
      have hd : s.fr.dropLast = L := by rw [h2]; simp
      have e2 : evict s f = { s with disk := cleanD s.disk f, fr := L, writes := s.writes + cleanW f } := by unfold evict; rw [hd]
      show BInv slots (evict s f) last nr nw ∧ (evict s f).fr.length < slots ∧ (∀ x ∈ (evict s f).fr, x ∈ s.fr) ∧ (evict s f).reads = s.reads
      rw [e2]
      refine ⟨h.drop h2, ?_, fun x hx => by rw [h2]; exact List.mem_append_left _ hx, rfl⟩
      rw [h2] at e; simp at e
      show L.length < slots
      omega
  · rw [if_neg e]
    exact ⟨h, by omega, fun x hx => hx, rfl⟩

theorem find_none {L : List Fr} {b : Int} (h : L.find? (fun x => x.1 == b) = none) : ∀ x ∈ L, x.1 ≠ b := fun x hx => by
  have := List.find?_eq_none.1 h x hx
  simpa using this
theorem find_none' {L : List Fr} {b : Int} (h : ∀ x ∈ L, x.1 ≠ b) : L.find? (fun x => x.1 == b) = none := by
  rw [List.find?_eq_none]; intro x hx; simpa using h x hx
theorem find_perm {L : List Fr} {b : Int} {f : Fr} (h : L.find? (fun x => x.1 == b) = some f) : (f :: L.eraseP (fun x => x.1 == b)).Perm L ∧ f.1 = b ∧ f ∈ L := by
  refine ⟨?_, by simpa using List.find?_some h, List.mem_of_find?_eq_some h⟩
  induction L with
  | nil => simp at h
  | cons a L ih =>
    by_cases e : (a.1 == b) = true
    · simp [e] at h ⊢; rw [h]
    · have e' : (a.1 == b) = false := by simpa using e
      rw [List.find?_cons, e'] at h
      rw [List.eraseP_cons, e']
      simp only [cond_false] at h ⊢
      exact (List.Perm.swap a f _).trans ((ih h).cons a)

/-- A new frame at the head. -/
theorem BInv.cons {slots : Nat} {s : BSt} {last : List Int} {nr nw : Int} (h : BInv slots s last nr nw) {b v : Int} {d : Bool} (h0 : 0 ≤ b) (h7 : b ≤ 7) (hb : ∀ x ∈ s.fr, x.1 ≠ b) (hl : s.fr.length < slots) (hv : last.getD b.toNat 0 = v) (hc : d = false → s.disk.getD b.toNat 0 = v) (k : Int) (hk : 0 ≤ k) (hd : d = false) :
    BInv slots { s with fr := (b, v, d) :: s.fr, reads := s.reads + k } last (nr + k) nw := by
  refine ⟨h.dl, h.ll, by show s.fr.length + 1 ≤ _; omega, ?_, ?_, ?_, ?_, ?_, by show 0 ≤ s.reads + k; have := h.rd0; omega, by show s.reads + k ≤ _; have := h.rd; omega, h.wr0, ?_⟩
  · intro x hx
    rcases List.mem_cons.1 hx with rfl | hx
    · exact ⟨h0, h7⟩
    · exact h.rng x hx
  · show (b :: s.fr.map (·.1)).Nodup
    rw [List.nodup_cons]
    refine ⟨fun hm => ?_, h.nd⟩
    obtain ⟨x, hx, e⟩ := List.mem_map.1 hm
    exact hb x hx e
  · intro x hx
    rcases List.mem_cons.1 hx with rfl | hx
    · exact hv
    · exact h.val x hx
  · intro x hx
    rcases List.mem_cons.1 hx with rfl | hx
    · exact hc
    · exact h.cln x hx
  · intro c hc' hx
    exact h.out c hc' fun x hm => hx x (List.mem_cons_of_mem _ hm)
  · show s.writes + (List.countP _ ((b, v, d) :: s.fr) : Nat) ≤ nw
    rw [List.countP_cons_of_neg (by simp [hd])]
    exact h.wr

/-- What is read. -/
theorem BInv.read {slots : Nat} {s : BSt} {last : List Int} {nr nw : Int} (h : BInv slots s last nr nw) (h1 : 1 ≤ slots) {b : Int} (h0 : 0 ≤ b) (h7 : b ≤ 7) :
    BInv slots (useB slots s b true) last (nr + 1) nw ∧ ∃ d r, (useB slots s b true).fr = (b, last.getD b.toNat 0, d) :: r := by
  unfold useB
  cases hf : s.fr.find? (fun x => x.1 == b) with
  | some f =>
    obtain ⟨hp, e, hm⟩ := find_perm hf
    refine ⟨(h.perm hp).mono (by omega) (by omega), f.2.2, s.fr.eraseP (fun x => x.1 == b), ?_⟩
    show f :: s.fr.eraseP (fun x => x.1 == b) = _
    have := h.val f hm
    rw [e] at this
    rw [this, ← e]
  | none =>
    have hn := find_none hf
    obtain ⟨r1, r2, r3, r4⟩ := room_inv h h1
    have ho := h.out b.toNat (by omega) (fun x hx e => hn x hx (by omega))
    have ho2 := r1.out b.toNat (by omega) (fun x hx e => hn x (r3 x hx) (by omega))
    refine ⟨?_, false, (room slots s).fr, ?_⟩
    · have := r1.cons (b := b) (v := s.disk.getD b.toNat 0) (d := false) h0 h7 (fun x hx => hn x (r3 x hx)) r2 ho.symm (fun _ => by rw [ho2, ho]) 1 (by omega) rfl
      rw [r4] at this
      simpa using this
    · show (b, (if true = true then s.disk.getD b.toNat 0 else 0), false) :: (room slots s).fr = _
      rw [if_pos rfl, ho]


/-- The first one is written. -/
theorem BInv.over {slots : Nat} {s : BSt} {last : List Int} {nr nw : Int} {f : Fr} {r : List Fr} (h : BInv slots { s with fr := f :: r } last nr nw) (v : Int) :
    BInv slots { s with fr := (f.1, v, true) :: r } (last.set f.1.toNat v) nr (nw + 1) := by
  have hr := h.rng f (by simp)
  have hnd : f.1 ∉ r.map (·.1) ∧ (r.map (·.1)).Nodup := by simpa using h.nd
  have hne : ∀ x ∈ r, x.1 ≠ f.1 := fun x hx e => hnd.1 (by rw [← e]; exact List.mem_map_of_mem hx)
  have hl := h.ll
  refine ⟨h.dl, by simpa using hl, h.le, ?_, h.nd, ?_, ?_, ?_, h.rd0, h.rd, h.wr0, ?_⟩
  · intro x hx
    rcases List.mem_cons.1 hx with rfl | hx
    · exact hr
    · exact h.rng x (List.mem_cons_of_mem _ hx)
  · intro x hx
    rw [getD_set (by omega)]
    rcases List.mem_cons.1 hx with rfl | hx
    · rw [if_pos rfl]
    · have := h.rng x (List.mem_cons_of_mem _ hx)
      rw [if_neg (by have := hne x hx; omega)]
      exact h.val x (List.mem_cons_of_mem _ hx)
  · intro x hx hd
    rcases List.mem_cons.1 hx with rfl | hx
    · cases hd
    · exact h.cln x (List.mem_cons_of_mem _ hx) hd
  · intro b hb hx
    have hfb := hx (f.1, v, true) (by simp)
    rw [getD_set (by omega), if_neg (by simp at hfb; omega)]
    refine h.out b hb fun x hm => ?_
    rcases List.mem_cons.1 hm with rfl | hm
    · exact hfb
    · exact hx x (List.mem_cons_of_mem _ hm)
  · have := h.wr
    simp only [List.countP_cons] at this ⊢
    simp
    split at this <;> omega

/-- What is written. -/
theorem BInv.write {slots : Nat} {s : BSt} {last : List Int} {nr nw : Int} (h : BInv slots s last nr nw) (h1 : 1 ≤ slots) {b : Int} (v : Int) (h0 : 0 ≤ b) (h7 : b ≤ 7) :
    BInv slots (putB (useB slots s b false) v) (last.set b.toNat v) nr (nw + 1) := by
  unfold useB
  cases hf : s.fr.find? (fun x => x.1 == b) with
  | some f =>
    obtain ⟨hp, e, hm⟩ := find_perm hf
    have := (h.perm hp).over v
    rw [← e]
    rw [← e] at this
    exact this
  | none =>
    have hn := find_none hf
    obtain ⟨r1, r2, r3, r4⟩ := room_inv h h1
    have ho2 := r1.out b.toNat (by omega) (fun x hx e => hn x (r3 x hx) (by omega))
    have hc := r1.cons (b := b) (v := last.getD b.toNat 0) (d := false) h0 h7 (fun x hx => hn x (r3 x hx)) r2 rfl (fun _ => ho2) 0 (by omega) rfl
    rw [r4, Int.add_zero, Int.add_zero] at hc
    have := BInv.over (s := { room slots s with reads := s.reads }) hc v
    unfold putB
    show BInv slots { disk := (room slots s).disk, fr := (b, v, true) :: (room slots s).fr, reads := s.reads + 0, writes := (room slots s).writes } _ _ _
    rw [Int.add_zero]
    exact this

theorem foldl_clean : ∀ (L : List Fr) (d : List Int) (j : Nat), d.length = 8 → (∀ x ∈ L, 0 ≤ x.1 ∧ x.1 ≤ 7) → (L.map (·.1)).Nodup → (L.foldl cleanD d).length = 8 ∧
    ((∀ x ∈ L, x.1 ≠ j) → (L.foldl cleanD d).getD j 0 = d.getD j 0) ∧ (∀ x ∈ L, x.1 = j → (L.foldl cleanD d).getD j 0 = if x.2.2 = true then x.2.1 else d.getD j 0)
  | [], d, j, hd, _, _ => ⟨hd, fun _ => rfl, by simp⟩
  | f :: L, d, j, hd, hr, hn => by
    obtain ⟨hf, hn⟩ : f.1 ∉ L.map (·.1) ∧ (L.map (·.1)).Nodup := by simpa using hn
    obtain ⟨i1, i2, i3⟩ := foldl_clean L (cleanD d f) j (by rw [cleanD_len]; exact hd) (fun x hx => hr x (List.mem_cons_of_mem _ hx)) hn
    have hrf := hr f (by simp)
    have hcg := cleanD_get (j := j) hd hrf.1 hrf.2
    refine ⟨i1, fun hx => ?_, fun x hx e => ?_⟩
    · show (L.foldl cleanD (cleanD d f)).getD j 0 = _
      rw [i2 fun x hm => hx x (List.mem_cons_of_mem _ hm), hcg, if_neg (fun h => hx f (by simp) h.2)]
    · show (L.foldl cleanD (cleanD d f)).getD j 0 = _
      rcases List.mem_cons.1 hx with rfl | hx
      · rw [i2 fun y hy e2 => hf (by rw [e, ← e2]; exact List.mem_map_of_mem hy), hcg]
        by_cases g : x.2.2 = true
        · rw [if_pos ⟨g, e⟩, if_pos g]
        · rw [if_neg (fun h => g h.1), if_neg g]
      · have hfj : f.1 ≠ (j : Int) := fun h => hf (by rw [h, ← e]; exact List.mem_map_of_mem (f := fun x : Fr => x.1) hx)
        have hcg2 : (cleanD d f).getD j 0 = d.getD j 0 := by rw [hcg, if_neg (fun h => hfj h.2)]
        rw [i3 x hx e, hcg2]

theorem flushB_eq (s : BSt) : flushB s = { s with disk := s.fr.foldl cleanD s.disk, fr := s.fr.map unD, writes := s.writes + (s.fr.countP (fun x => x.2.2) : Nat) } := by
  unfold flushB flushTo; simp
theorem clean_count : ∀ L : List Fr, (L.map unD).countP (fun x => x.2.2) = 0
  | [] => rfl
  | f :: L => by rw [List.map_cons, List.countP_cons, clean_count L]; simp [unD]

/-- What is flushed: the disk has all. -/
theorem BInv.flush {slots : Nat} {s : BSt} {last : List Int} {nr nw : Int} (h : BInv slots s last nr nw) :
    BInv slots (flushB s) last nr nw ∧ (flushB s).disk = last ∧ (∀ x ∈ (flushB s).fr, x.2.2 = false) := by
  rw [flushB_eq]
  have hg : ∀ j : Nat, j < 8 → (s.fr.foldl cleanD s.disk).getD j 0 = last.getD j 0 := fun j hj => by
    obtain ⟨_, h2, h3⟩ := foldl_clean s.fr s.disk j h.dl h.rng h.nd
    by_cases e : ∃ x ∈ s.fr, x.1 = j
    · obtain ⟨x, hx, e⟩ := e
      rw [h3 x hx e]
      have hv := h.val x hx
      rw [e] at hv
      rw [show ((j : Nat) : Int).toNat = j by simp] at hv
      by_cases g : x.2.2 = true
      · rw [if_pos g, hv]
      · rw [if_neg g]
        have := h.cln x hx (by simpa using g)
        rw [e, show ((j : Nat) : Int).toNat = j by simp] at this
        rw [this, hv]
    · have : ∀ x ∈ s.fr, x.1 ≠ j := fun x hx e2 => e ⟨x, hx, e2⟩
      rw [h2 this]; exact h.out j hj this
  have hlen := (foldl_clean s.fr s.disk 0 h.dl h.rng h.nd).1
  have he : s.fr.foldl cleanD s.disk = last := by
    apply List.ext_getElem (by rw [hlen, h.ll])
    intro i h1 h2
    have := hg i (by omega)
    simpa [List.getD, h1, h2] using this
  refine ⟨⟨hlen, h.ll, by simpa using h.le, ?_, ?_, ?_, ?_, ?_, h.rd0, h.rd, by show 0 ≤ s.writes + _; have := h.wr0; omega, ?_⟩, he, ?_⟩
  · intro x hx
    obtain ⟨y, hy, rfl⟩ := List.mem_map.1 hx
    exact h.rng y hy
  · show ((s.fr.map unD).map (·.1)).Nodup
    rw [List.map_map]; exact h.nd
  · intro x hx
    obtain ⟨y, hy, rfl⟩ := List.mem_map.1 hx
    exact h.val y hy
  · intro x hx _
    obtain ⟨y, hy, rfl⟩ := List.mem_map.1 hx
    show (s.fr.foldl cleanD s.disk).getD _ 0 = _
    rw [he]; exact h.val y hy
  · intro b hb _
    show (s.fr.foldl cleanD s.disk).getD _ 0 = _
    rw [he]
  · show s.writes + _ + ((s.fr.map unD).countP _ : Nat) ≤ nw
    rw [clean_count]
    have := h.wr; omega
  · intro x hx
    obtain ⟨y, hy, rfl⟩ := List.mem_map.1 hx
    rfl

/-- A crash, when nothing is dirty. -/
theorem BInv.crash {slots : Nat} {s : BSt} {last : List Int} {nr nw : Int} (h : BInv slots s last nr nw) (hd : s.disk = last) : BInv slots (crashB s) last nr nw where
  dl := h.dl
  ll := h.ll
  le := by simp [crashB]
  rng := by simp [crashB]
  nd := by simp [crashB]
  val := by simp [crashB]
  cln := by simp [crashB]
  out := fun b _ _ => by simp [crashB, hd]
  rd0 := h.rd0
  rd := h.rd
  wr0 := h.wr0
  wr := by have := h.wr; simp [crashB]; omega

/-- Where nothing is dirty a use leaves the disk as it is, and nothing is dirty then. -/
def AllClean (s : BSt) : Prop := ∀ x ∈ s.fr, x.2.2 = false
theorem room_clean {slots : Nat} {s : BSt} (h : AllClean s) : (room slots s).disk = s.disk ∧ AllClean (room slots s) ∧ (room slots s).writes = s.writes := by
  unfold room
  by_cases e : s.fr.length = slots
  · rw [if_pos e]
    cases hg : s.fr.getLast? with
    | none => exact ⟨rfl, h, rfl⟩
    | some f =>
      have hf := h f (List.mem_of_getLast? hg)
      refine ⟨?_, fun x hx => h x (List.dropLast_subset _ hx), ?_⟩
      · show cleanD s.disk f = _
        unfold cleanD; rw [hf]; simp
      · show s.writes + cleanW f = _
        unfold cleanW; rw [hf]; simp
  · rw [if_neg e]; exact ⟨rfl, h, rfl⟩
theorem read_clean {slots : Nat} {s : BSt} (h : AllClean s) (b : Int) : (useB slots s b true).disk = s.disk ∧ AllClean (useB slots s b true) ∧ (useB slots s b true).writes = s.writes := by
  unfold useB
  cases hf : s.fr.find? (fun x => x.1 == b) with
  | some f =>
    obtain ⟨hp, e, hm⟩ := find_perm hf
    exact ⟨rfl, fun x hx => h x (hp.mem_iff.1 hx), rfl⟩
  | none =>
    obtain ⟨h1, h2, h3⟩ := room_clean (slots := slots) h
    refine ⟨h1, fun x hx => ?_, h3⟩
    rcases List.mem_cons.1 hx with rfl | hx
    · rfl
    · exact h2 x hx
end Go.Proofs.YtgbccaplckiilaaDoor
