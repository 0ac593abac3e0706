/-
  book.Put, book.Get, by their contracts.
-/
import Derived.Test.YticckfioggeaeaaGreatDoorBookSt
import Derived.Deep.QuietTactic
import Derived.BigQuiet
set_option linter.unusedVariables false
namespace Go.Proofs.YticckfioggeaeaaGreatDoor
open Go.RowKit

theorem last_key {E : List Ent} (hn : (E.map (·.1)).Nodup) (x : Int) (hx : (E.map (·.1)).getLast? = some x) : E.filter (fun p => p.1 != x) = E.dropLast := by
  rcases List.eq_nil_or_concat E with rfl | ⟨L, p, rfl⟩
  · simp
  · rw [List.concat_eq_append, List.map_append, List.map_singleton, List.getLast?_concat, Option.some.injEq] at hx
    subst hx
    rw [List.concat_eq_append, List.map_append, List.nodup_append] at hn
    rw [List.concat_eq_append, List.dropLast_concat, List.filter_append]
    have h1 : L.filter (fun q => q.1 != p.1) = L := List.filter_eq_self.2 fun q hq => by
      have := hn.2.2 q.1 (List.mem_map.2 ⟨q, hq, rfl⟩) p.1 (by simp)
      simpa using this
    rw [h1]
    simp
theorem mod_filter (E : List Ent) (k : Int) : (E.filter fun p => p.1 != k).map (fun e => (e.1, e.2.1)) = (E.map (fun e => (e.1, e.2.1))).filter (fun p => p.1 != k) := by
  rw [List.filter_map]; rfl
theorem mod_drop (E : List Ent) : E.dropLast.map (fun e => (e.1, e.2.1)) = (E.map (fun e => (e.1, e.2.1))).dropLast := by rw [List.map_dropLast]
section
variable {O : Nat → Prop} {w w' : World} {b slots gm : Nat} {E E2 : List Ent} {p bv bv' : Value} {s : Bk}
/-- A store behind Put. -/
theorem BAt.putB (h : BAt O w b slots gm E p bv s) {k v : Int} (he : putE s k v = 0) (hE : E2.map (fun e => (e.1, e.2.1)) = outM slots s k) (hsub : E2.Sublist E)
    (ht : Blk w' b 72 (stCells slots gm (s.many + 1 : Nat) (.pointer (some ⟨b, 3, none⟩)) bv' (s.many + 1 : Nat))) (hm : MapAt w' gm ((k, v, ((s.many + 1 : Nat) : Int)) :: E2.filter fun p => p.1 != k)) (ho : OwnB w' bv' (s.text ++ lineOf (wordP k v)))
    (hsz : w.heap.size ≤ w'.heap.size) (hl : ∀ x, bv'.ownBlock = some x → bv.ownBlock = some x ∨ w.heap.size ≤ x) : BAt O w' b slots gm ((k, v, ((s.many + 1 : Nat) : Int)) :: E2.filter fun p => p.1 != k) (.pointer (some ⟨b, 3, none⟩)) bv' (putB slots s k v) where
  top := ht
  hp := .inr rfl
  map := hm
  srt := by
    rw [List.pairwise_cons]
    refine ⟨fun q hq => ?_, (h.srt.sublist hsub).sublist List.filter_sublist⟩
    have := h.trn q (hsub.subset (List.mem_filter.1 hq).1)
    show q.2.2 < ((s.many + 1 : Nat) : Int)
    omega
  mod := by rw [List.map_cons, mod_filter, hE]; rfl
  trn := by
    intro e he'
    show e.2.2 ≤ ((s.many + 1 : Nat) : Int)
    rcases List.mem_cons.1 he' with rfl | he'
    · exact Int.le_refl _
    · have := h.trn e (hsub.subset (List.mem_filter.1 he').1)
      omega
  txt := ho
  nil := fun e => by
    exfalso
    have : (s.text ++ lineOf (wordP k v)).length = 0 := by
      have e' : s.text ++ lineOf (wordP k v) = [] := e
      rw [e']; rfl
    rw [List.length_append] at this
    unfold lineOf at this
    simp at this
  ok := h.ok.put h.s1 he
  s1 := h.s1
  s8 := h.s8
  ob := h.ob
  og := h.og
  ov := fun x hx => by
    rcases hl x hx with h1 | h1
    · exact h.ov x h1
    · exact h.on x h1
  on := fun x hx => h.on x (Nat.le_trans hsz hx)
theorem BAt.getB (h : BAt O w b slots gm E p bv s) {k : Int} (he : getE s k = 0)
    (ht : Blk w' b 72 (stCells slots gm (s.many + 1 : Nat) (.pointer (some ⟨b, 3, none⟩)) bv' (s.many + 1 : Nat))) (hm : MapAt w' gm ((k, valOf s k, ((s.many + 1 : Nat) : Int)) :: E.filter fun p => p.1 != k)) (ho : OwnB w' bv' (s.text ++ lineOf (wordG k)))
    (hsz : w.heap.size ≤ w'.heap.size) (hl : ∀ x, bv'.ownBlock = some x → bv.ownBlock = some x ∨ w.heap.size ≤ x) : BAt O w' b slots gm ((k, valOf s k, ((s.many + 1 : Nat) : Int)) :: E.filter fun p => p.1 != k) (.pointer (some ⟨b, 3, none⟩)) bv' (getB s k) where
  top := ht
  hp := .inr rfl
  map := hm
  srt := by
    rw [List.pairwise_cons]
    refine ⟨fun q hq => ?_, h.srt.sublist List.filter_sublist⟩
    have := h.trn q (List.mem_filter.1 hq).1
    show q.2.2 < ((s.many + 1 : Nat) : Int)
    omega
  mod := by rw [List.map_cons, mod_filter, h.mod]; rfl
  trn := by
    intro e he'
    show e.2.2 ≤ ((s.many + 1 : Nat) : Int)
    rcases List.mem_cons.1 he' with rfl | he'
    · exact Int.le_refl _
    · have := h.trn e (List.mem_filter.1 he').1
      omega
  txt := ho
  nil := fun e => by
    exfalso
    have : (s.text ++ lineOf (wordG k)).length = 0 := by
      have e' : s.text ++ lineOf (wordG k) = [] := e
      rw [e']; rfl
    rw [List.length_append] at this
    unfold lineOf at this
    simp at this
  ok := h.ok.get he
  s1 := h.s1
  s8 := h.s8
  ob := h.ob
  og := h.og
  ov := fun x hx => by
    rcases hl x hx with h1 | h1
    · exact h.ov x h1
    · exact h.on x h1
  on := fun x hx => h.on x (Nat.le_trans hsz hx)
end

/-! ### oldest -/
theorem oldest_any (b gm : Nat) (E : List Ent) (x : Int) (w : World) (h : EntAt w b gm E) (hx : (E.map (·.1)).getLast? = some x) :
    Calls Tryz.prog 45 #[.pointer (some ⟨b, 0, none⟩)] w fun e w' => e = .returned (.int .i64 x) ∧ Below w.heap.size w w' := by
  have H := Lib.hid h; have HX := Lib.hid hx
  have h8 := h.n8
  clear h hx
  go_enter Tryz.func45, Tryz.ntmps45
  go_wp2_with fail
  refine (keys_any b gm E _ H.out).mono ?_
  rintro e w1 ⟨v, rfl, ho, hb⟩
  have HB := Lib.hid hb
  have hlen : 0 < (E.map (·.1)).length := by
    have := HX.out
    cases hE : E.map (·.1) with
    | nil => rw [hE] at this; simp at this
    | cons y l => simp
  obtain ⟨g, cap, rest, rfl, hg, hblk, _, _⟩ := own_front ho hlen
  have hl8 : (E.map (·.1)).length ≤ 8 := by rw [List.length_map]; exact h8
  obtain ⟨n, hn⟩ : ∃ n, n = (E.map (·.1)).length := ⟨_, rfl⟩
  obtain ⟨m, hm⟩ : ∃ m, n = m + 1 := ⟨n - 1, by omega⟩
  have hget : (E.map (·.1))[m]? = some x := by rw [← HX.out, List.getLast?_eq_getElem?, ← hn, hm]; rfl
  have hc : w1.cell? ⟨g, m, none⟩ = some (.int .i64 x) := hblk.cell_ (by rw [List.getElem?_append_left (by rw [ints_len]; omega)]; exact ints_get hget)
  rw [← hn] at hl8 ⊢
  have HG := Lib.hid hget; have HN := Lib.hid hn
  clear ho hb hlen hn hget hblk hg h8
  subst hm
  have hsub : ((m + 1 : Nat) : Int) - 1 = (m : Int) := by omega
  have hw1 : IntKind.i64.wrap (m : Int) = (m : Int) := IntWalk.i64_in _ (by omega)
  go_wp2
  go_ret
  exact ⟨rfl, HB.out⟩

/-! ### Put -/
def PutPost (O : Nat → Prop) (w : World) (b slots : Nat) (s : Bk) (k v : Int) (e : Ending) (w' : World) : Prop :=
  e = .returned (.tuple #[.int .i64 (putV slots s k v), errw (putE s k v)]) ∧ BookAt O w' b slots (putS slots s k v) ∧ KeepP O w w'
theorem put_range {O : Nat → Prop} (b slots : Nat) (s : Bk) (k v : Int) (w : World) (h : BookAt O w b slots s) (hr : ¬ okPut k v) :
    Calls Tryz.prog 24 #[.pointer (some ⟨b, 0, none⟩), .int .i64 k, .int .i64 v] w (PutPost O w b slots s k v) := by
  have HE : Hid (putE s k v = 1) := Lib.hid (by unfold putE; rw [if_pos hr])
  have H := Lib.hid h
  have hc : (k < 0 ∨ 1000000 < k) ∨ ((0 ≤ k ∧ k ≤ 1000000) ∧ (v < 0 ∨ 1000 < v)) := by unfold okPut at hr; omega
  clear h hr
  rcases hc with hk | ⟨⟨hk0, hk1⟩, hv⟩
  all_goals
    go_enter Tryz.func24, Tryz.ntmps24
    go_wp2_with (first
      | (go_at_call 44; refine (within_no _ _ _ _ (by omega)).mono ?_; rintro e w' ⟨rfl, rfl⟩)
      | (go_at_call 44; refine (within_yes _ _ _ _ (by omega) (by omega)).mono ?_; rintro e w' ⟨rfl, rfl⟩))
    go_ret2
    refine ⟨?_, ?_, KeepP.refl _ _⟩
    · unfold putV; rw [HE.out, if_neg (by decide)]; rfl
    · unfold putS; rw [HE.out, if_neg (by decide)]; exact H.out
theorem put_log {O : Nat → Prop} (b slots : Nat) (s : Bk) (k v : Int) (w : World) (h : BookAt O w b slots s) (hr : okPut k v) (hm : s.many = 60) :
    Calls Tryz.prog 24 #[.pointer (some ⟨b, 0, none⟩), .int .i64 k, .int .i64 v] w (PutPost O w b slots s k v) := by
  have HE : Hid (putE s k v = 4) := Lib.hid (by unfold putE; rw [if_neg (by simpa using hr), if_pos hm])
  have H := Lib.hid h
  obtain ⟨⟨hk0, hk1⟩, hv0, hv1⟩ := hr
  obtain ⟨gm, E, p, bv, h⟩ := h
  have c5 := h.top.cell_ (i := 5) rfl
  have hme : (((s.many : Nat) : Int) == 60) = true := by rw [hm]; rfl
  clear h hm
  go_enter Tryz.func24, Tryz.ntmps24
  go_wp2_with (go_at_call 44; refine (within_yes _ _ _ _ (by omega) (by omega)).mono ?_; rintro e w' ⟨rfl, rfl⟩)
  go_ret2
  refine ⟨?_, ?_, KeepP.refl _ _⟩
  · unfold putV; rw [HE.out, if_neg (by decide)]; rfl
  · unfold putS; rw [HE.out, if_neg (by decide)]; exact H.out
end Go.Proofs.YticckfioggeaeaaGreatDoor
