/-
  Several texts in one (merged by wip/mergefix.py): BookSt, BookPut, BookPut2, BookGet.
-/
import Derived.Test.YticckfioggeaeaaGreatDoorBookDown
import Derived.Test.YticckfioggeaeaaGreatDoorGA
import Derived.Deep.QuietTactic
import Derived.BigQuiet
import Derived.StillTailTactics
import Derived.Deep.DeepCutAuto
set_option linter.unusedVariables false
set_option linter.unusedSimpArgs false
set_option linter.unnecessarySimpa false
/-
  How a store lies in memory.
-/
namespace Go.Proofs.YticckfioggeaeaaGreatDoor
open Go.RowKit

/-- Of the blocks that there were, only those that O names may have turned. -/
structure KeepP (O : Nat → Prop) (w w' : World) : Prop where
  os : w'.os = w.os
  tape : w'.tape = w.tape
  output : w'.output = w.output
  size : w.heap.size ≤ w'.heap.size
  block : ∀ k, k < w.heap.size → ¬ O k → w'.heap[k]? = w.heap[k]?
section
variable {O : Nat → Prop} {w w' w'' : World} {F : List Nat}
theorem KeepP.refl (O : Nat → Prop) (w : World) : KeepP O w w := ⟨rfl, rfl, rfl, Nat.le_refl _, fun _ _ _ => rfl⟩
theorem KeepP.trans (h : KeepP O w w') (k : KeepP O w' w'') : KeepP O w w'' :=
  ⟨k.os.trans h.os, k.tape.trans h.tape, k.output.trans h.output, Nat.le_trans h.size k.size, fun x hx hO => (k.block x (Nat.lt_of_lt_of_le hx h.size) hO).trans (h.block x hx hO)⟩
theorem Keep.toP (h : Keep F w w') (hF : ∀ x ∈ F, O x) : KeepP O w w' := ⟨h.os, h.tape, h.output, h.size, fun x hx hO => h.block x hx (fun hm => hO (hF x hm))⟩
theorem KeepP.of_below {B : Nat} (h : Below B w w') (hB : w.heap.size ≤ B) : KeepP O w w' := ⟨h.os, h.tape, h.output, h.size, fun x hx _ => h.block x (by omega)⟩
theorem KeepP.toBelow {B : Nat} (h : KeepP O w w') (hB : B ≤ w.heap.size) (hO : ∀ x, x < B → ¬ O x) : Below B w w' := ⟨h.os, h.tape, h.output, h.size, fun x hx => h.block x (by omega) (hO x hx)⟩
theorem KeepP.mono {O' : Nat → Prop} (h : KeepP O w w') (hO : ∀ x, O x → O' x) : KeepP O' w w' := ⟨h.os, h.tape, h.output, h.size, fun x hx hn => h.block x hx (fun ho => hn (hO x ho))⟩
end

structure BAt (O : Nat → Prop) (w : World) (b slots gm : Nat) (E : List Ent) (p bv : Value) (s : Bk) : Prop where
  top : Blk w b 72 (stCells slots gm s.many p bv s.many)
  hp : p = .pointer none ∨ p = .pointer (some ⟨b, 3, none⟩)
  map : MapAt w gm E
  srt : E.Pairwise fun p q => q.2.2 < p.2.2
  mod : E.map (fun e => (e.1, e.2.1)) = s.M
  trn : ∀ e ∈ E, e.2.2 ≤ s.many
  txt : OwnB w bv s.text
  nil : s.text = [] → bv = .slice none 0 0
  ok : BkOk slots s
  s1 : 1 ≤ slots
  s8 : slots ≤ 8
  ob : O b
  og : O gm
  ov : ∀ x, bv.ownBlock = some x → O x
  on : ∀ x, w.heap.size ≤ x → O x
def BookAt (O : Nat → Prop) (w : World) (b slots : Nat) (s : Bk) : Prop := ∃ gm E p bv, BAt O w b slots gm E p bv s
theorem MapAt.ne {w : World} {g b : Nat} {M : List Ent} {t : TypeId} {cs : List Value} (h : MapAt w g M) (hb : Blk w b t cs) : g ≠ b := by
  obtain ⟨L, c, hl, _⟩ := h
  rintro rfl
  have := hl.blk
  unfold Blk at hb
  rw [hb] at this
  cases this
theorem MapAt.ne_own {w : World} {g : Nat} {M : List Ent} {v : Value} {l : List UInt8} (h : MapAt w g M) (ho : OwnB w v l) : v.ownBlock ≠ some g := by
  obtain ⟨L, c, hl, _⟩ := h
  intro e
  rcases ho.2 with ⟨rfl, _⟩ | ⟨g', cap, cur, fz, rfl, _, hg, _⟩
  · simp [Value.ownBlock] at e
  · simp only [Value.ownBlock, Option.some.injEq] at e
    subst e
    have := hl.blk
    rw [hg] at this
    cases this
theorem Tab.cells {w : World} (h : Tab w) : w.cell? ⟨4, 0, none⟩ = some (.int .u64 1) := Lib.TabIs.cell h global_tab 0 (by decide)
theorem Tab.lt {w : World} (h : Tab w) : 4 < w.heap.size := World.block_lt_of_cell? w _ h.cells
theorem Tab.ne_map {w : World} {g : Nat} {M : List Ent} (h : Tab w) (hm : MapAt w g M) : g ≠ 4 := by
  rintro rfl
  obtain ⟨L, c, hl, _⟩ := hm
  have := h.cells
  simp [World.cell?, hl.blk] at this
theorem Tab.ne_st {w : World} {b gm : Nat} {slots turn : Int} {p bv : Value} {many : Int} (h : Tab w) (hb : Blk w b 72 (stCells slots gm turn p bv many)) : b ≠ 4 := by
  rintro rfl
  have := h.cells
  rw [hb.cell 0] at this
  simp at this
theorem Tab.keep {w w' : World} {F : List Nat} (h : Tab w) (hk : Keep F w w') (hF : 4 ∉ F) : Tab w' := by
  have hlt := h.lt
  unfold Tab Lib.TabIs World.var? at *
  rw [global_tab] at *
  simp only [Option.bind_some] at *
  rw [hk.block _ hlt hF]
  exact h
section
variable {O : Nat → Prop} {w w' : World} {b slots gm : Nat} {E : List Ent} {p bv : Value} {s : Bk}
theorem BAt.len (h : BAt O w b slots gm E p bv s) : E.length = s.M.length := by rw [← h.mod, List.length_map]
theorem BAt.keys (h : BAt O w b slots gm E p bv s) : E.map (·.1) = s.keys := by unfold Bk.keys; rw [← h.mod, List.map_map]; rfl
theorem BAt.ent (h : BAt O w b slots gm E p bv s) : EntAt w b gm E := ⟨h.top.cell_ (i := 1) rfl, h.map, h.srt, by have := h.len; have := h.ok.len; have := h.s8; omega⟩
theorem BAt.lt (h : BAt O w b slots gm E p bv s) : b < w.heap.size ∧ gm < w.heap.size := ⟨h.top.lt, h.map.lt⟩
/-- What is done elsewhere. -/
theorem BAt.away (h : BAt O w b slots gm E p bv s) {O2 : Nat → Prop} (hk : KeepP O2 w w') (hd : ∀ x, x < w.heap.size → O x → ¬ O2 x) : BAt (fun x => O x ∧ (x < w.heap.size ∨ w'.heap.size ≤ x)) w' b slots gm E p bv s :=
  { h with
    top := (hk.block b h.top.lt (hd b h.top.lt h.ob)).trans h.top
    map := h.map.keep (hk.block gm h.map.lt (hd gm h.map.lt h.og))
    txt := h.txt.keep fun x hx => hk.block x (h.txt.lt x hx) (hd x (h.txt.lt x hx) (h.ov x hx))
    ob := ⟨h.ob, .inl h.top.lt⟩
    og := ⟨h.og, .inl h.map.lt⟩
    ov := fun x hx => ⟨h.ov x hx, .inl (h.txt.lt x hx)⟩
    on := fun x hx => ⟨h.on x (Nat.le_trans hk.size hx), .inr hx⟩ }
theorem BAt.below (h : BAt O w b slots gm E p bv s) (hb : Below w.heap.size w w') : BAt O w' b slots gm E p bv s :=
  { h with
    top := (hb.block b h.top.lt).trans h.top
    map := h.map.keep (hb.block gm h.map.lt)
    txt := h.txt.keep fun x hx => hb.block x (h.txt.lt x hx)
    on := fun x hx => h.on x (Nat.le_trans hb.size hx) }
theorem BookAt.away (h : BookAt O w b slots s) {O2 : Nat → Prop} (hk : KeepP O2 w w') (hd : ∀ x, x < w.heap.size → O x → ¬ O2 x) : BookAt (fun x => O x ∧ (x < w.heap.size ∨ w'.heap.size ≤ x)) w' b slots s := by
  obtain ⟨gm, E, p, bv, h⟩ := h
  exact ⟨gm, E, p, bv, h.away hk hd⟩
theorem BookAt.below (h : BookAt O w b slots s) (hb : Below w.heap.size w w') : BookAt O w' b slots s := by
  obtain ⟨gm, E, p, bv, h⟩ := h
  exact ⟨gm, E, p, bv, h.below hb⟩
theorem BookAt.ok (h : BookAt O w b slots s) : BkOk slots s ∧ 1 ≤ slots ∧ slots ≤ 8 := by
  obtain ⟨gm, E, p, bv, h⟩ := h
  exact ⟨h.ok, h.s1, h.s8⟩
end

/-! ### New -/
def NewPost (w : World) (slots : Nat) (e : Ending) (w' : World) : Prop := ∃ b, e = .returned (.tuple #[.pointer (some ⟨b, 0, none⟩), .nilIface]) ∧ BookAt (fun x => w.heap.size ≤ x) w' b slots bk0 ∧ w.heap.size ≤ b ∧ Below w.heap.size w w'
theorem new_no (n : Int) (w : World) (h : ¬ (1 ≤ n ∧ n ≤ 8)) : Calls Tryz.prog 23 #[.int .i64 n] w fun e w' => e = .returned (.tuple #[.pointer none, errv 1]) ∧ w = w' := by
  go_enter Tryz.func23, Tryz.ntmps23
  go_wp2_with (go_at_call 44; refine (within_no _ _ _ _ (by omega)).mono ?_; rintro e w' ⟨rfl, rfl⟩)
  go_ret2
  exact ⟨rfl, rfl⟩
set_option maxRecDepth 100000 in
theorem new_yes (n : Nat) (w : World) (h1 : 1 ≤ n) (h2 : n ≤ 8) : Calls Tryz.prog 23 #[.int .i64 n] w (NewPost w n) := by
  have hmm := @run_makeMap Tryz.prog
  go_enter Tryz.func23, Tryz.ntmps23
  go_wp2_with (go_at_call 44; refine (within_yes _ _ _ _ (by omega) (by omega)).mono ?_; rintro e w' ⟨rfl, rfl⟩)
  go_ret2
  refine ⟨w.heap.size + 1, rfl, ⟨w.heap.size, [], .pointer none, .slice none 0 0, ?_⟩, by omega, ?_⟩
  · refine { top := ?_, hp := .inl rfl, map := ?_, srt := List.Pairwise.nil, mod := rfl, trn := by simp, txt := OwnB.nil _, nil := fun _ => rfl, ok := bk0_ok n, s1 := h1, s8 := h2, ob := by omega, og := Nat.le_refl _, ov := by simp [Value.ownBlock], on := fun x hx => by simp at hx; omega }
    · have := Blk.new (w.alloc (.map #[] 0)) 72 (stCells n w.heap.size 0 (.pointer none) (.slice none 0 0) 0)
      rw [World.size_alloc] at this
      exact this
    · exact (mapAt_new w).keep (Below.heap_alloc _ _ _ (by simp))
  · exact (((Below.refl _ w).alloc (Nat.le_refl _) _).alloc (by simp) _)

/-! ### Keys, Text -/
def KeysB (w : World) (s : Bk) (e : Ending) (w' : World) : Prop := ∃ v, e = .returned v ∧ OwnInts w' w.heap.size v s.keys ∧ Below w.heap.size w w'
theorem keysB_any {O : Nat → Prop} {b slots : Nat} {s : Bk} (w : World) (h : BookAt O w b slots s) :
    Calls Tryz.prog 16 #[.pointer (some ⟨b, 0, none⟩)] w (KeysB w s) := by
  obtain ⟨gm, E, p, bv, h⟩ := h
  have HE := Lib.hid h.ent; have HK := Lib.hid h.keys
  clear h
  go_enter Tryz.func16, Tryz.ntmps16
  go_wp2_with fail
  refine (keys_any b gm E _ HE.out).mono ?_
  rintro e w1 ⟨v, rfl, ho, hb⟩
  have HO := Lib.hid ho; have HB := Lib.hid hb
  obtain ⟨a, c, hv, _⟩ := ho.shape
  rw [List.length_map] at hv
  have HV := Lib.hid hv
  rw [HV.out]
  clear ho hb hv
  go_wp2
  go_ret
  exact ⟨v, ret_eq HV.out.symm, by rw [← HK.out]; exact HO.out, HB.out⟩
def TextPost (O : Nat → Prop) (w : World) (b slots : Nat) (s : Bk) (e : Ending) (w' : World) : Prop := e = .returned (.string ⟨s.text.toArray⟩) ∧ BookAt O w' b slots s ∧ KeepP O w w'
theorem text_any {O : Nat → Prop} {b slots : Nat} {s : Bk} (w : World) (h : BookAt O w b slots s) :
    Calls Tryz.prog 14 #[.pointer (some ⟨b, 0, none⟩)] w (TextPost O w b slots s) := by
  obtain ⟨gm, E, p, bv, h⟩ := h
  have H := Lib.hid h
  clear h
  go_enter Tryz.func14, Tryz.ntmps14
  go_wp2_with fail
  refine (string_any b gm slots s.many p bv s.many s.text _ H.out.top H.out.txt H.out.nil).mono ?_
  rintro e w1 ⟨rfl, hb, ho, hk⟩
  have HB := Lib.hid hb; have HO := Lib.hid ho; have HK := Lib.hid hk
  clear hb ho hk
  go_wp2
  go_ret
  have h := H.out
  refine ⟨rfl, ⟨gm, E, p, bv, { h with top := HB.out, txt := HO.out, map := h.map.keep (HK.out.block gm h.map.lt ?_), on := fun x hx => h.on x (Nat.le_trans HK.out.size hx) }⟩, HK.out.toP ?_⟩
  · intro hm
    have := h.map.ne_own h.txt
    cases e : bv.ownBlock with
    | none => rw [e] at hm; simp at hm
    | some y => rw [e] at hm this; simp at hm; rw [hm] at this; exact this rfl
  · intro x hx
    cases e : bv.ownBlock with
    | none => rw [e] at hx; simp at hx
    | some y => rw [e] at hx; simp at hx; rw [hx]; exact h.ov y e
end Go.Proofs.YticckfioggeaeaaGreatDoor

/-
  book.Put, book.Get, by their contracts.
-/
set_option linter.unusedVariables false
namespace Go.Proofs.YticckfioggeaeaaGreatDoor
open Go.RowKit

theorem last_key {E : List Ent} (hn : (E.map (·.1)).Nodup) (x : Int) (hx : (E.map (·.1)).getLast? = some x) : E.filter (fun p => p.1 != x) = E.dropLast := by
  rcases List.eq_nil_or_concat E with rfl | ⟨L, p, rfl⟩
  · simp
  · rw [List.concat_eq_append, List.map_append, List.map_singleton, List.getLast?_concat, Option.some.injEq] at hx
    subst hx
    rw [List.concat_eq_append, List.map_append, List.nodup_append] at hn
    rw [List.concat_eq_append, List.dropLast_concat, List.filter_append]
    have h1 : L.filter (fun q => q.1 != p.1) = L := List.filter_eq_self.2 fun q hq => by
      have := hn.2.2 q.1 (List.mem_map.2 ⟨q, hq, rfl⟩) p.1 (by simp)
      simpa using this
    rw [h1]
    simp
theorem mod_filter (E : List Ent) (k : Int) : (E.filter fun p => p.1 != k).map (fun e => (e.1, e.2.1)) = (E.map (fun e => (e.1, e.2.1))).filter (fun p => p.1 != k) := by
  rw [List.filter_map]; rfl
theorem mod_drop (E : List Ent) : E.dropLast.map (fun e => (e.1, e.2.1)) = (E.map (fun e => (e.1, e.2.1))).dropLast := by rw [List.map_dropLast]
section
variable {O : Nat → Prop} {w w' : World} {b slots gm : Nat} {E E2 : List Ent} {p bv bv' : Value} {s : Bk}
/-- A store behind Put. -/
theorem BAt.putB (h : BAt O w b slots gm E p bv s) {k v : Int} (he : putE s k v = 0) (hE : E2.map (fun e => (e.1, e.2.1)) = outM slots s k) (hsub : E2.Sublist E)
    (ht : Blk w' b 72 (stCells slots gm (s.many + 1 : Nat) (.pointer (some ⟨b, 3, none⟩)) bv' (s.many + 1 : Nat))) (hm : MapAt w' gm ((k, v, ((s.many + 1 : Nat) : Int)) :: E2.filter fun p => p.1 != k)) (ho : OwnB w' bv' (s.text ++ lineOf (wordP k v)))
    (hsz : w.heap.size ≤ w'.heap.size) (hl : ∀ x, bv'.ownBlock = some x → bv.ownBlock = some x ∨ w.heap.size ≤ x) : BAt O w' b slots gm ((k, v, ((s.many + 1 : Nat) : Int)) :: E2.filter fun p => p.1 != k) (.pointer (some ⟨b, 3, none⟩)) bv' (putB slots s k v) where
  top := ht
  hp := .inr rfl
  map := hm
  srt := by
    rw [List.pairwise_cons]
    refine ⟨fun q hq => ?_, (h.srt.sublist hsub).sublist List.filter_sublist⟩
    have := h.trn q (hsub.subset (List.mem_filter.1 hq).1)
    show q.2.2 < ((s.many + 1 : Nat) : Int)
    omega
  mod := by rw [List.map_cons, mod_filter, hE]; rfl
  trn := by
    intro e he'
    show e.2.2 ≤ ((s.many + 1 : Nat) : Int)
    rcases List.mem_cons.1 he' with rfl | he'
    · exact Int.le_refl _
    · have := h.trn e (hsub.subset (List.mem_filter.1 he').1)
      omega
  txt := ho
  nil := fun e => by
    exfalso
    have : (s.text ++ lineOf (wordP k v)).length = 0 := by
      have e' : s.text ++ lineOf (wordP k v) = [] := e
      rw [e']; rfl
    rw [List.length_append] at this
    unfold lineOf at this
    simp at this
  ok := h.ok.put h.s1 he
  s1 := h.s1
  s8 := h.s8
  ob := h.ob
  og := h.og
  ov := fun x hx => by
    rcases hl x hx with h1 | h1
    · exact h.ov x h1
    · exact h.on x h1
  on := fun x hx => h.on x (Nat.le_trans hsz hx)
theorem BAt.getB (h : BAt O w b slots gm E p bv s) {k : Int} (he : getE s k = 0)
    (ht : Blk w' b 72 (stCells slots gm (s.many + 1 : Nat) (.pointer (some ⟨b, 3, none⟩)) bv' (s.many + 1 : Nat))) (hm : MapAt w' gm ((k, valOf s k, ((s.many + 1 : Nat) : Int)) :: E.filter fun p => p.1 != k)) (ho : OwnB w' bv' (s.text ++ lineOf (wordG k)))
    (hsz : w.heap.size ≤ w'.heap.size) (hl : ∀ x, bv'.ownBlock = some x → bv.ownBlock = some x ∨ w.heap.size ≤ x) : BAt O w' b slots gm ((k, valOf s k, ((s.many + 1 : Nat) : Int)) :: E.filter fun p => p.1 != k) (.pointer (some ⟨b, 3, none⟩)) bv' (getB s k) where
  top := ht
  hp := .inr rfl
  map := hm
  srt := by
    rw [List.pairwise_cons]
    refine ⟨fun q hq => ?_, h.srt.sublist List.filter_sublist⟩
    have := h.trn q (List.mem_filter.1 hq).1
    show q.2.2 < ((s.many + 1 : Nat) : Int)
    omega
  mod := by rw [List.map_cons, mod_filter, h.mod]; rfl
  trn := by
    intro e he'
    show e.2.2 ≤ ((s.many + 1 : Nat) : Int)
    rcases List.mem_cons.1 he' with rfl | he'
    · exact Int.le_refl _
    · have := h.trn e (List.mem_filter.1 he').1
      omega
  txt := ho
  nil := fun e => by
    exfalso
    have : (s.text ++ lineOf (wordG k)).length = 0 := by
      have e' : s.text ++ lineOf (wordG k) = [] := e
      rw [e']; rfl
    rw [List.length_append] at this
    unfold lineOf at this
    simp at this
  ok := h.ok.get he
  s1 := h.s1
  s8 := h.s8
  ob := h.ob
  og := h.og
  ov := fun x hx => by
    rcases hl x hx with h1 | h1
    · exact h.ov x h1
    · exact h.on x h1
  on := fun x hx => h.on x (Nat.le_trans hsz hx)
end

/-! ### oldest -/
theorem oldest_any (b gm : Nat) (E : List Ent) (x : Int) (w : World) (h : EntAt w b gm E) (hx : (E.map (·.1)).getLast? = some x) :
    Calls Tryz.prog 45 #[.pointer (some ⟨b, 0, none⟩)] w fun e w' => e = .returned (.int .i64 x) ∧ Below w.heap.size w w' := by
  have H := Lib.hid h; have HX := Lib.hid hx
  have h8 := h.n8
  clear h hx
  go_enter Tryz.func45, Tryz.ntmps45
  go_wp2_with fail
  refine (keys_any b gm E _ H.out).mono ?_
  rintro e w1 ⟨v, rfl, ho, hb⟩
  have HB := Lib.hid hb
  have hlen : 0 < (E.map (·.1)).length := by
    have := HX.out
    cases hE : E.map (·.1) with
    | nil => rw [hE] at this; simp at this
    | cons y l => simp
  obtain ⟨g, cap, rest, rfl, hg, hblk, _, _⟩ := own_front ho hlen
  have hl8 : (E.map (·.1)).length ≤ 8 := by rw [List.length_map]; exact h8
  obtain ⟨n, hn⟩ : ∃ n, n = (E.map (·.1)).length := ⟨_, rfl⟩
  obtain ⟨m, hm⟩ : ∃ m, n = m + 1 := ⟨n - 1, by omega⟩
  have hget : (E.map (·.1))[m]? = some x := by rw [← HX.out, List.getLast?_eq_getElem?, ← hn, hm]; rfl
  have hc : w1.cell? ⟨g, m, none⟩ = some (.int .i64 x) := hblk.cell_ (by rw [List.getElem?_append_left (by rw [ints_len]; omega)]; exact ints_get hget)
  rw [← hn] at hl8 ⊢
  have HG := Lib.hid hget; have HN := Lib.hid hn
  clear ho hb hlen hn hget hblk hg h8
  subst hm
  have hsub : ((m + 1 : Nat) : Int) - 1 = (m : Int) := by omega
  have hw1 : IntKind.i64.wrap (m : Int) = (m : Int) := IntWalk.i64_in _ (by omega)
  go_wp2
  go_ret
  exact ⟨rfl, HB.out⟩

/-! ### Put -/
def PutPost (O : Nat → Prop) (w : World) (b slots : Nat) (s : Bk) (k v : Int) (e : Ending) (w' : World) : Prop :=
  e = .returned (.tuple #[.int .i64 (putV slots s k v), errw (putE s k v)]) ∧ BookAt O w' b slots (putS slots s k v) ∧ KeepP O w w'
theorem put_range {O : Nat → Prop} (b slots : Nat) (s : Bk) (k v : Int) (w : World) (h : BookAt O w b slots s) (hr : ¬ okPut k v) :
    Calls Tryz.prog 24 #[.pointer (some ⟨b, 0, none⟩), .int .i64 k, .int .i64 v] w (PutPost O w b slots s k v) := by
  have HE : Hid (putE s k v = 1) := Lib.hid (by unfold putE; rw [if_pos hr])
  have H := Lib.hid h
  have hc : (k < 0 ∨ 1000000 < k) ∨ ((0 ≤ k ∧ k ≤ 1000000) ∧ (v < 0 ∨ 1000 < v)) := by unfold okPut at hr; omega
  clear h hr
  rcases hc with hk | ⟨⟨hk0, hk1⟩, hv⟩
  all_goals
    go_enter Tryz.func24, Tryz.ntmps24
    go_wp2_with (first
      | (go_at_call 44; refine (within_no _ _ _ _ (by omega)).mono ?_; rintro e w' ⟨rfl, rfl⟩)
      | (go_at_call 44; refine (within_yes _ _ _ _ (by omega) (by omega)).mono ?_; rintro e w' ⟨rfl, rfl⟩))
    go_ret2
    refine ⟨?_, ?_, KeepP.refl _ _⟩
    · unfold putV; rw [HE.out, if_neg (by decide)]; rfl
    · unfold putS; rw [HE.out, if_neg (by decide)]; exact H.out
theorem put_log {O : Nat → Prop} (b slots : Nat) (s : Bk) (k v : Int) (w : World) (h : BookAt O w b slots s) (hr : okPut k v) (hm : s.many = 60) :
    Calls Tryz.prog 24 #[.pointer (some ⟨b, 0, none⟩), .int .i64 k, .int .i64 v] w (PutPost O w b slots s k v) := by
  have HE : Hid (putE s k v = 4) := Lib.hid (by unfold putE; rw [if_neg (by simpa using hr), if_pos hm])
  have H := Lib.hid h
  obtain ⟨⟨hk0, hk1⟩, hv0, hv1⟩ := hr
  obtain ⟨gm, E, p, bv, h⟩ := h
  have c5 := h.top.cell_ (i := 5) rfl
  have hme : (((s.many : Nat) : Int) == 60) = true := by rw [hm]; rfl
  clear h hm
  go_enter Tryz.func24, Tryz.ntmps24
  go_wp2_with (go_at_call 44; refine (within_yes _ _ _ _ (by omega) (by omega)).mono ?_; rintro e w' ⟨rfl, rfl⟩)
  go_ret2
  refine ⟨?_, ?_, KeepP.refl _ _⟩
  · unfold putV; rw [HE.out, if_neg (by decide)]; rfl
  · unfold putS; rw [HE.out, if_neg (by decide)]; exact H.out
end Go.Proofs.YticckfioggeaeaaGreatDoor

/-
  book.Put where it puts, by its contract (printed by wip/gen_bookput.py).
-/
set_option linter.unusedVariables false
namespace Go.Proofs.YticckfioggeaeaaGreatDoor
open Go.RowKit

theorem run_len_map {w : World} {g : Nat} {M : List Ent} (h : MapAt w g M) : (Builtin.len_ #[67] 3 #[.map (some g)]).run Tryz.prog w = .ok (.int .i64 M.length) w := len_map law_T 3 h
/-- A store between two of its turns: its map holds E. -/
structure Mid (w0 w : World) (b gm : Nat) (slots turn : Int) (E : List Ent) (p bv : Value) (many : Int) (text : List UInt8) : Prop where
  top : Blk w b 72 (stCells slots gm turn p bv many)
  hp : p = .pointer none ∨ p = .pointer (some ⟨b, 3, none⟩)
  map : MapAt w gm E
  txt : OwnB w bv text
  tab : Tab w
  keep : Keep [b, gm] w0 w
section
variable {w0 w w' : World} {b gm : Nat} {slots turn many : Int} {E E' : List Ent} {p bv : Value} {text : List UInt8}
theorem Mid.drew (h : Mid w0 w b gm slots turn E p bv many text) : Mid w0 w.drew b gm slots turn E p bv many text := ⟨h.top, h.hp, h.map.keep rfl, h.txt, h.tab, h.keep.drew⟩
theorem Mid.alloc (h : Mid w0 w b gm slots turn E p bv many text) (o : Obj) : Mid w0 (w.alloc o) b gm slots turn E p bv many text :=
  ⟨h.top.alloc o, h.hp, h.map.keep (Below.heap_alloc w o gm h.map.lt), h.txt.keep fun x hx => Below.heap_alloc w o x (h.txt.lt x hx), h.tab.keep ((Keep.refl [] w).alloc o) (by simp), h.keep.alloc o⟩
theorem Mid.below (h : Mid w0 w b gm slots turn E p bv many text) (hb : Below w.heap.size w w') : Mid w0 w' b gm slots turn E p bv many text :=
  ⟨h.top.below hb h.top.lt, h.hp, h.map.keep (hb.block gm h.map.lt), h.txt.keep fun x hx => hb.block x (h.txt.lt x hx), h.tab.below hb (Nat.le_refl _), h.keep.trans (Keep.of_below hb (Nat.le_refl _))⟩
theorem Mid.setTurn (h : Mid w0 w b gm slots turn E p bv many text) (t : Int) : Mid w0 (w.setCell ⟨b, 2, none⟩ (.int .i64 t)) b gm slots t E p bv many text :=
  ⟨h.top.set 2 _, h.hp, h.map.keep (Below.heap_setCell _ _ _ _ (h.map.ne h.top)), h.txt.keep fun x hx => Below.heap_setCell _ _ _ x (by rintro rfl; exact h.txt.ne h.top (by decide) hx),
    h.tab.keep (F := [b]) ((Keep.refl _ w).set (fun _ => by simp) _) (by simpa using Ne.symm (h.tab.ne_st h.top)), h.keep.set (fun _ => by simp) _⟩
theorem Mid.setMap (h : Mid w0 w b gm slots turn E p bv many text) (hm : MapAt w' gm E') (hg : w.grownBy w' (some gm)) : Mid w0 w' b gm slots turn E' p bv many text :=
  ⟨h.top.grown hg (by intro e; injection e with e; exact h.map.ne h.top e.symm), h.hp, hm, h.txt.keep fun x hx => hg.block x (h.txt.lt x hx) (by intro e; injection e with e; subst e; exact h.map.ne_own h.txt hx),
    h.tab.keep (F := [gm]) ((Keep.refl _ w).grown hg (by intro k e; injection e with e; simp [e])) (by simpa using Ne.symm (h.tab.ne_map h.map)), h.keep.grown hg (by intro k e; injection e with e; simp [e])⟩
theorem Mid.ent (h : Mid w0 w b gm slots turn E p bv many text) (hs : E.Pairwise fun p q => q.2.2 < p.2.2) (h8 : E.length ≤ 8) : EntAt w b gm E := ⟨h.top.cell_ (i := 1) rfl, h.map, hs, h8⟩
theorem Mid.cells (h : Mid w0 w b gm slots turn E p bv many text) : w.cell? ⟨b, 0, none⟩ = some (.int .i64 slots) ∧ w.cell? ⟨b, 1, none⟩ = some (.map (some gm)) ∧ w.cell? ⟨b, 2, none⟩ = some (.int .i64 turn) ∧ w.frozen? ⟨b, 2, none⟩ = false :=
  ⟨h.top.cell_ (i := 0) rfl, h.top.cell_ (i := 1) rfl, h.top.cell_ (i := 2) rfl, h.top.free 2⟩
end
theorem BAt.mid {O : Nat → Prop} {w : World} {b slots gm : Nat} {E : List Ent} {p bv : Value} {s : Bk} (h : BAt O w b slots gm E p bv s) (ht : Tab w) : Mid w w b gm slots s.many E p bv s.many s.text := ⟨h.top, h.hp, h.map, h.txt, ht, Keep.refl _ _⟩
theorem pair_in (w : World) (x y : Int) : IntsIn (w.alloc (.cells #[.int .i64 x, .int .i64 y] 3)) (w.alloc (.cells #[.int .i64 x, .int .i64 y] 3)).heap.size (some ⟨w.heap.size, 0, none⟩) [x, y] := fun _ =>
  ⟨w.heap.size, 0, rfl, by simp, fun i z hz => by
    have hb := Blk.new w 3 [.int .i64 x, .int .i64 y]
    rw [Nat.zero_add]
    exact hb.cell_ (i := i) (by match i, hz with | 0, hz => simpa using hz | 1, hz => simpa using hz)⟩
theorem one_in (w : World) (x : Int) : IntsIn (w.alloc (.cells #[.int .i64 x] 3)) (w.alloc (.cells #[.int .i64 x] 3)).heap.size (some ⟨w.heap.size, 0, none⟩) [x] := fun _ =>
  ⟨w.heap.size, 0, rfl, by simp, fun i z hz => by
    have hb := Blk.new w 3 [.int .i64 x]
    rw [Nat.zero_add]
    exact hb.cell_ (i := i) (by match i, hz with | 0, hz => simpa using hz)⟩

set_option maxHeartbeats 4000000 in
set_option maxRecDepth 100000 in
theorem put_some {O : Nat → Prop} (b slots gm : Nat) (E : List Ent) (p bv : Value) (s : Bk) (k v : Int) (w : World) (h : BAt O w b slots gm E p bv s) (hr : okPut k v) (hm : s.many ≠ 60) (ht : Tab w) (v0 t0 : Int) (hx : (k, v0, t0) ∈ E) :
    Calls Tryz.prog 24 #[.pointer (some ⟨b, 0, none⟩), .int .i64 k, .int .i64 v] w (PutPost O w b slots s k v) := by
  have HE : Hid (putE s k v = 0) := Lib.hid (by unfold putE; rw [if_neg (by simpa using hr), if_neg hm])
  have hmany := h.ok.many
  have htext : s.text.length ≤ 2000 := by have := h.ok.text; omega
  obtain ⟨⟨hk0, hk1⟩, hv0, hv1⟩ := hr
  have H := Lib.hid h; have HT := Lib.hid ht
  have HFU : Hid (¬ fullFor slots s k) := Lib.hid (fun hf => hf.1 (by rw [← h.keys]; exact List.mem_map.2 ⟨_, hx, rfl⟩))
  have HPV : Hid (putV slots s k v = -1) := Lib.hid (by unfold putV letGo; rw [HE.out, if_pos rfl]; rw [if_neg HFU.out])
  have HOM : Hid (E.map (fun e => (e.1, e.2.1)) = outM slots s k ∧ E.Sublist E) := Lib.hid (by unfold outM; rw [if_neg HFU.out]; exact ⟨H.out.mod, List.Sublist.refl _⟩)
  have c1 := h.top.cell_ (i := 1) rfl
  have c5 := h.top.cell_ (i := 5) rfl
  have hlb := h.lt.1
  have hlk := (look_is h.map hx).1
  skip
  obtain ⟨m, hmm⟩ : ∃ m, m = s.many := ⟨_, rfl⟩
  rw [← hmm] at hmany c5 hm
  have HMM := Lib.hid hmm
  have hme : ((m : Int) == 60) = false := beq_eq_false_iff_ne.2 (by omega)
  clear h ht hx hmm hm
  go_enter Tryz.func24, Tryz.ntmps24
  go_wp2_with (go_at_call 44; refine (within_yes _ _ _ _ (by omega) (by omega)).mono ?_; rintro e w' ⟨rfl, rfl⟩)
  have HMID : Hid (∀ (o : Obj) (q : Nat), Mid w ((w.alloc o).drewN q) b gm slots m E p bv m s.text) := Lib.hid fun o q => by
    have h1 := (H.out.mid HT.out).alloc o
    rw [← HMM.out] at h1
    exact ⟨h1.top, h1.hp, h1.map.keep rfl, h1.txt, h1.tab, h1.keep.drewN q⟩
  obtain ⟨w1, hw1⟩ : ∃ w1, w1 = w.alloc (.cells #[.int .i64 v0, .int .i64 t0] 86) := ⟨_, rfl⟩
  rw [← hw1]
  have HM1 : Hid (∀ q : Nat, Mid w (w1.drewN q) b gm slots m E p bv m s.text) := Lib.hid fun q => by rw [hw1]; exact HMID.out _ q
  clear HMID hw1 c1 c5 hlk
  have HM0 : Hid (Mid w w1 b gm slots m E p bv m s.text) := HM1.out 0
  go_quiet (fail)
  have hm2 := HM1.out nq
  generalize w1.drewN nq = w2 at hm2 ⊢
  have HM2 := Lib.hid hm2
  clear hm2 HM1 HM0
  have e2 := HM2.out.cells.2.2.1
  have f2 := HM2.out.cells.2.2.2
  have hinc : IntKind.i64.wrap ((m : Int) + 1) = (m : Int) + 1 := IntWalk.i64_in _ (by omega)
  go_wp2
  have HM3 := Lib.hid ((HM2.out.setTurn ((m : Int) + 1)).drew)
  clear e2 f2
  obtain ⟨w3, hw3⟩ : ∃ w3, w3 = w2.setCell ⟨b, 2, none⟩ (.int .i64 ((m : Int) + 1)) := ⟨_, rfl⟩
  rw [← hw3] at HM3 ⊢
  clear hw3
  have e1 := HM3.out.cells.2.1
  have e2 := HM3.out.cells.2.2.1
  go_still_tail 11, (by kernel_rfl)
  go_wp2_with (at_mapUpdate; refine wpList_put_map rfl (.tmp 66) (.tmp 67) (.tmp 73) rfl gm E rfl HM3.out.map k v ((m : Int) + 1) rfl rfl ?_; intro w4 hm4 hg4 hs4; have HM4 := Lib.hid (HM3.out.setMap hm4 hg4); clear hm4 hg4 hs4 e1 e2)
  have HM5 := Lib.hid (HM4.out.alloc (.cells #[.int .i64 k, .int .i64 v] 3))
  refine (down_any b gm slots ((m : Int) + 1) p bv m s.text [112] (some ⟨w4.heap.size, 0, none⟩) 2 2 [k, v] _ HM5.out.top HM5.out.hp HM5.out.txt HM5.out.tab rfl (pair_in w4 k v) (by intro x hx; simp at hx; rcases hx with rfl | rfl <;> omega) (by omega) rfl htext (by omega) (by omega)).mono ?_
  rintro e w6 ⟨bv', rfl, hb6, ho6, hk6, hl6⟩
  rw [foldW_put] at ho6
  have HB6 := Lib.hid hb6; have HO6 := Lib.hid ho6; have HK6 := Lib.hid hk6; have HL6 := Lib.hid hl6
  have hgm6 : w6.heap[gm]? = (w4.alloc (.cells #[.int .i64 k, .int .i64 v] 3)).heap[gm]? := hk6.block gm HM5.out.map.lt (by
    have h1 := HM5.out.map.ne HM5.out.top
    have h2 := HM5.out.map.ne_own HM5.out.txt
    intro hm
    rcases List.mem_cons.1 hm with hm | hm
    · exact h1 hm
    · cases e : bv.ownBlock with
      | none => rw [e] at hm; simp at hm
      | some z => rw [e] at hm h2; simp at hm; rw [hm] at h2; exact h2 rfl)
  have HM6 := Lib.hid (HM5.out.map.keep hgm6)
  clear hb6 ho6 hk6 hl6 hgm6
  go_wp2
  go_ret2
  have hmc : ((s.many + 1 : Nat) : Int) = (m : Int) + 1 := by rw [HMM.out]; simp
  have hsz : w.heap.size ≤ w6.heap.size := Nat.le_trans HM5.out.keep.size HK6.out.size
  have hfin := H.out.putB (E2 := E) (w' := w6) (bv' := bv') HE.out HOM.out.1 HOM.out.2 (by rw [hmc]; exact HB6.out) (by rw [hmc]; exact HM6.out) HO6.out hsz (fun x hx => by
    rcases HL6.out x hx with h1 | h1
    · exact .inl h1
    · exact .inr (Nat.le_trans HM5.out.keep.size h1))
  have hfin2 : BookAt O w6 b slots (putS slots s k v) := ⟨gm, _, _, _, by unfold putS; rw [if_pos HE.out]; exact hfin⟩
  refine ⟨?_, hfin2, (HM5.out.keep.toP ?_).trans (HK6.out.toP ?_)⟩
  · rw [HPV.out, HE.out]; rfl
  · intro x hx
    simp at hx
    rcases hx with rfl | rfl
    · exact H.out.ob
    · exact H.out.og
  · intro x hx
    rcases List.mem_cons.1 hx with rfl | hx
    · exact H.out.ob
    · cases e : bv.ownBlock with
      | none => rw [e] at hx; simp at hx
      | some z => rw [e] at hx; simp at hx; rw [hx]; exact H.out.ov z e

set_option maxHeartbeats 4000000 in
set_option maxRecDepth 100000 in
theorem put_room {O : Nat → Prop} (b slots gm : Nat) (E : List Ent) (p bv : Value) (s : Bk) (k v : Int) (w : World) (h : BAt O w b slots gm E p bv s) (hr : okPut k v) (hm : s.many ≠ 60) (ht : Tab w) (hx : ∀ p ∈ E, p.1 ≠ k) (hlen : s.M.length ≠ slots) :
    Calls Tryz.prog 24 #[.pointer (some ⟨b, 0, none⟩), .int .i64 k, .int .i64 v] w (PutPost O w b slots s k v) := by
  have HE : Hid (putE s k v = 0) := Lib.hid (by unfold putE; rw [if_neg (by simpa using hr), if_neg hm])
  have hmany := h.ok.many
  have htext : s.text.length ≤ 2000 := by have := h.ok.text; omega
  obtain ⟨⟨hk0, hk1⟩, hv0, hv1⟩ := hr
  have H := Lib.hid h; have HT := Lib.hid ht
  have HFU : Hid (¬ fullFor slots s k) := Lib.hid (fun hf => hlen hf.2)
  have HPV : Hid (putV slots s k v = -1) := Lib.hid (by unfold putV letGo; rw [HE.out, if_pos rfl]; rw [if_neg HFU.out])
  have HOM : Hid (E.map (fun e => (e.1, e.2.1)) = outM slots s k ∧ E.Sublist E) := Lib.hid (by unfold outM; rw [if_neg HFU.out]; exact ⟨H.out.mod, List.Sublist.refl _⟩)
  have c1 := h.top.cell_ (i := 1) rfl
  have c5 := h.top.cell_ (i := 5) rfl
  have hlb := h.lt.1
  have hlk := look_no h.map hx
  have hleq : ((E.length : Int) == (slots : Int)) = false := beq_eq_false_iff_ne.2 (by rw [h.len]; omega)
  obtain ⟨m, hmm⟩ : ∃ m, m = s.many := ⟨_, rfl⟩
  rw [← hmm] at hmany c5 hm
  have HMM := Lib.hid hmm
  have hme : ((m : Int) == 60) = false := beq_eq_false_iff_ne.2 (by omega)
  clear h ht hx hlen hmm hm
  go_enter Tryz.func24, Tryz.ntmps24
  go_wp2_with (go_at_call 44; refine (within_yes _ _ _ _ (by omega) (by omega)).mono ?_; rintro e w' ⟨rfl, rfl⟩)
  have HMID : Hid (∀ (o : Obj) (q : Nat), Mid w ((w.alloc o).drewN q) b gm slots m E p bv m s.text) := Lib.hid fun o q => by
    have h1 := (H.out.mid HT.out).alloc o
    rw [← HMM.out] at h1
    exact ⟨h1.top, h1.hp, h1.map.keep rfl, h1.txt, h1.tab, h1.keep.drewN q⟩
  obtain ⟨w1, hw1⟩ : ∃ w1, w1 = w.alloc (.cells #[.int .i64 0, .int .i64 0] 86) := ⟨_, rfl⟩
  rw [← hw1]
  have HM1 : Hid (∀ q : Nat, Mid w (w1.drewN q) b gm slots m E p bv m s.text) := Lib.hid fun q => by rw [hw1]; exact HMID.out _ q
  clear HMID hw1 c1 c5 hlk
  have HM0 : Hid (Mid w w1 b gm slots m E p bv m s.text) := HM1.out 0
  have e0 := HM0.out.cells.1
  have e1 := HM0.out.cells.2.1
  have hlen := fun q => run_len_map (HM1.out q).map
  have hlen0 := run_len_map HM0.out.map
  skip
  go_quiet (fail)
  have hm2 := HM1.out nq
  generalize w1.drewN nq = w2 at hm2 ⊢
  have HM2 := Lib.hid hm2
  clear hm2 HM1 HM0 e0 e1 hlen hlen0 hleq
  have e2 := HM2.out.cells.2.2.1
  have f2 := HM2.out.cells.2.2.2
  have hinc : IntKind.i64.wrap ((m : Int) + 1) = (m : Int) + 1 := IntWalk.i64_in _ (by omega)
  go_wp2
  have HM3 := Lib.hid ((HM2.out.setTurn ((m : Int) + 1)).drew)
  clear e2 f2
  obtain ⟨w3, hw3⟩ : ∃ w3, w3 = w2.setCell ⟨b, 2, none⟩ (.int .i64 ((m : Int) + 1)) := ⟨_, rfl⟩
  rw [← hw3] at HM3 ⊢
  clear hw3
  have e1 := HM3.out.cells.2.1
  have e2 := HM3.out.cells.2.2.1
  go_still_tail 11, (by kernel_rfl)
  go_wp2_with (at_mapUpdate; refine wpList_put_map rfl (.tmp 66) (.tmp 67) (.tmp 73) rfl gm E rfl HM3.out.map k v ((m : Int) + 1) rfl rfl ?_; intro w4 hm4 hg4 hs4; have HM4 := Lib.hid (HM3.out.setMap hm4 hg4); clear hm4 hg4 hs4 e1 e2)
  have HM5 := Lib.hid (HM4.out.alloc (.cells #[.int .i64 k, .int .i64 v] 3))
  refine (down_any b gm slots ((m : Int) + 1) p bv m s.text [112] (some ⟨w4.heap.size, 0, none⟩) 2 2 [k, v] _ HM5.out.top HM5.out.hp HM5.out.txt HM5.out.tab rfl (pair_in w4 k v) (by intro x hx; simp at hx; rcases hx with rfl | rfl <;> omega) (by omega) rfl htext (by omega) (by omega)).mono ?_
  rintro e w6 ⟨bv', rfl, hb6, ho6, hk6, hl6⟩
  rw [foldW_put] at ho6
  have HB6 := Lib.hid hb6; have HO6 := Lib.hid ho6; have HK6 := Lib.hid hk6; have HL6 := Lib.hid hl6
  have hgm6 : w6.heap[gm]? = (w4.alloc (.cells #[.int .i64 k, .int .i64 v] 3)).heap[gm]? := hk6.block gm HM5.out.map.lt (by
    have h1 := HM5.out.map.ne HM5.out.top
    have h2 := HM5.out.map.ne_own HM5.out.txt
    intro hm
    rcases List.mem_cons.1 hm with hm | hm
    · exact h1 hm
    · cases e : bv.ownBlock with
      | none => rw [e] at hm; simp at hm
      | some z => rw [e] at hm h2; simp at hm; rw [hm] at h2; exact h2 rfl)
  have HM6 := Lib.hid (HM5.out.map.keep hgm6)
  clear hb6 ho6 hk6 hl6 hgm6
  go_wp2
  go_ret2
  have hmc : ((s.many + 1 : Nat) : Int) = (m : Int) + 1 := by rw [HMM.out]; simp
  have hsz : w.heap.size ≤ w6.heap.size := Nat.le_trans HM5.out.keep.size HK6.out.size
  have hfin := H.out.putB (E2 := E) (w' := w6) (bv' := bv') HE.out HOM.out.1 HOM.out.2 (by rw [hmc]; exact HB6.out) (by rw [hmc]; exact HM6.out) HO6.out hsz (fun x hx => by
    rcases HL6.out x hx with h1 | h1
    · exact .inl h1
    · exact .inr (Nat.le_trans HM5.out.keep.size h1))
  have hfin2 : BookAt O w6 b slots (putS slots s k v) := ⟨gm, _, _, _, by unfold putS; rw [if_pos HE.out]; exact hfin⟩
  refine ⟨?_, hfin2, (HM5.out.keep.toP ?_).trans (HK6.out.toP ?_)⟩
  · rw [HPV.out, HE.out]; rfl
  · intro x hx
    simp at hx
    rcases hx with rfl | rfl
    · exact H.out.ob
    · exact H.out.og
  · intro x hx
    rcases List.mem_cons.1 hx with rfl | hx
    · exact H.out.ob
    · cases e : bv.ownBlock with
      | none => rw [e] at hx; simp at hx
      | some z => rw [e] at hx; simp at hx; rw [hx]; exact H.out.ov z e

set_option maxHeartbeats 4000000 in
set_option maxRecDepth 100000 in
theorem put_full {O : Nat → Prop} (b slots gm : Nat) (E : List Ent) (p bv : Value) (s : Bk) (k v : Int) (w : World) (h : BAt O w b slots gm E p bv s) (hr : okPut k v) (hm : s.many ≠ 60) (ht : Tab w) (hx : ∀ p ∈ E, p.1 ≠ k) (hlen : s.M.length = slots) :
    Calls Tryz.prog 24 #[.pointer (some ⟨b, 0, none⟩), .int .i64 k, .int .i64 v] w (PutPost O w b slots s k v) := by
  have HE : Hid (putE s k v = 0) := Lib.hid (by unfold putE; rw [if_neg (by simpa using hr), if_neg hm])
  have hmany := h.ok.many
  have htext : s.text.length ≤ 2000 := by have := h.ok.text; omega
  obtain ⟨⟨hk0, hk1⟩, hv0, hv1⟩ := hr
  have H := Lib.hid h; have HT := Lib.hid ht
  have HFU : Hid (fullFor slots s k) := Lib.hid (⟨fun hk => by rw [← h.keys] at hk; obtain ⟨q, hq, hqe⟩ := List.mem_map.1 hk; exact hx q hq hqe, hlen⟩)
  have HPV : Hid (putV slots s k v = (s.keys.getLast?).getD 0) := Lib.hid (by unfold putV letGo; rw [HE.out, if_pos rfl]; rw [if_pos HFU.out])
  have HOM : Hid (E.dropLast.map (fun e => (e.1, e.2.1)) = outM slots s k ∧ E.dropLast.Sublist E) := Lib.hid (by unfold outM; rw [if_pos HFU.out, mod_drop, H.out.mod]; exact ⟨rfl, List.dropLast_sublist _⟩)
  have c1 := h.top.cell_ (i := 1) rfl
  have c5 := h.top.cell_ (i := 5) rfl
  have hlb := h.lt.1
  have hlk := look_no h.map hx
  have hleq : ((E.length : Int) == (slots : Int)) = true := by rw [h.len, hlen]; simp
  obtain ⟨m, hmm⟩ : ∃ m, m = s.many := ⟨_, rfl⟩
  rw [← hmm] at hmany c5 hm
  have HMM := Lib.hid hmm
  have hme : ((m : Int) == 60) = false := beq_eq_false_iff_ne.2 (by omega)
  clear h ht hx hlen hmm hm
  go_enter Tryz.func24, Tryz.ntmps24
  go_wp2_with (go_at_call 44; refine (within_yes _ _ _ _ (by omega) (by omega)).mono ?_; rintro e w' ⟨rfl, rfl⟩)
  have HMID : Hid (∀ (o : Obj) (q : Nat), Mid w ((w.alloc o).drewN q) b gm slots m E p bv m s.text) := Lib.hid fun o q => by
    have h1 := (H.out.mid HT.out).alloc o
    rw [← HMM.out] at h1
    exact ⟨h1.top, h1.hp, h1.map.keep rfl, h1.txt, h1.tab, h1.keep.drewN q⟩
  obtain ⟨w1, hw1⟩ : ∃ w1, w1 = w.alloc (.cells #[.int .i64 0, .int .i64 0] 86) := ⟨_, rfl⟩
  rw [← hw1]
  have HM1 : Hid (∀ q : Nat, Mid w (w1.drewN q) b gm slots m E p bv m s.text) := Lib.hid fun q => by rw [hw1]; exact HMID.out _ q
  clear HMID hw1 c1 c5 hlk
  have HM0 : Hid (Mid w w1 b gm slots m E p bv m s.text) := HM1.out 0
  have e0 := HM0.out.cells.1
  have e1 := HM0.out.cells.2.1
  have hlen := fun q => run_len_map (HM1.out q).map
  have hlen0 := run_len_map HM0.out.map
  skip
  go_quiet (fail)
  have hm2 := HM1.out nq
  generalize w1.drewN nq = w2 at hm2 ⊢
  have HM2 := Lib.hid hm2
  clear hm2 HM1 HM0 e0 e1 hlen hlen0 hleq
  obtain ⟨y, hy⟩ : ∃ y, (E.map (·.1)).getLast? = some y := by
    cases hl : (E.map (·.1)).getLast? with
    | some y => exact ⟨y, rfl⟩
    | none =>
      rw [List.getLast?_eq_none_iff] at hl
      have h1 := H.out.keys
      rw [hl] at h1
      have h2 := H.out.s1
      have h3 := HFU.out.2
      have h4 : s.keys.length = s.M.length := by unfold Bk.keys; rw [List.length_map]
      rw [← h1] at h4
      simp at h4
      omega
  have HY := Lib.hid hy
  have HYO : Hid ((s.keys.getLast?).getD 0 = y) := Lib.hid (by rw [← H.out.keys, hy]; rfl)
  have HED : Hid (E.filter (fun p => p.1 != y) = E.dropLast) := Lib.hid (last_key H.out.map.nodup y hy)
  clear hy
  go_wp2_with fail
  refine (oldest_any b gm E y _ (HM2.out.ent H.out.srt (by have := H.out.len; have := HFU.out.2; have := H.out.s8; omega)) HY.out).mono ?_
  rintro e w2b ⟨rfl, hb2⟩
  have hm2 := HM2.out.below hb2
  have HM2 := Lib.hid hm2
  have g1 := HM2.out.cells.2.1
  clear hm2 hb2
  go_wp2_with (at_delete; refine wpList_del_map rfl (.tmp 54) (.tmp 55) rfl gm E rfl HM2.out.map y rfl ?_; intro w2c hm2c hg2c hs2c; rw [HED.out] at hm2c; have HM2 := Lib.hid (HM2.out.setMap hm2c hg2c); clear hm2c hg2c hs2c g1; have e2 := HM2.out.cells.2.2.1; have f2 := HM2.out.cells.2.2.2; have hinc : IntKind.i64.wrap ((m : Int) + 1) = (m : Int) + 1 := IntWalk.i64_in _ (by omega))
  have HM3 := Lib.hid ((HM2.out.setTurn ((m : Int) + 1)).drew)
  clear e2 f2
  obtain ⟨w3, hw3⟩ : ∃ w3, w3 = w2c.setCell ⟨b, 2, none⟩ (.int .i64 ((m : Int) + 1)) := ⟨_, rfl⟩
  rw [← hw3] at HM3 ⊢
  clear hw3
  have e1 := HM3.out.cells.2.1
  have e2 := HM3.out.cells.2.2.1
  go_still_tail 11, (by kernel_rfl)
  go_wp2_with (at_mapUpdate; refine wpList_put_map rfl (.tmp 66) (.tmp 67) (.tmp 73) rfl gm E.dropLast rfl HM3.out.map k v ((m : Int) + 1) rfl rfl ?_; intro w4 hm4 hg4 hs4; have HM4 := Lib.hid (HM3.out.setMap hm4 hg4); clear hm4 hg4 hs4 e1 e2)
  have HM5 := Lib.hid (HM4.out.alloc (.cells #[.int .i64 k, .int .i64 v] 3))
  refine (down_any b gm slots ((m : Int) + 1) p bv m s.text [112] (some ⟨w4.heap.size, 0, none⟩) 2 2 [k, v] _ HM5.out.top HM5.out.hp HM5.out.txt HM5.out.tab rfl (pair_in w4 k v) (by intro x hx; simp at hx; rcases hx with rfl | rfl <;> omega) (by omega) rfl htext (by omega) (by omega)).mono ?_
  rintro e w6 ⟨bv', rfl, hb6, ho6, hk6, hl6⟩
  rw [foldW_put] at ho6
  have HB6 := Lib.hid hb6; have HO6 := Lib.hid ho6; have HK6 := Lib.hid hk6; have HL6 := Lib.hid hl6
  have hgm6 : w6.heap[gm]? = (w4.alloc (.cells #[.int .i64 k, .int .i64 v] 3)).heap[gm]? := hk6.block gm HM5.out.map.lt (by
    have h1 := HM5.out.map.ne HM5.out.top
    have h2 := HM5.out.map.ne_own HM5.out.txt
    intro hm
    rcases List.mem_cons.1 hm with hm | hm
    · exact h1 hm
    · cases e : bv.ownBlock with
      | none => rw [e] at hm; simp at hm
      | some z => rw [e] at hm h2; simp at hm; rw [hm] at h2; exact h2 rfl)
  have HM6 := Lib.hid (HM5.out.map.keep hgm6)
  clear hb6 ho6 hk6 hl6 hgm6
  go_wp2
  go_ret2
  have hmc : ((s.many + 1 : Nat) : Int) = (m : Int) + 1 := by rw [HMM.out]; simp
  have hsz : w.heap.size ≤ w6.heap.size := Nat.le_trans HM5.out.keep.size HK6.out.size
  have hfin := H.out.putB (E2 := E.dropLast) (w' := w6) (bv' := bv') HE.out HOM.out.1 HOM.out.2 (by rw [hmc]; exact HB6.out) (by rw [hmc]; exact HM6.out) HO6.out hsz (fun x hx => by
    rcases HL6.out x hx with h1 | h1
    · exact .inl h1
    · exact .inr (Nat.le_trans HM5.out.keep.size h1))
  have hfin2 : BookAt O w6 b slots (putS slots s k v) := ⟨gm, _, _, _, by unfold putS; rw [if_pos HE.out]; exact hfin⟩
  refine ⟨?_, hfin2, (HM5.out.keep.toP ?_).trans (HK6.out.toP ?_)⟩
  · rw [HPV.out, HE.out, HYO.out]; rfl
  · intro x hx
    simp at hx
    rcases hx with rfl | rfl
    · exact H.out.ob
    · exact H.out.og
  · intro x hx
    rcases List.mem_cons.1 hx with rfl | hx
    · exact H.out.ob
    · cases e : bv.ownBlock with
      | none => rw [e] at hx; simp at hx
      | some z => rw [e] at hx; simp at hx; rw [hx]; exact H.out.ov z e

theorem put_any {O : Nat → Prop} (b slots : Nat) (s : Bk) (k v : Int) (w : World) (h : BookAt O w b slots s) (ht : Tab w) :
    Calls Tryz.prog 24 #[.pointer (some ⟨b, 0, none⟩), .int .i64 k, .int .i64 v] w (PutPost O w b slots s k v) := by
  by_cases hr : okPut k v
  · by_cases hm : s.many = 60
    · exact put_log b slots s k v w h hr hm
    · obtain ⟨gm, E, p, bv, h⟩ := h
      by_cases hx : ∃ q ∈ E, q.1 = k
      · obtain ⟨⟨k', v0, t0⟩, hq, rfl⟩ := hx
        exact put_some b slots gm E p bv s _ v w h hr hm ht v0 t0 hq
      · have hx' : ∀ q ∈ E, q.1 ≠ k := fun q hq e => hx ⟨q, hq, e⟩
        by_cases hlen : s.M.length = slots
        · exact put_full b slots gm E p bv s k v w h hr hm ht hx' hlen
        · exact put_room b slots gm E p bv s k v w h hr hm ht hx' hlen
  · exact put_range b slots s k v w h hr
end Go.Proofs.YticckfioggeaeaaGreatDoor

/-
  book.Get, by its contract.
-/
set_option linter.unusedVariables false
namespace Go.Proofs.YticckfioggeaeaaGreatDoor
open Go.RowKit

theorem Mid.far {w0 w : World} {b gm eb : Nat} {slots turn many x y : Int} {E : List Ent} {p bv : Value} {text : List UInt8} (h : Mid w0 w b gm slots turn E p bv many text) (he : Blk w eb 86 [.int .i64 x, .int .i64 y]) (hlo : w0.heap.size ≤ eb) (i : Nat) (v : Value) : Mid w0 (w.setCell ⟨eb, i, none⟩ v) b gm slots turn E p bv many text := by
  have h1 : b ≠ eb := h.top.ne he (by decide)
  have h2 : gm ≠ eb := h.map.ne he
  have h3 : 4 ≠ eb := by
    rintro rfl
    have := h.tab.cells
    rw [he.cell 0] at this
    simp at this
  exact ⟨h.top.far h1 v, h.hp, h.map.keep (Below.heap_setCell _ _ _ _ h2), h.txt.keep fun z hz => Below.heap_setCell _ _ _ z (by rintro rfl; exact h.txt.ne he (by decide) hz), h.tab.keep (F := [eb]) ((Keep.refl _ w).set (fun _ => by simp) _) (by simpa using h3), h.keep.set (fun hlt => by have : eb < w0.heap.size := hlt; omega) _⟩
def GetPost (O : Nat → Prop) (w : World) (b slots : Nat) (s : Bk) (k : Int) (e : Ending) (w' : World) : Prop :=
  e = .returned (.tuple #[.int .i64 (getV s k), errw (getE s k)]) ∧ BookAt O w' b slots (getS s k) ∧ KeepP O w w'
theorem get_none {O : Nat → Prop} (b slots gm : Nat) (E : List Ent) (p bv : Value) (s : Bk) (k : Int) (w : World) (h : BAt O w b slots gm E p bv s) (hx : ∀ q ∈ E, q.1 ≠ k) :
    Calls Tryz.prog 37 #[.pointer (some ⟨b, 0, none⟩), .int .i64 k] w (GetPost O w b slots s k) := by
  have HE : Hid (getE s k = 5) := Lib.hid (by
    unfold getE
    rw [if_pos]
    intro hk
    rw [← h.keys] at hk
    obtain ⟨q, hq, rfl⟩ := List.mem_map.1 hk
    exact hx q hq rfl)
  have H := Lib.hid h
  have c1 := h.top.cell_ (i := 1) rfl
  have hlk := look_no h.map hx
  clear h hx
  go_enter Tryz.func37, Tryz.ntmps37
  go_wp2
  go_ret2
  have hb : Below w.heap.size w (w.alloc (.cells #[.int .i64 0, .int .i64 0] 86)) := (Below.refl _ w).alloc (Nat.le_refl _) _
  refine ⟨?_, ?_, KeepP.of_below hb (Nat.le_refl _)⟩
  · unfold getV; rw [HE.out, if_neg (by decide)]; rfl
  · unfold getS; rw [HE.out, if_neg (by decide)]; exact ⟨gm, E, p, bv, H.out.below hb⟩
theorem get_log {O : Nat → Prop} (b slots gm : Nat) (E : List Ent) (p bv : Value) (s : Bk) (k v0 t0 : Int) (w : World) (h : BAt O w b slots gm E p bv s) (hx : (k, v0, t0) ∈ E) (hm : s.many = 60) :
    Calls Tryz.prog 37 #[.pointer (some ⟨b, 0, none⟩), .int .i64 k] w (GetPost O w b slots s k) := by
  have hk : k ∈ s.keys := by rw [← h.keys]; exact List.mem_map.2 ⟨_, hx, rfl⟩
  have HE : Hid (getE s k = 4) := Lib.hid (by unfold getE; rw [if_neg (by simpa using hk), if_pos hm])
  have H := Lib.hid h
  have c1 := h.top.cell_ (i := 1) rfl
  have c5 := h.top.cell_ (i := 5) rfl
  have hlb := h.lt.1
  have hlk := (look_is h.map hx).1
  have hme : (((s.many : Nat) : Int) == 60) = true := by rw [hm]; rfl
  clear h hx hm hk
  go_enter Tryz.func37, Tryz.ntmps37
  go_wp2
  go_ret2
  have hb : Below w.heap.size w (w.alloc (.cells #[.int .i64 v0, .int .i64 t0] 86)) := (Below.refl _ w).alloc (Nat.le_refl _) _
  refine ⟨?_, ?_, KeepP.of_below hb (Nat.le_refl _)⟩
  · unfold getV; rw [HE.out, if_neg (by decide)]; rfl
  · unfold getS; rw [HE.out, if_neg (by decide)]; exact ⟨gm, E, p, bv, H.out.below hb⟩
theorem valOf_ent {O : Nat → Prop} {w : World} {b slots gm : Nat} {E : List Ent} {p bv : Value} {s : Bk} (h : BAt O w b slots gm E p bv s) {k v0 t0 : Int} (hx : (k, v0, t0) ∈ E) : valOf s k = v0 := by
  have hk : k ∈ s.keys := by rw [← h.keys]; exact List.mem_map.2 ⟨_, hx, rfl⟩
  have h1 := valOf_mem hk
  rw [← h.mod] at h1
  obtain ⟨q, hq, hqe⟩ := List.mem_map.1 h1
  simp only [Prod.mk.injEq] at hqe
  have h2 := ent_one h.map.nodup hq hx hqe.1
  rw [← hqe.2, h2]
set_option maxHeartbeats 4000000 in
set_option maxRecDepth 100000 in
theorem get_some {O : Nat → Prop} (b slots gm : Nat) (E : List Ent) (p bv : Value) (s : Bk) (k v0 t0 : Int) (w : World) (h : BAt O w b slots gm E p bv s) (hx : (k, v0, t0) ∈ E) (hm : s.many ≠ 60) (ht : Tab w) :
    Calls Tryz.prog 37 #[.pointer (some ⟨b, 0, none⟩), .int .i64 k] w (GetPost O w b slots s k) := by
  have hk : k ∈ s.keys := by rw [← h.keys]; exact List.mem_map.2 ⟨_, hx, rfl⟩
  have HE : Hid (getE s k = 0) := Lib.hid (by unfold getE; rw [if_neg (by simpa using hk), if_neg hm])
  have HV := Lib.hid (valOf_ent h hx)
  have hrng := (h.ok.rng _ (valOf_mem hk)).1
  have hmany := h.ok.many
  have htext : s.text.length ≤ 2000 := by have := h.ok.text; omega
  have H := Lib.hid h; have HT := Lib.hid ht
  have c1 := h.top.cell_ (i := 1) rfl
  have c5 := h.top.cell_ (i := 5) rfl
  have hlb := h.lt.1
  have hlk := (look_is h.map hx).1
  obtain ⟨m, hmm⟩ : ∃ m, m = s.many := ⟨_, rfl⟩
  rw [← hmm] at hmany c5 hm
  have HMM := Lib.hid hmm
  have hme : ((m : Int) == 60) = false := beq_eq_false_iff_ne.2 (by omega)
  have HM1 : Hid (Mid w (w.alloc (.cells #[.int .i64 v0, .int .i64 t0] 86)) b gm slots m E p bv m s.text) := Lib.hid (by
    have h1 := (h.mid ht).alloc (.cells #[.int .i64 v0, .int .i64 t0] 86)
    rw [← hmm] at h1
    exact h1)
  have hbe : b ≠ w.heap.size := by omega
  have hinc : IntKind.i64.wrap ((m : Int) + 1) = (m : Int) + 1 := IntWalk.i64_in _ (by omega)
  obtain ⟨hk0, hk1⟩ := hrng
  have hk0 : 0 ≤ k := hk0
  have hk1 : k ≤ 1000000 := hk1
  have HEB : Hid (Blk (w.alloc (.cells #[.int .i64 v0, .int .i64 t0] 86)) w.heap.size 86 [.int .i64 v0, .int .i64 t0]) := Lib.hid (Blk.new w _ _)
  clear h ht hx hmm hm hk
  go_enter Tryz.func37, Tryz.ntmps37
  go_upto_region 6 with fail
  obtain ⟨w1, hw1⟩ : ∃ w1, w1 = w.alloc (.cells #[.int .i64 v0, .int .i64 t0] 86) := ⟨_, rfl⟩
  obtain ⟨eb, heb⟩ : ∃ eb, eb = w.heap.size := ⟨_, rfl⟩
  rw [← heb] at HEB hbe ⊢
  rw [← hw1] at HM1 HEB ⊢
  clear hw1 c1 c5 hlk
  have HM2 := Lib.hid (HM1.out.setTurn ((m : Int) + 1))
  have HEB2 : Hid (Blk (w1.setCell ⟨b, 2, none⟩ (.int .i64 ((m : Int) + 1))) eb 86 [.int .i64 v0, .int .i64 t0]) := Lib.hid (HEB.out.far (Ne.symm hbe) _)
  have HEO : Hid (∃ k, eb = k ∧ w.heap.size = k) := Lib.hid ⟨_, rfl, heb.symm⟩
  have e2 := HM1.out.cells.2.2.1
  have f2 := HM1.out.cells.2.2.2
  clear heb
  go_upto_region 7 with fail
  obtain ⟨w2, hw2⟩ : ∃ w2, w2 = w1.setCell ⟨b, 2, none⟩ (.int .i64 ((m : Int) + 1)) := ⟨_, rfl⟩
  rw [← hw2] at HM2 HEB2 ⊢
  clear hw2 e2 f2
  have e2 := HM2.out.cells.2.2.1
  have e1 := HM2.out.cells.2.1
  have g1 := HEB2.out.cell_ (i := 1) rfl
  have g1f := HEB2.out.free 1
  have hlo : w.heap.size ≤ eb := by obtain ⟨z, h1, h2⟩ := HEO.out; omega
  have HM3 := Lib.hid (HM2.out.far HEB2.out hlo 1 (.int .i64 ((m : Int) + 1)))
  have HEB3 := Lib.hid (HEB2.out.set 1 (.int .i64 ((m : Int) + 1)))
  clear hlo
  go_wp2
  obtain ⟨w3, hw3⟩ : ∃ w3, w3 = w2.setCell ⟨eb, 1, none⟩ (.int .i64 ((m : Int) + 1)) := ⟨_, rfl⟩
  rw [← hw3] at HM3 HEB3 ⊢
  clear hw3 e2 e1 g1 g1f
  have HM3 := Lib.hid HM3.out.drew
  have HEB3 := Lib.hid (HEB3.out.drew)
  have e1 := HM3.out.cells.2.1
  have g0 := HEB3.out.cell_ (i := 0) rfl
  have g1 := HEB3.out.cell_ (i := 1) rfl
  go_still_tail 6, (by kernel_rfl)
  go_wp2_with (at_mapUpdate; refine wpList_put_map rfl (.tmp 41) (.tmp 42) (.tmp 43) rfl gm E rfl HM3.out.map k v0 ((m : Int) + 1) rfl rfl ?_; intro w4 hm4 hg4 hs4; have HM4 := Lib.hid (HM3.out.setMap hm4 hg4); have HEB4 := Lib.hid (HEB3.out.grown hg4 (by intro e; injection e with e; exact HM3.out.map.ne HEB3.out e.symm)); clear hm4 hg4 hs4 e1 g0 g1)
  have HM5 := Lib.hid (HM4.out.alloc (.cells #[.int .i64 k] 3))
  have HEB5 := Lib.hid (HEB4.out.alloc (.cells #[.int .i64 k] 3))
  refine (down_any b gm slots ((m : Int) + 1) p bv m s.text [103] (some ⟨w4.heap.size, 0, none⟩) 1 1 [k] _ HM5.out.top HM5.out.hp HM5.out.txt HM5.out.tab rfl (one_in w4 k) (by intro x hx; simp at hx; subst hx; omega) (by omega) rfl htext (by omega) (by omega)).mono ?_
  rintro e w6 ⟨bv', rfl, hb6, ho6, hk6, hl6⟩
  rw [foldW_get] at ho6
  have HB6 := Lib.hid hb6; have HO6 := Lib.hid ho6; have HK6 := Lib.hid hk6; have HL6 := Lib.hid hl6
  have hgm6 : w6.heap[gm]? = (w4.alloc (.cells #[.int .i64 k] 3)).heap[gm]? := hk6.block gm HM5.out.map.lt (by
    have h1 := HM5.out.map.ne HM5.out.top
    have h2 := HM5.out.map.ne_own HM5.out.txt
    intro hm
    rcases List.mem_cons.1 hm with hm | hm
    · exact h1 hm
    · cases e : bv.ownBlock with
      | none => rw [e] at hm; simp at hm
      | some z => rw [e] at hm h2; simp at hm; rw [hm] at h2; exact h2 rfl)
  have HM6 := Lib.hid (HM5.out.map.keep hgm6)
  have hb6' : Blk w6 eb 86 [.int .i64 v0, .int .i64 ((m : Int) + 1)] := HEB5.out.keep hk6 (by
    intro hm
    rcases List.mem_cons.1 hm with hm | hm
    · exact HM5.out.top.ne HEB5.out (by decide) hm.symm
    · cases e : bv.ownBlock with
      | none => rw [e] at hm; simp at hm
      | some z => rw [e] at hm; simp at hm; exact HM5.out.txt.ne HEB5.out (by decide) (by rw [e, hm]))
  have z0 := hb6'.cell_ (i := 0) rfl
  clear hb6 ho6 hk6 hl6 hgm6 hb6'
  go_wp2
  go_ret2
  have hmc : ((s.many + 1 : Nat) : Int) = (m : Int) + 1 := by rw [HMM.out]; simp
  have hsz : w.heap.size ≤ w6.heap.size := Nat.le_trans HM5.out.keep.size HK6.out.size
  have hfin := H.out.getB (k := k) (w' := w6) (bv' := bv') HE.out (by rw [hmc]; exact HB6.out) (by rw [hmc, HV.out]; exact HM6.out) HO6.out hsz (fun x hx => by
    rcases HL6.out x hx with h1 | h1
    · exact .inl h1
    · exact .inr (Nat.le_trans HM5.out.keep.size h1))
  have hfin2 : BookAt O w6 b slots (getS s k) := ⟨gm, _, _, _, by unfold getS; rw [if_pos HE.out]; exact hfin⟩
  refine ⟨?_, hfin2, (HM5.out.keep.toP ?_).trans (HK6.out.toP ?_)⟩
  · unfold getV; rw [HE.out, if_pos rfl, HV.out]; rfl
  · intro x hx
    simp at hx
    rcases hx with rfl | rfl
    · exact H.out.ob
    · exact H.out.og
  · intro x hx
    rcases List.mem_cons.1 hx with rfl | hx
    · exact H.out.ob
    · cases e : bv.ownBlock with
      | none => rw [e] at hx; simp at hx
      | some z => rw [e] at hx; simp at hx; rw [hx]; exact H.out.ov z e
theorem get_any {O : Nat → Prop} (b slots : Nat) (s : Bk) (k : Int) (w : World) (h : BookAt O w b slots s) (ht : Tab w) :
    Calls Tryz.prog 37 #[.pointer (some ⟨b, 0, none⟩), .int .i64 k] w (GetPost O w b slots s k) := by
  obtain ⟨gm, E, p, bv, h⟩ := h
  by_cases hx : ∃ q ∈ E, q.1 = k
  · obtain ⟨⟨k', v0, t0⟩, hq, rfl⟩ := hx
    by_cases hm : s.many = 60
    · exact get_log b slots gm E p bv s _ v0 t0 w h hq hm
    · exact get_some b slots gm E p bv s _ v0 t0 w h hq hm ht
  · exact get_none b slots gm E p bv s k w h (fun q hq e => hx ⟨q, hq, e⟩)
end Go.Proofs.YticckfioggeaeaaGreatDoor
