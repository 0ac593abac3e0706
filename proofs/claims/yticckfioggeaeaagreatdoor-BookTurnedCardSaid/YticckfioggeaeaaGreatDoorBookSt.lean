/-
  How a store lies in memory.
-/
import Derived.Test.YticckfioggeaeaaGreatDoorBookDown
import Derived.Test.YticckfioggeaeaaGreatDoorErrW
namespace Go.Proofs.YticckfioggeaeaaGreatDoor
open Go.RowKit

/-- Of the blocks that there were, only those that O names may have turned. -/
structure KeepP (O : Nat → Prop) (w w' : World) : Prop where
  os : w'.os = w.os
  tape : w'.tape = w.tape
  output : w'.output = w.output
  size : w.heap.size ≤ w'.heap.size
  block : ∀ k, k < w.heap.size → ¬ O k → w'.heap[k]? = w.heap[k]?
section
variable {O : Nat → Prop} {w w' w'' : World} {F : List Nat}
theorem KeepP.refl (O : Nat → Prop) (w : World) : KeepP O w w := ⟨rfl, rfl, rfl, Nat.le_refl _, fun _ _ _ => rfl⟩
theorem KeepP.trans (h : KeepP O w w') (k : KeepP O w' w'') : KeepP O w w'' :=
  ⟨k.os.trans h.os, k.tape.trans h.tape, k.output.trans h.output, Nat.le_trans h.size k.size, fun x hx hO => (k.block x (Nat.lt_of_lt_of_le hx h.size) hO).trans (h.block x hx hO)⟩
theorem Keep.toP (h : Keep F w w') (hF : ∀ x ∈ F, O x) : KeepP O w w' := ⟨h.os, h.tape, h.output, h.size, fun x hx hO => h.block x hx (fun hm => hO (hF x hm))⟩
theorem KeepP.of_below {B : Nat} (h : Below B w w') (hB : w.heap.size ≤ B) : KeepP O w w' := ⟨h.os, h.tape, h.output, h.size, fun x hx _ => h.block x (by omega)⟩
theorem KeepP.toBelow {B : Nat} (h : KeepP O w w') (hB : B ≤ w.heap.size) (hO : ∀ x, x < B → ¬ O x) : Below B w w' := ⟨h.os, h.tape, h.output, h.size, fun x hx => h.block x (by omega) (hO x hx)⟩
theorem KeepP.mono {O' : Nat → Prop} (h : KeepP O w w') (hO : ∀ x, O x → O' x) : KeepP O' w w' := ⟨h.os, h.tape, h.output, h.size, fun x hx hn => h.block x hx (fun ho => hn (hO x ho))⟩
end

structure BAt (O : Nat → Prop) (w : World) (b slots gm : Nat) (E : List Ent) (p bv : Value) (s : Bk) : Prop where
  top : Blk w b 72 (stCells slots gm s.many p bv s.many)
  hp : p = .pointer none ∨ p = .pointer (some ⟨b, 3, none⟩)
  map : MapAt w gm E
  srt : E.Pairwise fun p q => q.2.2 < p.2.2
  mod : E.map (fun e => (e.1, e.2.1)) = s.M
  trn : ∀ e ∈ E, e.2.2 ≤ s.many
  txt : OwnB w bv s.text
  nil : s.text = [] → bv = .slice none 0 0
  ok : BkOk slots s
  s1 : 1 ≤ slots
  s8 : slots ≤ 8
  ob : O b
  og : O gm
  ov : ∀ x, bv.ownBlock = some x → O x
  on : ∀ x, w.heap.size ≤ x → O x
def BookAt (O : Nat → Prop) (w : World) (b slots : Nat) (s : Bk) : Prop := ∃ gm E p bv, BAt O w b slots gm E p bv s
theorem MapAt.ne {w : World} {g b : Nat} {M : List Ent} {t : TypeId} {cs : List Value} (h : MapAt w g M) (hb : Blk w b t cs) : g ≠ b := by
  obtain ⟨L, c, hl, _⟩ := h
  rintro rfl
  have := hl.blk
  unfold Blk at hb
  rw [hb] at this
  cases this
theorem MapAt.ne_own {w : World} {g : Nat} {M : List Ent} {v : Value} {l : List UInt8} (h : MapAt w g M) (ho : OwnB w v l) : v.ownBlock ≠ some g := by
  obtain ⟨L, c, hl, _⟩ := h
  intro e
  rcases ho.2 with ⟨rfl, _⟩ | ⟨g', cap, cur, fz, rfl, _, hg, _⟩
  · simp [Value.ownBlock] at e
  · simp only [Value.ownBlock, Option.some.injEq] at e
    subst e
    have := hl.blk
    rw [hg] at this
    cases this
theorem Tab.cells {w : World} (h : Tab w) : w.cell? ⟨4, 0, none⟩ = some (.int .u64 1) := Lib.TabIs.cell h global_tab 0 (by decide)
theorem Tab.lt {w : World} (h : Tab w) : 4 < w.heap.size := World.block_lt_of_cell? w _ h.cells
theorem Tab.ne_map {w : World} {g : Nat} {M : List Ent} (h : Tab w) (hm : MapAt w g M) : g ≠ 4 := by
  rintro rfl
  obtain ⟨L, c, hl, _⟩ := hm
  have := h.cells
  simp [World.cell?, hl.blk] at this
theorem Tab.ne_st {w : World} {b gm : Nat} {slots turn : Int} {p bv : Value} {many : Int} (h : Tab w) (hb : Blk w b 72 (stCells slots gm turn p bv many)) : b ≠ 4 := by
  rintro rfl
  have := h.cells
  rw [hb.cell 0] at this
  simp at this
theorem Tab.keep {w w' : World} {F : List Nat} (h : Tab w) (hk : Keep F w w') (hF : 4 ∉ F) : Tab w' := by
  have hlt := h.lt
  unfold Tab Lib.TabIs World.var? at *
  rw [global_tab] at *
  simp only [Option.bind_some] at *
  rw [hk.block _ hlt hF]
  exact h
section
variable {O : Nat → Prop} {w w' : World} {b slots gm : Nat} {E : List Ent} {p bv : Value} {s : Bk}
theorem BAt.len (h : BAt O w b slots gm E p bv s) : E.length = s.M.length := by rw [← h.mod, List.length_map]
theorem BAt.keys (h : BAt O w b slots gm E p bv s) : E.map (·.1) = s.keys := by unfold Bk.keys; rw [← h.mod, List.map_map]; rfl
theorem BAt.ent (h : BAt O w b slots gm E p bv s) : EntAt w b gm E := ⟨h.top.cell_ (i := 1) rfl, h.map, h.srt, by have := h.len; have := h.ok.len; have := h.s8; omega⟩
theorem BAt.lt (h : BAt O w b slots gm E p bv s) : b < w.heap.size ∧ gm < w.heap.size := ⟨h.top.lt, h.map.lt⟩
/-- What is done elsewhere. -/
theorem BAt.away (h : BAt O w b slots gm E p bv s) {O2 : Nat → Prop} (hk : KeepP O2 w w') (hd : ∀ x, x < w.heap.size → O x → ¬ O2 x) : BAt (fun x => O x ∧ (x < w.heap.size ∨ w'.heap.size ≤ x)) w' b slots gm E p bv s :=
  { h with
    top := (hk.block b h.top.lt (hd b h.top.lt h.ob)).trans h.top
    map := h.map.keep (hk.block gm h.map.lt (hd gm h.map.lt h.og))
    txt := h.txt.keep fun x hx => hk.block x (h.txt.lt x hx) (hd x (h.txt.lt x hx) (h.ov x hx))
    ob := ⟨h.ob, .inl h.top.lt⟩
    og := ⟨h.og, .inl h.map.lt⟩
    ov := fun x hx => ⟨h.ov x hx, .inl (h.txt.lt x hx)⟩
    on := fun x hx => ⟨h.on x (Nat.le_trans hk.size hx), .inr hx⟩ }
theorem BAt.below (h : BAt O w b slots gm E p bv s) (hb : Below w.heap.size w w') : BAt O w' b slots gm E p bv s :=
  { h with
    top := (hb.block b h.top.lt).trans h.top
    map := h.map.keep (hb.block gm h.map.lt)
    txt := h.txt.keep fun x hx => hb.block x (h.txt.lt x hx)
    on := fun x hx => h.on x (Nat.le_trans hb.size hx) }
theorem BookAt.away (h : BookAt O w b slots s) {O2 : Nat → Prop} (hk : KeepP O2 w w') (hd : ∀ x, x < w.heap.size → O x → ¬ O2 x) : BookAt (fun x => O x ∧ (x < w.heap.size ∨ w'.heap.size ≤ x)) w' b slots s := by
  obtain ⟨gm, E, p, bv, h⟩ := h
  exact ⟨gm, E, p, bv, h.away hk hd⟩
theorem BookAt.below (h : BookAt O w b slots s) (hb : Below w.heap.size w w') : BookAt O w' b slots s := by
  obtain ⟨gm, E, p, bv, h⟩ := h
  exact ⟨gm, E, p, bv, h.below hb⟩
theorem BookAt.ok (h : BookAt O w b slots s) : BkOk slots s ∧ 1 ≤ slots ∧ slots ≤ 8 := by
  obtain ⟨gm, E, p, bv, h⟩ := h
  exact ⟨h.ok, h.s1, h.s8⟩
end

/-! ### New -/
def NewPost (w : World) (slots : Nat) (e : Ending) (w' : World) : Prop := ∃ b, e = .returned (.tuple #[.pointer (some ⟨b, 0, none⟩), .nilIface]) ∧ BookAt (fun x => w.heap.size ≤ x) w' b slots bk0 ∧ w.heap.size ≤ b ∧ Below w.heap.size w w'
theorem new_no (n : Int) (w : World) (h : ¬ (1 ≤ n ∧ n ≤ 8)) : Calls Tryz.prog 23 #[.int .i64 n] w fun e w' => e = .returned (.tuple #[.pointer none, errv 1]) ∧ w = w' := by
  go_enter Tryz.func23, Tryz.ntmps23
  go_wp2_with (go_at_call 44; refine (within_no _ _ _ _ (by omega)).mono ?_; rintro e w' ⟨rfl, rfl⟩)
  go_ret2
  exact ⟨rfl, rfl⟩
set_option maxRecDepth 100000 in
theorem new_yes (n : Nat) (w : World) (h1 : 1 ≤ n) (h2 : n ≤ 8) : Calls Tryz.prog 23 #[.int .i64 n] w (NewPost w n) := by
  have hmm := @run_makeMap Tryz.prog
  go_enter Tryz.func23, Tryz.ntmps23
  go_wp2_with (go_at_call 44; refine (within_yes _ _ _ _ (by omega) (by omega)).mono ?_; rintro e w' ⟨rfl, rfl⟩)
  go_ret2
  refine ⟨w.heap.size + 1, rfl, ⟨w.heap.size, [], .pointer none, .slice none 0 0, ?_⟩, by omega, ?_⟩
  · refine { top := ?_, hp := .inl rfl, map := ?_, srt := List.Pairwise.nil, mod := rfl, trn := by simp, txt := OwnB.nil _, nil := fun _ => rfl, ok := bk0_ok n, s1 := h1, s8 := h2, ob := by omega, og := Nat.le_refl _, ov := by simp [Value.ownBlock], on := fun x hx => by simp at hx; omega }
    · have := Blk.new (w.alloc (.map #[] 0)) 72 (stCells n w.heap.size 0 (.pointer none) (.slice none 0 0) 0)
      rw [World.size_alloc] at this
      exact this
    · exact (mapAt_new w).keep (Below.heap_alloc _ _ _ (by simp))
  · exact (((Below.refl _ w).alloc (Nat.le_refl _) _).alloc (by simp) _)

/-! ### Keys, Text -/
def KeysB (w : World) (s : Bk) (e : Ending) (w' : World) : Prop := ∃ v, e = .returned v ∧ OwnInts w' w.heap.size v s.keys ∧ Below w.heap.size w w'
theorem keysB_any {O : Nat → Prop} {b slots : Nat} {s : Bk} (w : World) (h : BookAt O w b slots s) :
    Calls Tryz.prog 16 #[.pointer (some ⟨b, 0, none⟩)] w (KeysB w s) := by
  obtain ⟨gm, E, p, bv, h⟩ := h
  have HE := Lib.hid h.ent; have HK := Lib.hid h.keys
  clear h
  go_enter Tryz.func16, Tryz.ntmps16
  go_wp2_with fail
  refine (keys_any b gm E _ HE.out).mono ?_
  rintro e w1 ⟨v, rfl, ho, hb⟩
  have HO := Lib.hid ho; have HB := Lib.hid hb
  obtain ⟨a, c, hv, _⟩ := ho.shape
  rw [List.length_map] at hv
  have HV := Lib.hid hv
  rw [HV.out]
  clear ho hb hv
  go_wp2
  go_ret
  exact ⟨v, ret_eq HV.out.symm, by rw [← HK.out]; exact HO.out, HB.out⟩
def TextPost (O : Nat → Prop) (w : World) (b slots : Nat) (s : Bk) (e : Ending) (w' : World) : Prop := e = .returned (.string ⟨s.text.toArray⟩) ∧ BookAt O w' b slots s ∧ KeepP O w w'
theorem text_any {O : Nat → Prop} {b slots : Nat} {s : Bk} (w : World) (h : BookAt O w b slots s) :
    Calls Tryz.prog 14 #[.pointer (some ⟨b, 0, none⟩)] w (TextPost O w b slots s) := by
  obtain ⟨gm, E, p, bv, h⟩ := h
  have H := Lib.hid h
  clear h
  go_enter Tryz.func14, Tryz.ntmps14
  go_wp2_with fail
  refine (string_any b gm slots s.many p bv s.many s.text _ H.out.top H.out.txt H.out.nil).mono ?_
  rintro e w1 ⟨rfl, hb, ho, hk⟩
  have HB := Lib.hid hb; have HO := Lib.hid ho; have HK := Lib.hid hk
  clear hb ho hk
  go_wp2
  go_ret
  have h := H.out
  refine ⟨rfl, ⟨gm, E, p, bv, { h with top := HB.out, txt := HO.out, map := h.map.keep (HK.out.block gm h.map.lt ?_), on := fun x hx => h.on x (Nat.le_trans HK.out.size hx) }⟩, HK.out.toP ?_⟩
  · intro hm
    have := h.map.ne_own h.txt
    cases e : bv.ownBlock with
    | none => rw [e] at hm; simp at hm
    | some y => rw [e] at hm this; simp at hm; rw [hm] at this; exact this rfl
  · intro x hx
    cases e : bv.ownBlock with
    | none => rw [e] at hx; simp at hx
    | some y => rw [e] at hx; simp at hx; rw [hx]; exact h.ov y e
end Go.Proofs.YticckfioggeaeaaGreatDoor
