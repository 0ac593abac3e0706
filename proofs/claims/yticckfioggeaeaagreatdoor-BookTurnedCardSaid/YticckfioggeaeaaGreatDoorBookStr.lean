/-
  A Builder that lies in a store: copyCheck, WriteString, String, by their contracts.
-/
import Derived.Test.YticckfioggeaeaaGreatDoorBookKeysWalk
import Derived.Lib.FrozenHead
import Derived.Lib.UnsafeStr
import Derived.Lib.Strings
import Derived.Shelf.RegionOpenPlain
import Derived.Laws.Externs
import Derived.BigRegion
namespace Go.Proofs.YticckfioggeaeaaGreatDoor
open Go.RowKit

/-- Bytes that a builder owns: the head of their row may be frozen. -/
def OwnB (w : World) (v : Value) (l : List UInt8) : Prop := w.ownsRowF 0 5 1 v l.length (Lib.byteCells l)
theorem OwnB.nil (w : World) : OwnB w (.slice none 0 0) [] := World.ownsRowF_nil w 0 _ 1
theorem OwnB.lt {w : World} {v : Value} {l : List UInt8} (h : OwnB w v l) : ∀ x, v.ownBlock = some x → x < w.heap.size := fun x hx => (World.ownsRowF.lt h x hx).2
theorem OwnB.keep {w w' : World} {v : Value} {l : List UInt8} (h : OwnB w v l) (hk : ∀ g, v.ownBlock = some g → w'.heap[g]? = w.heap[g]?) : OwnB w' v l := by
  obtain ⟨hl, h2⟩ := h
  refine ⟨hl, ?_⟩
  rcases h2 with h2 | ⟨g, cap, cur, fz, e, hb, hh, r⟩
  · exact .inl h2
  · exact .inr ⟨g, cap, cur, fz, e, hb, (hk g (by rw [e]; rfl)).trans hh, r⟩
theorem OwnB.ne {w : World} {v : Value} {l : List UInt8} {g : Nat} {t : TypeId} {cs : List Value} (h : OwnB w v l) (hb : Blk w g t cs) (ht : t ≠ 5) : v.ownBlock ≠ some g := Lib.ownBlock_neF h hb ht
theorem OwnB.shape {w : World} {v : Value} {l : List UInt8} (h : OwnB w v l) : ∃ a c, v = .slice a l.length c := by
  rcases h.2 with ⟨hv, h0⟩ | ⟨g, cap, cur, fz, hv, _⟩
  · exact ⟨none, 0, by rw [hv, h0]⟩
  · exact ⟨_, _, hv⟩
theorem shape_app {w : World} {v : Value} {l : List UInt8} {s : ByteArray} (h : OwnB w v (l ++ s.data.toList)) : ∃ a c, v = .slice a (l.length + s.size) c := by
  obtain ⟨a, c, e⟩ := h.shape
  exact ⟨a, c, by rw [e, List.length_append, Lib.size_eq s]⟩
theorem strCells_bytes (s : ByteArray) : Lib.strCells s = Lib.byteCells s.data.toList := rfl
theorem byteCells_append (l r : List UInt8) : Lib.byteCells (l ++ r) = Lib.byteCells l ++ Lib.byteCells r := by simp [Lib.byteCells]
theorem info_byte : (Tryz.prog.info? 5).map (fun i => (i.zero, i.size, i.bytes)) = some (some (.int .u8 0), 1, 1) := by kernel_rfl

set_option maxRecDepth 100000 in
/-- append(buf, s...): what comes out, and where it lies. -/
theorem append_str (ty : TypeId) {w : World} {v : Value} {l : List UInt8} (h : OwnB w v l) (s : ByteArray) (hlen : l.length + s.size ≤ 140737488355328) :
    ∃ v' w', (Builtin.append_ #[41, 9] ty #[v, .string s]).run Tryz.prog w = .ok v' w' ∧ OwnB w' v' (l ++ s.data.toList) ∧ w.grownBy w' v.ownBlock ∧ (∀ x, v'.ownBlock = some x → v.ownBlock = some x ∨ w.heap.size ≤ x) := by
  obtain ⟨i0, hi, hz0, hz1, hz2⟩ := info_parts info_byte
  obtain ⟨v', w', hr, h2, h3, h4⟩ := Lib.run_append_own_stringF (P := Tryz.prog) w 0 41 9 ty 5 i0 Tryz.underlying41 Tryz.underlying9 hi hz0 hz1 hz2 v l.length _ h s (by unfold maxLen; omega) hlen (Nat.zero_le _)
  refine ⟨v', w', hr, ?_, h3, ?_⟩
  · unfold OwnB
    rw [byteCells_append, List.length_append, ← strCells_bytes, show s.data.toList.length = s.size from (Lib.size_eq s).symm]
    exact h2
  · intro x hx
    rcases h.2 with ⟨rfl, h0⟩ | ⟨g, cap, cur, fz, rfl, hbg, hg, hfz, hnc, hcm, hcs, htake⟩
    · right
      have hl : l = [] := List.length_eq_zero_iff.1 h0
      subst hl
      obtain ⟨v2, w2, hr2, k2, _⟩ := Lib.run_append_own_stringF (P := Tryz.prog) w w.heap.size 41 9 ty 5 i0 Tryz.underlying41 Tryz.underlying9 hi hz0 hz1 hz2 (.slice none 0 0) 0 [] (World.ownsRowF_nil _ _ _ _) s (by unfold maxLen; simp at hlen; omega) (by simpa using hlen) (Nat.le_refl _)
      rw [hr] at hr2
      injection hr2 with e1 _
      subst e1
      exact (World.ownsRowF.lt k2 x hx).1
    · by_cases hroom : l.length + s.size ≤ cap
      · left
        have hr2 := Lib.run_append_room_stringF (P := Tryz.prog) w 41 9 ty 5 i0 Tryz.underlying41 Tryz.underlying9 hi hz1 g l.length cap cur fz hg (by simpa using hfz) s hroom (by simp at hcs; omega)
        rw [hr] at hr2
        injection hr2 with e1 _
        subst e1
        exact hx
      · right
        have hr2 := Lib.run_append_grow_string (P := Tryz.prog) w 41 9 ty 5 i0 (.int .u8 0) Tryz.underlying41 Tryz.underlying9 hi hz0 ⟨g, 0, none⟩ l.length cap (Lib.byteCells l) (by rw [hz1]; simp [Lib.byteCells]) (World.ownsRowF.cells h (g := g) rfl) s (by omega) (by omega) (by rw [hz2]; exact growslice_fits (by omega) (by omega))
        rw [hr] at hr2
        injection hr2 with e1 _
        subst e1
        simp only [Value.ownBlock, Option.some.injEq] at hx
        omega
section
variable {w : World} {ops : Array Oper} {rest : List Oper} {o : Oper} {a : Act} {Q : Exit → Act → World → Prop}
theorem wpList_append_str (hg : o.guard = none) (sl x : Operand) (hop : o.op = Op.call { callee := Callee.builtin Builtin.append, args := #[sl, x], argTypes := #[41, 9] }) (v : Value) (l : List UInt8) (hs : a.eval sl = v) (hown : OwnB w v l) (s : ByteArray) (hx : a.eval x = .string s) (hlen : l.length + s.size ≤ 140737488355328)
    (hK : ∀ v' w', OwnB w' v' (l ++ s.data.toList) → w.grownBy w' v.ownBlock → (∀ x, v'.ownBlock = some x → v.ownBlock = some x ∨ w.heap.size ≤ x) → wpList Tryz.prog ops Q rest (a.put o.dst v') w') :
    wpList Tryz.prog ops Q (o :: rest) a w := by
  refine wpList_plain hg fun K' hK' => ?_
  obtain ⟨v', w', hrun, r1, r2, r3⟩ := append_str o.type hown s hlen
  unfold Oper.wp
  simp [execOp, hop, resolve, invoke, builtin, hs, hx, hrun, Result.andThen]
  exact hK' _ _ (hK v' w' r1 r2 r3)
end

/-! ### copyCheck -/
theorem size_builder : (Tryz.prog.info? 70).map (·.size) = some 2 := by kernel_rfl
theorem lies_builder : liesAt Tryz.prog Tryz.prog.depth 72 (6 / Tryz.prog.cellsOf 72) 3 70 1 = true := by kernel_rfl
set_option maxHeartbeats 1000000 in
set_option maxRecDepth 100000 in
theorem copyCheck_used (b : Nat) (w : World) (h0 : w.cell? ⟨b, 3, none⟩ = some (.pointer (some ⟨b, 3, none⟩))) :
    Calls Tryz.prog 67 #[.pointer (some ⟨b, 3, none⟩)] w fun e w' => e = .returned (.tuple #[]) ∧ w = w' := by
  obtain ⟨j, hj, _⟩ := Option.map_eq_some_iff.1 size_builder
  go_enter Tryz.func67, Tryz.ntmps67
  go_wp2
  rw [Lib.run_neq_ptr_same w _ Tryz.underlying68 hj]
  go_wp2
  go_end0
  exact ⟨rfl, rfl⟩
set_option maxHeartbeats 1000000 in
set_option maxRecDepth 100000 in
theorem copyCheck_fresh (b : Nat) (w : World) (h0 : w.cell? ⟨b, 3, none⟩ = some (.pointer none)) (hsh : w.shape? b = some (72, 6)) (hfz : w.frozen? ⟨b, 3, none⟩ = false) :
    Calls Tryz.prog 67 #[.pointer (some ⟨b, 3, none⟩)] w fun e w' => e = .returned (.tuple #[]) ∧ w' = w.setCell ⟨b, 3, none⟩ (.pointer (some ⟨b, 3, none⟩)) := by
  obtain ⟨j, hj, hjs⟩ := Option.map_eq_some_iff.1 size_builder
  go_enter Tryz.func67, Tryz.ntmps67
  go_wp2
  rw [Lib.run_to_unsafe w ⟨b, 3, none⟩ Tryz.underlying68 Tryz.underlying122 hj (by rw [hjs]; decide) hsh (by show 3 < 6; decide)]
  simp only [Result.andThen]
  rw [Oper.upon_value]
  go_wp2
  rw [run_callFunc_extern Tryz.func95 (by kernel_rfl) (by kernel_rfl) (by kernel_rfl) (e := Extern.AbiNoEscape.same) (by kernel_rfl)]
  rw [Lib.run_noEscape]
  simp only [Result.andThen]
  rw [Oper.upon_value]
  go_wp2
  rw [Lib.run_from_unsafe w ⟨b, 3, none⟩ Tryz.underlying122 Tryz.underlying68 hj hsh lies_builder]
  simp only [Result.andThen]
  rw [Oper.upon_value]
  go_wp2
  go_end0
  exact ⟨rfl, rfl⟩

/-- A store's block. -/
abbrev stCells (slots : Int) (gm : Nat) (turn : Int) (p bv : Value) (many : Int) : List Value := [.int .i64 slots, .map (some gm), .int .i64 turn, p, bv, .int .i64 many]
def CheckPost (w : World) (b gm : Nat) (slots turn : Int) (bv : Value) (many : Int) (e : Ending) (w' : World) : Prop :=
  e = .returned (.tuple #[]) ∧ Blk w' b 72 (stCells slots gm turn (.pointer (some ⟨b, 3, none⟩)) bv many) ∧ Keep [b] w w'
theorem copyCheck_any (b gm : Nat) (slots turn : Int) (p bv : Value) (many : Int) (w : World) (h : Blk w b 72 (stCells slots gm turn p bv many)) (hp : p = .pointer none ∨ p = .pointer (some ⟨b, 3, none⟩)) :
    Calls Tryz.prog 67 #[.pointer (some ⟨b, 3, none⟩)] w (CheckPost w b gm slots turn bv many) := by
  rcases hp with rfl | rfl
  · have hsh : w.shape? b = some (72, 6) := by unfold Blk at h; simp [World.shape?, h]
    refine (copyCheck_fresh b w (h.cell_ (i := 3) rfl) hsh (h.free 3)).mono ?_
    rintro e w' ⟨rfl, rfl⟩
    exact ⟨rfl, h.set 3 _, (Keep.refl _ w).set (fun _ => by simp) _⟩
  · refine (copyCheck_used b w (h.cell_ (i := 3) rfl)).mono ?_
    rintro e w' ⟨rfl, rfl⟩
    exact ⟨rfl, h, Keep.refl _ _⟩

/-! ### WriteString -/
def WritePost (w : World) (b gm : Nat) (slots turn : Int) (bv : Value) (many : Int) (l : List UInt8) (s : ByteArray) (e : Ending) (w' : World) : Prop :=
  ∃ bv', e = .returned (.tuple #[.int .i64 s.size, .nilIface]) ∧ Blk w' b 72 (stCells slots gm turn (.pointer (some ⟨b, 3, none⟩)) bv' many) ∧ OwnB w' bv' (l ++ s.data.toList) ∧ Keep (b :: bv.ownBlock.toList) w w' ∧ (∀ x, bv'.ownBlock = some x → bv.ownBlock = some x ∨ w.heap.size ≤ x)
set_option maxHeartbeats 1000000 in
set_option maxRecDepth 100000 in
theorem writeString_any (b gm : Nat) (slots turn : Int) (p bv : Value) (many : Int) (l : List UInt8) (s : ByteArray) (w : World) (h : Blk w b 72 (stCells slots gm turn p bv many)) (hp : p = .pointer none ∨ p = .pointer (some ⟨b, 3, none⟩)) (ho : OwnB w bv l) (hlen : l.length + s.size ≤ 140737488355328) :
    Calls Tryz.prog 39 #[.pointer (some ⟨b, 3, none⟩), .string s] w (WritePost w b gm slots turn bv many l s) := by
  have H := Lib.hid h; have HO := Lib.hid ho; have HP := Lib.hid hp
  clear h ho hp
  go_enter Tryz.func39, Tryz.ntmps39
  go_wp2_with fail
  refine (copyCheck_any b gm slots turn p bv many _ H.out HP.out).mono ?_
  rintro e w1 ⟨rfl, hb1, hk1⟩
  have c4 := hb1.cell_ (i := 4) rfl
  have HB1 := Lib.hid hb1; have HK1 := Lib.hid hk1
  have ho1 := HO.out.keep (w' := w1) (fun g hg => hk1.block g (HO.out.lt g hg) (by simp; rintro rfl; exact HO.out.ne H.out (by decide) hg))
  have HO1 := Lib.hid ho1
  clear hb1 hk1 ho1
  go_wp2_with (at_builtin; refine wpList_append_str rfl (.tmp 12) (.tmp 13) rfl bv l rfl HO1.out s rfl hlen ?_; intro bv' w2 hown2 hgrow2 hlies; have hb2 : Blk w2 b 72 (stCells slots gm turn (.pointer (some ⟨b, 3, none⟩)) bv many) := HB1.out.grown hgrow2 (fun e => HO1.out.ne HB1.out (by decide) e.symm); have f4 := hb2.free 4; have d4 := hb2.cell_ (i := 4) rfl; have HB2 := Lib.hid hb2; have HO2 := Lib.hid hown2; have HG2 := Lib.hid hgrow2; have HL2 := Lib.hid hlies; clear hb2 hown2 hgrow2 hlies; (obtain ⟨a', c', hv'⟩ := shape_app HO2.out); have HV' := Lib.hid hv'; rw [hv']; clear hv')
  go_ret2
  refine ⟨bv', rfl, ?_, ?_, ?_, ?_⟩
  · rw [HV'.out]
    exact HB2.out.set 4 _
  · rw [← HV'.out]
    refine HO2.out.keep fun g hg => ?_
    refine Below.heap_setCell _ _ _ g ?_
    rintro rfl
    exact HO2.out.ne HB2.out (by decide) hg
  · have h1 : Keep (b :: bv.ownBlock.toList) w w2 := ((HK1.out.mono (by simp)).grown HG2.out (fun k hk _ => by rw [hk]; simp))
    exact h1.set (fun _ => by simp) _
  · intro x hx
    rcases HL2.out x hx with h | h
    · exact .inl h
    · exact .inr (Nat.le_trans HK1.out.size h)

/-! ### String -/
theorem freeze_other (w : World) (g n k : Nat) (hk : k ≠ g) : (w.freeze ⟨g, 0, none⟩ n).heap[k]? = w.heap[k]? := by
  unfold World.freeze
  split
  · rfl
  · simp only [Array.getElem?_modify]
    rw [if_neg (fun e => hk e.symm)]
theorem freeze_keep (w : World) (g n : Nat) : Keep [g] w (w.freeze ⟨g, 0, none⟩ n) := by
  refine ⟨?_, ?_, ?_, ?_, fun k _ hk => freeze_other w g n k (by simpa using hk)⟩
  all_goals (unfold World.freeze; split <;> simp)
theorem OwnB.froze {w : World} {g cap : Nat} {l : List UInt8} (h : OwnB w (.slice (some ⟨g, 0, none⟩) l.length cap) l) : OwnB (w.freeze ⟨g, 0, none⟩ l.length) (.slice (some ⟨g, 0, none⟩) l.length cap) l := by
  unfold World.freeze
  split
  · exact h
  · obtain ⟨hl, h2⟩ := h
    refine ⟨hl, ?_⟩
    rcases h2 with ⟨hv, _⟩ | ⟨g', cap', cur, fz, hv, hb, hh, hfz, r⟩
    · cases hv
    · injection hv with ha _ hcap
      injection ha with ha
      injection ha with hgg _ _
      subst hgg
      subst hcap
      obtain ⟨lo, hi⟩ := fz
      refine .inr ⟨g, _, cur, (if lo == hi then (0, 0 + l.length) else (min lo 0, max hi (0 + l.length))), rfl, hb, ?_, ?_, r⟩
      · simp [Array.getElem?_modify, hh]
      · simp only at hfz
        split <;> simp <;> omega
theorem cells_byte : Tryz.prog.cellsOf 5 = 1 := by kernel_rfl
def StringPost (w : World) (b gm : Nat) (slots turn : Int) (p bv : Value) (many : Int) (l : List UInt8) (e : Ending) (w' : World) : Prop :=
  e = .returned (.string ⟨l.toArray⟩) ∧ Blk w' b 72 (stCells slots gm turn p bv many) ∧ OwnB w' bv l ∧ Keep bv.ownBlock.toList w w'
set_option maxHeartbeats 2000000 in
set_option maxRecDepth 100000 in
theorem string_some (b gm : Nat) (slots turn : Int) (p bv : Value) (many : Int) (l : List UInt8) (w : World) (h : Blk w b 72 (stCells slots gm turn p bv many)) (ho : OwnB w bv l) (h0 : l ≠ []) :
    Calls Tryz.prog 35 #[.pointer (some ⟨b, 3, none⟩)] w (StringPost w b gm slots turn p bv many l) := by
  have hl0 : l.length ≠ 0 := by simpa using h0
  have HO := Lib.hid ho; have H := Lib.hid h
  obtain ⟨g, cap, cur, fz, hv, hg, hfz, hnc, hcm, hcs⟩ : ∃ g cap cur fz, bv = .slice (some ⟨g, 0, none⟩) l.length cap ∧ w.heap[g]? = some (.cells cur 5 fz) ∧ fz.2 ≤ l.length * 1 ∧ l.length ≤ cap ∧ cap ≤ maxLen ∧ cur.size = cap * 1 := by
    rcases ho.2 with ⟨_, hz⟩ | ⟨g, cap, cur, fz, hv, _, hg, r1, r2, r3, r4, _⟩
    · exact absurd hz hl0
    · exact ⟨g, cap, cur, fz, hv, hg, r1, r2, r3, r4⟩
  subst hv
  have c1 := h.cell_ (i := 4) rfl
  have hne := ho.ne h (by decide)
  simp only [Value.ownBlock, ne_eq, Option.some.injEq] at hne
  have hSD : (Builtin.unsafeSliceData_ #[41] 103 #[.slice (some ⟨g, 0, none⟩) l.length cap]).run Tryz.prog w.drew = .ok (.pointer (some ⟨g, 0, none⟩)) w.drew :=
    Lib.run_unsafeSliceData_row _ _ _ _ _ _ (by omega)
  have hUS : (Builtin.unsafeString_ #[103, 3] 9 #[.pointer (some ⟨g, 0, none⟩), .int .i64 l.length]).run Tryz.prog w.drew = .ok (.string ⟨l.toArray⟩) (w.drew.freeze ⟨g, 0, none⟩ l.length) := by
    refine Lib.run_unsafeString_row w.drew 103 3 9 5 Tryz.underlying103 cells_byte g cur.size (by have hg' : w.drew.heap[g]? = some (.cells cur 5 fz) := hg; simp [World.shape?, hg']) l h0 (by omega) (by unfold maxLen at hcm; omega) ?_
    intro j x hx
    exact World.ownsRowF.cells ho (g := g) rfl j (.int .u8 x.toNat) (by simp [Lib.byteCells, hx])
  have HW : Hid (Blk (w.drew.freeze ⟨g, 0, none⟩ l.length) b 72 (stCells slots gm turn p (.slice (some ⟨g, 0, none⟩) l.length cap) many)) := Lib.hid (h.drew.keep (freeze_keep _ g _) (by simpa using Ne.symm hne))
  have HF : Hid (OwnB (w.drew.freeze ⟨g, 0, none⟩ l.length) (.slice (some ⟨g, 0, none⟩) l.length cap) l) := Lib.hid (OwnB.froze (w := w.drew) ho)
  have HK : Hid (Keep [g] w (w.drew.freeze ⟨g, 0, none⟩ l.length)) := Lib.hid ((Keep.refl _ w).drew.trans (freeze_keep _ g _))
  clear h ho hg hfz hnc hcm hcs hne h0
  obtain ⟨n, hn⟩ : ∃ n, n = l.length := ⟨_, rfl⟩
  have HN := Lib.hid hn
  go_enter Tryz.func35, Tryz.ntmps35
  go_wp2
  go_region
  all_goals (go_wp2; go_ret; exact ⟨rfl, HW.out, HF.out, HK.out⟩)
set_option maxHeartbeats 2000000 in
set_option maxRecDepth 100000 in
theorem string_none (b gm : Nat) (slots turn : Int) (p : Value) (many : Int) (w : World) (h : Blk w b 72 (stCells slots gm turn p (.slice none 0 0) many)) :
    Calls Tryz.prog 35 #[.pointer (some ⟨b, 3, none⟩)] w (StringPost w b gm slots turn p (.slice none 0 0) many []) := by
  have H := Lib.hid h
  have c1 := h.cell_ (i := 4) rfl
  have hSD : (Builtin.unsafeSliceData_ #[41] 103 #[.slice none 0 0]).run Tryz.prog w.drew = .ok (.pointer none) w.drew := rfl
  have hUS := fun (W : World) (q : Option Addr) => Lib.run_unsafeString_none (P := Tryz.prog) W 103 3 9 q
  clear h
  go_enter Tryz.func35, Tryz.ntmps35
  go_wp2
  go_region
  all_goals (go_wp2; go_ret; exact ⟨rfl, H.out.drew, OwnB.nil _, (Keep.refl _ w).drew⟩)
theorem string_any (b gm : Nat) (slots turn : Int) (p bv : Value) (many : Int) (l : List UInt8) (w : World) (h : Blk w b 72 (stCells slots gm turn p bv many)) (ho : OwnB w bv l) (h0 : l = [] → bv = .slice none 0 0) :
    Calls Tryz.prog 35 #[.pointer (some ⟨b, 3, none⟩)] w (StringPost w b gm slots turn p bv many l) := by
  by_cases e : l = []
  · obtain rfl := h0 e
    subst e
    exact string_none b gm slots turn p many w h
  · exact string_some b gm slots turn p bv many l w h ho e
end Go.Proofs.YticckfioggeaeaaGreatDoor
