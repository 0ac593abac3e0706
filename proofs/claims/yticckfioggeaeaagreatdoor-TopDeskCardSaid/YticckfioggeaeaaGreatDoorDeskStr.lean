/-
  A Builder in a block of its own, its row not frozen: copyCheck, WriteString, WriteByte; String, by their contracts (printed by wip/gen_deskstr.py from XBookStr).
-/
import Derived.Test.YticckfioggeaeaaGreatDoorGD
import Derived.Lib.AppendStr
set_option linter.unusedVariables false
set_option linter.unusedSimpArgs false
set_option linter.unnecessarySimpa false
namespace Go.Proofs.YticckfioggeaeaaGreatDoor
open Go.RowKit

/-- Bytes that a builder owns. -/
def OwnU (w : World) (v : Value) (l : List UInt8) : Prop := w.ownsRow 0 5 1 v l.length (Lib.byteCells l)
theorem OwnU.nil (w : World) : OwnU w (.slice none 0 0) [] := World.ownsRow_nil w 0 _ 1
theorem OwnU.toB {w : World} {v : Value} {l : List UInt8} (h : OwnU w v l) : OwnB w v l := World.ownsRowF_of h
theorem OwnU.lt {w : World} {v : Value} {l : List UInt8} (h : OwnU w v l) : ∀ x, v.ownBlock = some x → x < w.heap.size := h.toB.lt
theorem OwnU.keep {w w' : World} {v : Value} {l : List UInt8} (h : OwnU w v l) (hk : ∀ g, v.ownBlock = some g → w'.heap[g]? = w.heap[g]?) : OwnU w' v l := by
  obtain ⟨hl, h2⟩ := h
  refine ⟨hl, ?_⟩
  rcases h2 with h2 | ⟨g, cap, cur, e, hb, hh, r⟩
  · exact .inl h2
  · exact .inr ⟨g, cap, cur, e, hb, (hk g (by rw [e]; rfl)).trans hh, r⟩
theorem OwnU.ne {w : World} {v : Value} {l : List UInt8} {g : Nat} {t : TypeId} {cs : List Value} (h : OwnU w v l) (hb : Blk w g t cs) (ht : t ≠ 5) : v.ownBlock ≠ some g := h.toB.ne hb ht
theorem OwnU.shape {w : World} {v : Value} {l : List UInt8} (h : OwnU w v l) : ∃ a c, v = .slice a l.length c := h.toB.shape
theorem shape_appU {w : World} {v : Value} {l : List UInt8} {s : ByteArray} (h : OwnU w v (l ++ s.data.toList)) : ∃ a c, v = .slice a (l.length + s.size) c := shape_app h.toB

set_option maxRecDepth 100000 in
/-- append(buf, s...): what comes out, and where it lies. -/
theorem append_strU (ty : TypeId) {w : World} {v : Value} {l : List UInt8} (h : OwnU w v l) (s : ByteArray) (hlen : l.length + s.size ≤ 140737488355328) :
    ∃ v' w', (Builtin.append_ #[41, 9] ty #[v, .string s]).run Tryz.prog w = .ok v' w' ∧ OwnU w' v' (l ++ s.data.toList) ∧ w.grownBy w' v.ownBlock ∧ (∀ x, v'.ownBlock = some x → v.ownBlock = some x ∨ w.heap.size ≤ x) := by
  obtain ⟨i0, hi, hz0, hz1, hz2⟩ := info_parts info_byte
  obtain ⟨v', w', hr, h2, h3, h4⟩ := Lib.run_append_own_string (P := Tryz.prog) w 0 41 9 ty 5 i0 Tryz.underlying41 Tryz.underlying9 hi hz0 hz1 hz2 v l.length _ h s (by unfold maxLen; omega) hlen (Nat.zero_le _)
  refine ⟨v', w', hr, ?_, h3, ?_⟩
  · unfold OwnU
    rw [byteCells_append, List.length_append, ← strCells_bytes, show s.data.toList.length = s.size from (Lib.size_eq s).symm]
    exact h2
  · intro x hx
    rcases h.2 with ⟨rfl, h0⟩ | ⟨g, cap, cur, rfl, hbg, hg, hnc, hcm, hcs, htake⟩
    · right
      have hl : l = [] := List.length_eq_zero_iff.1 h0
      subst hl
      obtain ⟨v2, w2, hr2, k2, _⟩ := Lib.run_append_own_string (P := Tryz.prog) w w.heap.size 41 9 ty 5 i0 Tryz.underlying41 Tryz.underlying9 hi hz0 hz1 hz2 (.slice none 0 0) 0 [] (World.ownsRow_nil _ _ _ _) s (by unfold maxLen; simp at hlen; omega) (by simpa using hlen) (Nat.le_refl _)
      rw [hr] at hr2
      injection hr2 with e1 _
      subst e1
      exact (World.ownsRow.lt k2 x hx).1
    · by_cases hroom : l.length + s.size ≤ cap
      · left
        have hr2 := Lib.run_append_room_string (P := Tryz.prog) w 41 9 ty 5 i0 Tryz.underlying41 Tryz.underlying9 hi hz1 g l.length cap cur hg s hroom (by simp at hcs; omega)
        rw [hr] at hr2
        injection hr2 with e1 _
        subst e1
        exact hx
      · right
        have hr2 := Lib.run_append_grow_string (P := Tryz.prog) w 41 9 ty 5 i0 (.int .u8 0) Tryz.underlying41 Tryz.underlying9 hi hz0 ⟨g, 0, none⟩ l.length cap (Lib.byteCells l) (by rw [hz1]; simp [Lib.byteCells]) (World.ownsRowF.cells h.toB (g := g) rfl) s (by omega) (by omega) (by rw [hz2]; exact growslice_fits (by omega) (by omega))
        rw [hr] at hr2
        injection hr2 with e1 _
        subst e1
        simp only [Value.ownBlock, Option.some.injEq] at hx
        omega
section
variable {w : World} {ops : Array Oper} {rest : List Oper} {o : Oper} {a : Act} {Q : Exit → Act → World → Prop}
theorem wpList_append_strU (hg : o.guard = none) (sl x : Operand) (hop : o.op = Op.call { callee := Callee.builtin Builtin.append, args := #[sl, x], argTypes := #[41, 9] }) (v : Value) (l : List UInt8) (hs : a.eval sl = v) (hown : OwnU w v l) (s : ByteArray) (hx : a.eval x = .string s) (hlen : l.length + s.size ≤ 140737488355328)
    (hK : ∀ v' w', OwnU w' v' (l ++ s.data.toList) → w.grownBy w' v.ownBlock → (∀ x, v'.ownBlock = some x → v.ownBlock = some x ∨ w.heap.size ≤ x) → wpList Tryz.prog ops Q rest (a.put o.dst v') w') :
    wpList Tryz.prog ops Q (o :: rest) a w := by
  refine wpList_plain hg fun K' hK' => ?_
  obtain ⟨v', w', hrun, r1, r2, r3⟩ := append_strU o.type hown s hlen
  unfold Oper.wp
  simp [execOp, hop, resolve, invoke, builtin, hs, hx, hrun, Result.andThen]
  exact hK' _ _ (hK v' w' r1 r2 r3)
end

/-! ### copyCheck -/
theorem d_lies_builder : liesAt Tryz.prog Tryz.prog.depth 70 (2 / Tryz.prog.cellsOf 70) 0 70 1 = true := by kernel_rfl
set_option maxHeartbeats 1000000 in
set_option maxRecDepth 100000 in
theorem d_copyCheck_used (b : Nat) (w : World) (h0 : w.cell? ⟨b, 0, none⟩ = some (.pointer (some ⟨b, 0, none⟩))) :
    Calls Tryz.prog 67 #[.pointer (some ⟨b, 0, none⟩)] w fun e w' => e = .returned (.tuple #[]) ∧ w = w' := by
  obtain ⟨j, hj, _⟩ := Option.map_eq_some_iff.1 size_builder
  go_enter Tryz.func67, Tryz.ntmps67
  go_wp2
  rw [Lib.run_neq_ptr_same w _ Tryz.underlying68 hj]
  go_wp2
  go_end0
  exact ⟨rfl, rfl⟩
set_option maxHeartbeats 1000000 in
set_option maxRecDepth 100000 in
theorem d_copyCheck_fresh (b : Nat) (w : World) (h0 : w.cell? ⟨b, 0, none⟩ = some (.pointer none)) (hsh : w.shape? b = some (70, 2)) (hfz : w.frozen? ⟨b, 0, none⟩ = false) :
    Calls Tryz.prog 67 #[.pointer (some ⟨b, 0, none⟩)] w fun e w' => e = .returned (.tuple #[]) ∧ w' = w.setCell ⟨b, 0, none⟩ (.pointer (some ⟨b, 0, none⟩)) := by
  obtain ⟨j, hj, hjs⟩ := Option.map_eq_some_iff.1 size_builder
  go_enter Tryz.func67, Tryz.ntmps67
  go_wp2
  rw [Lib.run_to_unsafe w ⟨b, 0, none⟩ Tryz.underlying68 Tryz.underlying122 hj (by rw [hjs]; decide) hsh (by show 0 < 2; decide)]
  simp only [Result.andThen]
  rw [Oper.upon_value]
  go_wp2
  rw [run_callFunc_extern Tryz.func95 (by kernel_rfl) (by kernel_rfl) (by kernel_rfl) (e := Extern.AbiNoEscape.same) (by kernel_rfl)]
  rw [Lib.run_noEscape]
  simp only [Result.andThen]
  rw [Oper.upon_value]
  go_wp2
  rw [Lib.run_from_unsafe w ⟨b, 0, none⟩ Tryz.underlying122 Tryz.underlying68 hj hsh d_lies_builder]
  simp only [Result.andThen]
  rw [Oper.upon_value]
  go_wp2
  go_end0
  exact ⟨rfl, rfl⟩

def DCheckPost (w : World) (b : Nat) (bv : Value) (e : Ending) (w' : World) : Prop :=
  e = .returned (.tuple #[]) ∧ Blk w' b 70 ([(.pointer (some ⟨b, 0, none⟩)), bv]) ∧ Keep [b] w w'
theorem d_copyCheck_any (b : Nat) (p bv : Value) (w : World) (h : Blk w b 70 ([p, bv])) (hp : p = .pointer none ∨ p = .pointer (some ⟨b, 0, none⟩)) :
    Calls Tryz.prog 67 #[.pointer (some ⟨b, 0, none⟩)] w (DCheckPost w b bv) := by
  rcases hp with rfl | rfl
  · have hsh : w.shape? b = some (70, 2) := by unfold Blk at h; simp [World.shape?, h]
    refine (d_copyCheck_fresh b w (h.cell_ (i := 0) rfl) hsh (h.free 0)).mono ?_
    rintro e w' ⟨rfl, rfl⟩
    exact ⟨rfl, h.set 0 _, (Keep.refl _ w).set (fun _ => by simp) _⟩
  · refine (d_copyCheck_used b w (h.cell_ (i := 0) rfl)).mono ?_
    rintro e w' ⟨rfl, rfl⟩
    exact ⟨rfl, h, Keep.refl _ _⟩

/-! ### WriteString -/
def DWritePost (w : World) (b : Nat) (bv : Value) (l : List UInt8) (s : ByteArray) (e : Ending) (w' : World) : Prop :=
  ∃ bv', e = .returned (.tuple #[.int .i64 s.size, .nilIface]) ∧ Blk w' b 70 ([(.pointer (some ⟨b, 0, none⟩)), bv']) ∧ OwnU w' bv' (l ++ s.data.toList) ∧ Keep (b :: bv.ownBlock.toList) w w' ∧ (∀ x, bv'.ownBlock = some x → bv.ownBlock = some x ∨ w.heap.size ≤ x)
set_option maxHeartbeats 1000000 in
set_option maxRecDepth 100000 in
theorem d_writeString_any (b : Nat) (p bv : Value) (l : List UInt8) (s : ByteArray) (w : World) (h : Blk w b 70 ([p, bv])) (hp : p = .pointer none ∨ p = .pointer (some ⟨b, 0, none⟩)) (ho : OwnU w bv l) (hlen : l.length + s.size ≤ 140737488355328) :
    Calls Tryz.prog 39 #[.pointer (some ⟨b, 0, none⟩), .string s] w (DWritePost w b bv l s) := by
  have H := Lib.hid h; have HO := Lib.hid ho; have HP := Lib.hid hp
  clear h ho hp
  go_enter Tryz.func39, Tryz.ntmps39
  go_wp2_with fail
  refine (d_copyCheck_any b p bv _ H.out HP.out).mono ?_
  rintro e w1 ⟨rfl, hb1, hk1⟩
  have c4 := hb1.cell_ (i := 1) rfl
  have HB1 := Lib.hid hb1; have HK1 := Lib.hid hk1
  have ho1 := HO.out.keep (w' := w1) (fun g hg => hk1.block g (HO.out.lt g hg) (by simp; rintro rfl; exact HO.out.ne H.out (by decide) hg))
  have HO1 := Lib.hid ho1
  clear hb1 hk1 ho1
  go_wp2_with (at_builtin; refine wpList_append_strU rfl (.tmp 12) (.tmp 13) rfl bv l rfl HO1.out s rfl hlen ?_; intro bv' w2 hown2 hgrow2 hlies; have hb2 : Blk w2 b 70 ([(.pointer (some ⟨b, 0, none⟩)), bv]) := HB1.out.grown hgrow2 (fun e => HO1.out.ne HB1.out (by decide) e.symm); have f4 := hb2.free 1; have d4 := hb2.cell_ (i := 1) rfl; have HB2 := Lib.hid hb2; have HO2 := Lib.hid hown2; have HG2 := Lib.hid hgrow2; have HL2 := Lib.hid hlies; clear hb2 hown2 hgrow2 hlies; (obtain ⟨a', c', hv'⟩ := shape_appU HO2.out); have HV' := Lib.hid hv'; rw [hv']; clear hv')
  go_ret2
  refine ⟨bv', rfl, ?_, ?_, ?_, ?_⟩
  · rw [HV'.out]
    exact HB2.out.set 1 _
  · rw [← HV'.out]
    refine HO2.out.keep fun g hg => ?_
    refine Below.heap_setCell _ _ _ g ?_
    rintro rfl
    exact HO2.out.ne HB2.out (by decide) hg
  · have h1 : Keep (b :: bv.ownBlock.toList) w w2 := ((HK1.out.mono (by simp)).grown HG2.out (fun k hk _ => by rw [hk]; simp))
    exact h1.set (fun _ => by simp) _
  · intro x hx
    rcases HL2.out x hx with h | h
    · exact .inl h
    · exact .inr (Nat.le_trans HK1.out.size h)

/-! ### WriteByte -/
def DBytePost (w : World) (b : Nat) (bv : Value) (l : List UInt8) (c : UInt8) (e : Ending) (w' : World) : Prop :=
  ∃ bv', e = .returned .nilIface ∧ Blk w' b 70 [.pointer (some ⟨b, 0, none⟩), bv'] ∧ OwnU w' bv' (l ++ [c]) ∧ Keep (b :: bv.ownBlock.toList) w w' ∧ (∀ x, bv'.ownBlock = some x → bv.ownBlock = some x ∨ w.heap.size ≤ x)
theorem byteCells_one (c : UInt8) : Lib.byteCells [c] = [.int .u8 c.toNat] := rfl
set_option maxHeartbeats 1000000 in
set_option maxRecDepth 100000 in
theorem d_writeByte_any (b : Nat) (p bv : Value) (l : List UInt8) (c : UInt8) (w : World) (h : Blk w b 70 [p, bv]) (hp : p = .pointer none ∨ p = .pointer (some ⟨b, 0, none⟩)) (ho : OwnU w bv l) (hlen : l.length + 1 ≤ 140737488355328) :
    Calls Tryz.prog 42 #[.pointer (some ⟨b, 0, none⟩), .int .u8 c.toNat] w (DBytePost w b bv l c) := by
  have H := Lib.hid h; have HO := Lib.hid ho; have HP := Lib.hid hp
  clear h ho hp
  go_enter Tryz.func42, Tryz.ntmps42
  go_wp2_with fail
  refine (d_copyCheck_any b p bv _ H.out HP.out).mono ?_
  rintro e w1 ⟨rfl, hb1, hk1⟩
  have c4 := hb1.cell_ (i := 1) rfl
  have HB1 := Lib.hid hb1; have HK1 := Lib.hid hk1
  have ho1 := HO.out.keep (w' := w1) (fun g hg => hk1.block g (HO.out.lt g hg) (by simp; rintro rfl; exact HO.out.ne H.out (by decide) hg))
  have HO1 : Hid (∀ o, (w1.alloc o).ownsRow 0 5 1 bv l.length (Lib.byteCells l)) := Lib.hid fun o => (ho1.keep fun g hg => Below.heap_alloc _ _ _ (ho1.lt g hg) : OwnU (w1.alloc o) bv l)
  have HBA : Hid (∀ o, Blk (w1.alloc o) b 70 [.pointer (some ⟨b, 0, none⟩), bv]) := Lib.hid fun o => hb1.alloc o
  clear hb1 hk1 ho1
  obtain ⟨i0, hi, hz0, hz1, hz2⟩ := info_parts info_byte
  go_wp2_with (at_builtin; refine wpList_append_own_at _ rfl (.tmp 11) (.tmp 13) 41 rfl 0 5 i0 (.int .u8 0) 1 1 Tryz.underlying41 hi hz0 hz1 hz2 rfl (by decide) _ _ _ rfl (HO1.out _) ⟨w1.heap.size, 0, none⟩ 1 1 [.int .u8 c.toNat] rfl rfl (by intro q u hq; match q, hq with | 0, hq => simp at hq; subst hq; simp [Addr.add]) (by intro u hu; simp at hu; subst hu; rfl) (by unfold maxLen; omega) (by omega) (by simp) ?_; intro bv' w2 hown2 hgrow2 _ hat; have hb2 : Blk w2 b 70 [.pointer (some ⟨b, 0, none⟩), bv] := (HBA.out _).grown hgrow2 (fun e => OwnU.ne (HO1.out (.cells #[.int .u8 c.toNat] 5)) (HBA.out _) (by decide) e.symm); have f4 := hb2.free 1; have d4 := hb2.cell_ (i := 1) rfl; have HB2 := Lib.hid hb2; have HO2 : Hid (OwnU w2 bv' (l ++ [c])) := Lib.hid (by unfold OwnU; rw [byteCells_append, List.length_append]; exact hown2); have HG2 := Lib.hid hgrow2; have HAT := Lib.hid hat; clear hb2 hown2 hgrow2 hat; (obtain ⟨a', c', hv'⟩ := HO2.out.shape); rw [List.length_append, List.length_singleton] at hv'; have HV' := Lib.hid hv'; rw [hv']; clear hv')
  have HG3 : Hid ((w1.alloc (.cells #[.int .u8 c.toNat] 5)).grownBy w2 bv.ownBlock) := HG2
  have HAT2 : Hid (bv'.ownBlock = bv.ownBlock ∨ bv'.ownBlock = some (w1.alloc (.cells #[.int .u8 c.toNat] 5)).heap.size) := HAT
  go_ret
  refine ⟨bv', rfl, ?_, ?_, ?_, ?_⟩
  · rw [HV'.out]
    exact HB2.out.set 1 _
  · rw [← HV'.out]
    refine HO2.out.keep fun g hg => ?_
    refine Below.heap_setCell _ _ _ g ?_
    rintro rfl
    exact HO2.out.ne HB2.out (by decide) hg
  · have h1 : Keep (b :: bv.ownBlock.toList) w w2 := (((HK1.out.mono (by simp)).alloc _).grown HG3.out (fun k hk _ => by rw [hk]; simp))
    exact h1.set (fun _ => by simp) _
  · intro x hx
    rcases HAT2.out with h | h
    · exact .inl (by rw [← h]; exact hx)
    · rw [h] at hx
      have := HK1.out.size
      simp at hx
      exact .inr (by omega)
/-! ### String -/
def DStringPost (w : World) (b : Nat) (p bv : Value) (l : List UInt8) (e : Ending) (w' : World) : Prop :=
  e = .returned (.string ⟨l.toArray⟩) ∧ Blk w' b 70 ([p, bv]) ∧ OwnB w' bv l ∧ Keep bv.ownBlock.toList w w'
set_option maxHeartbeats 2000000 in
set_option maxRecDepth 100000 in
theorem d_string_some (b : Nat) (p bv : Value) (l : List UInt8) (w : World) (h : Blk w b 70 ([p, bv])) (ho : OwnB w bv l) (h0 : l ≠ []) :
    Calls Tryz.prog 35 #[.pointer (some ⟨b, 0, none⟩)] w (DStringPost w b p bv l) := by
  have hl0 : l.length ≠ 0 := by simpa using h0
  have HO := Lib.hid ho; have H := Lib.hid h
  obtain ⟨g, cap, cur, fz, hv, hg, hfz, hnc, hcm, hcs⟩ : ∃ g cap cur fz, bv = .slice (some ⟨g, 0, none⟩) l.length cap ∧ w.heap[g]? = some (.cells cur 5 fz) ∧ fz.2 ≤ l.length * 1 ∧ l.length ≤ cap ∧ cap ≤ maxLen ∧ cur.size = cap * 1 := by
    rcases ho.2 with ⟨_, hz⟩ | ⟨g, cap, cur, fz, hv, _, hg, r1, r2, r3, r4, _⟩
    · exact absurd hz hl0
    · exact ⟨g, cap, cur, fz, hv, hg, r1, r2, r3, r4⟩
  subst hv
  have c1 := h.cell_ (i := 1) rfl
  have hne := ho.ne h (by decide)
  simp only [Value.ownBlock, ne_eq, Option.some.injEq] at hne
  have hSD : (Builtin.unsafeSliceData_ #[41] 103 #[.slice (some ⟨g, 0, none⟩) l.length cap]).run Tryz.prog w.drew = .ok (.pointer (some ⟨g, 0, none⟩)) w.drew :=
    Lib.run_unsafeSliceData_row _ _ _ _ _ _ (by omega)
  have hUS : (Builtin.unsafeString_ #[103, 3] 9 #[.pointer (some ⟨g, 0, none⟩), .int .i64 l.length]).run Tryz.prog w.drew = .ok (.string ⟨l.toArray⟩) (w.drew.freeze ⟨g, 0, none⟩ l.length) := by
    refine Lib.run_unsafeString_row w.drew 103 3 9 5 Tryz.underlying103 cells_byte g cur.size (by have hg' : w.drew.heap[g]? = some (.cells cur 5 fz) := hg; simp [World.shape?, hg']) l h0 (by omega) (by unfold maxLen at hcm; omega) ?_
    intro j x hx
    exact World.ownsRowF.cells ho (g := g) rfl j (.int .u8 x.toNat) (by simp [Lib.byteCells, hx])
  have HW : Hid (Blk (w.drew.freeze ⟨g, 0, none⟩ l.length) b 70 ([p, (.slice (some ⟨g, 0, none⟩) l.length cap)])) := Lib.hid (h.drew.keep (freeze_keep _ g _) (by simpa using Ne.symm hne))
  have HF : Hid (OwnB (w.drew.freeze ⟨g, 0, none⟩ l.length) (.slice (some ⟨g, 0, none⟩) l.length cap) l) := Lib.hid (OwnB.froze (w := w.drew) ho)
  have HK : Hid (Keep [g] w (w.drew.freeze ⟨g, 0, none⟩ l.length)) := Lib.hid ((Keep.refl _ w).drew.trans (freeze_keep _ g _))
  clear h ho hg hfz hnc hcm hcs hne h0
  obtain ⟨n, hn⟩ : ∃ n, n = l.length := ⟨_, rfl⟩
  have HN := Lib.hid hn
  go_enter Tryz.func35, Tryz.ntmps35
  go_wp2
  go_region
  all_goals (go_wp2; go_ret; exact ⟨rfl, HW.out, HF.out, HK.out⟩)
set_option maxHeartbeats 2000000 in
set_option maxRecDepth 100000 in
theorem d_string_none (b : Nat) (p : Value) (w : World) (h : Blk w b 70 ([p, (.slice none 0 0)])) :
    Calls Tryz.prog 35 #[.pointer (some ⟨b, 0, none⟩)] w (DStringPost w b p (.slice none 0 0) []) := by
  have H := Lib.hid h
  have c1 := h.cell_ (i := 1) rfl
  have hSD : (Builtin.unsafeSliceData_ #[41] 103 #[.slice none 0 0]).run Tryz.prog w.drew = .ok (.pointer none) w.drew := rfl
  have hUS := fun (W : World) (q : Option Addr) => Lib.run_unsafeString_none (P := Tryz.prog) W 103 3 9 q
  clear h
  go_enter Tryz.func35, Tryz.ntmps35
  go_wp2
  go_region
  all_goals (go_wp2; go_ret; exact ⟨rfl, H.out.drew, OwnB.nil _, (Keep.refl _ w).drew⟩)
theorem d_string_any (b : Nat) (p bv : Value) (l : List UInt8) (w : World) (h : Blk w b 70 ([p, bv])) (ho : OwnB w bv l) (h0 : l = [] → bv = .slice none 0 0) :
    Calls Tryz.prog 35 #[.pointer (some ⟨b, 0, none⟩)] w (DStringPost w b p bv l) := by
  by_cases e : l = []
  · obtain rfl := h0 e
    subst e
    exact d_string_none b p w h
  · exact d_string_some b p bv l w h ho e
end Go.Proofs.YticckfioggeaeaaGreatDoor
