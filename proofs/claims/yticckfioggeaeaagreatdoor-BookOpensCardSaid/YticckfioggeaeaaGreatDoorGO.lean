/-
  Several texts in one (merged by wip/mergefix.py): RefBX, BookRefNum.
-/
import Derived.Test.YticckfioggeaeaaGreatDoorBookRef5
import Derived.Test.YticckfioggeaeaaGreatDoorGB
import Derived.Test.YticckfioggeaeaaGreatDoorGJ
import Derived.Deep.DeepCutAuto
set_option linter.unusedVariables false
set_option linter.unusedSimpArgs false
set_option linter.unnecessarySimpa false
/-
  A store of the reference's in a block of its own, written there by a call's result.
-/
namespace Go.Proofs.YticckfioggeaeaaGreatDoor
open Go.RowKit

structure BX (w : World) (q slots : Nat) (s : Bk) (aK aV : Option Addr) (nK nV cK cV : Nat) : Prop where
  box : Blk w q 24 (rTop slots aK aV nK nV cK cV s.text s.many)
  K : OwnInts w 0 (.slice aK nK cK) s.keys
  V : OwnInts w 0 (.slice aV nV cV) (s.M.map (·.2))
  kl : s.keys.length = nK
  vl : (s.M.map (·.2)).length = nV
section
variable {w w' : World} {q slots : Nat} {s s' : Bk} {aK aV aK' aV' : Option Addr} {nK nV cK cV nK' nV' cK' cV' : Nat}
theorem BX.keep0 (h : BX w q slots s aK aV nK nV cK cV) (hk : Keep [] w w') : BX w' q slots s aK aV nK nV cK cV :=
  ⟨h.box.keep hk (by simp), own_keep0 h.K hk, own_keep0 h.V hk, h.kl, h.vl⟩
theorem BX.below (h : BX w q slots s aK aV nK nV cK cV) (hb : Below w.heap.size w w') : BX w' q slots s aK aV nK nV cK cV := h.keep0 (Keep.of_below hb (Nat.le_refl _))
theorem BX.drew (h : BX w q slots s aK aV nK nV cK cV) : BX w.drew q slots s aK aV nK nV cK cV := h.keep0 (Keep.refl [] w).drew
/-- Something else is written into another block. -/
theorem BX.far (h : BX w q slots s aK aV nK nV cK cV) {b : Nat} {t : TypeId} {cs : List Value} (hk : Keep [b] w w') (hb : Blk w b t cs) (ht : 3 ≠ t) (hne : q ≠ b) : BX w' q slots s aK aV nK nV cK cV :=
  ⟨h.box.keep hk (by simpa using hne), own_keep1 h.K hk hb ht, own_keep1 h.V hk hb ht, h.kl, h.vl⟩
theorem BX.cells (h : BX w q slots s aK aV nK nV cK cV) : w.cell? ⟨q, 0, none⟩ = some (.int .i64 slots) ∧ w.cell? ⟨q, 1, none⟩ = some (.slice aK nK cK) ∧ w.cell? ⟨q, 2, none⟩ = some (.slice aV nV cV) ∧ w.cell? ⟨q, 3, none⟩ = some (.string ⟨s.text.toArray⟩) ∧ w.cell? ⟨q, 4, none⟩ = some (.int .i64 s.many) ∧
    w.frozen? ⟨q, 0, none⟩ = false ∧ w.frozen? ⟨q, 1, none⟩ = false ∧ w.frozen? ⟨q, 2, none⟩ = false ∧ w.frozen? ⟨q, 3, none⟩ = false ∧ w.frozen? ⟨q, 4, none⟩ = false :=
  ⟨h.box.cell_ (i := 0) rfl, h.box.cell_ (i := 1) rfl, h.box.cell_ (i := 2) rfl, h.box.cell_ (i := 3) rfl, h.box.cell_ (i := 4) rfl, h.box.free 0, h.box.free 1, h.box.free 2, h.box.free 3, h.box.free 4⟩
theorem BX.rb (h : BX w q slots s aK aV nK nV cK cV) : RB4 w slots s (rVal slots aK aV nK nV cK cV s.text s.many) := ⟨aK, aV, nK, nV, cK, cV, rfl, h.K, h.V, h.kl, h.vl⟩
theorem BX.new (hK : OwnInts w 0 (.slice aK nK cK) s.keys) (hV : OwnInts w 0 (.slice aV nV cV) (s.M.map (·.2))) (hkl : s.keys.length = nK) (hvl : (s.M.map (·.2)).length = nV) :
    BX (w.alloc (.cells #[.int .i64 slots, .slice aK nK cK, .slice aV nV cV, .string ⟨s.text.toArray⟩, .int .i64 s.many] 24)) w.heap.size slots s aK aV nK nV cK cV :=
  ⟨Blk.new w _ (rTop slots aK aV nK nV cK cV s.text s.many), own_keep0 hK ((Keep.refl [] w).alloc _), own_keep0 hV ((Keep.refl [] w).alloc _), hkl, hvl⟩
theorem BX.put {v0 v1 v2 v3 v4 : Value} (hy : Blk w q 24 [v0, v1, v2, v3, v4]) (hK : OwnInts w 0 (.slice aK nK cK) s.keys) (hV : OwnInts w 0 (.slice aV nV cV) (s.M.map (·.2))) (hkl : s.keys.length = nK) (hvl : (s.M.map (·.2)).length = nV) :
    BX (set5 w q (.int .i64 slots) (.slice aK nK cK) (.slice aV nV cV) (.string ⟨s.text.toArray⟩) (.int .i64 s.many)) q slots s aK aV nK nV cK cV :=
  ⟨blk5 hy _ _ _ _ _, own_keep1 hK (keep5 w q _ _ _ _ _) hy (by decide), own_keep1 hV (keep5 w q _ _ _ _ _) hy (by decide), hkl, hvl⟩
/-- A store is moved into another box. -/
theorem BX.move (h : BX w q slots s aK aV nK nV cK cV) {b : Nat} {v0 v1 v2 v3 v4 : Value} (hy : Blk w b 24 [v0, v1, v2, v3, v4]) :
    BX (set5 w b (.int .i64 slots) (.slice aK nK cK) (.slice aV nV cV) (.string ⟨s.text.toArray⟩) (.int .i64 s.many)) b slots s aK aV nK nV cK cV := BX.put hy h.K h.V h.kl h.vl
end
theorem keep_new5 {w w4 : World} (h : Keep [] w w4) (v0 v1 v2 v3 v4 : Value) : Keep [] w (set5 w4 w.heap.size v0 v1 v2 v3 v4) :=
  (((((h.set (p := ⟨w.heap.size, 0, none⟩) (fun h => absurd h (Nat.lt_irrefl _)) _).set (p := ⟨w.heap.size, 1, none⟩) (fun h => absurd h (Nat.lt_irrefl _)) _).set (p := ⟨w.heap.size, 2, none⟩) (fun h => absurd h (Nat.lt_irrefl _)) _).set (p := ⟨w.heap.size, 3, none⟩) (fun h => absurd h (Nat.lt_irrefl _)) _).set (p := ⟨w.heap.size, 4, none⟩) (fun h => absurd h (Nat.lt_irrefl _)) _)
/-- What stands where a call's store has been written into a new block. -/
def CutR (wr : World) (slots : Nat) (s : Bk) (wx : World) (yA : Value) : Prop := ∃ (q : Nat) (aK aV : Option Addr) (nK nV cK cV : Nat), yA = .pointer (some ⟨q, 0, none⟩) ∧ BX wx q slots s aK aV nK nV cK cV ∧ wr.heap.size ≤ q ∧ Below wr.heap.size wr wx
theorem CutR.behind {wr w4 : World} {slots : Nat} {s : Bk} {aK aV : Option Addr} {nK nV cK cV : Nat} (hK : OwnInts w4 0 (.slice aK nK cK) s.keys) (hV : OwnInts w4 0 (.slice aV nV cV) (s.M.map (·.2))) (hkl : s.keys.length = nK) (hvl : (s.M.map (·.2)).length = nV) (hb : Below wr.heap.size wr w4) :
    CutR wr slots s (w4.alloc (.cells #[.int .i64 slots, .slice aK nK cK, .slice aV nV cV, .string ⟨s.text.toArray⟩, .int .i64 s.many] 24)) (.pointer (some ⟨w4.heap.size, 0, none⟩)) :=
  ⟨_, aK, aV, nK, nV, cK, cV, rfl, BX.new hK hV hkl hvl, hb.size, hb.alloc hb.size _⟩
theorem CutR.ahead {wr w4 : World} {slots : Nat} {s : Bk} {aK aV : Option Addr} {nK nV cK cV : Nat} {v0 v1 v2 v3 v4 : Value} (hy : Blk w4 wr.heap.size 24 [v0, v1, v2, v3, v4]) (hK : OwnInts w4 0 (.slice aK nK cK) s.keys) (hV : OwnInts w4 0 (.slice aV nV cV) (s.M.map (·.2))) (hkl : s.keys.length = nK) (hvl : (s.M.map (·.2)).length = nV) (hb : Below wr.heap.size wr w4) :
    CutR wr slots s (set5 w4 wr.heap.size (.int .i64 slots) (.slice aK nK cK) (.slice aV nV cV) (.string ⟨s.text.toArray⟩) (.int .i64 s.many)) (.pointer (some ⟨wr.heap.size, 0, none⟩)) :=
  ⟨_, aK, aV, nK, nV, cK, cV, rfl, BX.put hy hK hV hkl hvl, Nat.le_refl _, hb.trans ((keep5 w4 wr.heap.size _ _ _ _ _).below hb.size (by simp))⟩
end Go.Proofs.YticckfioggeaeaaGreatDoor

/-
  The reference's Number, by its contract.
-/
set_option linter.unusedVariables false
namespace Go.Proofs.YticckfioggeaeaaGreatDoor
open Go.RowKit

theorem numberM_empty : numberM [] = none := by
  unfold numberM
  rw [if_neg (fun h => dec_ne _ h.1)]
theorem numberM_long {l : List UInt8} (h : 19 < l.length) : numberM l = none := by
  unfold numberM
  rw [if_neg]
  rintro ⟨h1, h2⟩
  have := dec_len_le (u := valD 0 l) (k := 19) (by decide) (by omega)
  rw [h1] at this
  omega
theorem numberM_bad {l : List UInt8} {c : UInt8} (hc : c ∈ l) (hb : ¬ (48 ≤ c.toNat ∧ c.toNat ≤ 57)) : numberM l = none := by
  unfold numberM
  rw [if_neg]
  rintro ⟨h1, _⟩
  have := dec_dig (valD 0 l)
  rw [h1] at this
  exact hb (this c hc)
theorem val_take {l : List UInt8} {j : Nat} (hj : j < l.length) : valD 0 (l.take (j + 1)) = valD 0 (l.take j) * 10 + (l[j].toNat - 48) := by
  rw [List.take_succ_eq_append_getElem hj, valD_append, valD_one]
theorem wrap_mul10 (a : Int) : wrap64 (wrap64 a * 10) = wrap64 (a * 10) := by unfold wrap64; omega
theorem wrap_addl (a b : Int) : wrap64 (wrap64 a + b) = wrap64 (a + b) := by unfold wrap64; omega
theorem wrap_sub48 (a : Int) : wrap64 (wrap64 a - 48) = wrap64 (a - 48) := by unfold wrap64; omega
def NumPost (w : World) (l : List UInt8) (e : Ending) (w' : World) : Prop := ∃ v, e = .returned (.tuple #[.int .i64 v, .bool (numberM l).isSome]) ∧ (∀ n, numberM l = some n → v = n) ∧ w = w'
theorem ret_nb' {v : Int} {b c : Bool} (h : b = c) : Ending.returned (.tuple #[.int .i64 v, .bool b]) = .returned (.tuple #[.int .i64 v, .bool c]) := by rw [h]
set_option maxHeartbeats 2000000 in
set_option maxRecDepth 100000 in
theorem rNumber (l : List UInt8) (hl : l.length ≤ 100000) (w : World) : Calls Tryz.prog 51 #[.string ⟨l.toArray⟩] w (NumPost w l) := by
  have hsz : (⟨l.toArray⟩ : ByteArray).size = l.length := by simp [ByteArray.size]
  by_cases he : l = []
  · subst he
    go_enter Tryz.func51, Tryz.ntmps51
    go_wp2
    go_ret2
    exact ⟨0, ret_nb' (by rw [numberM_empty]; rfl), fun n h => (by rw [numberM_empty] at h; cases h), rfl⟩
  by_cases hlong : 19 < l.length
  · have HL := Lib.hid (numberM_long hlong)
    have hpos : ¬ l.length = 0 := by omega
    have hz : ((l.length : Int) == 0) = false := beq_eq_false_iff_ne.2 (by omega)
    go_enter Tryz.func51, Tryz.ntmps51
    go_wp2
    go_ret2
    exact ⟨0, ret_nb' (by rw [HL.out]; rfl), fun n h => (by rw [HL.out] at h; cases h), rfl⟩
  have hpos : 0 < l.length := List.length_pos_iff.2 he
  have hz : ((l.length : Int) == 0) = false := beq_eq_false_iff_ne.2 (by omega)
  clear he
  go_enter Tryz.func51, Tryz.ntmps51
  go_wp2
  go_loop [4, 5] (fun v i => ∃ j : Nat, j ≤ l.length ∧ i = .int .i64 j ∧ v = .int .i64 (wrap64 (valD 0 (l.take j) : Nat)) ∧ digs (l.take j)) (fun _ i => l.length - (intOf i).toNat)
  case atStart => exact ⟨0, Nat.zero_le _, rfl, by simp [valD, wrap64], by simp [digs]⟩
  case round =>
    obtain ⟨j, hj, rfl, rfl, hdg⟩ := hrel
    have HDG := Lib.hid hdg
    clear hdg
    by_cases hlt : j < l.length
    · have hjl : (j : Int) < (l.length : Int) := by omega
      have hj0 : (0 : Int) ≤ (j : Int) := by omega
      have hjs : j < (⟨l.toArray⟩ : ByteArray).size := by rw [hsz]; exact hlt
      have hat : (⟨l.toArray⟩ : ByteArray)[j]'hjs = l[j] := rfl
      have HAT := Lib.hid hat
      by_cases hd : 48 ≤ l[j].toNat ∧ l[j].toNat ≤ 57
      · have h48 : (48 : Int) ≤ (((⟨l.toArray⟩ : ByteArray)[j]'hjs).toNat : Int) := by rw [hat]; omega
        have h57 : (((⟨l.toArray⟩ : ByteArray)[j]'hjs).toNat : Int) ≤ 57 := by rw [hat]; omega
        have HV := Lib.hid (val_take hlt)
        have HD2 : Hid (digs (l.take (j + 1))) := Lib.hid (by
          intro c hc
          rw [List.take_succ_eq_append_getElem hlt, List.mem_append, List.mem_singleton] at hc
          rcases hc with hc | rfl
          · exact HDG.out c hc
          · exact hd)
        have HDD := Lib.hid hd
        clear hat hd
        go_wp2
        refine ⟨⟨j + 1, hlt, by simp, ?_, HD2.out⟩, by simp [intOf]; omega⟩
        rw [HV.out, HAT.out]
        have h3 := HDD.out
        obtain ⟨A, hA⟩ : ∃ A, A = valD 0 (l.take j) := ⟨_, rfl⟩
        obtain ⟨d, hd⟩ : ∃ d, d = l[j].toNat := ⟨_, rfl⟩
        rw [← hA, ← hd]
        rw [← hd] at h3
        have hcast : ((A * 10 + (d - 48) : Nat) : Int) = (A : Int) * 10 + (d : Int) - 48 := by omega
        rw [hcast, wrap_mul10, wrap_addl, wrap_sub48]
      · have HB := Lib.hid (numberM_bad (List.getElem_mem hlt) hd)
        have hcase : (((⟨l.toArray⟩ : ByteArray)[j]'hjs).toNat : Int) < 48 ∨ (48 ≤ (((⟨l.toArray⟩ : ByteArray)[j]'hjs).toNat : Int) ∧ 57 < (((⟨l.toArray⟩ : ByteArray)[j]'hjs).toNat : Int)) := by rw [hat]; omega
        clear hat hd
        rcases hcase with h1 | ⟨h1, h2⟩
        · go_wp2
          go_ret2
          exact ⟨0, ret_nb' (by rw [HB.out]; rfl), fun n h => (by rw [HB.out] at h; cases h), rfl⟩
        · go_wp2
          go_ret2
          exact ⟨0, ret_nb' (by rw [HB.out]; rfl), fun n h => (by rw [HB.out] at h; cases h), rfl⟩
    · obtain rfl : j = l.length := by omega
      have hb := valD_lt l 0 (by have := HDG.out; rwa [List.take_length] at this)
      have hp : 10 ^ l.length ≤ 10 ^ 19 := Nat.pow_le_pow_right (by decide) (by omega)
      have h19 : (10 : Nat) ^ 19 = 10000000000000000000 := by decide
      obtain ⟨V, hV⟩ : ∃ V, V = valD 0 l := ⟨_, rfl⟩
      rw [List.take_length, ← hV]
      rw [← hV] at hb
      have HVV := Lib.hid hV
      have hVb : V < 10000000000000000000 := by rw [h19] at hp; omega
      clear hb hp h19 hV HDG
      by_cases hbig : V < 9223372036854775808
      · have hw : wrap64 (V : Int) = (V : Int) := by unfold wrap64; omega
        have hv0 : (0 : Int) ≤ (V : Int) := by omega
        rw [hw]
        clear hw
        have HIT := Lib.hid (itoa_nat V)
        by_cases heq : Lib.decDigits V = l
        · have HR : Hid (numberM l = some (V : Int)) := Lib.hid (by unfold numberM; rw [← HVV.out, if_pos ⟨heq, hbig⟩])
          go_wp2_with fail
          refine (rdigits_int _ (by omega) (by omega) _).mono ?_
          rintro e w2 ⟨rfl, rfl⟩
          rw [HIT.out, heq]
          go_wp2
          go_ret2
          exact ⟨V, ret_nb' (by rw [HR.out]; rfl), fun n h => (by rw [HR.out] at h; exact Option.some.inj h), rfl⟩
        · have HR : Hid (numberM l = none) := Lib.hid (by unfold numberM; rw [← HVV.out, if_neg (fun h => heq h.1)])
          have hse : (Lib.decDigits V == l) = false := beq_eq_false_iff_ne.2 heq
          go_wp2_with fail
          refine (rdigits_int _ (by omega) (by omega) _).mono ?_
          rintro e w2 ⟨rfl, rfl⟩
          rw [HIT.out]
          go_wp2
          go_ret2
          exact ⟨V, ret_nb' (by rw [HR.out]; rfl), fun n h => (by rw [HR.out] at h; cases h), rfl⟩
      · have HR : Hid (numberM l = none) := Lib.hid (by unfold numberM; rw [← HVV.out, if_neg (fun h => hbig h.2)])
        obtain ⟨z, hz'⟩ : ∃ z, z = wrap64 (V : Int) := ⟨_, rfl⟩
        have hzn : z < 0 := by rw [hz']; unfold wrap64; omega
        rw [← hz']
        clear hz'
        go_wp2
        go_ret2
        exact ⟨z, ret_nb' (by rw [HR.out]; rfl), fun n h => (by rw [HR.out] at h; cases h), rfl⟩
end Go.Proofs.YticckfioggeaeaaGreatDoor
