/-
  The reference's Cut, by its contract.
-/
import Derived.Test.YticckfioggeaeaaGreatDoorBookLine
import Derived.Deep.DeepCutAuto
set_option linter.unusedVariables false
set_option linter.unusedSimpArgs false
set_option linter.unnecessarySimpa false
set_option linter.unusedVariables false
namespace Go.Proofs.YticckfioggeaeaaGreatDoor
open Go.RowKit

theorem cutAt_snoc_sep (c : UInt8) (a : List UInt8) : cutAt c (a ++ [c]) = cutAt c a ++ [[]] := by
  obtain ⟨x, y, t, h1, h2, h3⟩ := cutAt_append c a [c]
  have e : cutAt c [c] = [[], []] := by simp [cutAt]
  rw [e] at h2
  injection h2 with h2 h4
  subst h2 h4
  rw [h3, List.append_nil]
  conv => rhs; rw [h1]
  simp
theorem cutAt_snoc_other (c : UInt8) (a : List UInt8) {z : UInt8} (hz : z ≠ c) {D : List (List UInt8)} {x : List UInt8} (h : cutAt c a = D ++ [x]) : cutAt c (a ++ [z]) = D ++ [x ++ [z]] := by
  obtain ⟨x', y, t, h1, h2, h3⟩ := cutAt_append c a [z]
  have e : cutAt c [z] = [[z]] := by simp [cutAt, hz]
  rw [e] at h2
  injection h2 with h2 h4
  subst h2 h4
  rw [h, dropLast_snoc] at h1 h3
  have : x = x' := by simpa using h1
  rw [h3, this]
def OwnS (w : World) (base : Nat) (v : Value) (ls : List (List UInt8)) : Prop := w.ownsRow base 9 1 v ls.length (ls.map strV)
theorem OwnS.shape {w : World} {base : Nat} {v : Value} {ls : List (List UInt8)} (h : OwnS w base v ls) (hn : 0 < ls.length) : ∃ g c, v = .slice (some ⟨g, 0, none⟩) ls.length c ∧ g < w.heap.size ∧ ∀ (i : Nat) (x : List UInt8), ls[i]? = some x → w.cell? ⟨g, i, none⟩ = some (strV x) := by
  obtain ⟨hl, ⟨rfl, hn0⟩ | ⟨g, cap, cur, rfl, _, hh, _, _, _, ht⟩⟩ := h
  · omega
  · refine ⟨g, _, rfl, ?_, fun i x hx => ?_⟩
    · rcases Nat.lt_or_ge g w.heap.size with h | h
      · exact h
      · rw [Array.getElem?_eq_none h] at hh; cases hh
    · have hi : i < ls.length := (List.getElem?_eq_some_iff.1 hx).1
      have h2 : (cur.toList.take (ls.length * 1))[i]? = (ls.map strV)[i]? := by rw [ht]
      rw [List.getElem?_take_of_lt (by omega)] at h2
      simp only [World.cell?, hh]
      simpa [hx] using h2
theorem info_str : (Tryz.prog.info? 9).map (fun i => (i.zero, i.size, i.bytes)) = some (some (.string ByteArray.empty), 1, 16) := by kernel_rfl
theorem cutAt_lasts (c : UInt8) (l : List UInt8) : ∃ D x, cutAt c l = D ++ [x] := ⟨(cutAt c l).dropLast, (cutAt c l).getLast (cutAt_ne c l), (List.dropLast_concat_getLast (cutAt_ne c l)).symm⟩
theorem cut_count (c : UInt8) (l : List UInt8) : (cutAt c l).length ≤ l.length + 1 := by rw [cutAt_len]; have := List.count_le_length (a := c) (l := l); omega
theorem ext_mid (l : List UInt8) (a b : Nat) : (⟨l.toArray⟩ : ByteArray).extract a b = ⟨((l.take b).drop a).toArray⟩ := by
  apply ba_ext
  rw [ByteArray.data_extract, Array.toList_extract]
  simp [List.extract_eq_take_drop, List.drop_take]
def CutPost (w : World) (ls : List (List UInt8)) (e : Ending) (w' : World) : Prop := ∃ v, e = .returned v ∧ OwnS w' w.heap.size v ls ∧ Below w.heap.size w w'
def CutRel (w : World) (c : UInt8) (l : List UInt8) (v5 v6 v7 : Value) (wr : World) : Prop :=
  ∃ (i at_ : Nat) (out : List (List UInt8)) (xA : Value), xA = v5 ∧ v6 = .int .i64 at_ ∧ v7 = .int .i64 i ∧ i ≤ l.length + 1 ∧ OwnS wr w.heap.size xA out ∧ Below w.heap.size w wr ∧
    ((i = l.length + 1 ∧ out = cutAt c l) ∨ (i ≤ l.length ∧ at_ ≤ i ∧ cutAt c (l.take i) = out ++ [(l.take i).drop at_]))
set_option maxHeartbeats 2000000 in
set_option maxRecDepth 100000 in
theorem rCut (c : UInt8) (l : List UInt8) (hl : l.length ≤ 100000) (w : World) : Calls Tryz.prog 29 #[.string ⟨l.toArray⟩, .int .u8 c.toNat] w (CutPost w (cutAt c l)) := by
  obtain ⟨i0, hi, hz0, hz1, hz2⟩ := info_parts info_str
  have hsz : (⟨l.toArray⟩ : ByteArray).size = l.length := by simp [ByteArray.size]
  go_enter Tryz.func29, Tryz.ntmps29
  go_wp2
  go_loopw [5, 6, 7] (fun v5 v6 v7 wr => CutRel w c l v5 v6 v7 wr) (fun _ _ v7 _ => l.length + 1 - (intOf v7).toNat)
  case atStart => exact ⟨0, 0, [], _, rfl, rfl, rfl, by omega, World.ownsRow_nil _ _ _ _, Below.refl _ _, .inr ⟨Nat.zero_le _, Nat.le_refl _, rfl⟩⟩
  case round =>
    obtain ⟨i, at_, out, v5, rfl, rfl, rfl, hi1, hown, hbel, hcase⟩ := hrel
    have HO := Lib.hid hown; have HB := Lib.hid hbel
    clear hown hbel
    have hi0 : (0 : Int) ≤ (i : Int) := by omega
    by_cases hle : i ≤ l.length
    · rcases hcase with ⟨h, _⟩ | ⟨_, hat, hcut⟩
      · omega
      have HC := Lib.hid hcut
      clear hcut
      have hili : (i : Int) ≤ (l.length : Int) := by omega
      have ha0 : (0 : Int) ≤ (at_ : Int) := by omega
      have hai : (at_ : Int) ≤ (i : Int) := by omega
      by_cases hend : i = l.length
      · have hee : ((i : Int) == (l.length : Int)) = true := by rw [hend]; simp
        have HCE : Hid (cutAt c (l.take i) = cutAt c l) := Lib.hid (by rw [hend, List.take_length])
        have HEND := Lib.hid hend
        clear hend
        obtain ⟨x, hx⟩ : ∃ x, x = (l.take i).drop at_ := ⟨_, rfl⟩
        have HEX : Hid ((⟨l.toArray⟩ : ByteArray).extract at_ i = ⟨x.toArray⟩) := Lib.hid (by rw [ext_mid, hx])
        rw [← hx] at HC
        have HX := Lib.hid hx
        have hol : out.length ≤ 100001 := by
          have h1 := cut_count c (l.take i)
          rw [HC.out, List.length_append, List.length_take] at h1
          simp at h1
          omega
        have HOW : Hid (∀ o, (wr.alloc o).ownsRow w.heap.size 9 1 v5 out.length (out.map strV)) := Lib.hid fun o => by
          have := HO.out
          unfold OwnS at this
          exact this.alloc o
        have hszw := HB.out.size
        clear hx
        go_wp2_with (at_builtin; rw [HEX.out]; refine wpList_append_own_at _ rfl (.tmp 25) (.tmp 30) 57 rfl w.heap.size 9 i0 (.string ByteArray.empty) 1 16 Tryz.underlying57 hi hz0 hz1 hz2 rfl (by decide) _ _ _ rfl (HOW.out _) ⟨wr.heap.size, 0, none⟩ 1 1 [strV x] rfl rfl (by intro p u hp; match p, hp with | 0, hp => simp at hp; subst hp; simp [Addr.add]) (by intro u hu; simp at hu; subst hu; rfl) (by unfold maxLen; omega) (by omega) (by simp; omega) ?_; intro v5' w6 hown' hgrow _ hat'; have HO6 : Hid (OwnS w6 w.heap.size v5' (out ++ [x])) := Lib.hid (by unfold OwnS; simpa using hown'); have HB6 : Hid (Below w.heap.size w w6) := Lib.hid ((HB.out.alloc HB.out.size _).grown hgrow (by simp; omega) (fun g hg => (World.ownsRow.lt HO.out g hg).1)); clear hown' hgrow hat')
        go_roundw
        case rel => exact ⟨i + 1, i + 1, out ++ [x], _, rfl, by simp, by simp, by have := HEND.out; omega, HO6.out, HB6.out, .inl ⟨by rw [HEND.out], by rw [← HC.out, HCE.out]⟩⟩
        case measure => simp [intOf]; omega
      · have hlt : i < l.length := by omega
        have hee : ((i : Int) == (l.length : Int)) = false := beq_eq_false_iff_ne.2 (by omega)
        have hili2 : (i : Int) < (l.length : Int) := by omega
        have his : i < (⟨l.toArray⟩ : ByteArray).size := by rw [hsz]; exact hlt
        have hatb : (⟨l.toArray⟩ : ByteArray)[i]'his = l[i] := rfl
        have HTK := Lib.hid (List.take_succ_eq_append_getElem hlt)
        by_cases hz : l[i] = c
        · have hq : ((((⟨l.toArray⟩ : ByteArray)[i]'his).toNat : Int) == (c.toNat : Int)) = true := by rw [hatb, hz]; simp
          have HZ := Lib.hid hz
          clear hatb hz hend
          obtain ⟨x, hx⟩ : ∃ x, x = (l.take i).drop at_ := ⟨_, rfl⟩
          have HEX : Hid ((⟨l.toArray⟩ : ByteArray).extract at_ i = ⟨x.toArray⟩) := Lib.hid (by rw [ext_mid, hx])
          rw [← hx] at HC
          have HX := Lib.hid hx
          have hol : out.length ≤ 100001 := by
            have h1 := cut_count c (l.take i)
            rw [HC.out, List.length_append, List.length_take] at h1
            simp at h1
            omega
          have HOW : Hid (∀ o, (wr.alloc o).ownsRow w.heap.size 9 1 v5 out.length (out.map strV)) := Lib.hid fun o => by
            have := HO.out
            unfold OwnS at this
            exact this.alloc o
          have hszw := HB.out.size
          clear hx
          go_wp2_with (at_builtin; rw [HEX.out]; refine wpList_append_own_at _ rfl (.tmp 25) (.tmp 30) 57 rfl w.heap.size 9 i0 (.string ByteArray.empty) 1 16 Tryz.underlying57 hi hz0 hz1 hz2 rfl (by decide) _ _ _ rfl (HOW.out _) ⟨wr.heap.size, 0, none⟩ 1 1 [strV x] rfl rfl (by intro p u hp; match p, hp with | 0, hp => simp at hp; subst hp; simp [Addr.add]) (by intro u hu; simp at hu; subst hu; rfl) (by unfold maxLen; omega) (by omega) (by simp; omega) ?_; intro v5' w6 hown' hgrow _ hat'; have HO6 : Hid (OwnS w6 w.heap.size v5' (out ++ [x])) := Lib.hid (by unfold OwnS; simpa using hown'); have HB6 : Hid (Below w.heap.size w w6) := Lib.hid ((HB.out.alloc HB.out.size _).grown hgrow (by simp; omega) (fun g hg => (World.ownsRow.lt HO.out g hg).1)); clear hown' hgrow hat')
          go_roundw
          case rel => exact ⟨i + 1, i + 1, out ++ [x], _, rfl, by simp, by simp, by omega, HO6.out, HB6.out, .inr ⟨hlt, Nat.le_refl _, by rw [HTK.out, HZ.out, cutAt_snoc_sep, HC.out, ← HZ.out, ← HTK.out, List.drop_of_length_le (by rw [List.length_take]; omega)]⟩⟩
          case measure => simp [intOf]; omega
        · have hq : ((((⟨l.toArray⟩ : ByteArray)[i]'his).toNat : Int) == (c.toNat : Int)) = false := by
            rw [hatb]
            exact beq_eq_false_iff_ne.2 fun e => hz (UInt8.toNat_inj.1 (by omega))
          have HZ := Lib.hid hz
          clear hatb hz hend
          go_wp2
          go_roundw
          case rel => exact ⟨i + 1, at_, out, _, rfl, rfl, by simp, by omega, HO.out, HB.out, .inr ⟨hlt, by omega, by rw [HTK.out, cutAt_snoc_other c _ HZ.out HC.out, List.drop_append_of_le_length (by rw [List.length_take]; omega)]⟩⟩
          case measure => simp [intOf]; omega
    · have hout : out = cutAt c l := by
        rcases hcase with ⟨_, h⟩ | ⟨h, _⟩
        · exact h
        · omega
      subst hout
      have hil : ¬ (i : Int) ≤ (l.length : Int) := by omega
      go_wp2
      go_ret
      exact ⟨_, rfl, HO.out, HB.out⟩
end Go.Proofs.YticckfioggeaeaaGreatDoor
