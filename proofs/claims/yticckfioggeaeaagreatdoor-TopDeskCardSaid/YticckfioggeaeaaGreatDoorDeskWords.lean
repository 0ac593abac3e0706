/-
  desk.words, by its contract.
-/
import Derived.Test.YticckfioggeaeaaGreatDoorGB
import Derived.Test.YticckfioggeaeaaGreatDoorBookLine
set_option linter.unusedVariables false
set_option linter.unusedSimpArgs false
set_option linter.unnecessarySimpa false
set_option linter.unusedVariables false
namespace Go.Proofs.YticckfioggeaeaaGreatDoor
open Go.RowKit

theorem wordsM_snoc : ∀ (l : List (List UInt8)) (x : List UInt8) (ns : List Int) (n : Int), wordsM l = some ns → numberM x = some n → x.length ≤ 7 → wordsM (l ++ [x]) = some (ns ++ [n])
  | [], x, ns, n, h, hx, h7 => by
    simp only [wordsM, Option.some.injEq] at h
    subst h
    have h8 : ¬ 7 < x.length := by omega
    simp [wordsM, hx, h8]
  | w :: l, x, ns, n, h, hx, h7 => by
    rw [wordsM] at h
    cases hw : numberM w with
    | none => rw [hw] at h; cases h
    | some m =>
      rw [hw] at h
      simp only at h
      split at h
      · cases h
      rename_i h9
      cases hl : wordsM l with
      | none => rw [hl] at h; cases h
      | some ms =>
        rw [hl] at h
        simp only [Option.some.injEq] at h
        subst h
        rw [List.cons_append, wordsM, hw, wordsM_snoc l x ms n hl hx h7]
        simp only
        rw [if_neg h9]
        rfl
theorem wordsM_none : ∀ (l : List (List UInt8)) (x : List UInt8), x ∈ l → (numberM x = none ∨ 7 < x.length) → wordsM l = none
  | [], x, h, _ => by simp at h
  | w :: l, x, h, hx => by
    rw [wordsM]
    rcases List.mem_cons.1 h with rfl | hm
    · rcases hx with hx | hx
      · rw [hx]
      · cases numberM x with
        | none => rfl
        | some n => simp only; rw [if_pos hx]
    · rw [wordsM_none l x hm hx]
      cases numberM w with
      | none => rfl
      | some n => simp only; split <;> rfl
/-- Strings that lie somewhere. -/
def StrsIn (w : World) (a : Option Addr) (ws : List (List UInt8)) : Prop := 0 < ws.length → ∃ b off, a = some ⟨b, off, none⟩ ∧ b < w.heap.size ∧ ∀ q x, ws[q]? = some x → w.cell? ⟨b, off + q, none⟩ = some (strV x)
def WordsPost (w : World) (ws : List (List UInt8)) (e : Ending) (w' : World) : Prop :=
  Below w.heap.size w w' ∧ ((wordsM ws = none ∧ e = .returned (.tuple #[.slice none 0 0, .bool false])) ∨ ∃ ns v, wordsM ws = some ns ∧ e = .returned (.tuple #[v, .bool true]) ∧ OwnInts w' w.heap.size v ns)
set_option maxHeartbeats 4000000 in
set_option maxRecDepth 100000 in
theorem words_any (a : Option Addr) (n c : Nat) (ws : List (List UInt8)) (w : World) (hl : ws.length = n) (hn : n ≤ 5000) (h : StrsIn w a ws) (hw : ∀ x ∈ ws, x.length ≤ 100000) (he : Errs w) (ht : Tab w) :
    Calls Tryz.prog 72 #[.slice a n c] w (WordsPost w ws) := by
  have HE := Lib.hid he; have HT := Lib.hid ht; have HL := Lib.hid hl; have HS := Lib.hid h; have HWL := Lib.hid hw
  clear he ht hl h hw
  obtain ⟨i0, hi, hz0, hz1, hz2⟩ := info_parts info_int
  go_enter Tryz.func72, Tryz.ntmps72
  go_wp2
  go_loopw [4, 11] (fun v4 v11 wr => ∃ (k : Nat) (ns : List Int) (xA : Value), k ≤ n ∧ v11 = .int .i64 k ∧ wordsM (ws.take k) = some ns ∧ ns.length = k ∧ xA = v4 ∧ OwnInts wr w.heap.size xA ns ∧ Below w.heap.size w wr) (fun _ v11 _ => n - (intOf v11).toNat)
  case atStart => exact ⟨0, [], _, Nat.zero_le _, rfl, rfl, rfl, rfl, OwnInts.nil _ _, Below.refl _ _⟩
  case round =>
    obtain ⟨k, ns, v4, hk, rfl, hns, hnl, rfl, hown, hbel⟩ := hrel
    have HNS := Lib.hid hns; have HNL := Lib.hid hnl; have HO := Lib.hid hown; have HBL := Lib.hid hbel
    clear hns hnl hown hbel
    have hk0 : (0 : Int) ≤ (k : Int) := by omega
    by_cases hlt : k < n
    · have hki : (k : Int) < (n : Int) := by omega
      have hkw : k < ws.length := by rw [HL.out]; exact hlt
      obtain ⟨x, hx⟩ : ∃ x, x = ws[k]'hkw := ⟨_, rfl⟩
      have HX := Lib.hid hx
      have hxm : x ∈ ws := by rw [hx]; exact List.getElem_mem _
      have hxl := HWL.out x hxm
      obtain ⟨b, off, rfl, hb, hc⟩ := HS.out (by omega)
      have hcell : wr.cell? ⟨b, off + k, none⟩ = some (strV x) := (HBL.out.cell (p := ⟨b, off + k, none⟩) hb).trans (hc k x (by rw [hx]; exact List.getElem?_eq_getElem _))
      have HXM := Lib.hid hxm
      have hsz : (⟨x.toArray⟩ : ByteArray).size = x.length := by simp [ByteArray.size]
      clear hx hxm hc
      have HTW := Lib.hid (HT.out.below HBL.out (Nat.le_refl _)); have HEW := Lib.hid (HE.out.below HBL.out (Nat.le_refl _))
      go_wp2_with fail
      refine (atoi_any x hxl _ HEW.out).mono ?_
      rintro e w4 ⟨hcs, hb4⟩
      have HBL4 : Hid (Below w.heap.size w w4) := Lib.hid (HBL.out.trans (hb4.mono HBL.out.size))
      have HO4 : Hid (OwnInts w4 w.heap.size v4 ns) := Lib.hid (HO.out.keep fun g hg => hb4.block g (World.ownsRow.lt HO.out g hg).2)
      have HT4 := Lib.hid (HTW.out.below hb4 (Nat.le_refl _))
      clear hb4
      rcases hcs with ⟨v, ha, rfl⟩ | ⟨ha, v, tp, N, rfl⟩
      · have hbd := atoi_bounds ha
        have HN := Lib.hid (numberM_atoi ha)
        clear ha
        by_cases h0 : 0 ≤ v
        · have h0' : ¬ v < 0 := by omega
          by_cases h7 : 7 < x.length
          · have HR : Hid (wordsM ws = none) := Lib.hid (wordsM_none ws x HXM.out (.inr h7))
            have h7' : (7 : Int) < (x.length : Int) := by omega
            clear HN
            go_wp2
            go_ret2
            exact ⟨HBL4.out, .inl ⟨HR.out, rfl⟩⟩
          · have h7' : ¬ (7 : Int) < (x.length : Int) := by omega
            by_cases hs : Lib.itoa v = x
            · have HR : Hid (numberM x = some v) := Lib.hid (by rw [HN.out, if_pos ⟨h0, hs⟩])
              have HNS1 : Hid (wordsM (ws.take (k + 1)) = some (ns ++ [v])) := Lib.hid (by
                rw [List.take_succ_eq_append_getElem hkw, ← HX.out]
                exact wordsM_snoc _ _ _ _ HNS.out HR.out (by omega))
              clear HN
              go_wp2_with fail
              refine (itoa_any v (by omega) (by omega) _ HT4.out).mono ?_
              rintro e w5 ⟨rfl, hb5⟩
              have HBL5 : Hid (Below w.heap.size w w5) := Lib.hid (HBL4.out.trans (hb5.mono HBL4.out.size))
              have HO5 : Hid (OwnInts w5 w.heap.size v4 ns) := Lib.hid (HO4.out.keep fun g hg => hb5.block g (World.ownsRow.lt HO4.out g hg).2)
              have HOW : Hid (∀ o, (w5.alloc o).ownsRow w.heap.size 3 1 v4 ns.length (ints ns)) := Lib.hid fun o => (HO5.out.keep fun g hg => Below.heap_alloc _ _ _ (World.ownsRow.lt HO5.out g hg).2 : OwnInts (w5.alloc o) w.heap.size v4 ns)
              have hns3 : ns.length ≤ 5000 := by rw [HNL.out]; omega
              have hszw := HBL5.out.size
              rw [hs]
              clear hb5
              go_wp2_with (at_builtin; refine wpList_append_own_at _ rfl (.tmp 37) (.tmp 39) 22 rfl w.heap.size 3 i0 (.int .i64 0) 1 8 Tryz.underlying22 hi hz0 hz1 hz2 rfl (by decide) _ _ _ rfl (HOW.out _) ⟨w5.heap.size, 0, none⟩ 1 1 [.int .i64 v] rfl rfl (by intro p u hp; match p, hp with | 0, hp => simp at hp; subst hp; simp [Addr.add]) (by intro u hu; simp at hu; subst hu; rfl) (by unfold maxLen; omega) (by omega) (by simp; omega) ?_; intro v9' w6 hown' hgrow _ hat; have HO6 : Hid (OwnInts w6 w.heap.size v9' (ns ++ [v])) := Lib.hid (by unfold OwnInts; simpa [ints] using hown'); have HBL6 : Hid (Below w.heap.size w w6) := Lib.hid ((HBL5.out.alloc HBL5.out.size _).grown hgrow (by simp; omega) (fun g hg => (World.ownsRow.lt HO5.out g hg).1)); clear hown' hgrow hat)
              go_roundw
              case rel => exact ⟨k + 1, ns ++ [v], _, hlt, by simp, HNS1.out, by rw [List.length_append, HNL.out]; rfl, rfl, HO6.out, HBL6.out⟩
              case measure => simp [intOf]; omega
            · have HR : Hid (wordsM ws = none) := Lib.hid (wordsM_none ws x HXM.out (.inl (by rw [HN.out, if_neg (fun h => hs h.2)])))
              have hse : (Lib.itoa v == x) = false := beq_eq_false_iff_ne.2 hs
              clear HN hs
              go_wp2_with fail
              refine (itoa_any v (by omega) (by omega) _ HT4.out).mono ?_
              rintro e w5 ⟨rfl, hb5⟩
              have HBL5 : Hid (Below w.heap.size w w5) := Lib.hid (HBL4.out.trans (hb5.mono HBL4.out.size))
              clear hb5
              go_wp2
              go_ret2
              exact ⟨HBL5.out, .inl ⟨HR.out, rfl⟩⟩
        · have HR : Hid (wordsM ws = none) := Lib.hid (wordsM_none ws x HXM.out (.inl (by rw [HN.out, if_neg (fun h => h0 h.1)])))
          have h0' : v < 0 := by omega
          clear HN
          go_wp2
          go_ret2
          exact ⟨HBL4.out, .inl ⟨HR.out, rfl⟩⟩
      · have HR : Hid (wordsM ws = none) := Lib.hid (wordsM_none ws x HXM.out (.inl (numberM_atoi_no ha)))
        clear ha
        go_wp2
        go_ret2
        exact ⟨HBL4.out, .inl ⟨HR.out, rfl⟩⟩
    · obtain rfl : k = n := by omega
      have HR : Hid (wordsM ws = some ns) := Lib.hid (by
        have h2 := HNS.out
        rw [List.take_of_length_le (by rw [HL.out]; omega)] at h2
        exact h2)
      go_wp2
      go_ret2
      exact ⟨HBL.out, .inr ⟨ns, _, HR.out, rfl, HO.out⟩⟩
end Go.Proofs.YticckfioggeaeaaGreatDoor
