/-
  The reference's Session, by its contract (printed by wip/gen_refsession.py).
-/
import Derived.Test.YticckfioggeaeaaGreatDoorRefAnswer
set_option linter.unusedVariables false
set_option linter.unusedSimpArgs false
set_option linter.unnecessarySimpa false
set_option linter.unusedVariables false
namespace Go.Proofs.YticckfioggeaeaaGreatDoor
open Go.RowKit

def RSesPost (w : World) (text : List UInt8) (e : Ending) (w' : World) : Prop := e = .returned (.string ⟨(runM text).toArray⟩) ∧ Below w.heap.size w w'
/-- What stands between two lines. -/
def SesRel (w : World) (text : List UInt8) (v4 v5 : Value) (wr : World) : Prop :=
  ∃ (f : Nat) (L : List (List UInt8)) (aK aV : Option Addr) (nK nV cK cV : Nat), f ≤ text.length + 1 ∧ v5 = .int .i64 f ∧ v4 = .string ⟨(playM L).2.toArray⟩ ∧
    lnA text = L ++ lnA (text.drop f) ∧ BX wr w.heap.size 3 (playM L).1 aK aV nK nV cK cV ∧ Come (playM L).1 ∧ Below w.heap.size w wr
/-- A line that ends at i. -/
theorem ses_step {text : List UInt8} {f i : Nat} (hf : f < text.length) (h0 : f ≤ i) (h1 : i ≤ text.length) (hn : 10 ∉ (text.drop f).take (i - f)) (he : i = text.length ∨ text[i]? = some 10) :
    lnA (text.drop f) = (text.drop f).take (i - f) :: lnA (text.drop (i + 1)) := by
  rcases he with rfl | he
  · have e : (text.drop f).take (text.length - f) = text.drop f := List.take_of_length_le (by rw [List.length_drop]; omega)
    rw [e] at hn ⊢
    rw [lnA_one hn (by intro h; have := congrArg List.length h; rw [List.length_drop, List.length_nil] at this; omega), show text.drop (text.length + 1) = [] from List.drop_eq_nil_of_le (by omega), lnA_nil]
  · have hil : i < text.length := by
      rcases Nat.lt_or_ge i text.length with h | h
      · exact h
      · rw [List.getElem?_eq_none h] at he; simp at he
    have e : text.drop f = (text.drop f).take (i - f) ++ 10 :: text.drop (i + 1) := by
      conv => lhs; rw [← List.take_append_drop (i - f) (text.drop f)]
      rw [List.drop_drop, show f + (i - f) = i by omega, List.drop_eq_getElem_cons hil]
      rw [List.getElem?_eq_getElem hil] at he
      rw [Option.some.inj he]
    conv => lhs; rw [e]
    exact lnA_line hn _
theorem ext_cut (l : List UInt8) (f i : Nat) : (⟨l.toArray⟩ : ByteArray).extract f i = ⟨((l.drop f).take (i - f)).toArray⟩ := by
  apply ByteArray.ext
  simp [ByteArray.data_extract, List.extract_eq_take_drop]
theorem playM_len_aux : ∀ (L : List (List UInt8)) (st : Bk × List UInt8), Come st.1 → (L.foldl ansS st).2.length ≤ st.2.length + 61 * L.length
  | [], st, _ => by simp
  | l :: L, st, h => by
    obtain ⟨h1, h2⟩ := answer_ok h l
    have h3 := playM_len_aux L (ansS st l) h1
    rw [List.foldl_cons, List.length_cons]
    refine Nat.le_trans h3 ?_
    have h4 := h2.2
    simp only [ansS, List.length_append, List.length_cons, List.length_nil]
    omega
theorem playM_len (L : List (List UInt8)) : (playM L).2.length ≤ 61 * L.length := by
  have h := playM_len_aux L (bk0, []) come0
  unfold playM
  simpa using h
set_option maxHeartbeats 4000000 in
set_option maxRecDepth 100000 in
theorem rSession (text : List UInt8) (w : World) : Calls Tryz.prog 20 #[.string ⟨text.toArray⟩] w (RSesPost w text) := by
  have hsz : (⟨text.toArray⟩ : ByteArray).size = text.length := by simp [ByteArray.size]
  by_cases hl : 3000 < text.length
  · have HR : Hid (runM text = sLong) := Lib.hid (by unfold runM; rw [if_pos hl])
    have hl' : (3000 : Int) < (text.length : Int) := by omega
    clear hl
    go_enter Tryz.func20, Tryz.ntmps20
    go_wp2
    go_ret
    exact ⟨ret_eq (by rw [HR.out]; rfl), Below.refl _ _⟩
  · have HR : Hid (runM text = (playM (lnA text)).2) := Lib.hid (by unfold runM; rw [if_neg hl])
    have hl' : ¬ (3000 : Int) < (text.length : Int) := by omega
    have hbx := BX.new (w := w) (slots := 3) (s := bk0) (aK := none) (aV := none) (nK := 0) (nV := 0) (cK := 0) (cV := 0) (OwnInts.nil _ _) (OwnInts.nil _ _) rfl rfl
    have HBX0 := Lib.hid hbx
    clear hbx
    go_enter Tryz.func20, Tryz.ntmps20
    go_wp2
    go_loopw [4, 5] (fun v4 v5 wr => SesRel w text v4 v5 wr) (fun _ v5 _ => text.length + 1 - (intOf v5).toNat)
    case atStart => exact ⟨0, [], none, none, 0, 0, 0, 0, by omega, rfl, rfl, by simp, HBX0.out, come0, (Below.refl _ _).alloc (Nat.le_refl _) _⟩
    case round =>
      obtain ⟨f, L, aK, aV, nK, nV, cK, cV, hf, rfl, rfl, hlna, hbx, hcome, hbel⟩ := hrel
      have HLNA := Lib.hid hlna; have HBX := Lib.hid hbx; have HCM := Lib.hid hcome; have HBEL := Lib.hid hbel
      clear hlna hbx hcome hbel
      by_cases hlt : f < text.length
      · have hf0 : (f : Int) < (text.length : Int) := by omega
        obtain ⟨s, hs⟩ : ∃ s, s = (playM L).1 := ⟨_, rfl⟩
        obtain ⟨out, ho⟩ : ∃ out, out = (playM L).2 := ⟨_, rfl⟩
        have HP : Hid (playM L = (s, out)) := Lib.hid (by rw [hs, ho])
        rw [← hs] at HBX HCM
        rw [← ho]
        have hol : out.length ≤ 61 * 3001 := by
          have h1 := HLNA.out
          have h2 := lnA_len text
          have h3 := playM_len L
          rw [h1, List.length_append] at h2
          rw [← ho] at h3
          omega
        clear hs ho
        go_wp2
        go_loop [6] (fun v6 => ∃ i : Nat, f ≤ i ∧ i ≤ text.length ∧ v6 = .int .i64 i ∧ 10 ∉ (text.drop f).take (i - f)) (fun v6 => text.length - (intOf v6).toNat)
        case atStart => exact ⟨f, Nat.le_refl _, by omega, rfl, by simp⟩
        case round =>
          obtain ⟨i, hfi, hil, rfl, hno⟩ := hrel
          have HNO := Lib.hid hno
          clear hno
          have hi0 : (0 : Int) ≤ (i : Int) := by omega
          have hX := ext_cut text f i
          obtain ⟨l, hle⟩ : ∃ l, l = (text.drop f).take (i - f) := ⟨_, rfl⟩
          rw [← hle] at hX HNO
          have hll : l.length ≤ 3000 := by rw [hle, List.length_take, List.length_drop]; omega
          have HLE := Lib.hid hle
          obtain ⟨s2, hs2⟩ : ∃ s2, s2 = (answerM s l).1 := ⟨_, rfl⟩
          obtain ⟨a2, ha2⟩ : ∃ a2, a2 = (answerM s l).2 := ⟨_, rfl⟩
          have hal : a2.length ≤ 60 := by rw [ha2]; exact (answer_ok HCM.out l).2.2
          have HCM2 : Hid (Come s2) := Lib.hid (by rw [hs2]; exact (answer_ok HCM.out l).1)
          have HPL : Hid (playM (L ++ [l]) = (s2, out ++ (a2 ++ [10]))) := Lib.hid (by rw [playM_snoc, HP.out, hs2, ha2])
          have HANS : Hid (∀ wx Y, RB4 wx 3 s Y → Calls Tryz.prog 43 #[Y, .string ((⟨text.toArray⟩ : ByteArray).extract f i)] wx (fun e w' => ∃ X, e = .returned (.tuple #[X, .string ⟨a2.toArray⟩]) ∧ RB4 w' 3 s2 X ∧ Below wx.heap.size wx w')) := Lib.hid fun wx Y hy => by
            rw [hX, hs2, ha2]
            exact rAnswer s Y l hll wx hy HCM.out
          clear hle hs2 ha2 hX
          have hw1 : IntKind.i64.wrap ((i : Int) + 1) = (i : Int) + 1 := IntWalk.i64_in _ (by omega)
          by_cases hx : i < text.length ∧ text[i]? ≠ some 10
          · obtain ⟨hil2, hne⟩ := hx
            have hili : (i : Int) < (text.length : Int) := by omega
            have his : i < (⟨text.toArray⟩ : ByteArray).size := by rw [hsz]; exact hil2
            have hatb : (⟨text.toArray⟩ : ByteArray)[i]'his = text[i] := rfl
            rw [List.getElem?_eq_getElem hil2] at hne
            have hne2 : text[i] ≠ 10 := fun h => hne (by rw [h])
            have hq : ((((⟨text.toArray⟩ : ByteArray)[i]'his).toNat : Int) != 10) = true := by
              rw [hatb]
              refine bne_iff_ne.2 fun e => hne2 (UInt8.toNat_inj.1 ?_)
              have : (10 : UInt8).toNat = 10 := rfl
              omega
            have HNO2 : Hid (10 ∉ (text.drop f).take (i + 1 - f)) := Lib.hid (by
              rw [show i + 1 - f = (i - f) + 1 by omega, List.take_add_one, List.getElem?_drop, show f + (i - f) = i by omega, List.getElem?_eq_getElem hil2, ← HLE.out, List.mem_append]
              rintro (h | h)
              · exact HNO.out h
              · simp at h; first | exact hne2 h | exact hne2 h.symm)
            clear hne hatb hne2
            go_wp2
            go_round
            case rel => exact ⟨i + 1, by omega, by omega, by simp, HNO2.out⟩
            case measure => simp [intOf]; omega
          · have HEN : Hid (lnA (text.drop f) = l :: lnA (text.drop (i + 1))) := Lib.hid (by
              rw [HLE.out]
              refine ses_step hlt hfi hil (by rw [← HLE.out]; exact HNO.out) ?_
              rcases Nat.lt_or_ge i text.length with h | h
              · exact .inr (Classical.not_not.1 fun h2 => hx ⟨h, h2⟩)
              · exact .inl (by omega))
            have hbd1 : ¬ 9223372036854775807 < a2.length + 1 := by omega
            have hbd2 : ¬ 9223372036854775807 < out.length + (a2.length + 1) := by omega
            have hbd3 : ¬ 9223372036854775807 < out.length + a2.length := by omega
            by_cases hilt : i < text.length
            · have hili : (i : Int) < (text.length : Int) := by omega
              have his : i < (⟨text.toArray⟩ : ByteArray).size := by rw [hsz]; exact hilt
              have h10 : text[i]? = some 10 := Classical.not_not.1 fun h2 => hx ⟨hilt, h2⟩
              have hatb : (⟨text.toArray⟩ : ByteArray)[i]'his = text[i] := rfl
              rw [List.getElem?_eq_getElem hilt] at h10
              have hq : ((((⟨text.toArray⟩ : ByteArray)[i]'his).toNat : Int) != 10) = false := by rw [hatb, Option.some.inj h10]; rfl
              clear hx h10 hatb
              go_upto_region 10 with fail
              have HRD : Hid (∀ wx, Keep [] wr wx → wx.cell? ⟨w.heap.size, 0, none⟩ = some (.int .i64 3) ∧ wx.cell? ⟨w.heap.size, 1, none⟩ = some (.slice aK nK cK) ∧ wx.cell? ⟨w.heap.size, 2, none⟩ = some (.slice aV nV cV) ∧ wx.cell? ⟨w.heap.size, 3, none⟩ = some (.string ⟨s.text.toArray⟩) ∧ wx.cell? ⟨w.heap.size, 4, none⟩ = some (.int .i64 s.many)) := Lib.hid fun wx hk => by
                obtain ⟨x0, x1, x2, x3, x4, _⟩ := (HBX.out.keep0 hk).cells
                exact ⟨x0, x1, x2, x3, x4⟩
              go_cut [7, 8] (fun yA yB wx => CutR wr 3 s2 wx yA ∧ yB = .string ⟨a2.toArray⟩)
              case first =>
                go_region_held3 (fun w' => w'.cell? ⟨w.heap.size, 0, none⟩ = some (.int .i64 3) ∧ w'.cell? ⟨w.heap.size, 1, none⟩ = some (.slice aK nK cK) ∧ w'.cell? ⟨w.heap.size, 2, none⟩ = some (.slice aV nV cV) ∧ w'.cell? ⟨w.heap.size, 3, none⟩ = some (.string ⟨s.text.toArray⟩) ∧ w'.cell? ⟨w.heap.size, 4, none⟩ = some (.int .i64 s.many))
                  (first | (refine HRD.out _ ?_; first | with_reducible exact HK3.out | with_reducible exact HK3.out.alloc _ | with_reducible exact (Keep.refl [] wr).drew | with_reducible exact ((Keep.refl [] wr).alloc _).drew | with_reducible exact ((Keep.refl [] wr).drew).alloc _ | with_reducible exact keep_new5 HK3.out _ _ _ _ _) | fail)
                  (first
                  | (go_at_call 43; refine (HANS.out _ _ (HBX.out.keep0 (by first | exact (Keep.refl [] wr).drew | exact ((Keep.refl [] wr).drew).alloc _ | exact ((Keep.refl [] wr).alloc _).drew)).rb).mono ?_; rintro e w4 ⟨X4, rfl, ⟨aK4, aV4, nK4, nV4, cK4, cV4, rfl, hK4, hV4, hkl4, hvl4⟩, hb4⟩; (try (have hyb := ((Blk.new wr 24 [.int .i64 0, .slice none 0 0, .slice none 0 0, .string ⟨#[]⟩, .int .i64 0]).drew).below hb4 (by simp); have y0 := hyb.cell_ (i := 0) (v := .int .i64 0) rfl; have y1 := hyb.cell_ (i := 1) (v := .slice none 0 0) rfl; have y2 := hyb.cell_ (i := 2) (v := .slice none 0 0) rfl; have y3 := hyb.cell_ (i := 3) (v := .string ⟨#[]⟩) rfl; have y4 := hyb.cell_ (i := 4) (v := .int .i64 0) rfl; have fy0 := hyb.free 0; have fy1 := hyb.free 1; have fy2 := hyb.free 2; have fy3 := hyb.free 3; have fy4 := hyb.free 4; have HYB := Lib.hid hyb; clear hyb)); have HK3 : Hid (Keep [] wr w4) := (by first | exact Lib.hid (((Keep.refl [] wr).drew).trans (Keep.of_below hb4 (Nat.le_refl _))) | exact Lib.hid ((((Keep.refl [] wr).alloc _).drew).trans (Keep.of_below hb4 (Nat.le_refl _))) | exact Lib.hid ((((Keep.refl [] wr).drew).alloc _).trans (Keep.of_below hb4 (Nat.le_refl _)))); have HK4 := Lib.hid hK4; have HV4 := Lib.hid hV4; have HKL4 := Lib.hid hkl4; have HVL4 := Lib.hid hvl4; clear hK4 hV4 hkl4 hvl4 hb4)
                  | fail)
                all_goals
                  (try go_wp2)
                  go_meet
                all_goals first
                  | with_reducible exact ⟨CutR.behind HK4.out HV4.out HKL4.out HVL4.out (HK3.out.below (Nat.le_refl _) (by simp)), rfl⟩
                  | with_reducible exact ⟨CutR.ahead HYB.out HK4.out HV4.out HKL4.out HVL4.out (HK3.out.below (Nat.le_refl _) (by simp)), rfl⟩
              case rest =>
                obtain ⟨⟨q, aK4, aV4, nK4, nV4, cK4, cV4, rfl, hbx4, hq4, hbl4⟩, rfl⟩ := hcut
                have HBX4 := Lib.hid hbx4; have HQ4 := Lib.hid hq4; have HBL4 := Lib.hid hbl4
                clear hbx4 hq4 hbl4
                have HBXc := Lib.hid (HBX.out.keep0 (Keep.of_below (F := []) HBL4.out (Nat.le_refl _)))
                obtain ⟨x0, x1, x2, x3, x4, f0, f1, f2, f3, f4⟩ := HBX4.out.cells
                obtain ⟨y0, y1, y2, y3, y4, g0, g1, g2, g3, g4⟩ := HBXc.out.cells
                go_wp2
                go_roundw
                case rel =>
                  refine ⟨i + 1, L ++ [l], aK4, aV4, nK4, nV4, cK4, cV4, by omega, by simp, ?_, ?_, ?_, ?_, (HBEL.out.trans (HBL4.out.mono HBEL.out.size)).trans ((keep5 wc w.heap.size _ _ _ _ _).below (Nat.le_trans HBEL.out.size HBL4.out.size) (by simp))⟩
                  · rw [HPL.out]; simp [str_cat]
                  · rw [HLNA.out, HEN.out]; simp
                  · rw [HPL.out]; exact HBX4.out.move HBXc.out.box
                  · rw [HPL.out]; exact HCM2.out
                case measure => simp [intOf]; omega
            · have hilt' : ¬ (i : Int) < (text.length : Int) := by omega
              clear hx
              go_upto_region 10 with fail
              have HRD : Hid (∀ wx, Keep [] wr wx → wx.cell? ⟨w.heap.size, 0, none⟩ = some (.int .i64 3) ∧ wx.cell? ⟨w.heap.size, 1, none⟩ = some (.slice aK nK cK) ∧ wx.cell? ⟨w.heap.size, 2, none⟩ = some (.slice aV nV cV) ∧ wx.cell? ⟨w.heap.size, 3, none⟩ = some (.string ⟨s.text.toArray⟩) ∧ wx.cell? ⟨w.heap.size, 4, none⟩ = some (.int .i64 s.many)) := Lib.hid fun wx hk => by
                obtain ⟨x0, x1, x2, x3, x4, _⟩ := (HBX.out.keep0 hk).cells
                exact ⟨x0, x1, x2, x3, x4⟩
              go_cut [7, 8] (fun yA yB wx => CutR wr 3 s2 wx yA ∧ yB = .string ⟨a2.toArray⟩)
              case first =>
                go_region_held3 (fun w' => w'.cell? ⟨w.heap.size, 0, none⟩ = some (.int .i64 3) ∧ w'.cell? ⟨w.heap.size, 1, none⟩ = some (.slice aK nK cK) ∧ w'.cell? ⟨w.heap.size, 2, none⟩ = some (.slice aV nV cV) ∧ w'.cell? ⟨w.heap.size, 3, none⟩ = some (.string ⟨s.text.toArray⟩) ∧ w'.cell? ⟨w.heap.size, 4, none⟩ = some (.int .i64 s.many))
                  (first | (refine HRD.out _ ?_; first | with_reducible exact HK3.out | with_reducible exact HK3.out.alloc _ | with_reducible exact (Keep.refl [] wr).drew | with_reducible exact ((Keep.refl [] wr).alloc _).drew | with_reducible exact ((Keep.refl [] wr).drew).alloc _ | with_reducible exact keep_new5 HK3.out _ _ _ _ _) | fail)
                  (first
                  | (go_at_call 43; refine (HANS.out _ _ (HBX.out.keep0 (by first | exact (Keep.refl [] wr).drew | exact ((Keep.refl [] wr).drew).alloc _ | exact ((Keep.refl [] wr).alloc _).drew)).rb).mono ?_; rintro e w4 ⟨X4, rfl, ⟨aK4, aV4, nK4, nV4, cK4, cV4, rfl, hK4, hV4, hkl4, hvl4⟩, hb4⟩; (try (have hyb := ((Blk.new wr 24 [.int .i64 0, .slice none 0 0, .slice none 0 0, .string ⟨#[]⟩, .int .i64 0]).drew).below hb4 (by simp); have y0 := hyb.cell_ (i := 0) (v := .int .i64 0) rfl; have y1 := hyb.cell_ (i := 1) (v := .slice none 0 0) rfl; have y2 := hyb.cell_ (i := 2) (v := .slice none 0 0) rfl; have y3 := hyb.cell_ (i := 3) (v := .string ⟨#[]⟩) rfl; have y4 := hyb.cell_ (i := 4) (v := .int .i64 0) rfl; have fy0 := hyb.free 0; have fy1 := hyb.free 1; have fy2 := hyb.free 2; have fy3 := hyb.free 3; have fy4 := hyb.free 4; have HYB := Lib.hid hyb; clear hyb)); have HK3 : Hid (Keep [] wr w4) := (by first | exact Lib.hid (((Keep.refl [] wr).drew).trans (Keep.of_below hb4 (Nat.le_refl _))) | exact Lib.hid ((((Keep.refl [] wr).alloc _).drew).trans (Keep.of_below hb4 (Nat.le_refl _))) | exact Lib.hid ((((Keep.refl [] wr).drew).alloc _).trans (Keep.of_below hb4 (Nat.le_refl _)))); have HK4 := Lib.hid hK4; have HV4 := Lib.hid hV4; have HKL4 := Lib.hid hkl4; have HVL4 := Lib.hid hvl4; clear hK4 hV4 hkl4 hvl4 hb4)
                  | fail)
                all_goals
                  (try go_wp2)
                  go_meet
                all_goals first
                  | with_reducible exact ⟨CutR.behind HK4.out HV4.out HKL4.out HVL4.out (HK3.out.below (Nat.le_refl _) (by simp)), rfl⟩
                  | with_reducible exact ⟨CutR.ahead HYB.out HK4.out HV4.out HKL4.out HVL4.out (HK3.out.below (Nat.le_refl _) (by simp)), rfl⟩
              case rest =>
                obtain ⟨⟨q, aK4, aV4, nK4, nV4, cK4, cV4, rfl, hbx4, hq4, hbl4⟩, rfl⟩ := hcut
                have HBX4 := Lib.hid hbx4; have HQ4 := Lib.hid hq4; have HBL4 := Lib.hid hbl4
                clear hbx4 hq4 hbl4
                have HBXc := Lib.hid (HBX.out.keep0 (Keep.of_below (F := []) HBL4.out (Nat.le_refl _)))
                obtain ⟨x0, x1, x2, x3, x4, f0, f1, f2, f3, f4⟩ := HBX4.out.cells
                obtain ⟨y0, y1, y2, y3, y4, g0, g1, g2, g3, g4⟩ := HBXc.out.cells
                go_wp2
                go_roundw
                case rel =>
                  refine ⟨i + 1, L ++ [l], aK4, aV4, nK4, nV4, cK4, cV4, by omega, by simp, ?_, ?_, ?_, ?_, (HBEL.out.trans (HBL4.out.mono HBEL.out.size)).trans ((keep5 wc w.heap.size _ _ _ _ _).below (Nat.le_trans HBEL.out.size HBL4.out.size) (by simp))⟩
                  · rw [HPL.out]; simp [str_cat]
                  · rw [HLNA.out, HEN.out]; simp
                  · rw [HPL.out]; exact HBX4.out.move HBXc.out.box
                  · rw [HPL.out]; exact HCM2.out
                case measure => simp [intOf]; omega
      · have hlt' : ¬ (f : Int) < (text.length : Int) := by omega
        have HE : Hid (runM text = (playM L).2) := Lib.hid (by rw [HR.out, HLNA.out, List.drop_eq_nil_of_le (by omega), lnA_nil, List.append_nil])
        go_wp2
        go_ret
        exact ⟨ret_eq (by rw [HE.out]; rfl), HBEL.out⟩
end Go.Proofs.YticckfioggeaeaaGreatDoor
