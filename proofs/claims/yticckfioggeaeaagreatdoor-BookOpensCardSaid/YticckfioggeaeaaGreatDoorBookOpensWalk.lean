/-
  BookOpens: the walk.
-/
import Derived.Test.YticckfioggeaeaaGreatDoorBookRefOpen
import Derived.Test.YticckfioggeaeaaGreatDoorBookTwo
import Derived.Test.YticckfioggeaeaaGreatDoorBookPl
import Derived.Test.YticckfioggeaeaaGreatDoorErrIsB
import Derived.Deep.RegionHeld3
set_option linter.unusedVariables false
set_option linter.unusedSimpArgs false
set_option linter.unnecessarySimpa false
set_option linter.unusedVariables false
namespace Go.Proofs.YticckfioggeaeaaGreatDoor
open Go.RowKit

theorem open_both {w w' : World} {slots : Int} {text : List UInt8} {e : Ending} (h : OpenPost w slots text e w') :
    Below w.heap.size w w' ∧ (((openS slots text).2.2.2 ≠ 0 ∧ e = .returned (.tuple #[.pointer none, .int .i64 (openS slots text).2.2.1, errv (openS slots text).2.2.2])) ∨
      ((openS slots text).2.2.2 = 0 ∧ 1 ≤ (openS slots text).1 ∧ (openS slots text).1 ≤ 8 ∧ ∃ b, e = .returned (.tuple #[.pointer (some ⟨b, 0, none⟩), .int .i64 (openS slots text).2.2.1, .nilIface]) ∧ BookAt (fun x => w.heap.size ≤ x) w' b (openS slots text).1 (openS slots text).2.1)) := by
  obtain ⟨hb, ⟨hno, rfl⟩ | ⟨n, rfl, h1, h8, ⟨hl, rfl⟩ | ⟨hl, ⟨he, rfl⟩ | ⟨he, b, rfl, hk⟩⟩⟩⟩ := h
  · have e1 : openS slots text = (0, bk0, 0, 1) := by unfold openS; rw [if_pos hno]
    rw [e1]
    exact ⟨hb, .inl ⟨by decide, rfl⟩⟩
  · have e1 : openS (n : Int) text = (0, bk0, 0, 4) := by unfold openS; rw [if_neg (by omega), if_pos hl]
    rw [e1]
    exact ⟨hb, .inl ⟨by decide, rfl⟩⟩
  · have e1 : openS (n : Int) text = (0, bk0, (openL n bk0 (lns text)).2.1, (openL n bk0 (lns text)).2.2) := by unfold openS; rw [if_neg (by omega), if_neg (by omega), show (n : Int).toNat = n by omega, if_pos he]
    rw [e1]
    exact ⟨hb, .inl ⟨he, rfl⟩⟩
  · have e1 : openS (n : Int) text = (n, (openL n bk0 (lns text)).1, (openL n bk0 (lns text)).2.1, 0) := by unfold openS; rw [if_neg (by omega), if_neg (by omega), show (n : Int).toNat = n by omega, if_neg (by simpa using he)]
    rw [e1]
    exact ⟨hb, .inr ⟨rfl, h1, h8, b, rfl, hk⟩⟩
def OpsPost (w : World) (e : Ending) (w' : World) : Prop := e = .returned (.bool true) ∧ Below w.heap.size w w'
set_option maxHeartbeats 4000000 in
set_option maxRecDepth 100000 in
theorem opens_any (x0 : Int) (text : List UInt8) (w : World) (ht : Tab w) (he : Errs w) (hg : Handle w) :
    Calls Tryz.prog 3 #[.int .i64 x0, .string ⟨text.toArray⟩] w (OpsPost w) := by
  have HT := Lib.hid ht; have HE := Lib.hid he; have HG := Lib.hid hg
  have HGL := Lib.hid hg.lt
  clear ht he hg
  have HOB : Hid (∀ (w2 w4 : World) (e : Ending), OpenPost w2 x0 text e w4 → Below w2.heap.size w2 w4 ∧ (((openS x0 text).2.2.2 ≠ 0 ∧ e = .returned (.tuple #[.pointer none, .int .i64 (openS x0 text).2.2.1, errv (openS x0 text).2.2.2])) ∨
      ((openS x0 text).2.2.2 = 0 ∧ 1 ≤ (openS x0 text).1 ∧ (openS x0 text).1 ≤ 8 ∧ ∃ b, e = .returned (.tuple #[.pointer (some ⟨b, 0, none⟩), .int .i64 (openS x0 text).2.2.1, .nilIface]) ∧ BookAt (fun x => w2.heap.size ≤ x) w4 b (openS x0 text).1 (openS x0 text).2.1))) := Lib.hid fun _ _ _ h => open_both h
  have hro := fun w1 => rOpen_any x0 text w1
  obtain ⟨r, hr⟩ : ∃ r, r = openS x0 text := ⟨_, rfl⟩
  rw [← hr] at HOB
  rw [← hr] at hro
  clear hr
  obtain ⟨slots, s, many, er⟩ := r
  have HRO := Lib.hid hro
  clear hro
  simp only at HRO HOB
  go_enter Tryz.func3, Tryz.ntmps3
  go_wp2_with fail
  refine (HRO.out _).mono ?_
  rintro e w2 ⟨X, rfl, ⟨aK, aV, nK, nV, cK, cV, rfl, hK, hV, hkl, hvl⟩, hb2⟩
  have HBX := Lib.hid (BX.new (slots := slots) hK hV hkl hvl)
  have HB3 := Lib.hid (hb2.alloc hb2.size (.cells #[.int .i64 slots, .slice aK nK cK, .slice aV nV cV, .string ⟨s.text.toArray⟩, .int .i64 s.many] 24))
  have HSZ := Lib.hid hb2.size
  clear hK hV hkl hvl hb2 HRO
  go_upto_region 2 with fail
  obtain ⟨h, hh⟩ : ∃ h, h = w2.heap.size := ⟨_, rfl⟩
  obtain ⟨w3, hw3⟩ : ∃ w3, w3 = w2.alloc (.cells #[.int .i64 slots, .slice aK nK cK, .slice aV nV cV, .string ⟨s.text.toArray⟩, .int .i64 s.many] 24) := ⟨_, rfl⟩
  rw [← hh] at HSZ HBX
  rw [← hw3] at HBX HB3
  rw [← hh, ← hw3]
  clear hh hw3
  go_wp2_with fail
  refine (open_any x0 text _ (HT.out.below HB3.out (Nat.le_refl _)) (HE.out.below HB3.out (Nat.le_refl _))).mono ?_
  rintro e w4 hp4
  obtain ⟨hb4, ⟨hne, rfl⟩ | ⟨he0, h1, h8, b, rfl, hbk⟩⟩ := HOB.out _ _ _ hp4
  · have HB4 := Lib.hid (HB3.out.trans (hb4.mono HB3.out.size))
    have hgw4 : Handle w4 := HG.out.below HB4.out HGL.out
    have HG4 := Lib.hid hgw4
    have hn2 : (er != 0) = true := by simpa using hne
    have hmm : (many == many) = true := by simp
    clear hp4 hb4 hgw4 HOB hne
    go_wp2_with (go_at_call 13; refine (eError_some er er _ HG4.out).mono ?_; rintro e w7 ⟨rfl, hb7⟩; rw [show (er == er) = true by simp]; have HB7 := Lib.hid (HB4.out.trans (hb7.mono HB4.out.size)); clear hb7)
    go_ret
    exact ⟨rfl, HB7.out⟩
  · subst he0
    have hbx4 := HBX.out.below hb4
    have hps : PS w w4 b h slots s s aK aV nK nV cK cV := ⟨⟨_, hbk, fun x hx ho => by have := HB3.out.size; omega⟩, hbx4.box, hbx4.K, hbx4.V, hbx4.kl, hbx4.vl, HB3.out.trans (hb4.mono HB3.out.size), HSZ.out⟩
    have HP7 := Lib.hid hps
    have hmm : (many == many) = true := by simp
    clear hp4 hb4 hbk hbx4 hps HOB HBX
    obtain ⟨O, hO, hlo, hh, hK, hV⟩ := HP7.out.open_
    have HO7 := Lib.hid hO; have HLO7 := Lib.hid hlo; have HHH7 := Lib.hid hh; have HKO7 := Lib.hid hK; have HVO7 := Lib.hid hV
    clear hO hlo hh hK hV
    have HCC : Hid (∀ w', PS w w' b h slots s s aK aV nK nV cK cV → w'.cell? ⟨h, 3, none⟩ = some (.string ⟨s.text.toArray⟩) ∧ w'.cell? ⟨h, 1, none⟩ = some (.slice aK nK cK)) := Lib.hid fun w' hk => ⟨hk.cells.2.2.2.1, hk.cells.2.1⟩
    have HKL : Hid (s.keys.length = nK) := Lib.hid HP7.out.kl
    have hn8 : nK ≤ maxLen := by have h5 := HP7.out.ok.1.len; have h6 := HP7.out.ok.2.2; rw [← HKL.out, keysLen]; unfold maxLen; omega
    go_upto_region 5 with fail
    go_region_held3 (fun w' => w'.cell? ⟨h, 3, none⟩ = some (.string ⟨s.text.toArray⟩) ∧ w'.cell? ⟨h, 1, none⟩ = some (.slice aK nK cK))
      (first | exact HCC.out _ HP7.out.drew | exact HCC.out _ HP8.out | exact HCC.out _ HP9.out | exact HCC.out _ HP10.out | fail)
      (first
        | (go_at_call 14; refine (text_any _ (HO7.out.below ((Keep.refl [] w4).drew.below (Nat.le_refl _) (by simp)))).mono ?_; rintro e w8 ⟨rfl, hb8, hk8⟩; have HB8 := Lib.hid hb8; have HP8 := Lib.hid (HP7.out.drew.book hb8 hk8 HLO7.out HHH7.out HKO7.out HVO7.out); clear hb8 hk8)
        | (go_at_call 16; refine (keysB_any _ HB8.out).mono ?_; rintro e w9 ⟨v9, rfl, ho9, hb9⟩; (obtain ⟨a9, c9, hv9, hi9⟩ := ho9.shape); rw [HKL.out] at hv9; subst hv9; have HI9 := Lib.hid hi9; have HP9 := Lib.hid (HP8.out.below hb9); clear ho9 hb9 hi9)
        | (go_at_call 15; refine (ints_same_keep a9 aK nK c9 cK _ _ s.keys _ HKL.out HI9.out (own_in HP9.out.K) hn8).mono ?_; rintro e w10 ⟨rfl, hk10⟩; have HP10 := Lib.hid (HP9.out.keep0 hk10); clear hk10))
    go_wp2
    go_ret
    exact ⟨rfl, HP10.out.bel⟩
theorem bookOpens_walk (x0 : Int) (x1 : ByteArray) (w : World) (_ : I64 x0) (_ : x1.size ≤ maxLen) (hg : Tab w ∧ Errs w ∧ Handle w) :
    Calls Tryz.prog 3 #[.int .i64 x0, .string x1] w fun e w' => e = .returned (.bool true) ∧ Below w.heap.size w w' := by
  have h := opens_any x0 x1.data.toList w hg.1 hg.2.1 hg.2.2
  rw [show (⟨x1.data.toList.toArray⟩ : ByteArray) = x1 from ByteArray.ext (by simp)] at h
  exact h
end Go.Proofs.YticckfioggeaeaaGreatDoor
