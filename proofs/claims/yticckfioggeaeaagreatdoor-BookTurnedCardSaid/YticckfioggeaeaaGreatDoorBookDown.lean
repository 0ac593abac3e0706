/-
  book.down, by its contract.
-/
import Derived.Test.YticckfioggeaeaaGreatDoorGE
import Derived.Deep.RegionWith
import Derived.Deep.RegionHeld3
set_option linter.unusedVariables false
set_option linter.unusedSimpArgs false
set_option linter.unnecessarySimpa false
namespace Go.Proofs.YticckfioggeaeaaGreatDoor
open Go.RowKit

def foldW (word : List UInt8) (l : List Int) : List UInt8 := l.foldl (fun acc n => acc ++ (32 :: Lib.itoa n)) word
theorem foldW_snoc (word : List UInt8) (l : List Int) (k : Nat) (hk : k < l.length) : foldW word (l.take (k + 1)) = foldW word (l.take k) ++ (32 :: Lib.itoa l[k]) := by
  rw [List.take_succ_eq_append_getElem hk]
  unfold foldW
  rw [List.foldl_append]
  rfl
theorem foldW_put (k v : Int) : foldW [112] [k, v] = wordP k v := by simp [foldW, wordP]
theorem foldW_get (k : Int) : foldW [103] [k] = wordG k := by simp [foldW, wordG]
theorem foldW_len (word : List UInt8) (l : List Int) (hb : ∀ x ∈ l, 0 ≤ x ∧ x ≤ 1000000) (k : Nat) : (foldW word (l.take k)).length ≤ word.length + 8 * k := by
  induction k with
  | zero => simp [foldW]
  | succ k ih =>
    by_cases hk : k < l.length
    · rw [foldW_snoc word l k hk, List.length_append, List.length_cons]
      have h1 := hb l[k] (List.getElem_mem hk)
      have := itoa_len (n := l[k]) (k := 7) h1.1 (by decide) (by have := h1.2; omega)
      omega
    · rw [List.take_of_length_le (by omega)]
      rw [List.take_of_length_le (by omega)] at ih
      omega

def DownPost (w : World) (b gm : Nat) (slots turn : Int) (bv : Value) (many : Int) (text : List UInt8) (word : List UInt8) (e : Ending) (w' : World) : Prop :=
  ∃ bv', e = .returned (.tuple #[]) ∧ Blk w' b 72 (stCells slots gm turn (.pointer (some ⟨b, 3, none⟩)) bv' (many + 1)) ∧ OwnB w' bv' (text ++ lineOf word) ∧ Keep (b :: bv.ownBlock.toList) w w' ∧ (∀ x, bv'.ownBlock = some x → bv.ownBlock = some x ∨ w.heap.size ≤ x)
theorem str_cat (a b : List UInt8) : (⟨a.toArray⟩ : ByteArray) ++ (⟨b.toArray⟩ : ByteArray) = ⟨(a ++ b).toArray⟩ := by
  apply ByteArray.ext
  simp
theorem str_mk (s : ByteArray) (l : List UInt8) (h : s.data.toList = l) : s = ⟨l.toArray⟩ := by
  subst h; apply ByteArray.ext; simp
theorem BHelp.start {w w' : World} (h : Below w.drew.heap.size w.drew w') : Below w.heap.size w w' := ⟨h.os, h.tape, h.output, h.size, h.block⟩
theorem sum_l (t : List UInt8) (q : Nat) (w : World) (hq : sumB t = q) (h : t.length ≤ 100000) :
    Calls Tryz.prog 60 #[.string ⟨t.toArray⟩] w fun e w' => e = .returned (.int .i64 q) ∧ Below w.heap.size w w' :=
  (sum_any ⟨t.toArray⟩ w (by simpa [ByteArray.size] using h)).mono fun e w' ⟨he, hb⟩ => ⟨by rw [he, ← hq], hb⟩
set_option maxHeartbeats 2000000 in
set_option maxRecDepth 100000 in
theorem down_any (b gm : Nat) (slots turn : Int) (p bv : Value) (many : Int) (text word : List UInt8) (a : Option Addr) (n c : Nat) (l : List Int) (w : World) (h : Blk w b 72 (stCells slots gm turn p bv many)) (hp : p = .pointer none ∨ p = .pointer (some ⟨b, 3, none⟩)) (ho : OwnB w bv text) (ht : Tab w)
    (hl : l.length = n) (hi : IntsIn w w.heap.size a l) (hb : ∀ x ∈ l, 0 ≤ x ∧ x ≤ 1000000) (hn : n ≤ 2) (hw1 : word.length = 1) (htx : text.length ≤ 2000) (hm0 : 0 ≤ many) (hm1 : many ≤ 60) :
    Calls Tryz.prog 46 #[.pointer (some ⟨b, 0, none⟩), .string ⟨word.toArray⟩, .slice a n c] w (DownPost w b gm slots turn bv many text (foldW word l)) := by
  have H := Lib.hid h; have HO := Lib.hid ho; have HP := Lib.hid hp; have HT := Lib.hid ht; have HL := Lib.hid hl; have HI := Lib.hid hi; have HB := Lib.hid hb
  have HLEN : Hid (∀ k, (foldW word (l.take k)).length ≤ 1 + 8 * k) := Lib.hid fun k => by rw [← hw1]; exact foldW_len word l hb k
  clear h ho hp ht hl hi hb hw1
  have hn2 : (n : Int) ≤ 2 := by omega
  go_enter Tryz.func46, Tryz.ntmps46
  go_wp2
  go_loopw [1, 10] (fun s i wr => ∃ k : Nat, k ≤ n ∧ i = .int .i64 k ∧ s = .string ⟨(foldW word (l.take k)).toArray⟩ ∧ Below w.heap.size w wr) (fun _ i _ => n - (intOf i).toNat)
  case atStart => exact ⟨0, Nat.zero_le _, rfl, by simp [foldW], Below.refl _ _⟩
  case round =>
    obtain ⟨k, hk, rfl, rfl, hbel⟩ := hrel
    have HBEL := Lib.hid hbel
    clear hbel
    by_cases hlt : k < n
    · obtain ⟨ab, off, rfl, hab, hcell⟩ := HI.out.at_ (by rw [HL.out]; exact hlt : k < l.length)
      have hx := HB.out (l[k]'(by rw [HL.out]; exact hlt)) (List.getElem_mem _)
      have hst := foldW_snoc word l k (by rw [HL.out]; exact hlt)
      obtain ⟨x, hxe⟩ : ∃ x, x = l[k]'(by rw [HL.out]; exact hlt) := ⟨_, rfl⟩
      rw [← hxe] at hcell hx hst
      have hc2 := (HBEL.out.cell (p := ⟨ab, off + k, none⟩) hab).trans hcell
      obtain ⟨t, htt⟩ : ∃ t, t = foldW word (l.take k) := ⟨_, rfl⟩
      have htl0 := HLEN.out k
      rw [← htt] at hst htl0 ⊢
      have HST := Lib.hid hst
      clear hst htt hxe hcell
      obtain ⟨hx0, hx1⟩ := hx
      have hki : (k : Int) < (n : Int) := by omega
      have hk0 : (0 : Int) ≤ (k : Int) := by omega
      have hil := itoa_len (n := x) (k := 7) hx0 (by decide) (by omega)
      have htl : t.length ≤ 100 := by omega
      go_wp2_with (go_at_call 75; refine (itoa_any x (by omega) (by omega) _ (HT.out.below HBEL.out (Nat.le_refl _))).mono ?_; rintro e w1 ⟨rfl, hb1⟩; have HB1 := Lib.hid (HBEL.out.trans (hb1.mono HBEL.out.size)); clear hb1)
      go_roundw
      case rel => exact ⟨k + 1, hlt, by go_num, congrArg Value.string (by rw [HST.out, ← str_cat]; congr 1), HB1.out⟩
      case measure => simp [intOf]; omega
    · obtain rfl : k = n := by omega
      have hfl : foldW word (l.take k) = foldW word l := by rw [List.take_of_length_le (by rw [HL.out]; omega)]
      have hln := HLEN.out k
      rw [hfl] at hln ⊢
      obtain ⟨t, htt⟩ : ∃ t, t = foldW word l := ⟨_, rfl⟩
      rw [← htt] at hln ⊢
      have HTT := Lib.hid htt
      clear hfl htt
      have HBK := Lib.hid (H.out.keep (Keep.of_below (F := []) HBEL.out (Nat.le_refl _)) (by simp))
      have HOW := Lib.hid (HO.out.keep (w' := wr) (fun g hg => HBEL.out.block g (HO.out.lt g hg)))
      have HTW := Lib.hid (HT.out.below HBEL.out (Nat.le_refl _))
      obtain ⟨q, hq⟩ : ∃ q, sumB t = q := ⟨_, rfl⟩
      have hq9 := sumB_lt t
      rw [hq] at hq9
      have HQ := Lib.hid hq
      clear hq
      have hil := itoa_len (n := (q : Int)) (k := 4) (by omega) (by decide) (by omega)
      have htl : t.length ≤ 100 := by omega
      have HSS : Hid ((⟨t.toArray⟩ : ByteArray) ++ ⟨#[32]⟩ ++ ⟨(Lib.itoa (q : Int)).toArray⟩ ++ ⟨#[10]⟩ = ⟨(lineOf t).toArray⟩) := Lib.hid (by
        have e : lineOf t = t ++ [32] ++ Lib.itoa (q : Int) ++ [10] := by unfold lineOf; rw [HQ.out]; simp
        rw [e, ← str_cat, ← str_cat, ← str_cat])
      have HLL : Hid ((lineOf t).length ≤ 200) := Lib.hid (by have := lineOf_len t; omega)
      go_wp2
      go_region_with (first
        | (go_at_call 60; refine (sum_l t q _ HQ.out (by omega)).mono ?_; rintro e w1 ⟨rfl, hb1⟩; have HB1 := Lib.hid (BHelp.start hb1); have HT1 : Hid (Tab w1) := Lib.hid (Tab.below HTW.out HB1.out (Nat.le_refl _)); clear hb1)
        | (go_at_call 75; refine (itoa_any (q : Int) (by omega) (by omega) _ HT1.out).mono ?_; rintro e w2 ⟨rfl, hb2⟩; have HB2 : Hid (Below wr.heap.size wr w2) := Lib.hid (HB1.out.trans (hb2.mono HB1.out.size)); have HBK2 := Lib.hid (HBK.out.keep (Keep.of_below (F := []) HB2.out (Nat.le_refl _)) (by simp)); have HOW2 := Lib.hid (HOW.out.keep (w' := w2) (fun g hg => HB2.out.block g (HOW.out.lt g hg))); clear hb2)
        | (go_at_call 39; rw [HSS.out]; refine (writeString_any b gm slots turn p bv many text ⟨(lineOf t).toArray⟩ _ HBK2.out HP.out HOW2.out (by have := HLL.out; show text.length + (lineOf t).toArray.size ≤ _; rw [List.size_toArray]; omega)).mono ?_; rintro e w3 ⟨bv', rfl, hb3, ho3, hk3, hl3⟩; have HB3 := Lib.hid hb3; have HO3 := Lib.hid ho3; have HK3 := Lib.hid hk3; have HL3 := Lib.hid hl3; clear hb3 ho3 hk3 hl3)
        | fail)
      all_goals
        have f5 := HB3.out.free 5
        have c5 := HB3.out.cell_ (i := 5) rfl
        have hmw : IntKind.i64.wrap (many + 1) = many + 1 := IntWalk.i64_in _ (by omega)
        go_wp2
        go_end0
        refine ⟨bv', rfl, HB3.out.set 5 _, ?_, ?_, ?_⟩
        · rw [← HTT.out]
          refine HO3.out.keep fun g hg => Below.heap_setCell _ _ _ g ?_
          rintro rfl
          exact HO3.out.ne HB3.out (by decide) hg
        · have hk2 : Keep (b :: bv.ownBlock.toList) w w2 := Keep.of_below (HBEL.out.trans (HB2.out.mono HBEL.out.size)) (Nat.le_refl _)
          exact (hk2.trans HK3.out).set (fun _ => by simp) _
        · intro x hx
          rcases HL3.out x hx with h | h
          · exact .inl h
          · exact .inr (Nat.le_trans HBEL.out.size (Nat.le_trans HB2.out.size h))
end Go.Proofs.YticckfioggeaeaaGreatDoor
