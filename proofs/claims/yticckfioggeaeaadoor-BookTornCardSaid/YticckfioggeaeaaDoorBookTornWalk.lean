/-
  BookTorn: the walk (printed by wip/gen_booktorn.py).
-/
import Derived.Test.YticckfioggeaeaaDoorBookTwo
import Derived.Test.YticckfioggeaeaaDoorBookTornLaw
import Derived.Deep.RegionHeld3
set_option linter.unusedVariables false
set_option linter.unusedSimpArgs false
set_option linter.unnecessarySimpa false
set_option linter.unusedVariables false
namespace Go.Proofs.YticckfioggeaeaaDoor
open Go.RowKit

theorem RowsIn.more' {w : World} {B B' : Nat} {a : Option Addr} {xss : List (List Int)} (h : RowsIn w B a xss) (hB : B ≤ B') : RowsIn w B' a xss := fun hn => by
  obtain ⟨b, off, e, hb, hc⟩ := h hn
  refine ⟨b, off, e, by omega, fun i x hx => ?_⟩
  obtain ⟨a', c', h1, h2⟩ := hc i x hx
  exact ⟨a', c', h1, h2.more hB⟩
theorem text_small' {slots : Nat} {s : Bk} (h : BkOk slots s) : s.text.length ≤ 2000 := by have := h.text; have := h.many; omega
theorem count_take {t : List UInt8} {i : Nat} (hi : i < t.length) : (t.take (i + 1)).count 10 = (t.take i).count 10 + (if t[i] = 10 then 1 else 0) := by
  rw [List.take_succ_eq_append_getElem hi, List.count_append, List.count_singleton]
  by_cases h : t[i] = 10
  · rw [if_pos h, if_pos (by simpa using h)]
  · rw [if_neg h, if_neg (by simpa using h)]
def TnPost (w : World) (e : Ending) (w' : World) : Prop := e = .returned (.bool true) ∧ Below w.heap.size w w'
def TnRel (w : World) (b3 b2 m n at_ : Nat) (xss : List (List Int)) (g : Bk) (v i : Value) (wr : World) : Prop := ∃ j : Nat, j ≤ n ∧ j ≤ 70 ∧ i = .int .i64 j ∧ v = .int .i64 ((logB m bk0 (xss.take j)).length : Nat) ∧ (logB m bk0 (xss.take j)).length ≤ at_ ∧ DX w wr b3 b2 m (foldB m bk0 (xss.take j)) g
set_option maxHeartbeats 8000000 in
set_option maxRecDepth 1000000 in
theorem torn_any (x0 : Int) (a : Option Addr) (c : Nat) (xss : List (List Int)) (cut : Int) (w : World) (hx : RowsIn w w.heap.size a xss) (hn : xss.length ≤ maxLen) (hcut : I64 cut) (ht : Tab w) (he : Errs w) :
    Calls Tryd.prog 5 #[.int .i64 x0, .slice a xss.length c, .int .i64 cut] w (TnPost w) := by
  have HT := Lib.hid ht; have HE := Lib.hid he; have HX := Lib.hid hx; have HN := Lib.hid hn
  obtain ⟨n, hnn⟩ : ∃ n, n = xss.length := ⟨_, rfl⟩
  rw [← hnn]
  have HNN := Lib.hid hnn
  clear ht he hx hn hnn
  go_enter Tryd.func5, Tryd.ntmps5
  go_wp2_with fail
  refine (fact_any _ HT.out).mono ?_
  rintro e w1 ⟨rfl, hb1⟩
  have HB1 := Lib.hid hb1
  clear hb1
  go_wp2_with fail
  have htold := told_any x0 a c xss w1 ((HX.out.below HB1.out).more' HB1.out.size) HN.out (HT.out.below HB1.out (Nat.le_refl _))
  rw [← HNN.out] at htold
  refine htold.mono ?_
  clear htold
  rintro e w2 ⟨hb2, ⟨hno, rfl⟩ | ⟨m, rfl, h1, h8, b, rfl, hbk⟩⟩
  · have HB2 := Lib.hid (HB1.out.trans (hb2.mono HB1.out.size))
    have hc : x0 < 1 ∨ (1 ≤ x0 ∧ 8 < x0) := by omega
    clear hb2 hno
    rcases hc with h | ⟨h0, h⟩
    all_goals
      go_wp2
      go_ret
      exact ⟨rfl, HB2.out⟩
  · have HB2 := Lib.hid (HB1.out.trans (hb2.mono HB1.out.size))
    have HBK := Lib.hid hbk
    clear hb2 hbk
    obtain ⟨s, hs⟩ : ∃ s, s = runB m (xss.take 70) := ⟨_, rfl⟩
    rw [← hs] at HBK
    have hok := HBK.out.ok.1
    have htx := text_small' hok
    have HS := Lib.hid hs
    clear hs hok
    go_wp2_with fail
    refine (text_any w2 HBK.out).mono ?_
    rintro e w3 ⟨rfl, hb3, hk3⟩
    have HB3 : Hid (Below w.heap.size w w3) := Lib.hid (HB2.out.trans (hk3.toBelow HB2.out.size (fun x hx h => by have := HB1.out.size; omega)))
    clear hb3 hk3 HBK
    obtain ⟨t, htt⟩ : ∃ t, t = s.text := ⟨_, rfl⟩
    rw [← htt] at htx ⊢
    have HTT := Lib.hid htt
    clear htt
    have hsz : (⟨t.toArray⟩ : ByteArray).size = t.length := by simp [ByteArray.size]
    have hcase : cut < 0 ∨ (0 ≤ cut ∧ (t.length : Int) < cut) ∨ (0 ≤ cut ∧ cut ≤ (t.length : Int)) := by omega
    rcases hcase with h | ⟨h0, h⟩ | ⟨h0, hle⟩
    · go_wp2
      go_ret
      exact ⟨rfl, HB3.out⟩
    · go_wp2
      go_ret
      exact ⟨rfl, HB3.out⟩
    · obtain ⟨k, rfl⟩ := Int.eq_ofNat_of_zero_le h0
      have hkl : k ≤ t.length := by omega
      go_wp2
      go_loop [11, 12] (fun v i => ∃ j : Nat, j ≤ k ∧ i = .int .i64 j ∧ v = .int .i64 ((t.take j).count 10 : Nat)) (fun _ i => k - (intOf i).toNat)
      case atStart => exact ⟨0, Nat.zero_le _, rfl, by simp⟩
      case round =>
        obtain ⟨j, hj, rfl, rfl⟩ := hrel
        by_cases hlt : j < k
        · have hjk : (j : Int) < (k : Int) := by omega
          have hj0 : (0 : Int) ≤ (j : Int) := by omega
          have hjt : j < t.length := by omega
          have HCT := Lib.hid (count_take hjt)
          have hcl : (t.take j).count 10 ≤ 2000 := by
            have := List.count_le_length (a := (10 : UInt8)) (l := t.take j)
            rw [List.length_take] at this
            omega
          have hjs : j < (⟨t.toArray⟩ : ByteArray).size := by rw [hsz]; exact hjt
          have hat : (⟨t.toArray⟩ : ByteArray)[j]'hjs = t[j] := rfl
          by_cases hc : t[j] = 10
          · have hq : ((((⟨t.toArray⟩ : ByteArray)[j]'hjs).toNat : Int) == 10) = true := by rw [hat, hc]; rfl
            have HCT2 : Hid ((t.take (j + 1)).count 10 = (t.take j).count 10 + 1) := Lib.hid (by rw [HCT.out, if_pos hc])
            clear HCT hat hc
            go_wp2
            exact ⟨⟨j + 1, hlt, by simp, by rw [HCT2.out]; simp⟩, by simp [intOf]; omega⟩
          · have hq : ((((⟨t.toArray⟩ : ByteArray)[j]'hjs).toNat : Int) == 10) = false := by
              rw [hat]
              refine beq_eq_false_iff_ne.2 fun e => hc (UInt8.toNat_inj.1 ?_)
              have : (10 : UInt8).toNat = 10 := rfl
              omega
            have HCT2 : Hid ((t.take (j + 1)).count 10 = (t.take j).count 10) := Lib.hid (by rw [HCT.out, if_neg hc]; rfl)
            clear HCT hat hc
            go_wp2
            exact ⟨⟨j + 1, hlt, by simp, by rw [HCT2.out]⟩, by simp [intOf]; omega⟩
        · obtain rfl : j = k := by omega
          have HOT : Hid (openL m bk0 (lns (t.take j)) = (foldB m bk0 ((logB m bk0 (xss.take 70)).take ((t.take j).count 10)), (((t.take j).count 10 : Nat) : Int), 0) ∧ (t.take j).count 10 ≤ (logB m bk0 (xss.take 70)).length) := Lib.hid (by rw [HTT.out, HS.out]; exact open_torn h1 (xss.take 70) j)
          obtain ⟨at_, hat⟩ : ∃ at_, at_ = (t.take j).count 10 := ⟨_, rfl⟩
          rw [← hat] at HOT ⊢
          have HAT := Lib.hid hat
          have hat2 : at_ ≤ 2000 := by
            have := List.count_le_length (a := (10 : UInt8)) (l := t.take j)
            rw [List.length_take] at this
            omega
          obtain ⟨g, hg⟩ : ∃ g, g = foldB m bk0 ((logB m bk0 (xss.take 70)).take at_) := ⟨_, rfl⟩
          have HG := Lib.hid hg
          have hj0 : (0 : Int) ≤ (j : Int) := by omega
          have htk : (t.take j).length ≤ 2000 := by rw [List.length_take]; omega
          have hex : (⟨t.toArray⟩ : ByteArray).extract 0 j = ⟨(t.take j).toArray⟩ := by
            have h2 := ext_left (t.take j) (t.drop j)
            rw [List.take_append_drop, List.length_take, Nat.min_eq_left hkl] at h2
            exact h2
          have HEX := Lib.hid hex
          clear hat hg hex
          go_wp2_with fail
          rw [HEX.out]
          refine (open_any m (t.take j) w3 (HT.out.below HB3.out (Nat.le_refl _)) (HE.out.below HB3.out (Nat.le_refl _))).mono ?_
          rintro e w4 ⟨hb4, ⟨hno, _⟩ | ⟨m', hm', _, _, ⟨hl, _⟩ | ⟨_, ⟨he, _⟩ | ⟨_, b2, rfl, hbk2⟩⟩⟩⟩
          · exact absurd ⟨by omega, by omega⟩ hno
          · omega
          · obtain rfl : m = m' := by omega
            rw [HOT.out.1] at he
            exact absurd rfl he
          obtain rfl : m = m' := by omega
          rw [HOT.out.1] at hbk2 ⊢
          simp only [← HG.out] at hbk2
          have HB4 := Lib.hid (HB3.out.trans (hb4.mono HB3.out.size)); have HBK2 := Lib.hid hbk2
          clear hb4 hbk2 hm'
          have hne : ((at_ : Int) != (at_ : Int)) = false := by simp
          go_wp2_with fail
          refine (told_any m none 0 [] w4 (fun h => absurd h (by simp)) (by simp) (HT.out.below HB4.out (Nat.le_refl _))).mono ?_
          rintro e w5 ⟨hb5, ⟨hno, _⟩ | ⟨m', hm', _, _, b3, rfl, hbk3⟩⟩
          · exact absurd ⟨by omega, by omega⟩ hno
          obtain rfl : m = m' := by omega
          have HD : Hid (DX w w5 b3 b2 m bk0 g) := Lib.hid (DX.start HBK2.out (fun x hx h => by have := HB3.out.size; omega) HB4.out hb5 hbk3).swap
          clear hb5 hbk3 hm'
          have HLL : Hid (at_ ≤ (logB m bk0 (xss.take 70)).length) := Lib.hid HOT.out.2
          clear HOT HEX HTT HS HBK2 HB4
          go_wp2
          go_loopw [18, 19] (fun v i wr => TnRel w b3 b2 m n at_ xss g v i wr) (fun _ i _ => n - (intOf i).toNat)
          case atStart => exact ⟨0, Nat.zero_le _, by omega, rfl, rfl, Nat.zero_le _, HD.out⟩
          case round =>
            obtain ⟨j2, hj, hj7, rfl, rfl, hla, hdx⟩ := hrel
            have HDX := Lib.hid hdx
            clear hdx
            obtain ⟨q, hq⟩ : ∃ q, q = (logB m bk0 (xss.take j2)).length := ⟨_, rfl⟩
            obtain ⟨st, hst⟩ : ∃ st, st = foldB m bk0 (xss.take j2) := ⟨_, rfl⟩
            rw [← hst] at HDX
            rw [← hq] at hla ⊢
            have HQ := Lib.hid hq; have HST := Lib.hid hst
            clear hq hst
            by_cases hlt : j2 < n ∧ j2 < 70 ∧ q < at_
            · obtain ⟨hlt, hlt7, hqa⟩ := hlt
              have hjx : j2 < xss.length := by rw [← HNN.out]; exact hlt
              obtain ⟨bx, off, a', c', rfl, hbB, hcell, hrow⟩ := HX.out.at_ hjx
              have HLT := Lib.hid (log_take (slots := m) hjx); have HFT := Lib.hid (fold_take (slots := m) hjx)
              rw [← HQ.out, ← HST.out] at HLT
              rw [← HST.out] at HFT
              obtain ⟨l, hl⟩ : ∃ l, l = xss[j2]'hjx := ⟨_, rfl⟩
              obtain ⟨ml, hml⟩ : ∃ ml, ml = l.length := ⟨_, rfl⟩
              rw [← hl] at hrow HLT HFT
              rw [← hl, ← hml] at hcell
              have hcell2 := (HDX.out.bel.cell (p := ⟨bx, off + j2, none⟩) hbB).trans hcell
              have HR := Lib.hid hrow
              clear hl hcell hrow
              have hj70 : (j2 : Int) < 70 := by omega
              have hjn : (j2 : Int) < (n : Int) := by omega
              have hj20 : (0 : Int) ≤ (j2 : Int) := by omega
              have hqi : (q : Int) < (at_ : Int) := by omega
              by_cases hm2 : ml = 2
              · subst hm2
                obtain ⟨x, y, rfl⟩ : ∃ x y, l = [x, y] := by
                  match l, hml with
                  | [x, y], _ => exact ⟨x, y, rfl⟩
                obtain ⟨br, off3, rfl, hb3, hc3⟩ := HR.out (by simp)
                have HC3 : Hid (∀ w' : World, Below w.heap.size w w' → w'.cell? ⟨br, off3, none⟩ = some (.int .i64 x) ∧ w'.cell? ⟨br, off3 + 1, none⟩ = some (.int .i64 y)) := Lib.hid fun w' hb => ⟨(hb.cell (p := ⟨br, off3, none⟩) hb3).trans (hc3 0 x rfl), (hb.cell (p := ⟨br, off3 + 1, none⟩) hb3).trans (hc3 1 y rfl)⟩
                have HFT2 : Hid (foldB m bk0 (xss.take (j2 + 1)) = putS m st x y) := Lib.hid HFT.out
                have HLT2 : Hid ((logB m bk0 (xss.take (j2 + 1))).length = q + (if putE st x y = 0 then 1 else 0)) := Lib.hid HLT.out
                clear hc3 hml HR HFT HLT
                go_upto_region 26 with fail
                clear hcell2
                go_region_held3 (fun w' => w'.cell? ⟨br, off3, none⟩ = some (.int .i64 x) ∧ w'.cell? ⟨br, off3 + 1, none⟩ = some (.int .i64 y))
                  (first | exact HC3.out _ HDX.out.drew.bel | exact HC3.out _ HD9.out.bel | fail)
                  (first | (go_at_call 9; refine (dput w wr.drew b3 b2 m st g x y HDX.out.drew HT.out).mono ?_; rintro e w9 ⟨rfl, hd9⟩; have HD9 := Lib.hid hd9; clear hd9))
                by_cases he : putE st x y = 0
                · have HL3 : Hid ((logB m bk0 (xss.take (j2 + 1))).length = q + 1) := Lib.hid (by rw [HLT2.out, if_pos he])
                  rw [he, errw_zero]
                  clear he HLT2
                  go_wp2
                  go_roundw
                  case rel => exact ⟨j2 + 1, hlt, by omega, by simp, by rw [HL3.out]; simp, by rw [HL3.out]; omega, by rw [HFT2.out]; exact HD9.out⟩
                  case measure => simp [intOf]; omega
                · have HL3 : Hid ((logB m bk0 (xss.take (j2 + 1))).length = q) := Lib.hid (by rw [HLT2.out, if_neg he]; rfl)
                  rw [errw_of he]
                  clear he HLT2
                  go_wp2
                  go_roundw
                  case rel => exact ⟨j2 + 1, hlt, by omega, by simp, by rw [HL3.out], by rw [HL3.out]; omega, by rw [HFT2.out]; exact HD9.out⟩
                  case measure => simp [intOf]; omega
              · have hm2' : ((ml : Int) == 2) = false := beq_eq_false_iff_ne.2 (by omega)
                by_cases hm1 : ml = 1
                · subst hm1
                  obtain ⟨x, rfl⟩ : ∃ x, l = [x] := by
                    match l, hml with
                    | [x], _ => exact ⟨x, rfl⟩
                  obtain ⟨br, off3, rfl, hb3, hc3⟩ := HR.out (by simp)
                  have hy0 := (HDX.out.bel.cell (p := ⟨br, off3, none⟩) hb3).trans (hc3 0 x rfl)
                  have HFT2 : Hid (foldB m bk0 (xss.take (j2 + 1)) = getS st x) := Lib.hid HFT.out
                  have HLT2 : Hid ((logB m bk0 (xss.take (j2 + 1))).length = q + (if getE st x = 0 then 1 else 0)) := Lib.hid HLT.out
                  clear hc3 hml HR HFT HLT hm2 hm2'
                  go_wp2_with fail
                  refine (dget w wr b3 b2 m st g x HDX.out HT.out).mono ?_
                  rintro e w9 ⟨rfl, hd9⟩
                  have HD9 := Lib.hid hd9
                  clear hd9 hy0 hcell2
                  by_cases he : getE st x = 0
                  · have HL3 : Hid ((logB m bk0 (xss.take (j2 + 1))).length = q + 1) := Lib.hid (by rw [HLT2.out, if_pos he])
                    rw [he, errw_zero]
                    clear he HLT2
                    go_wp2
                    go_roundw
                    case rel => exact ⟨j2 + 1, hlt, by omega, by simp, by rw [HL3.out]; simp, by rw [HL3.out]; omega, by rw [HFT2.out]; exact HD9.out⟩
                    case measure => simp [intOf]; omega
                  · have HL3 : Hid ((logB m bk0 (xss.take (j2 + 1))).length = q) := Lib.hid (by rw [HLT2.out, if_neg he]; rfl)
                    rw [errw_of he]
                    clear he HLT2
                    go_wp2
                    go_roundw
                    case rel => exact ⟨j2 + 1, hlt, by omega, by simp, by rw [HL3.out], by rw [HL3.out]; omega, by rw [HFT2.out]; exact HD9.out⟩
                    case measure => simp [intOf]; omega
                · have hm1' : ((ml : Int) == 1) = false := beq_eq_false_iff_ne.2 (by omega)
                  have HFT2 : Hid (foldB m bk0 (xss.take (j2 + 1)) = st) := Lib.hid (by
                    rw [HFT.out]
                    match l, hml with
                    | [], _ => rfl
                    | [x], h => simp at h; omega
                    | [x, y], h => simp at h; omega
                    | x :: y :: z :: r, _ => rfl)
                  have HL3 : Hid ((logB m bk0 (xss.take (j2 + 1))).length = q) := Lib.hid (by
                    rw [HLT.out, if_neg]
                    · rfl
                    · match l, hml with
                      | [], _ => simp [errStep]
                      | [x], h => simp at h; omega
                      | [x, y], h => simp at h; omega
                      | x :: y :: z :: r, _ => simp [errStep])
                  go_wp2
                  go_roundw
                  case rel => exact ⟨j2 + 1, hlt, by omega, by simp, by rw [HL3.out], by rw [HL3.out]; omega, by rw [HFT2.out]; exact HDX.out⟩
                  case measure => simp [intOf]; omega
            · have hqe : q = at_ := by
                by_cases hf : j2 < n ∧ j2 < 70
                · omega
                · have e : xss.take j2 = xss.take 70 := by
                    by_cases h7 : j2 = 70
                    · rw [h7]
                    · rw [List.take_of_length_le (by rw [← HNN.out]; omega), List.take_of_length_le (by rw [← HNN.out]; omega)]
                  have h3 := HQ.out
                  rw [e] at h3
                  have h4 := HLL.out
                  omega
              subst hqe
              have hsg : st = g := by rw [HST.out, HG.out]; exact torn_end hj7 HQ.out.symm
              subst hsg
              have HDF := HDX
              obtain ⟨nt, hnt⟩ : ∃ nt, nt = st.keys.length := ⟨_, rfl⟩
              have HNT := Lib.hid hnt.symm
              have hkt : nt ≤ maxLen := by
                obtain ⟨O1, O2, d⟩ := HDF.out
                have h5 := d.k1.ok.1.len
                rw [hnt, show st.keys.length = st.M.length by unfold Bk.keys; rw [List.length_map]]
                unfold maxLen
                omega
              have hqq : ((q : Int) == (q : Int)) = true := by simp
              clear hnt hlt HQ HST HG HLL HD
              have hcase : (¬ (j2 : Int) < (n : Int)) ∨ ((j2 : Int) < (n : Int) ∧ ¬ (j2 : Int) < 70) ∨ ((j2 : Int) < (n : Int) ∧ (j2 : Int) < 70) := by omega
              rcases hcase with h7 | ⟨h7, h9⟩ | ⟨h7, h9⟩
              all_goals
                go_wp2_with fail
                refine (dkeys w wr b2 b3 m st st HDF.out.swap HNT.out).mono ?_
                rintro e w20 ⟨a20, c20, rfl, hi20, hd20, _⟩
                have HI20 := Lib.hid hi20; have HD20 := Lib.hid hd20
                clear hi20 hd20
                go_wp2_with fail
                refine (dkeys w w20 b3 b2 m st st HD20.out.swap HNT.out).mono ?_
                rintro e w21 ⟨a21, c21, rfl, hi21, hd21, hb21⟩
                have HI21 := Lib.hid hi21; have HI20' := Lib.hid (HI20.out.below hb21); have HD21 := Lib.hid hd21.swap
                clear hi21 hd21 hb21
                go_wp2_with fail
                refine (ints_same_keep a20 a21 nt c20 c21 _ _ st.keys _ HNT.out HI20'.out HI21.out hkt).mono ?_
                rintro e w22 ⟨rfl, hk22⟩
                have HD22 := Lib.hid (HD21.out.keep0 hk22)
                clear hk22
                go_wp2_with fail
                refine (dtext w w22 b2 b3 m st st HD22.out).mono ?_
                rintro e w23 ⟨rfl, hd23⟩
                have HD23 := Lib.hid hd23
                clear hd23
                go_wp2_with fail
                refine (dtext w w23 b3 b2 m st st HD23.out.swap).mono ?_
                rintro e w24 ⟨rfl, hd24⟩
                have HD24 := Lib.hid hd24.swap
                clear hd24
                go_wp2
                go_ret
                exact ⟨rfl, HD24.out.bel⟩

theorem bookTorn_walk (x0 : Int) (a1 : Option Addr) (c1 : Nat) (l1 : List (List Int)) (x2 : Int) (w : World) (_ : I64 x0) (h1 : RowsIn w w.heap.size a1 l1) (_ : ∀ r ∈ l1, r.length ≤ maxLen ∧ ∀ y ∈ r, I64 y) (m1 : l1.length ≤ maxLen) (h2 : I64 x2) (hg : Tab w ∧ Errs w) :
    Calls Tryd.prog 5 #[.int .i64 x0, .slice a1 l1.length c1, .int .i64 x2] w fun e w' => e = .returned (.bool true) ∧ Below w.heap.size w w' := torn_any x0 a1 c1 l1 x2 w h1 m1 h2 hg.1 hg.2
end Go.Proofs.YticckfioggeaeaaDoor
