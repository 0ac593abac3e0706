/-
  heavy.Keep, by its contracts.
-/
import Derived.Test.YtnpokcjdnlmheaaDoorHeavyDel2
import Derived.Test.YtnpokcjdnlmheaaDoorHeavyLaw
namespace Go.Proofs.YtnpokcjdnlmheaaDoor
open Go.RowKit

/-- The cells of counts, for a walk: any g serves where there are none. -/
theorem KAt.view {w : World} {base : Nat} {v : Value} {L : List (Int × Int)} (h : KAt w base v L) (d : Nat) (hd : d < w.heap.size) :
    ∃ a g cap, v = .slice a L.length cap ∧ (0 < L.length → a = some ⟨g, 0, none⟩) ∧ g < w.heap.size ∧ KIn w g L ∧ (0 < L.length → base ≤ g ∧ L.length ≤ cap ∧ cap ≤ maxLen ∧ ∃ rest, Blk w g 60 (ints (flat L) ++ rest) ∧ (ints (flat L) ++ rest).length = cap * 2) := by
  obtain ⟨a, g, cap, rfl, ha, ⟨h1, h2, h3⟩ | ⟨h1, h2, h3, h4, rest, h5, h6⟩⟩ := h.shape
  · subst h3
    exact ⟨a, d, cap, rfl, fun h => by simp at h, hd, fun i x h => by simp at h, fun h => by simp at h⟩
  · exact ⟨a, g, cap, rfl, ha, h5.lt, blk_kin h5, fun _ => ⟨h2, h3, h4, rest, h5, h6⟩⟩

theorem kat_set1 {w w' : World} {base g cap : Nat} {L : List (Int × Int)} {rest : List Value} {i : Nat} {x : Int × Int} (v : Int) (hb : base ≤ g) (hc : L.length ≤ cap) (hm : cap ≤ maxLen) (h : Blk w g 60 (ints (flat L) ++ rest)) (hs : (ints (flat L) ++ rest).length = cap * 2) (hx : L[i]? = some x)
    (hw : w' = w.setCell ⟨g, i * 2 + 1, none⟩ (.int .i64 v)) : KAt w' base (.slice (some ⟨g, 0, none⟩) L.length cap) (L.set i (x.1, v)) := by
  have hi : i < L.length := (List.getElem?_eq_some_iff.1 hx).1
  have := h.set (i * 2 + 1) (.int .i64 v)
  rw [List.set_append_left _ _ (by rw [ints_len, flat_len]; omega), ints_set, flat_set1 L i x v hx] at this
  have h2 := KAt.mk_ (base := base) (cap := cap) (L := L.set i (x.1, v)) hb (by simpa using hc) hm this (by rw [← hs]; simp [ints_len, flat_len])
  rw [hw]
  simpa using h2

def decL (L : List (Int × Int)) (j : Nat) : List (Int × Int) := (L.take j).map (fun x => (x.1, x.2 - 1)) ++ L.drop j
theorem decL_zero (L : List (Int × Int)) : decL L 0 = L := by simp [decL]
theorem decL_len (L : List (Int × Int)) (j : Nat) : (decL L j).length = L.length := by simp [decL]; omega
theorem decL_all (L : List (Int × Int)) : decL L L.length = L.map fun x => (x.1, x.2 - 1) := by simp [decL]
theorem decL_get {L : List (Int × Int)} {j : Nat} (hj : j < L.length) : (decL L j)[j]? = some L[j] := by
  unfold decL
  rw [List.getElem?_append_right (by simp; omega)]
  simp [Nat.min_eq_left (Nat.le_of_lt hj), hj]
theorem decL_succ {L : List (Int × Int)} {j : Nat} (hj : j < L.length) : (decL L j).set j (L[j].1, L[j].2 - 1) = decL L (j + 1) := by
  unfold decL
  have hl : ((L.take j).map (fun x : Int × Int => (x.1, x.2 - 1))).length = j := by simp; omega
  rw [List.set_append_right _ _ (by rw [hl]; exact Nat.le_refl _), hl, Nat.sub_self, List.drop_eq_getElem_cons hj, List.set_cons_zero, List.take_succ_eq_append_getElem hj, List.map_append]
  simp

def KeepRel (w : World) (keep n : Nat) (l : List Int) (v i : Value) (wr : World) : Prop :=
  ∃ (k : Nat) (L : List (Int × Int)) (D : Int), k ≤ n ∧ i = .int .i64 k ∧ MG keep (l.take k) L D ∧ KAt wr w.heap.size v L ∧ Below w.heap.size w wr
def DecRel (w1 : World) (g cap : Nat) (L : List (Int × Int)) (rest : List Value) (i : Value) (wr : World) : Prop :=
  ∃ j : Nat, j ≤ L.length ∧ i = .int .i64 j ∧ Blk wr g 60 (ints (flat (decL L j)) ++ rest) ∧ Keep [g] w1 wr
def KeepPost (w : World) (keep : Nat) (l : List Int) (e : Ending) (w' : World) : Prop :=
  ∃ (v : Value) (L : List (Int × Int)) (D : Int), e = .returned (.tuple #[v, .nilIface]) ∧ MG keep l L D ∧ KAt w' w.heap.size v L ∧ Below w.heap.size w w'

theorem MG.bd {keep : Nat} {P : List Int} {L : List (Int × Int)} {D : Int} (h : MG keep P L D) {x : Int × Int} (hx : x ∈ L) : 1 ≤ x.2 ∧ x.2 ≤ P.length := by
  have := h.low x hx
  have := times_le P x.1
  omega

theorem keep_bad (a : Option Addr) (n c B : Nat) (l : List Int) (keep : Int) (w : World) (hl : l.length = n) (h : IntsIn w B a l) (hk : 40 < n ∨ (n ≤ 40 ∧ (allB l 0 1000000 = false ∨ keep < 1 ∨ 8 < keep))) :
    Calls Tryd.prog 27 #[.slice a n c, .int .i64 keep] w fun e w' => ∃ k, e = .returned (.tuple #[.slice none 0 0, errv k]) ∧ w = w' := by
  have H := Lib.hid h; have HL := Lib.hid hl; clear h hl
  rcases hk with hk | ⟨hn, hk⟩
  · go_enter Tryd.func27, Tryd.ntmps27
    go_wp2_with fail
    refine (hCheck_full a n c keep _ hk).mono ?_
    rintro e w' ⟨rfl, rfl⟩
    go_wp2
    go_ret2
    exact ⟨4, rfl, rfl⟩
  · have HK := Lib.hid hk; clear hk
    go_enter Tryd.func27, Tryd.ntmps27
    go_wp2_with fail
    refine (hCheck_range a n c B l keep _ HL.out H.out hn HK.out).mono ?_
    rintro e w' ⟨rfl, rfl⟩
    go_wp2
    go_ret2
    exact ⟨1, rfl, rfl⟩

set_option maxHeartbeats 2000000 in
set_option maxRecDepth 100000 in
theorem keep_ok (a : Option Addr) (n c keep : Nat) (l : List Int) (w : World) (hl : l.length = n) (h : IntsIn w w.heap.size a l) (hn : n ≤ 40) (ha : allB l 0 1000000 = true) (h1 : 1 ≤ (keep : Int)) (h2 : (keep : Int) ≤ 8) :
    Calls Tryd.prog 27 #[.slice a n c, .int .i64 keep] w (KeepPost w keep l) := by
  have H := Lib.hid h; have HL := Lib.hid hl; have HA := Lib.hid ha; clear h hl ha
  obtain ⟨i0, hi, hz0, hz1, hz2⟩ := info_parts info_kept
  have hn2 : (n : Int) ≤ 40 := by omega
  go_enter Tryd.func27, Tryd.ntmps27
  go_wp2_with fail
  refine (hCheck_ok a n c _ l keep _ HL.out H.out hn HA.out h1 h2).mono ?_
  rintro e w' ⟨rfl, rfl⟩
  go_wp2
  go_loopw [7, 9, 10, 11, 20] (fun v _ _ _ i wr => KeepRel w keep n l v i wr) (fun _ _ _ _ i _ => n - (intOf i).toNat)
  case atStart => exact ⟨0, [], 0, by omega, rfl, mg_nil keep, KAt.nil _ _, Below.refl _ _⟩
  case round =>
    obtain ⟨k, L, D, hk, rfl, hmg, hkat, hbel⟩ := hrel
    have HMG := Lib.hid hmg; have HKAT := Lib.hid hkat; have HB := Lib.hid hbel; clear hmg hkat hbel
    have hsz := HB.out.size
    by_cases hlt : k < n
    · have hkl : k < l.length := by rw [HL.out]; exact hlt
      obtain ⟨b, off, rfl, hb, hc⟩ := H.out.at_ hkl
      have hcw := (HB.out.cell (p := ⟨b, off + k, none⟩) hb).trans hc
      have HT := Lib.hid (List.take_succ_eq_append_getElem hkl)
      obtain ⟨x, hx⟩ : ∃ x, x = l[k] := ⟨_, rfl⟩
      rw [← hx] at hcw HT
      clear hx hc
      have hki : (k : Int) < (n : Int) := by omega
      have hk0 : (0 : Int) ≤ (k : Int) := by omega
      obtain ⟨ll, hll⟩ : ∃ ll, ll = L.length := ⟨_, rfl⟩
      have hkat2 : KAt (wr.alloc (.cells #[.int .i64 x] 3)) w.heap.size _ L := HKAT.out.keepF ((Keep.refl [] wr).alloc _) (by simp)
      obtain ⟨av, g, cap, hvv, hag, hg, hkin, hmore⟩ := hkat2.view wr.heap.size (by simp)
      subst hvv
      rw [← hll] at hag hmore hkat2 ⊢
      have hlk : L.length ≤ keep := HMG.out.len
      have HLL := Lib.hid hll; have HAG := Lib.hid hag; have HKIN := Lib.hid hkin; have HMORE := Lib.hid hmore; have HKAT2 := Lib.hid hkat2
      have hll8 : ll ≤ 8 := by omega
      have hlki : (ll : Int) ≤ 8 := by omega
      clear hll hag hkin hmore hkat2
      go_wp2_with fail
      refine (idxKeep ll cap g av ⟨wr.heap.size, 0, none⟩ x L _ HLL.out.symm HAG.out hg HKIN.out (by omega) (by simp) (by simp)).mono ?_
      rintro e w2 ⟨hb2, ⟨i, hi, hpi, _, rfl⟩ | ⟨hno, rfl⟩⟩
      · have hb2' := hb2
        obtain ⟨hbase, hcap, hcm, rest, hblk, hlen⟩ := HMORE.out (by have := HLL.out; omega)
        obtain rfl := HAG.out (by have := HLL.out; omega)
        have hblk2 := hblk.below hb2 hg
        have hy := List.getElem?_eq_getElem hi
        obtain ⟨y, hyy⟩ : ∃ y, y = L[i] := ⟨_, rfl⟩
        rw [← hyy] at hy hpi
        have hyx : y.1 = x := by simpa using hpi
        have hbd := HMG.out.bd (hyy ▸ List.getElem_mem hi)
        have hbd2 : y.2 ≤ 40 := by have h5 := hbd.2; rw [List.length_take] at h5; omega
        have hbd1 := hbd.1
        obtain ⟨_, hcy⟩ := blk_kin hblk2 i y hy
        have hfy := hblk2.free (i * 2 + 1)
        have hii : (0 : Int) ≤ (i : Int) := by omega
        have hil : (i : Int) < (ll : Int) := by have := HLL.out; omega
        have HBLK2 := Lib.hid hblk2; have HY := Lib.hid hy; have HYX := Lib.hid hyx; have HB2 := Lib.hid hb2; have HLEN := Lib.hid hlen; have HCM := Lib.hid hcm; have HCAP := Lib.hid hcap
        clear hblk hblk2 hy hyy hpi hyx hbd hb2 hb2' hlen hcm hcap
        go_wp2
        go_roundw
        case rel =>
          have hm := HMG.out.hit HY.out
          rw [HYX.out] at hm
          have hfin := kat_set1 (x := y) (i := i) (y.2 + 1) hbase (by have := HLL.out; have := HCAP.out; omega) HCM.out HBLK2.out HLEN.out HY.out rfl
          rw [← HLL.out, HYX.out] at hfin
          exact ⟨k + 1, _, D, by omega, by simp, by rw [HT.out]; exact hm, hfin, ((HB.out.alloc hsz _).trans (HB2.out.mono (by simp; omega))).setCell hbase _⟩
        case measure => simp [intOf]; omega
      · have hno2 : ∀ y ∈ L, y.1 ≠ x := fun y hy => by have := hno y hy; simpa using this
        have HNO := Lib.hid hno2; have HB2 := Lib.hid hb2
        have hcx : w2.cell? ⟨wr.heap.size, 0, none⟩ = some (.int .i64 x) := (hb2.cell (p := ⟨wr.heap.size, 0, none⟩) (by simp)).trans (by simp)
        have hk2 : Keep [] wr w2 := ((Keep.refl [] wr).alloc _).trans (Keep.of_below hb2 (Nat.le_refl _))
        have HK2 := Lib.hid hk2
        have hkat3 := HKAT2.out.keepF (F := []) (Keep.of_below hb2 (Nat.le_refl _)) (by simp)
        have HKAT3 := Lib.hid hkat3
        have hsz2 := hk2.size
        clear hno hno2 hb2 hk2 hkat3
        by_cases hfull : ll < keep
        · have hfi : (ll : Int) < (keep : Int) := by omega
          have hrow := HKAT3.out.row
          have HROW := Lib.hid hrow; clear hrow
          have hL8 : L.length ≤ 8 := by have := HLL.out; omega
          go_wp2_with (at_builtin; go_loud (refine wpList_append_own _ rfl _ _ 54 rfl w.heap.size 60 i0 (.agg #[.int .i64 0, .int .i64 0]) 2 16 Tryd.underlying54 hi hz0 hz1 hz2 rfl (by decide) _ _ _ rfl (HROW.out.alloc _) ⟨w2.heap.size, 0, none⟩ 1 1 [.int .i64 x, .int .i64 1] rfl rfl (by intro p u hp; match p, hp with | 0, hp => (simp at hp; subst hp; simp [Addr.add]) | 1, hp => (simp at hp; subst hp; simp [Addr.add])) (by intro u hu; simp at hu; rcases hu with rfl | rfl <;> rfl) (by unfold maxLen; omega) (by omega) (by simp; omega) ?_; intro v' w3 hown' hgrow hlies))
          go_roundw
          case rel =>
            refine ⟨k + 1, L ++ [(x, 1)], D, by omega, by simp, by rw [HT.out]; exact HMG.out.add HNO.out (by have := HLL.out; omega), ⟨?_⟩, ((HB.out.trans (HK2.out.below hsz (by simp))).alloc (by omega) _).grown hgrow (by simp; omega) (fun z hz => (HROW.out.lt z hz).1)⟩
            rw [flat_append]
            simpa [ints, flat] using hown'
          case measure => simp [intOf]; omega
        · have hfi : ¬ (ll : Int) < (keep : Int) := by omega
          obtain ⟨hbase, hcap, hcm, rest, hblk, hlen⟩ := HMORE.out (by omega)
          obtain rfl := HAG.out (by omega)
          have hblk2 := hblk.below HB2.out hg
          have hg2 := hblk2.lt
          have HBLK2 := Lib.hid hblk2; have HLEN := Lib.hid hlen; have HCM := Lib.hid hcm; have HCAP := Lib.hid hcap
          clear hblk hblk2 hlen hcm hcap
          obtain ⟨wo, rfl⟩ : ∃ wo : World, wo = wr := ⟨_, rfl⟩
          go_wp2
          go_loopw [11, 29] (fun _ i wy => DecRel w2 g cap L rest i wy) (fun _ i _ => ll - (intOf i).toNat)
          case atStart => exact ⟨0, by omega, rfl, by rw [decL_zero]; exact HBLK2.out, Keep.refl _ _⟩
          case round =>
            obtain ⟨j, hj, rfl, hbj, hkj⟩ := hrel
            have HBJ := Lib.hid hbj; have HKJ := Lib.hid hkj; clear hbj hkj
            have hjl : j ≤ ll := by have := HLL.out; omega
            by_cases hlt2 : j < ll
            · have hjL : j < L.length := by have := HLL.out; omega
              have hget := decL_get hjL
              have HSU := Lib.hid (decL_succ hjL)
              have hmy := HMG.out.bd (List.getElem_mem hjL)
              obtain ⟨y, hyy⟩ : ∃ y, y = L[j] := ⟨_, rfl⟩
              rw [← hyy] at hget HSU hmy
              have hbd2 : y.2 ≤ 40 := by have h5 := hmy.2; rw [List.length_take] at h5; omega
              have hbd1 := hmy.1
              obtain ⟨_, hcy⟩ := blk_kin HBJ.out j y hget
              have hfy := HBJ.out.free (j * 2 + 1)
              have hjj : (0 : Int) ≤ (j : Int) := by omega
              have hjl2 : (j : Int) < (ll : Int) := by omega
              have HGET := Lib.hid hget
              clear hget hyy hmy
              go_wp2
              go_roundw
              case rel =>
                refine ⟨j + 1, hjL, by simp, ?_, HKJ.out.set (fun _ => by simp) _⟩
                have := HBJ.out.set (j * 2 + 1) (.int .i64 (y.2 - 1))
                rw [List.set_append_left _ _ (by rw [ints_len, flat_len, decL_len]; omega), ints_set, flat_set1 _ j y _ HGET.out, HSU.out] at this
                exact this
              case measure => simp [intOf]; omega
            · obtain rfl : j = ll := by omega
              have hbj2 : Blk wr g 60 (ints (flat (L.map fun x => (x.1, x.2 - 1))) ++ rest) := by
                have := HBJ.out
                rwa [HLL.out, decL_all] at this
              have HBJ2 := Lib.hid hbj2
              clear hbj2
              have hji : ¬ (j : Int) < (j : Int) := by omega
              go_wp2_with fail
              refine (delZero j cap w.heap.size g (L.map fun x => (x.1, x.2 - 1)) rest _ (by rw [List.length_map]; exact HLL.out.symm) hbase (by have := HCAP.out; omega) HCM.out HBJ2.out (by have := HLEN.out; simpa [ints_len, flat_len] using this) (by omega)).mono ?_
              rintro e w5 ⟨v5, rfl, hkat5, hk5⟩
              have HKAT5 := Lib.hid hkat5; have HK5 := Lib.hid hk5; clear hkat5 hk5
              go_wp2
              go_roundw
              case rel =>
                exact ⟨k + 1, _, D + 1, by omega, by simp, by rw [HT.out]; exact HMG.out.dec HNO.out (by have := HLL.out; omega), HKAT5.out, ((HB.out.trans (HK2.out.below hsz (by simp))).trans (HKJ.out.below (by omega) (by simpa using hbase))).trans (HK5.out.below (by have := HKJ.out.size; omega) (by simpa using hbase))⟩
              case measure => simp [intOf]; omega
    · obtain rfl : k = n := by omega
      have e : l.take k = l := List.take_of_length_le (by rw [HL.out]; exact Nat.le_refl _)
      have HMG2 : Hid (MG keep l L D) := Lib.hid (by have := HMG.out; rwa [e] at this)
      clear e
      go_wp2
      go_ret2
      exact ⟨_, L, D, rfl, HMG2.out, HKAT.out, HB.out⟩
end Go.Proofs.YtnpokcjdnlmheaaDoor
