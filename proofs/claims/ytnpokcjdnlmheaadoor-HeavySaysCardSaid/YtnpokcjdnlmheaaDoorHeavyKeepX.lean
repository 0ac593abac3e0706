/-
  heavy.Keep, Vote: the same walks, with the list told whole (printed by wip/gen_heavykeepx.py).
-/
import Derived.Test.YtnpokcjdnlmheaaDoorHeavySpace
import Derived.Test.YtnpokcjdnlmheaaDoorHeavySmall
namespace Go.Proofs.YtnpokcjdnlmheaaDoor
open Go.RowKit

def keepStep (keep : Nat) (L : List (Int × Int)) (k : Int) : List (Int × Int) :=
  if L.findIdx (fun x => x.1 == k) < L.length then L.set (L.findIdx fun x => x.1 == k) (k, (L.getD (L.findIdx fun x => x.1 == k) (0, 0)).2 + 1)
  else if L.length < keep then L ++ [(k, 1)] else nonz (L.map fun x => (x.1, x.2 - 1))
def keepOf (keep : Nat) (l : List Int) : List (Int × Int) := l.foldl (keepStep keep) []
theorem keepStep_hit {keep : Nat} {L : List (Int × Int)} {k : Int} {i : Nat} (hi : i < L.length) (h1 : (L[i].1 == k) = true) (h2 : ∀ j (hj : j < L.length), j < i → (L[j].1 == k) = false) : keepStep keep L k = L.set i (k, L[i].2 + 1) := by
  have e : L.findIdx (fun x => x.1 == k) = i := by
    rw [List.findIdx_eq hi]
    exact ⟨h1, fun j hj => by simpa using h2 j (by omega) hj⟩
  unfold keepStep
  rw [e, if_pos hi]
  simp [List.getD, List.getElem?_eq_getElem hi]
theorem keepStep_none {keep : Nat} {L : List (Int × Int)} {k : Int} (h : ∀ x ∈ L, (x.1 == k) = false) : keepStep keep L k = if L.length < keep then L ++ [(k, 1)] else nonz (L.map fun x => (x.1, x.2 - 1)) := by
  have e : L.findIdx (fun x => x.1 == k) = L.length := by
    rw [List.findIdx_eq_length]
    exact fun x hx => by simpa using h x hx
  unfold keepStep
  rw [e, if_neg (Nat.lt_irrefl _)]
theorem keepOf_snoc (keep : Nat) (l : List Int) (x : Int) : keepOf keep (l ++ [x]) = keepStep keep (keepOf keep l) x := by simp [keepOf]
def KeepRelX (w : World) (keep n : Nat) (l : List Int) (v i : Value) (wr : World) : Prop :=
  ∃ (k : Nat) (L : List (Int × Int)) (D : Int), k ≤ n ∧ i = .int .i64 k ∧ MG keep (l.take k) L D ∧ KAt wr w.heap.size v L ∧ Below w.heap.size w wr ∧ L = keepOf keep (l.take k)
def KeepPostX (w : World) (keep : Nat) (l : List Int) (e : Ending) (w' : World) : Prop :=
  ∃ (v : Value) (D : Int), e = .returned (.tuple #[v, .nilIface]) ∧ MG keep l (keepOf keep l) D ∧ KAt w' w.heap.size v (keepOf keep l) ∧ Below w.heap.size w w'

set_option maxHeartbeats 2000000 in
set_option maxRecDepth 100000 in
theorem keep_okX (a : Option Addr) (n c keep : Nat) (l : List Int) (w : World) (hl : l.length = n) (h : IntsIn w w.heap.size a l) (hn : n ≤ 40) (ha : allB l 0 1000000 = true) (h1 : 1 ≤ (keep : Int)) (h2 : (keep : Int) ≤ 8) :
    Calls Tryd.prog 27 #[.slice a n c, .int .i64 keep] w (KeepPostX w keep l) := by
  have H := Lib.hid h; have HL := Lib.hid hl; have HA := Lib.hid ha; clear h hl ha
  obtain ⟨i0, hi, hz0, hz1, hz2⟩ := info_parts info_kept
  have hn2 : (n : Int) ≤ 40 := by omega
  go_enter Tryd.func27, Tryd.ntmps27
  go_wp2_with fail
  refine (hCheck_ok a n c _ l keep _ HL.out H.out hn HA.out h1 h2).mono ?_
  rintro e w' ⟨rfl, rfl⟩
  go_wp2
  go_loopw [7, 9, 10, 11, 20] (fun v _ _ _ i wr => KeepRelX w keep n l v i wr) (fun _ _ _ _ i _ => n - (intOf i).toNat)
  case atStart => exact ⟨0, [], 0, by omega, rfl, mg_nil keep, KAt.nil _ _, Below.refl _ _, rfl⟩
  case round =>
    obtain ⟨k, L, D, hk, rfl, hmg, hkat, hbel, hex⟩ := hrel
    have HMG := Lib.hid hmg; have HKAT := Lib.hid hkat; have HB := Lib.hid hbel; have HEX := Lib.hid hex; clear hmg hkat hbel hex
    have hsz := HB.out.size
    by_cases hlt : k < n
    · have hkl : k < l.length := by rw [HL.out]; exact hlt
      obtain ⟨b, off, rfl, hb, hc⟩ := H.out.at_ hkl
      have hcw := (HB.out.cell (p := ⟨b, off + k, none⟩) hb).trans hc
      have HT := Lib.hid (List.take_succ_eq_append_getElem hkl)
      have HTK : Hid (keepOf keep (l.take (k + 1)) = keepStep keep L l[k]) := Lib.hid (by rw [List.take_succ_eq_append_getElem hkl, keepOf_snoc, ← HEX.out])
      obtain ⟨x, hx⟩ : ∃ x, x = l[k] := ⟨_, rfl⟩
      rw [← hx] at hcw HT HTK
      clear hx hc
      have hki : (k : Int) < (n : Int) := by omega
      have hk0 : (0 : Int) ≤ (k : Int) := by omega
      obtain ⟨ll, hll⟩ : ∃ ll, ll = L.length := ⟨_, rfl⟩
      have hkat2 : KAt (wr.alloc (.cells #[.int .i64 x] 3)) w.heap.size _ L := HKAT.out.keepF ((Keep.refl [] wr).alloc _) (by simp)
      obtain ⟨av, g, cap, hvv, hag, hg, hkin, hmore⟩ := hkat2.view wr.heap.size (by simp)
      subst hvv
      rw [← hll] at hag hmore hkat2 ⊢
      have hlk : L.length ≤ keep := HMG.out.len
      have HLL := Lib.hid hll; have HAG := Lib.hid hag; have HKIN := Lib.hid hkin; have HMORE := Lib.hid hmore; have HKAT2 := Lib.hid hkat2
      have hll8 : ll ≤ 8 := by omega
      have hlki : (ll : Int) ≤ 8 := by omega
      clear hll hag hkin hmore hkat2
      go_wp2_with fail
      refine (idxKeep ll cap g av ⟨wr.heap.size, 0, none⟩ x L _ HLL.out.symm HAG.out hg HKIN.out (by omega) (by simp) (by simp)).mono ?_
      rintro e w2 ⟨hb2, ⟨i, hi, hpi, hbef, rfl⟩ | ⟨hno, rfl⟩⟩
      · have HST := Lib.hid (keepStep_hit (keep := keep) hi hpi hbef)
        clear hbef
        have hb2' := hb2
        obtain ⟨hbase, hcap, hcm, rest, hblk, hlen⟩ := HMORE.out (by have := HLL.out; omega)
        obtain rfl := HAG.out (by have := HLL.out; omega)
        have hblk2 := hblk.below hb2 hg
        have hy := List.getElem?_eq_getElem hi
        obtain ⟨y, hyy⟩ : ∃ y, y = L[i] := ⟨_, rfl⟩
        rw [← hyy] at hy hpi HST
        have hyx : y.1 = x := by simpa using hpi
        have hbd := HMG.out.bd (hyy ▸ List.getElem_mem hi)
        have hbd2 : y.2 ≤ 40 := by have h5 := hbd.2; rw [List.length_take] at h5; omega
        have hbd1 := hbd.1
        obtain ⟨_, hcy⟩ := blk_kin hblk2 i y hy
        have hfy := hblk2.free (i * 2 + 1)
        have hii : (0 : Int) ≤ (i : Int) := by omega
        have hil : (i : Int) < (ll : Int) := by have := HLL.out; omega
        have HBLK2 := Lib.hid hblk2; have HY := Lib.hid hy; have HYX := Lib.hid hyx; have HB2 := Lib.hid hb2; have HLEN := Lib.hid hlen; have HCM := Lib.hid hcm; have HCAP := Lib.hid hcap
        clear hblk hblk2 hy hyy hpi hyx hbd hb2 hb2' hlen hcm hcap
        go_wp2
        go_roundw
        case rel =>
          have hm := HMG.out.hit HY.out
          rw [HYX.out] at hm
          have hfin := kat_set1 (x := y) (i := i) (y.2 + 1) hbase (by have := HLL.out; have := HCAP.out; omega) HCM.out HBLK2.out HLEN.out HY.out rfl
          rw [← HLL.out, HYX.out] at hfin
          exact ⟨k + 1, _, D, by omega, by simp, by rw [HT.out]; exact hm, hfin, ((HB.out.alloc hsz _).trans (HB2.out.mono (by simp; omega))).setCell hbase _, by rw [HTK.out, HST.out]⟩
        case measure => simp [intOf]; omega
      · have HST := Lib.hid (keepStep_none (keep := keep) hno)
        have hno2 : ∀ y ∈ L, y.1 ≠ x := fun y hy => by have := hno y hy; simpa using this
        have HNO := Lib.hid hno2; have HB2 := Lib.hid hb2
        have hcx : w2.cell? ⟨wr.heap.size, 0, none⟩ = some (.int .i64 x) := (hb2.cell (p := ⟨wr.heap.size, 0, none⟩) (by simp)).trans (by simp)
        have hk2 : Keep [] wr w2 := ((Keep.refl [] wr).alloc _).trans (Keep.of_below hb2 (Nat.le_refl _))
        have HK2 := Lib.hid hk2
        have hkat3 := HKAT2.out.keepF (F := []) (Keep.of_below hb2 (Nat.le_refl _)) (by simp)
        have HKAT3 := Lib.hid hkat3
        have hsz2 := hk2.size
        clear hno hno2 hb2 hk2 hkat3
        by_cases hfull : ll < keep
        · have hfi : (ll : Int) < (keep : Int) := by omega
          have hrow := HKAT3.out.row
          have HROW := Lib.hid hrow; clear hrow
          have hL8 : L.length ≤ 8 := by have := HLL.out; omega
          go_wp2_with (at_builtin; go_loud (refine wpList_append_own _ rfl _ _ 54 rfl w.heap.size 60 i0 (.agg #[.int .i64 0, .int .i64 0]) 2 16 Tryd.underlying54 hi hz0 hz1 hz2 rfl (by decide) _ _ _ rfl (HROW.out.alloc _) ⟨w2.heap.size, 0, none⟩ 1 1 [.int .i64 x, .int .i64 1] rfl rfl (by intro p u hp; match p, hp with | 0, hp => (simp at hp; subst hp; simp [Addr.add]) | 1, hp => (simp at hp; subst hp; simp [Addr.add])) (by intro u hu; simp at hu; rcases hu with rfl | rfl <;> rfl) (by unfold maxLen; omega) (by omega) (by simp; omega) ?_; intro v' w3 hown' hgrow hlies))
          go_roundw
          case rel =>
            refine ⟨k + 1, L ++ [(x, 1)], D, by omega, by simp, by rw [HT.out]; exact HMG.out.add HNO.out (by have := HLL.out; omega), ⟨?_⟩, ((HB.out.trans (HK2.out.below hsz (by simp))).alloc (by omega) _).grown hgrow (by simp; omega) (fun z hz => (HROW.out.lt z hz).1), by rw [HTK.out, HST.out, if_pos (by have := HLL.out; omega)]⟩
            rw [flat_append]
            simpa [ints, flat] using hown'
          case measure => simp [intOf]; omega
        · have hfi : ¬ (ll : Int) < (keep : Int) := by omega
          obtain ⟨hbase, hcap, hcm, rest, hblk, hlen⟩ := HMORE.out (by omega)
          obtain rfl := HAG.out (by omega)
          have hblk2 := hblk.below HB2.out hg
          have hg2 := hblk2.lt
          have HBLK2 := Lib.hid hblk2; have HLEN := Lib.hid hlen; have HCM := Lib.hid hcm; have HCAP := Lib.hid hcap
          clear hblk hblk2 hlen hcm hcap
          obtain ⟨wo, rfl⟩ : ∃ wo : World, wo = wr := ⟨_, rfl⟩
          go_wp2
          go_loopw [11, 29] (fun _ i wy => DecRel w2 g cap L rest i wy) (fun _ i _ => ll - (intOf i).toNat)
          case atStart => exact ⟨0, by omega, rfl, by rw [decL_zero]; exact HBLK2.out, Keep.refl _ _⟩
          case round =>
            obtain ⟨j, hj, rfl, hbj, hkj⟩ := hrel
            have HBJ := Lib.hid hbj; have HKJ := Lib.hid hkj; clear hbj hkj
            have hjl : j ≤ ll := by have := HLL.out; omega
            by_cases hlt2 : j < ll
            · have hjL : j < L.length := by have := HLL.out; omega
              have hget := decL_get hjL
              have HSU := Lib.hid (decL_succ hjL)
              have hmy := HMG.out.bd (List.getElem_mem hjL)
              obtain ⟨y, hyy⟩ : ∃ y, y = L[j] := ⟨_, rfl⟩
              rw [← hyy] at hget HSU hmy
              have hbd2 : y.2 ≤ 40 := by have h5 := hmy.2; rw [List.length_take] at h5; omega
              have hbd1 := hmy.1
              obtain ⟨_, hcy⟩ := blk_kin HBJ.out j y hget
              have hfy := HBJ.out.free (j * 2 + 1)
              have hjj : (0 : Int) ≤ (j : Int) := by omega
              have hjl2 : (j : Int) < (ll : Int) := by omega
              have HGET := Lib.hid hget
              clear hget hyy hmy
              go_wp2
              go_roundw
              case rel =>
                refine ⟨j + 1, hjL, by simp, ?_, HKJ.out.set (fun _ => by simp) _⟩
                have := HBJ.out.set (j * 2 + 1) (.int .i64 (y.2 - 1))
                rw [List.set_append_left _ _ (by rw [ints_len, flat_len, decL_len]; omega), ints_set, flat_set1 _ j y _ HGET.out, HSU.out] at this
                exact this
              case measure => simp [intOf]; omega
            · obtain rfl : j = ll := by omega
              have hbj2 : Blk wr g 60 (ints (flat (L.map fun x => (x.1, x.2 - 1))) ++ rest) := by
                have := HBJ.out
                rwa [HLL.out, decL_all] at this
              have HBJ2 := Lib.hid hbj2
              clear hbj2
              have hji : ¬ (j : Int) < (j : Int) := by omega
              go_wp2_with fail
              refine (delZero j cap w.heap.size g (L.map fun x => (x.1, x.2 - 1)) rest _ (by rw [List.length_map]; exact HLL.out.symm) hbase (by have := HCAP.out; omega) HCM.out HBJ2.out (by have := HLEN.out; simpa [ints_len, flat_len] using this) (by omega)).mono ?_
              rintro e w5 ⟨v5, rfl, hkat5, hk5⟩
              have HKAT5 := Lib.hid hkat5; have HK5 := Lib.hid hk5; clear hkat5 hk5
              go_wp2
              go_roundw
              case rel =>
                exact ⟨k + 1, _, D + 1, by omega, by simp, by rw [HT.out]; exact HMG.out.dec HNO.out (by have := HLL.out; omega), HKAT5.out, ((HB.out.trans (HK2.out.below hsz (by simp))).trans (HKJ.out.below (by omega) (by simpa using hbase))).trans (HK5.out.below (by have := HKJ.out.size; omega) (by simpa using hbase)), by rw [HTK.out, HST.out, if_neg (by have := HLL.out; omega)]⟩
              case measure => simp [intOf]; omega
    · obtain rfl : k = n := by omega
      have e : l.take k = l := List.take_of_length_le (by rw [HL.out]; exact Nat.le_refl _)
      have HMG2 : Hid (MG keep l L D) := Lib.hid (by have := HMG.out; rwa [e] at this)
      have HEX2 : Hid (L = keepOf keep l) := Lib.hid (by have := HEX.out; rwa [e] at this)
      clear e
      go_wp2
      go_ret2
      exact ⟨_, D, rfl, by rw [← HEX2.out]; exact HMG2.out, by rw [← HEX2.out]; exact HKAT.out, HB.out⟩

theorem keep_bad4 (a : Option Addr) (n c : Nat) (keep : Int) (w : World) (hk : 40 < n) :
    Calls Tryd.prog 27 #[.slice a n c, .int .i64 keep] w fun e w' => e = .returned (.tuple #[.slice none 0 0, errv 4]) ∧ w = w' := by
  go_enter Tryd.func27, Tryd.ntmps27
  go_wp2_with fail
  refine (hCheck_full a n c keep _ hk).mono ?_
  rintro e w' ⟨rfl, rfl⟩
  go_wp2
  go_ret2
  exact ⟨rfl, rfl⟩
theorem keep_bad1 (a : Option Addr) (n c B : Nat) (l : List Int) (keep : Int) (w : World) (hl : l.length = n) (h : IntsIn w B a l) (hn : n ≤ 40) (hk : allB l 0 1000000 = false ∨ keep < 1 ∨ 8 < keep) :
    Calls Tryd.prog 27 #[.slice a n c, .int .i64 keep] w fun e w' => e = .returned (.tuple #[.slice none 0 0, errv 1]) ∧ w = w' := by
  have H := Lib.hid h; have HL := Lib.hid hl; have HK := Lib.hid hk; clear h hl hk
  go_enter Tryd.func27, Tryd.ntmps27
  go_wp2_with fail
  refine (hCheck_range a n c B l keep _ HL.out H.out hn HK.out).mono ?_
  rintro e w' ⟨rfl, rfl⟩
  go_wp2
  go_ret2
  exact ⟨rfl, rfl⟩
theorem space_bad4 (a : Option Addr) (n c : Nat) (keep : Int) (w : World) (hk : 40 < n) :
    Calls Tryd.prog 29 #[.slice a n c, .int .i64 keep] w fun e w' => e = .returned (.tuple #[.slice none 0 0, errv 4]) ∧ w = w' := by
  go_enter Tryd.func29, Tryd.ntmps29
  go_wp2_with fail
  refine (hCheck_full a n c keep _ hk).mono ?_
  rintro e w' ⟨rfl, rfl⟩
  go_wp2
  go_ret2
  exact ⟨rfl, rfl⟩
theorem space_bad1 (a : Option Addr) (n c B : Nat) (l : List Int) (keep : Int) (w : World) (hl : l.length = n) (h : IntsIn w B a l) (hn : n ≤ 40) (hk : allB l 0 1000000 = false ∨ keep < 1 ∨ 8 < keep) :
    Calls Tryd.prog 29 #[.slice a n c, .int .i64 keep] w fun e w' => e = .returned (.tuple #[.slice none 0 0, errv 1]) ∧ w = w' := by
  have H := Lib.hid h; have HL := Lib.hid hl; have HK := Lib.hid hk; clear h hl hk
  go_enter Tryd.func29, Tryd.ntmps29
  go_wp2_with fail
  refine (hCheck_range a n c B l keep _ HL.out H.out hn HK.out).mono ?_
  rintro e w' ⟨rfl, rfl⟩
  go_wp2
  go_ret2
  exact ⟨rfl, rfl⟩
theorem vote_bad4 (a : Option Addr) (n c : Nat) (w : World) (hk : 40 < n) :
    Calls Tryd.prog 31 #[.slice a n c] w fun e w' => e = .returned (.tuple #[.int .i64 0, .bool false, errv 4]) ∧ w = w' := by
  go_enter Tryd.func31, Tryd.ntmps31
  go_wp2_with fail
  refine (keep_bad4 a n c 1 _ hk).mono ?_
  rintro e w' ⟨rfl, rfl⟩
  go_wp2
  go_ret3
  exact ⟨rfl, rfl⟩
theorem vote_bad1 (a : Option Addr) (n c B : Nat) (l : List Int) (w : World) (hl : l.length = n) (h : IntsIn w B a l) (hn : n ≤ 40) (hk : allB l 0 1000000 = false) :
    Calls Tryd.prog 31 #[.slice a n c] w fun e w' => e = .returned (.tuple #[.int .i64 0, .bool false, errv 1]) ∧ w = w' := by
  have H := Lib.hid h; have HL := Lib.hid hl; have HK := Lib.hid hk; clear h hl hk
  go_enter Tryd.func31, Tryd.ntmps31
  go_wp2_with fail
  refine (keep_bad1 a n c B l 1 _ HL.out H.out hn (.inl HK.out)).mono ?_
  rintro e w' ⟨rfl, rfl⟩
  go_wp2
  go_ret3
  exact ⟨rfl, rfl⟩

def VotePostX (w : World) (n : Nat) (l : List Int) (e : Ending) (w' : World) : Prop :=
  Below w.heap.size w w' ∧ ((keepOf 1 l = [] ∧ e = .returned (.tuple #[.int .i64 0, .bool false, .nilIface])) ∨
    (∃ (y : Int × Int), keepOf 1 l = [y] ∧ e = .returned (.tuple #[.int .i64 y.1, .bool (decide ((n : Int) < 2 * times l y.1)), .nilIface])))
def VoteRelX (w2 : World) (n : Nat) (l : List Int) (y : Int) (many i : Value) (wr : World) : Prop :=
  ∃ k : Nat, k ≤ n ∧ i = .int .i64 k ∧ many = .int .i64 (times (l.take k) y) ∧ w2 = wr

set_option maxHeartbeats 2000000 in
set_option maxRecDepth 100000 in
theorem vote_okX (a : Option Addr) (n c : Nat) (l : List Int) (w : World) (hl : l.length = n) (h : IntsIn w w.heap.size a l) (hn : n ≤ 40) (ha : allB l 0 1000000 = true) :
    Calls Tryd.prog 31 #[.slice a n c] w (VotePostX w n l) := by
  have H := Lib.hid h; have HL := Lib.hid hl; have HA := Lib.hid ha; clear h hl ha
  have hn2 : (n : Int) ≤ 40 := by omega
  go_enter Tryd.func31, Tryd.ntmps31
  go_wp2_with fail
  refine (keep_okX a n c 1 l _ HL.out H.out hn HA.out (by decide) (by decide)).mono ?_
  rintro e w2 ⟨v, D, rfl, hmg, hkat, hb⟩
  obtain ⟨L, hL⟩ : ∃ L, L = keepOf 1 l := ⟨_, rfl⟩
  rw [← hL] at hmg hkat
  have hlen := hmg.len
  match L, hlen, hmg, hkat, hL with
  | [], _, hmg, hkat, hL =>
    obtain ⟨av, g, cap, rfl, _, _⟩ := hkat.shape
    have HMG := Lib.hid hL; have HB := Lib.hid hb; clear hmg hb hkat hlen hL
    go_wp2
    go_ret3
    exact ⟨HB.out, .inl ⟨HMG.out.symm, rfl⟩⟩
  | [y], _, hmg, hkat, hL =>
    obtain ⟨g, cap, rest, rfl, _, _, _, hblk, _⟩ := hkat.front (by simp)
    obtain ⟨hc0, _⟩ := blk_kin hblk 0 y rfl
    have HMG := Lib.hid hL; have HB := Lib.hid hb
    clear hL
    have HIN : Hid (IntsIn w2 w.heap.size a l) := Lib.hid (H.out.below hb)
    clear hmg hb hkat hblk hlen
    go_wp2
    go_loopw [7, 9, 25] (fun many _ i wr => VoteRelX w2 n l y.1 many i wr) (fun _ _ i _ => n - (intOf i).toNat)
    case atStart => exact ⟨0, by omega, rfl, rfl, rfl⟩
    case round =>
      obtain ⟨k, hk, rfl, rfl, rfl⟩ := hrel
      have hb := times_le (l.take k) y.1
      have hb0 := times_nonneg (l.take k) y.1
      have hb2 : times (l.take k) y.1 ≤ k := by rw [List.length_take] at hb; omega
      clear hb
      by_cases hlt : k < n
      · have hkl : k < l.length := by rw [HL.out]; exact hlt
        obtain ⟨b, off, rfl, hbB, hc⟩ := HIN.out.at_ hkl
        have HS := Lib.hid (times_take y.1 hkl)
        obtain ⟨x, hx⟩ : ∃ x, x = l[k] := ⟨_, rfl⟩
        obtain ⟨t, ht⟩ : ∃ t, t = times (l.take k) y.1 := ⟨_, rfl⟩
        rw [← hx, ← ht] at HS
        rw [← hx] at hc
        rw [← ht] at hb0 hb2 ⊢
        clear hx ht
        have hki : (k : Int) < (n : Int) := by omega
        have hk0 : (0 : Int) ≤ (k : Int) := by omega
        by_cases e : x = y.1
        · go_wp2
          go_roundw
          case rel => exact ⟨k + 1, hlt, by simp, congrArg (Value.int .i64) (by rw [HS.out, if_pos e]), by trivial⟩
          case measure => simp [intOf]; omega
        · go_wp2
          go_roundw
          case rel => exact ⟨k + 1, hlt, by simp, congrArg (Value.int .i64) (by rw [HS.out, if_neg e]; omega), by trivial⟩
          case measure => simp [intOf]; omega
      · obtain rfl : k = n := by omega
        have e : l.take k = l := List.take_of_length_le (by rw [HL.out]; exact Nat.le_refl _)
        rw [e] at hb0 hb2 ⊢
        obtain ⟨t, ht⟩ : ∃ t, t = times l y.1 := ⟨_, rfl⟩
        rw [← ht] at hb0 hb2 ⊢
        have HT := Lib.hid ht
        clear e ht
        have hw64 : wrap64 (2 * t) = 2 * t := by unfold wrap64; omega
        have hw : IntKind.i64.wrap (2 * t) = 2 * t := IntWalk.i64_in _ (by omega)
        go_wp2
        go_ret3
        exact ⟨HB.out, .inr ⟨y, HMG.out.symm, by rw [← HT.out]; rfl⟩⟩
  | _ :: _ :: _, hlen, _, _, _ => simp at hlen

end Go.Proofs.YtnpokcjdnlmheaaDoor
