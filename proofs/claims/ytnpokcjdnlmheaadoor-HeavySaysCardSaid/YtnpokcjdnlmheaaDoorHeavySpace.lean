/-
  heavy.Space, by its contracts: what it computes, outright.
-/
import Derived.Test.YtnpokcjdnlmheaaDoorHeavyKeep
import Derived.Test.YtnpokcjdnlmheaaDoorHeavyLaw2
namespace Go.Proofs.YtnpokcjdnlmheaaDoor
open Go.RowKit

def leastTo (L : List (Int × Int)) : Nat → Nat
  | 0 => 0
  | j + 1 => if (L.getD j (0, 0)).2 < (L.getD (leastTo L j) (0, 0)).2 then j else leastTo L j
theorem leastTo_lt (L : List (Int × Int)) : ∀ j, 0 < j → leastTo L j < j
  | 0, h => by omega
  | j + 1, _ => by
    unfold leastTo
    split
    · omega
    · rcases Nat.eq_zero_or_pos j with rfl | h
      · simp [leastTo]
      · have := leastTo_lt L j h; omega
theorem leastTo_min (L : List (Int × Int)) : ∀ j k, k < j → (L.getD (leastTo L j) (0, 0)).2 ≤ (L.getD k (0, 0)).2
  | 0, k, h => by omega
  | j + 1, k, h => by
    unfold leastTo
    split
    · rename_i g
      rcases Nat.lt_or_ge k j with a | a
      · have := leastTo_min L j k a; omega
      · obtain rfl : k = j := by omega
        omega
    · rename_i g
      rcases Nat.lt_or_ge k j with a | a
      · exact leastTo_min L j k a
      · obtain rfl : k = j := by omega
        omega
def spaceStep (keep : Nat) (L : List (Int × Int)) (k : Int) : List (Int × Int) :=
  if L.findIdx (fun x => x.1 == k) < L.length then L.set (L.findIdx fun x => x.1 == k) (k, (L.getD (L.findIdx fun x => x.1 == k) (0, 0)).2 + 1)
  else if L.length < keep then L ++ [(k, 1)] else L.set (leastTo L L.length) (k, (L.getD (leastTo L L.length) (0, 0)).2 + 1)
def spaceOf (keep : Nat) (l : List Int) : List (Int × Int) := l.foldl (spaceStep keep) []

theorem step_hit {keep : Nat} {L : List (Int × Int)} {k : Int} {i : Nat} (hi : i < L.length) (h1 : (L[i].1 == k) = true) (h2 : ∀ j (hj : j < L.length), j < i → (L[j].1 == k) = false) : spaceStep keep L k = L.set i (k, L[i].2 + 1) := by
  have e : L.findIdx (fun x => x.1 == k) = i := by
    rw [List.findIdx_eq hi]
    exact ⟨h1, fun j hj => by simpa using h2 j (by omega) hj⟩
  unfold spaceStep
  rw [e, if_pos hi]
  simp [List.getD, List.getElem?_eq_getElem hi]
theorem step_none {keep : Nat} {L : List (Int × Int)} {k : Int} (h : ∀ x ∈ L, (x.1 == k) = false) : spaceStep keep L k = if L.length < keep then L ++ [(k, 1)] else L.set (leastTo L L.length) (k, (L.getD (leastTo L L.length) (0, 0)).2 + 1) := by
  have e : L.findIdx (fun x => x.1 == k) = L.length := by
    rw [List.findIdx_eq_length]
    exact fun x hx => by simpa using h x hx
  unfold spaceStep
  rw [e, if_neg (Nat.lt_irrefl _)]
theorem spaceOf_snoc (keep : Nat) (l : List Int) (x : Int) : spaceOf keep (l ++ [x]) = spaceStep keep (spaceOf keep l) x := by simp [spaceOf]
theorem snoc_ind {P : List Int → Prop} (h0 : P []) (hs : ∀ l x, P l → P (l ++ [x])) (l : List Int) : P l := by
  have h : ∀ m : List Int, P m.reverse := by
    intro m
    induction m with
    | nil => simpa using h0
    | cons x m ih => rw [List.reverse_cons]; exact hs _ _ ih
  have := h l.reverse
  rwa [List.reverse_reverse] at this
theorem spaceOf_ss {keep : Nat} (hk : 1 ≤ keep) (l : List Int) : SS keep l (spaceOf keep l) := by
  refine snoc_ind (P := fun l => SS keep l (spaceOf keep l)) (ss_nil keep) (fun l x ih => ?_) l
  · show SS keep (l ++ [x]) (spaceOf keep (l ++ [x]))
    rw [spaceOf_snoc]
    obtain ⟨L, hL⟩ : ∃ L, L = spaceOf keep l := ⟨_, rfl⟩
    rw [← hL] at ih ⊢
    by_cases h : ∃ y ∈ L, (y.1 == x) = true
    · have hlt : L.findIdx (fun y => y.1 == x) < L.length := List.findIdx_lt_length.2 h
      have h1 : (L[L.findIdx (fun y => y.1 == x)].1 == x) = true := List.findIdx_getElem (w := hlt)
      have := ih.hit (List.getElem?_eq_getElem hlt)
      have hx : L[L.findIdx (fun y => y.1 == x)].1 = x := by simpa using h1
      unfold spaceStep
      rw [if_pos hlt]
      rw [hx] at this
      simpa [List.getD, List.getElem?_eq_getElem hlt] using this
    · have hno : ∀ y ∈ L, (y.1 == x) = false := fun y hy => by
        cases g : (y.1 == x) with
        | false => rfl
        | true => exact absurd ⟨y, hy, g⟩ h
      have hno2 : ∀ y ∈ L, y.1 ≠ x := fun y hy => by simpa using hno y hy
      rw [step_none hno]
      by_cases hl : L.length < keep
      · rw [if_pos hl]; exact ih.add hno2 hl
      · rw [if_neg hl]
        have hpos : 0 < L.length := by omega
        have hlt := leastTo_lt L L.length hpos
        refine ih.turn (x := L.getD (leastTo L L.length) (0, 0)) hno2 (by omega) (by simp [List.getD, List.getElem?_eq_getElem hlt]) (fun y hy => ?_)
        obtain ⟨j, hj, rfl⟩ := List.getElem_of_mem hy
        have := leastTo_min L L.length j hj
        simpa [List.getD, List.getElem?_eq_getElem hj] using this

def SpaceRel (w : World) (keep n : Nat) (l : List Int) (v i : Value) (wr : World) : Prop :=
  ∃ k : Nat, k ≤ n ∧ i = .int .i64 k ∧ KAt wr w.heap.size v (spaceOf keep (l.take k)) ∧ Below w.heap.size w wr
def LeastRel (w2 : World) (L : List (Int × Int)) (m i : Value) (wy : World) : Prop :=
  ∃ j : Nat, j ≤ L.length ∧ i = .int .i64 j ∧ m = .int .i64 (leastTo L j : Nat) ∧ Keep [] w2 wy
def SpacePost (w : World) (keep : Nat) (l : List Int) (e : Ending) (w' : World) : Prop :=
  ∃ v : Value, e = .returned (.tuple #[v, .nilIface]) ∧ KAt w' w.heap.size v (spaceOf keep l) ∧ Below w.heap.size w w'

theorem space_bad (a : Option Addr) (n c B : Nat) (l : List Int) (keep : Int) (w : World) (hl : l.length = n) (h : IntsIn w B a l) (hk : 40 < n ∨ (n ≤ 40 ∧ (allB l 0 1000000 = false ∨ keep < 1 ∨ 8 < keep))) :
    Calls Tryd.prog 29 #[.slice a n c, .int .i64 keep] w fun e w' => ∃ k, e = .returned (.tuple #[.slice none 0 0, errv k]) ∧ w = w' := by
  have H := Lib.hid h; have HL := Lib.hid hl; clear h hl
  rcases hk with hk | ⟨hn, hk⟩
  · go_enter Tryd.func29, Tryd.ntmps29
    go_wp2_with fail
    refine (hCheck_full a n c keep _ hk).mono ?_
    rintro e w' ⟨rfl, rfl⟩
    go_wp2
    go_ret2
    exact ⟨4, rfl, rfl⟩
  · have HK := Lib.hid hk; clear hk
    go_enter Tryd.func29, Tryd.ntmps29
    go_wp2_with fail
    refine (hCheck_range a n c B l keep _ HL.out H.out hn HK.out).mono ?_
    rintro e w' ⟨rfl, rfl⟩
    go_wp2
    go_ret2
    exact ⟨1, rfl, rfl⟩

theorem KAt.front {w : World} {base : Nat} {v : Value} {L : List (Int × Int)} (h : KAt w base v L) (hp : 0 < L.length) :
    ∃ g cap rest, v = .slice (some ⟨g, 0, none⟩) L.length cap ∧ base ≤ g ∧ L.length ≤ cap ∧ cap ≤ maxLen ∧ Blk w g 60 (ints (flat L) ++ rest) ∧ (ints (flat L) ++ rest).length = cap * 2 := by
  obtain ⟨a, g, cap, rfl, ha, ⟨_, _, h3⟩ | ⟨h1, h2, h3, h4, rest, h5, h6⟩⟩ := h.shape
  · subst h3; simp at hp
  · subst h1
    exact ⟨g, cap, rest, rfl, h2, h3, h4, h5, h6⟩
theorem after_append {w : World} {base ll : Nat} {v : Value} {L : List (Int × Int)} {x : Int} (hl : ll = L.length) (h : w.ownsRow base 60 2 v (L.length + 1) (ints (flat L) ++ [.int .i64 x, .int .i64 0])) :
    ∃ g cap rest, v = .slice (some ⟨g, 0, none⟩) (ll + 1) cap ∧ base ≤ g ∧ ll + 1 ≤ cap ∧ cap ≤ maxLen ∧ Blk w g 60 (ints (flat (L ++ [(x, 0)])) ++ rest) ∧ (ints (flat (L ++ [(x, 0)])) ++ rest).length = cap * 2 ∧ w.cell? ⟨g, ll * 2 + 1, none⟩ = some (.int .i64 0) ∧ w.frozen? ⟨g, ll * 2 + 1, none⟩ = false := by
  have hk : KAt w base v (L ++ [(x, 0)]) := ⟨by rw [flat_append]; simpa [ints, flat] using h⟩
  obtain ⟨g, cap, rest, hv, h1, h2, h3, h4, h5⟩ := hk.front (by simp)
  have hx : (L ++ [(x, (0 : Int))])[ll]? = some (x, 0) := by rw [hl]; simp
  rw [List.length_append, List.length_cons, List.length_nil, Nat.zero_add, ← hl] at hv h2
  exact ⟨g, cap, rest, hv, h1, h2, h3, h4, h5, (blk_kin h4 ll _ hx).2, h4.free _⟩

theorem kat_set0 {w w' : World} {g : Nat} {L : List (Int × Int)} {rest : List Value} {i : Nat} {x : Int × Int} (v : Int) (h : Blk w g 60 (ints (flat L) ++ rest)) (hx : L[i]? = some x)
    (hw : w' = w.setCell ⟨g, i * 2, none⟩ (.int .i64 v)) : Blk w' g 60 (ints (flat (L.set i (v, x.2))) ++ rest) := by
  have hi : i < L.length := (List.getElem?_eq_some_iff.1 hx).1
  have := h.set (i * 2) (.int .i64 v)
  rw [List.set_append_left _ _ (by rw [ints_len, flat_len]; omega), ints_set, flat_set0 L i x v hx] at this
  rw [hw]
  exact this

set_option maxHeartbeats 2000000 in
set_option maxRecDepth 100000 in
theorem space_ok (a : Option Addr) (n c keep : Nat) (l : List Int) (w : World) (hl : l.length = n) (h : IntsIn w w.heap.size a l) (hn : n ≤ 40) (ha : allB l 0 1000000 = true) (h1 : 1 ≤ (keep : Int)) (h2 : (keep : Int) ≤ 8) :
    Calls Tryd.prog 29 #[.slice a n c, .int .i64 keep] w (SpacePost w keep l) := by
  have H := Lib.hid h; have HL := Lib.hid hl; have HA := Lib.hid ha; clear h hl ha
  obtain ⟨i0, hi, hz0, hz1, hz2⟩ := info_parts info_kept
  have hn2 : (n : Int) ≤ 40 := by omega
  go_enter Tryd.func29, Tryd.ntmps29
  go_wp2_with fail
  refine (hCheck_ok a n c _ l keep _ HL.out H.out hn HA.out h1 h2).mono ?_
  rintro e w' ⟨rfl, rfl⟩
  go_wp2
  go_loopw [7, 9, 10, 11, 20] (fun v _ _ _ i wr => SpaceRel w keep n l v i wr) (fun _ _ _ _ i _ => n - (intOf i).toNat)
  case atStart => exact ⟨0, by omega, rfl, KAt.nil _ _, Below.refl _ _⟩
  case round =>
    obtain ⟨k, hk, rfl, hkat, hbel⟩ := hrel
    obtain ⟨L, hLL⟩ : ∃ L, L = spaceOf keep (l.take k) := ⟨_, rfl⟩
    rw [← hLL] at hkat
    have HKAT := Lib.hid hkat; have HB := Lib.hid hbel; have HSS : Hid (SS keep (l.take k) L) := Lib.hid (by rw [hLL]; exact spaceOf_ss (by omega) _)
    have HLO := Lib.hid hLL
    clear hkat hbel hLL
    have hsz := HB.out.size
    by_cases hlt : k < n
    · have hkl : k < l.length := by rw [HL.out]; exact hlt
      obtain ⟨b, off, rfl, hb, hc⟩ := H.out.at_ hkl
      have hcw := (HB.out.cell (p := ⟨b, off + k, none⟩) hb).trans hc
      have HT : Hid (spaceOf keep (l.take (k + 1)) = spaceStep keep L l[k]) := Lib.hid (by rw [List.take_succ_eq_append_getElem hkl, spaceOf_snoc, ← HLO.out])
      obtain ⟨x, hx⟩ : ∃ x, x = l[k] := ⟨_, rfl⟩
      rw [← hx] at hcw HT
      clear hx hc
      have hki : (k : Int) < (n : Int) := by omega
      have hk0 : (0 : Int) ≤ (k : Int) := by omega
      obtain ⟨ll, hll⟩ : ∃ ll, ll = L.length := ⟨_, rfl⟩
      have hkat2 : KAt (wr.alloc (.cells #[.int .i64 x] 3)) w.heap.size _ L := HKAT.out.keepF ((Keep.refl [] wr).alloc _) (by simp)
      obtain ⟨av, g, cap, hvv, hag, hg, hkin, hmore⟩ := hkat2.view wr.heap.size (by simp)
      subst hvv
      rw [← hll] at hag hmore hkat2 ⊢
      have hlk : L.length ≤ keep := HSS.out.len
      have HLL := Lib.hid hll; have HAG := Lib.hid hag; have HKIN := Lib.hid hkin; have HMORE := Lib.hid hmore; have HKAT2 := Lib.hid hkat2
      have hll8 : ll ≤ 8 := by omega
      have hlki : (ll : Int) ≤ 8 := by omega
      have hll0 : (0 : Int) ≤ (ll : Int) := by omega
      clear hll hag hkin hmore hkat2
      go_wp2_with fail
      refine (idxSpace ll cap g av ⟨wr.heap.size, 0, none⟩ x L _ HLL.out.symm HAG.out hg HKIN.out (by omega) (by simp) (by simp)).mono ?_
      rintro e w2 ⟨hb2, ⟨i, hi, hpi, hbef, rfl⟩ | ⟨hno, rfl⟩⟩
      · have HST := Lib.hid (step_hit (keep := keep) hi hpi hbef)
        obtain ⟨hbase, hcap, hcm, rest, hblk, hlen⟩ := HMORE.out (by have := HLL.out; omega)
        obtain rfl := HAG.out (by have := HLL.out; omega)
        have hblk2 := hblk.below hb2 hg
        have hy := List.getElem?_eq_getElem hi
        have hbd := HSS.out.bd (List.getElem_mem hi)
        obtain ⟨y, hyy⟩ : ∃ y, y = L[i] := ⟨_, rfl⟩
        rw [← hyy] at hy hpi hbd HST
        have hyx : y.1 = x := by simpa using hpi
        have hbd2 : y.2 ≤ 40 := by have h5 := hbd.2; rw [List.length_take] at h5; omega
        have hbd1 := hbd.1
        obtain ⟨_, hcy⟩ := blk_kin hblk2 i y hy
        have hfy := hblk2.free (i * 2 + 1)
        have hii : (0 : Int) ≤ (i : Int) := by omega
        have hil : (i : Int) < (ll : Int) := by have := HLL.out; omega
        have HBLK2 := Lib.hid hblk2; have HY := Lib.hid hy; have HYX := Lib.hid hyx; have HB2 := Lib.hid hb2; have HLEN := Lib.hid hlen; have HCM := Lib.hid hcm; have HCAP := Lib.hid hcap
        clear hblk hblk2 hy hyy hpi hyx hbd hb2 hlen hcm hcap hbef
        go_wp2
        go_roundw
        case rel =>
          have hfin := kat_set1 (x := y) (i := i) (y.2 + 1) hbase (by have := HLL.out; have := HCAP.out; omega) HCM.out HBLK2.out HLEN.out HY.out rfl
          rw [← HLL.out, HYX.out, ← HST.out, ← HT.out] at hfin
          exact ⟨k + 1, by omega, by simp, hfin, ((HB.out.alloc hsz _).trans (HB2.out.mono (by simp; omega))).setCell hbase _⟩
        case measure => simp [intOf]; omega
      · have HST := Lib.hid (step_none (keep := keep) hno)
        have HB2 := Lib.hid hb2
        have hcx : w2.cell? ⟨wr.heap.size, 0, none⟩ = some (.int .i64 x) := (hb2.cell (p := ⟨wr.heap.size, 0, none⟩) (by simp)).trans (by simp)
        have hk2 : Keep [] wr w2 := ((Keep.refl [] wr).alloc _).trans (Keep.of_below hb2 (Nat.le_refl _))
        have HK2 := Lib.hid hk2
        have hkat3 := HKAT2.out.keepF (F := []) (Keep.of_below hb2 (Nat.le_refl _)) (by simp)
        have HKAT3 := Lib.hid hkat3
        have hsz2 := hk2.size
        clear hno hb2 hk2 hkat3
        by_cases hfull : ll < keep
        · have hfi : (ll : Int) < (keep : Int) := by omega
          have hrow := HKAT3.out.row
          have HROW := Lib.hid hrow; clear hrow
          have hL8 : L.length ≤ 8 := by have := HLL.out; omega
          go_wp2_with (at_builtin; refine wpList_append_own _ rfl _ _ 54 rfl w.heap.size 60 i0 (.agg #[.int .i64 0, .int .i64 0]) 2 16 Tryd.underlying54 hi hz0 hz1 hz2 rfl (by decide) _ _ _ rfl (HROW.out.alloc _) ⟨w2.heap.size, 0, none⟩ 1 1 [.int .i64 x, .int .i64 0] rfl rfl (by intro p u hp; match p, hp with | 0, hp => (simp at hp; subst hp; simp [Addr.add]) | 1, hp => (simp at hp; subst hp; simp [Addr.add])) (by intro u hu; simp at hu; rcases hu with rfl | rfl <;> rfl) (by unfold maxLen; omega) (by omega) (by simp; omega) ?_; intro v' w3 hown' hgrow hlies; (obtain ⟨g3, cap3, rest3, rfl, hb3, hc3, hm3, hblk3, hlen3, hcell3, hfree3⟩ := after_append HLL.out hown'); have HBLK3 := Lib.hid hblk3; have HLEN3 := Lib.hid hlen3; have HM3 := Lib.hid hm3; have HGROW := Lib.hid hgrow; clear hblk3 hlen3 hm3 hgrow hown' hlies)
          go_roundw
          case rel =>
            have hx3 : (L ++ [(x, (0 : Int))])[ll]? = some (x, 0) := by rw [HLL.out]; simp
            have hfin := kat_set1 (x := (x, 0)) (i := ll) 1 hb3 (by rw [List.length_append, List.length_cons, List.length_nil, Nat.zero_add, ← HLL.out]; exact hc3) HM3.out HBLK3.out HLEN3.out hx3 rfl
            have e1 : (L ++ [(x, (0 : Int))]).set ll (x, 1) = L ++ [(x, 1)] := by rw [HLL.out]; simp
            rw [e1, List.length_append, List.length_cons, List.length_nil, Nat.zero_add, ← HLL.out] at hfin
            have e2 : spaceOf keep (l.take (k + 1)) = L ++ [(x, 1)] := by rw [HT.out, HST.out, if_pos (by have := HLL.out; omega)]
            rw [← e2] at hfin
            exact ⟨k + 1, by omega, by simp, hfin, (((HB.out.trans (HK2.out.below hsz (by simp))).alloc (by omega) _).grown HGROW.out (by simp; omega) (fun z hz => (HROW.out.lt z hz).1)).setCell hb3 _⟩
          case measure => simp [intOf]; omega
        · have hfi : ¬ (ll : Int) < (keep : Int) := by omega
          obtain ⟨hbase, hcap, hcm, rest, hblk, hlen⟩ := HMORE.out (by omega)
          obtain rfl := HAG.out (by omega)
          have hblk2 := hblk.below HB2.out hg
          have hg2 := hblk2.lt
          have hgne : g ≠ wr.heap.size := by
            have := HKAT.out.lt g rfl
            omega
          have HBLK2 := Lib.hid hblk2; have HLEN := Lib.hid hlen; have HCM := Lib.hid hcm; have HCAP := Lib.hid hcap
          clear hblk hblk2 hlen hcm hcap
          have hkpos : 0 < ll := by omega
          obtain ⟨wo, rfl⟩ : ∃ wo : World, wo = wr := ⟨_, rfl⟩
          go_wp2
          go_loopw [10, 11, 46] (fun m _ i wy => LeastRel w2 L m i wy) (fun _ _ i _ => ll - (intOf i).toNat)
          case atStart => exact ⟨0, by omega, rfl, rfl, Keep.refl _ _⟩
          case round =>
            obtain ⟨j, hj, rfl, rfl, hkj⟩ := hrel
            have HKJ := Lib.hid hkj; clear hkj
            have hjl : j ≤ ll := by have := HLL.out; omega
            have HBJ := Lib.hid (HBLK2.out.keep HKJ.out (by simp))
            have hcell : ∀ i, i < ll → wr.cell? ⟨g, i * 2 + 1, none⟩ = some (.int .i64 (L.getD i (0, 0)).2) ∧ wr.frozen? ⟨g, i * 2 + 1, none⟩ = false ∧ wr.frozen? ⟨g, i * 2, none⟩ = false ∧ ∃ u, wr.cell? ⟨g, i * 2, none⟩ = some u := fun i hi => by
              have hiL : i < L.length := by have := HLL.out; omega
              obtain ⟨q0, q1⟩ := blk_kin HBJ.out i _ (List.getElem?_eq_getElem hiL)
              exact ⟨by rw [q1]; simp [List.getD, List.getElem?_eq_getElem hiL], HBJ.out.free _, HBJ.out.free _, _, q0⟩
            have HCELL := Lib.hid hcell; clear hcell
            obtain ⟨p, hp⟩ : ∃ p, p = leastTo L j := ⟨_, rfl⟩
            have hpl : p < ll := by
              rw [hp]
              rcases Nat.eq_zero_or_pos j with rfl | h
              · simpa [leastTo] using hkpos
              · have := leastTo_lt L j h; omega
            have hpi : (p : Int) < (ll : Int) := by omega
            have hp0 : (0 : Int) ≤ (p : Int) := by omega
            rw [← hp]
            obtain ⟨hcp, hfp, hfq, u, hcq⟩ := HCELL.out p hpl
            by_cases hlt2 : j < ll
            · obtain ⟨hcj, _, _, _⟩ := HCELL.out j hlt2
              have hs : leastTo L (j + 1) = if (L.getD j (0, 0)).2 < (L.getD p (0, 0)).2 then j else p := by rw [hp]; rfl
              obtain ⟨yj, hyj⟩ : ∃ y, y = (L.getD j (0, 0)).2 := ⟨_, rfl⟩
              obtain ⟨yp, hyp⟩ : ∃ y, y = (L.getD p (0, 0)).2 := ⟨_, rfl⟩
              rw [← hyj, ← hyp] at hs
              rw [← hyj] at hcj
              rw [← hyp] at hcp
              have HS := Lib.hid hs
              have hjL : j < L.length := by have := HLL.out; omega
              clear hs hyj hyp hp
              have hji : (j : Int) < (ll : Int) := by omega
              have hj0 : (0 : Int) ≤ (j : Int) := by omega
              by_cases hless : yj < yp
              · go_wp2
                go_quiet (fail)
                go_wp2
                go_roundw
                case rel => exact ⟨j + 1, hjL, by simp, by rw [HS.out, if_pos hless], HKJ.out.drewN _⟩
                case measure => simp [intOf]; omega
              · go_wp2
                go_quiet (fail)
                go_wp2
                go_roundw
                case rel => exact ⟨j + 1, hjL, by simp, by rw [HS.out, if_neg (by omega)], HKJ.out.drewN _⟩
                case measure => simp [intOf]; omega
            · obtain rfl : j = ll := by omega
              have hjj : ¬ (j : Int) < (j : Int) := by omega
              have hpL : p < L.length := by have := HLL.out; omega
              have hbd := HSS.out.bd (List.getElem_mem hpL)
              have hgd : L.getD p (0, 0) = L[p] := by simp [List.getD, List.getElem?_eq_getElem hpL]
              have hy := List.getElem?_eq_getElem hpL
              obtain ⟨y, hyy⟩ : ∃ y, y = L[p] := ⟨_, rfl⟩
              rw [← hyy] at hbd hgd hy
              rw [hgd] at hcp
              have hbd2 : y.2 ≤ 40 := by have h5 := hbd.2; rw [List.length_take] at h5; omega
              have hbd1 := hbd.1
              have e2 : spaceOf keep (l.take (k + 1)) = L.set p (x, y.2 + 1) := by
                rw [HT.out, HST.out, if_neg (by have := HLL.out; omega), ← HLL.out, ← hp, hgd]
              have HE2 := Lib.hid e2; have HY := Lib.hid hy
              have hcx2 : wr.cell? ⟨wo.heap.size, 0, none⟩ = some (.int .i64 x) := (HKJ.out.cell (p := ⟨wo.heap.size, 0, none⟩) (by have h7 := HB2.out.size; rw [World.size_alloc] at h7; exact h7) (by simp)).trans hcx
              have hne1 : ¬ p * 2 + 1 = p * 2 := by omega
              clear hbd hgd hy hyy e2 hp
              go_wp2
              go_roundw
              case rel =>
                have hs0 := kat_set0 (x := y) (i := p) x HBJ.out HY.out rfl
                have hfin := kat_set1 (x := (x, y.2)) (i := p) (y.2 + 1) hbase (by rw [List.length_set, ← HLL.out]; exact HCAP.out) HCM.out hs0 (by have := HLEN.out; simpa [ints_len, flat_len] using this) (List.getElem?_set_self hpL) rfl
                rw [List.set_set, List.length_set, ← HLL.out, ← HE2.out] at hfin
                exact ⟨k + 1, by omega, by simp, hfin, (((HB.out.trans (HK2.out.below hsz (by simp))).trans (HKJ.out.below (Nat.le_trans hsz HK2.out.size) (by simp))).setCell hbase _).setCell hbase _⟩
              case measure => simp [intOf]; omega
    · obtain rfl : k = n := by omega
      have e : l.take k = l := List.take_of_length_le (by rw [HL.out]; exact Nat.le_refl _)
      have HLO2 : Hid (L = spaceOf keep l) := Lib.hid (by rw [HLO.out, e])
      clear e
      go_wp2
      go_ret2
      exact ⟨_, rfl, by rw [← HLO2.out]; exact HKAT.out, HB.out⟩
end Go.Proofs.YtnpokcjdnlmheaaDoor
