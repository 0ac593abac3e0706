/-
  slices.DeleteFunc of counts that are 0, by its contract.
-/
import Derived.Test.YtnpokcjdnlmheaaDoorHeavyDel
import Derived.Test.YtnpokcjdnlmheaaDoorSets
namespace Go.Proofs.YtnpokcjdnlmheaaDoor
open Go.RowKit

theorem info_kept : (Tryd.prog.info? 60).map (fun i => (i.zero, i.size, i.bytes)) = some (some (.agg #[.int .i64 0, .int .i64 0]), 2, 16) := by kernel_rfl
theorem zero_kept (w : World) : (zeroValue 60).run Tryd.prog w = .ok (.agg #[.int .i64 0, .int .i64 0]) w := by
  obtain ⟨i, hi, hz⟩ := Option.map_eq_some_iff.1 info_kept
  simp only [Prod.mk.injEq] at hz
  simp [zeroValue, typeInfo, hi, hz.1]

theorem run_clear_kept (w : World) (ty : TypeId) (b o n c : Nat) (hn : 0 < n) (hc : ∀ j, j < n * 2 → (w.cell? ⟨b, o + j, none⟩).isSome = true) (hf : ∀ j, j < n * 2 → w.frozen? ⟨b, o + j, none⟩ = false) :
    (Builtin.clear_ #[54] ty #[.slice (some ⟨b, o, none⟩) n c]).run Tryd.prog w = .ok (.tuple #[]) (w.setCells b o (List.replicate (n * 2) (.int .i64 0))) := by
  have hzc : (Builtin.zeroCells (Value.agg #[.int .i64 0, .int .i64 0]).cells n).toList = List.replicate (n * 2) (.int .i64 0) := by
    apply List.ext_getElem
    · simp [Builtin.zeroCells, Value.cells]
    · intro i h1 h2
      have h8 : i % 2 < 2 := Nat.mod_lt _ (by omega)
      simp only [Builtin.zeroCells, Value.cells, Array.toList_map, Array.toList_range, List.getElem_map, List.getElem_range, List.getElem_replicate]
      show (#[Value.int .i64 0, .int .i64 0])[i % 2]! = _
      generalize i % 2 = j at h8
      match j, h8 with
      | 0, _ => rfl
      | 1, _ => rfl
  have hst := run_storeCells_cells (P := Tryd.prog) b o (List.replicate (n * 2) (.int .i64 0)) 0 w (by simpa using hc) (by simpa using hf) (by intro v hv'; rw [List.eq_of_mem_replicate hv']; rfl)
  simp only [Nat.add_zero] at hst
  obtain ⟨m, rfl⟩ : ∃ m, n = m + 1 := ⟨n - 1, by omega⟩
  simp [Builtin.clear_, run_underlying Tryd.underlying54, hzc, hst]

theorem kept_ext {cs : List Value} {M : List (Int × Int)} (hl : M.length * 2 ≤ cs.length) (h : ∀ p x, M[p]? = some x → cs[p * 2]? = some (.int .i64 x.1) ∧ cs[p * 2 + 1]? = some (.int .i64 x.2)) : cs = ints (flat M) ++ cs.drop (M.length * 2) := by
  have : cs.take (M.length * 2) = ints (flat M) := by
    apply List.ext_getElem?
    intro q
    by_cases hq : q < M.length * 2
    · rw [List.getElem?_take_of_lt hq]
      obtain ⟨p, hp⟩ : ∃ p, p = q / 2 := ⟨_, rfl⟩
      have hpm : p < M.length := by omega
      have hx := List.getElem?_eq_getElem hpm
      obtain ⟨h0, h1⟩ := h p _ hx
      obtain ⟨g0, g1⟩ := flat_get M p _ hx
      rcases (show q = p * 2 ∨ q = p * 2 + 1 by omega) with rfl | rfl
      · rw [h0, ints_get g0]
      · rw [h1, ints_get g1]
    · rw [List.getElem?_eq_none (by rw [List.length_take]; omega), List.getElem?_eq_none (by rw [ints_len, flat_len]; omega)]
  rw [← this, List.take_append_drop]

theorem set2_get {cs : List Value} {m p : Nat} {u v : Value} (hm : m * 2 + 1 < cs.length) :
    ((cs.set (m * 2) u).set (m * 2 + 1) v)[p * 2]? = (if p = m then some u else cs[p * 2]?) ∧ ((cs.set (m * 2) u).set (m * 2 + 1) v)[p * 2 + 1]? = if p = m then some v else cs[p * 2 + 1]? := by
  by_cases e : p = m
  · subst e
    rw [if_pos rfl, if_pos rfl]
    refine ⟨?_, ?_⟩
    · rw [List.getElem?_set_ne (by omega), List.getElem?_set_self (by omega)]
    · rw [List.getElem?_set_self (by simpa using hm)]
  · rw [if_neg e, if_neg e]
    refine ⟨?_, ?_⟩
    · rw [List.getElem?_set_ne (by omega), List.getElem?_set_ne (by omega)]
    · rw [List.getElem?_set_ne (by omega), List.getElem?_set_ne (by omega)]

def DelPost (w : World) (base g : Nat) (L : List (Int × Int)) (e : Ending) (w' : World) : Prop := ∃ v, e = .returned v ∧ KAt w' base v (nonz L) ∧ Keep [g] w w'

set_option maxHeartbeats 1000000 in
set_option maxRecDepth 100000 in
theorem delZero (n cap base g : Nat) (L : List (Int × Int)) (rest : List Value) (w : World) (hl : L.length = n) (hbase : base ≤ g) (hcap : n ≤ cap) (hcm : cap ≤ maxLen) (hblk : Blk w g 60 (ints (flat L) ++ rest)) (hlen : (ints (flat L) ++ rest).length = cap * 2) (hn : n ≤ 1000) :
    Calls Tryd.prog 45 #[.slice (some ⟨g, 0, none⟩) n cap, .func (.func 46) #[] #[]] w (DelPost w base g L) := by
  have HL := Lib.hid hl; have HB := Lib.hid hblk; have HLEN := Lib.hid hlen; have HCM := Lib.hid hcm; clear hl hblk hlen hcm
  have hg := HB.out.lt
  have hn2 : (n : Int) ≤ 1000 := by omega
  have hcapi : (n : Int) ≤ (cap : Int) := by omega
  go_enter Tryd.func45, Tryd.ntmps45
  go_wp2_with fail
  refine (idxZero n cap g _ L _ HL.out (fun _ => rfl) hg (blk_kin HB.out) hn).mono ?_
  rintro e w1 ⟨hb1, ⟨i0, hi0, hz, hbefore, rfl⟩ | ⟨hall, rfl⟩⟩
  · have HB1 := Lib.hid hb1
    have hsz1 := hb1.size
    have hst : DelRel w1 g cap L (.int .i64 (i0 : Int)) (.int .i64 ((i0 + 1 : Nat) : Int)) w1 := by
      have hh := nonz_head hi0 hz hbefore
      refine ⟨i0, i0 + 1, _, hi0, by omega, by rw [hh, List.length_take]; omega, rfl, rfl, HB.out.below hb1 hg, HLEN.out, ?_, ?_, Keep.refl _ _⟩
      · rw [hh]
        intro p x hx
        have hp : p < i0 := by have := (List.getElem?_eq_some_iff.1 hx).1; rw [List.length_take] at this; omega
        rw [List.getElem?_take_of_lt hp] at hx
        obtain ⟨h0, h1⟩ := flat_get L p x hx
        exact ⟨by rw [List.getElem?_append_left (by rw [ints_len, flat_len]; omega)]; exact ints_get h0, by rw [List.getElem?_append_left (by rw [ints_len, flat_len]; omega)]; exact ints_get h1⟩
      · intro p x _ hx
        have hp : p < L.length := (List.getElem?_eq_some_iff.1 hx).1
        obtain ⟨h0, h1⟩ := flat_get L p x hx
        exact ⟨by rw [List.getElem?_append_left (by rw [ints_len, flat_len]; omega)]; exact ints_get h0, by rw [List.getElem?_append_left (by rw [ints_len, flat_len]; omega)]; exact ints_get h1⟩
    have HST := Lib.hid hst
    have hi0n : (i0 : Int) < (n : Int) := by have := HL.out; omega
    have hi00 : (0 : Int) ≤ (i0 : Int) := by omega
    have hnz : nonz (L.take L.length) = nonz L := by rw [List.take_of_length_le (Nat.le_refl _)]
    have HNZ := Lib.hid hnz
    have hi0z : (L[i0].2 == 0) = true := hz
    have HLT : Hid ((nonz L).length < L.length) := Lib.hid (by
      unfold nonz
      rw [List.length_filter_lt_length_iff_exists]
      exact ⟨L[i0], List.getElem_mem hi0, by rw [hi0z]; simp⟩)
    clear hst hz hbefore hb1 hnz hi0z
    have hinc : IntKind.i64.wrap ((i0 : Int) + 1) = ((i0 + 1 : Nat) : Int) := by rw [show (i0 : Int) + 1 = ((i0 + 1 : Nat) : Int) by omega]; exact IntWalk.i64_in _ (by omega)
    have HINC : Hid ((i0 : Int) + 1 = ((i0 + 1 : Nat) : Int)) := Lib.hid (by omega)
    clear hinc
    have hneg : ((i0 : Int) == -1) = false := by rw [beq_eq_false_iff_ne]; omega
    go_wp2
    go_loopw [5, 6, 7] (fun i j _ wr => DelRel w1 g cap L i j wr) (fun _ j _ _ => n - (intOf j).toNat)
    case atStart => first | exact HST.out | (rw [HINC.out]; exact HST.out)
    case round =>
      obtain ⟨m, k, cs, hk, hmk, hm, rfl, rfl, hb, hcl, hpre, hpost, hkeep⟩ := hrel
      have HM := Lib.hid hm; have HBB := Lib.hid hb; have HCL := Lib.hid hcl; have HPRE := Lib.hid hpre; have HPOST := Lib.hid hpost; have HK := Lib.hid hkeep
      clear hm hb hcl hpre hpost hkeep
      have hkn : k ≤ n := by have := HL.out; omega
      have hgr := HBB.out.lt
      by_cases hlt : k < n
      · have hkl : k < L.length := by rw [HL.out]; exact hlt
        have hxx := List.getElem?_eq_getElem hkl
        have HNS := Lib.hid (nonz_succ hkl)
        obtain ⟨x, hx⟩ : ∃ x, x = L[k] := ⟨_, rfl⟩
        rw [← hx] at hxx HNS
        obtain ⟨hp0, hp1⟩ := HPOST.out k x (Nat.le_refl _) hxx
        have hd0 := HBB.out.cell_ hp0
        have hd1 := HBB.out.cell_ hp1
        clear hxx hx hp0 hp1
        have hki : (k : Int) < (n : Int) := by omega
        have hk0 : (0 : Int) ≤ (k : Int) := by omega
        have hm0 : (0 : Int) ≤ (m : Int) := by omega
        have hmn : (m : Int) < (n : Int) := by omega
        have hne : g ≠ wr.heap.size := by omega
        go_wp2_with fail
        refine (keep2_any x _).mono ?_
        rintro e w2 ⟨rfl, hb2⟩
        have hk2 : Keep [] wr w2 := ((Keep.refl [] wr).alloc _).trans (Keep.of_below hb2 (Nat.le_refl _))
        have hv : Blk w2 wr.heap.size 60 [.int .i64 x.1, .int .i64 x.2] := (Blk.new wr 60 [.int .i64 x.1, .int .i64 x.2]).below hb2 (by simp)
        have hv0 := hv.cell_ (i := 0) rfl
        have hv1 := hv.cell_ (i := 1) rfl
        have hbb2 := HBB.out.keep hk2 (by simp)
        have HB2 := Lib.hid hbb2; have HK2 := Lib.hid hk2
        have hml : m * 2 + 1 < cs.length := by rw [HCL.out]; omega
        have hfr := HB2.out.free
        have f0 := hfr (m * 2)
        have f1 := hfr (m * 2 + 1)
        have c0 : ∃ u, w2.cell? ⟨g, m * 2, none⟩ = some u := ⟨_, HB2.out.cell_ (List.getElem?_eq_getElem (by omega))⟩
        have c1 : ∃ u, w2.cell? ⟨g, m * 2 + 1, none⟩ = some u := ⟨_, HB2.out.cell_ (List.getElem?_eq_getElem hml)⟩
        obtain ⟨u0, c0⟩ := c0
        obtain ⟨u1, c1⟩ := c1
        clear hb2 hv hbb2 hk2 hfr
        by_cases hz : x.2 = 0
        · have hzb : (x.2 == 0) = true := by simpa using hz
          rw [hzb]
          go_wp2
          go_roundw
          case rel =>
            have e1 := HNS.out
            rw [if_pos hzb] at e1
            exact ⟨m, k + 1, cs, hkl, by omega, by rw [e1]; exact HM.out, rfl, by simp, HB2.out, HCL.out, by rw [e1]; exact HPRE.out, fun p y hp hy => HPOST.out p y (by omega) hy, HK.out.trans (HK2.out.mono (by simp))⟩
          case measure => simp [intOf]; omega
        · have hzb : (x.2 == 0) = false := by simpa using hz
          rw [hzb]
          go_wp2
          go_roundw
          case rel =>
            have e1 := HNS.out
            rw [if_neg (by rw [hzb]; decide)] at e1
            refine ⟨m + 1, k + 1, _, hkl, by omega, by rw [e1, List.length_append, ← HM.out]; rfl, by simp, by simp, (HB2.out.set (m * 2) _).set (m * 2 + 1) _, by simpa using HCL.out, ?_, ?_, (HK.out.trans (HK2.out.mono (by simp))).set (fun _ => by simp) _ |>.set (fun _ => by simp) _⟩
            · rw [e1]
              intro p y hy
              obtain ⟨s0, s1⟩ := set2_get (p := p) (u := .int .i64 x.1) (v := .int .i64 x.2) hml
              rw [s0, s1]
              by_cases ep : p = m
              · rw [if_pos ep, if_pos ep]
                rw [ep, HM.out, List.getElem?_append_right (Nat.le_refl _)] at hy
                simp at hy
                subst hy; exact ⟨rfl, rfl⟩
              · rw [if_neg ep, if_neg ep]
                have hlt3 : p < (nonz (L.take k)).length := by
                  have h5 := (List.getElem?_eq_some_iff.1 hy).1
                  rw [List.length_append] at h5
                  have h6 := HM.out
                  simp only [List.length_cons, List.length_nil] at h5
                  omega
                rw [List.getElem?_append_left hlt3] at hy
                exact HPRE.out p y hy
            · intro p y hp hy
              obtain ⟨s0, s1⟩ := set2_get (p := p) (u := .int .i64 x.1) (v := .int .i64 x.2) hml
              rw [s0, s1, if_neg (by omega), if_neg (by omega)]
              exact HPOST.out p y (by omega) hy
          case measure => simp [intOf]; omega
      · have ekn : k = L.length := by have := HL.out; omega
        have hkn2 : k = n := by omega
        have hlt' : ¬ (k : Int) < (n : Int) := by omega
        have hm2 := HM.out
        rw [ekn, HNZ.out] at hm2
        have hlt2 := HLT.out
        have hln := HL.out
        have hmn : m < n := by omega
        have hmc : (m : Int) ≤ (cap : Int) := by omega
        have hmn' : (m : Int) ≤ (n : Int) := by omega
        have hm0 : (0 : Int) ≤ (m : Int) := by omega
        have HM2 := Lib.hid hm2
        have HPRE2 : Hid (∀ p x, (nonz L)[p]? = some x → cs[p * 2]? = some (.int .i64 x.1) ∧ cs[p * 2 + 1]? = some (.int .i64 x.2)) := Lib.hid (by
          have := HPRE.out
          rwa [ekn, HNZ.out] at this)
        clear ekn hkn2 hlt hm2 hlt2 hln
        have hcl := run_clear_kept wr
        have hclr : ∀ ty, (Builtin.clear_ #[54] ty #[.slice (some ⟨g, m * 2, none⟩) (n - m) (cap - m)]).run Tryd.prog wr = .ok (.tuple #[]) (wr.setCells g (m * 2) (List.replicate ((n - m) * 2) (.int .i64 0))) := fun ty =>
          hcl ty g (m * 2) (n - m) (cap - m) (by omega) (fun j hj => by rw [HBB.out.cell_ (List.getElem?_eq_getElem (show m * 2 + j < cs.length by rw [HCL.out]; omega))]; rfl) (fun j _ => HBB.out.free _)
        clear hcl
        go_wp2
        go_ret
        have hbl := HBB.out.setCells (List.replicate ((n - m) * 2) (.int .i64 0)) (m * 2)
        have hrl : m * 2 + (List.replicate ((n - m) * 2) (Value.int .i64 0)).length ≤ cs.length := by rw [HCL.out, List.length_replicate]; omega
        have hsl := sets_len (List.replicate ((n - m) * 2) (Value.int .i64 0)) cs (m * 2)
        have hml2 : (nonz L).length * 2 ≤ (sets cs (m * 2) (List.replicate ((n - m) * 2) (.int .i64 0))).length := by rw [hsl, HCL.out, ← HM2.out]; omega
        have hext := kept_ext hml2 (fun p x hx => by
          have hp : p < m := by have := (List.getElem?_eq_some_iff.1 hx).1; have := HM2.out; omega
          obtain ⟨g0, g1⟩ := HPRE2.out p x hx
          rw [sets_get _ _ _ _ hrl, sets_get _ _ _ _ hrl, if_neg (by omega), if_neg (by omega)]
          exact ⟨g0, g1⟩)
        rw [hext] at hbl
        have hfin := KAt.mk_ (cap := cap) hbase (by rw [← HM2.out]; omega) HCM.out hbl (by rw [← hext, hsl, HCL.out])
        rw [← HM2.out] at hfin
        exact ⟨_, rfl, hfin, (Keep.of_below HB1.out (Nat.le_refl _)).trans (Keep.setCells (fun _ => by simp) _ _ _ HK.out)⟩
  · have hneg : (((-1 : Int)) == -1) = true := by decide
    have HALL := Lib.hid hall; have HB1 := Lib.hid hb1; clear hall hb1
    go_wp2
    go_ret
    refine ⟨_, rfl, ?_, Keep.of_below HB1.out (Nat.le_refl _)⟩
    rw [nonz_same HALL.out, ← HL.out]
    exact KAt.mk_ hbase (by rw [HL.out]; exact hcap) HCM.out (HB.out.below HB1.out hg) HLEN.out
end Go.Proofs.YtnpokcjdnlmheaaDoor
