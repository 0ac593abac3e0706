/-
  A line of a session: the desk's line, by its contract.
-/
import Derived.Test.YticckfioggeaeaaGreatDoorDeskMap
import Derived.Test.YticckfioggeaeaaGreatDoorGI
import Derived.Test.YticckfioggeaeaaGreatDoorBookSplit
import Derived.Laws.EntriesVeiled
set_option linter.unusedVariables false
set_option linter.unusedSimpArgs false
set_option linter.unnecessarySimpa false
set_option linter.unusedVariables false
namespace Go.Proofs.YticckfioggeaeaaGreatDoor
open Go.RowKit

theorem DkS.shrink {w0 w w' : World} {O : Nat → Prop} {d : Nat} {s : Bk} (h : DkS w0 w O d s) (hb : Below w.heap.size w w') : DkS w0 w' (fun x => O x ∧ (x < w.heap.size ∨ w'.heap.size ≤ x)) d s := by
  obtain ⟨b, hd, hk⟩ := h.at_
  have hf : KeepP (fun _ => False) w w' := KeepP.of_below hb (Nat.le_refl _)
  exact { h with at_ := ⟨b, hd.below hb hd.lt, hk.away hf (fun _ _ _ hf => hf)⟩, nd := fun ho => h.nd ho.1, lo := fun x hx ho => h.lo x hx ho.1, bel := h.bel.trans (hb.mono h.bel.size) }
theorem AnsPost.grow {w0 w w1 w' : World} {O : Nat → Prop} {d : Nat} {s s' : Bk} {ans : List UInt8} {e : Ending} (h : DkS w0 w O d s) (hb : Below w.heap.size w w1) (hp : AnsPost w0 w1 (fun x => O x ∧ (x < w.heap.size ∨ w1.heap.size ≤ x)) d s' ans e w') : AnsPost w0 w O d s' ans e w' := by
  obtain ⟨rfl, hs, hk⟩ := hp
  obtain ⟨b, hd, hbk⟩ := hs.at_
  refine ⟨rfl, { hs with at_ := ⟨b, hd, hbk.mono fun x hx => hx.1⟩, nd := h.nd, lo := h.lo }, ?_⟩
  exact (KeepP.of_below hb (Nat.le_refl _)).trans (hk.mono fun x hx => by
    rcases hx with hx | hx
    · exact .inl hx.1
    · exact .inr hx)
theorem verbs_is {hd : List UInt8} {m : Int} {f : FuncId} (h : (hd, m, f) ∈ verbs) : (hd = sPut ∧ m = 2 ∧ f = 68) ∨ (hd = sGet ∧ m = 1 ∧ f = 69) ∨ (hd = sKeys ∧ m = 0 ∧ f = 70) ∨ (hd = sCrash ∧ m = 1 ∧ f = 71) := by
  unfold verbs at h
  simp only [List.mem_cons, List.not_mem_nil, or_false, Prod.mk.injEq] at h
  exact h
theorem not_verb {s : Bk} {hd : List UInt8} {ns : List Int} (h : ∀ p ∈ verbs, p.1 ≠ hd) : doM s hd ns = (s, sBad) := by
  have h1 : hd ≠ sPut := fun e => h _ (by simp [verbs] : (sPut, (2 : Int), 68) ∈ verbs) e.symm
  have h2 : hd ≠ sGet := fun e => h _ (by simp [verbs] : (sGet, (1 : Int), 69) ∈ verbs) e.symm
  have h3 : hd ≠ sKeys := fun e => h _ (by simp [verbs] : (sKeys, (0 : Int), 70) ∈ verbs) e.symm
  have h4 : hd ≠ sCrash := fun e => h _ (by simp [verbs] : (sCrash, (1 : Int), 71) ∈ verbs) e.symm
  simp [doM, h1, h2, h3, h4]
theorem wrong_many {s : Bk} {hd : List UInt8} {m : Int} {f : FuncId} {ns : List Int} (h : (hd, m, f) ∈ verbs) (hn : (ns.length : Int) ≠ m) : doM s hd ns = (s, sBad) := by
  rcases verbs_is h with ⟨rfl, rfl, _⟩ | ⟨rfl, rfl, _⟩ | ⟨rfl, rfl, _⟩ | ⟨rfl, rfl, _⟩
  · have : ns.length ≠ 2 := by omega
    simp [doM, this, sPut, sGet, sKeys, sCrash]
  · have : ns.length ≠ 1 := by omega
    simp [doM, this, sPut, sGet, sKeys, sCrash]
  · have : ns.length ≠ 0 := by omega
    have h0 : ns ≠ [] := fun e => this (by rw [e]; rfl)
    simp [doM, h0, sPut, sGet, sKeys, sCrash]
  · have : ns.length ≠ 1 := by omega
    simp [doM, this, sPut, sGet, sKeys, sCrash]
theorem wordsM_rng : ∀ (l : List (List UInt8)) (ns : List Int), wordsM l = some ns → ∀ n ∈ ns, 0 ≤ n ∧ n ≤ 9999999
  | [], ns, h, n, hn => by simp [wordsM] at h; subst h; simp at hn
  | w :: r, ns, h, n, hn => by
    rw [wordsM] at h
    cases hw : numberM w with
    | none => rw [hw] at h; cases h
    | some m =>
      rw [hw] at h
      simp only at h
      split at h
      · cases h
      rename_i h7
      cases hr : wordsM r with
      | none => rw [hr] at h; cases h
      | some ms =>
        rw [hr] at h
        simp only [Option.some.injEq] at h
        subst h
        rcases List.mem_cons.1 hn with rfl | hn
        · obtain ⟨hd, e⟩ := numberM_digs hw
          have h8 := valD_lt w 0 hd
          have h9 : (10 : Nat) ^ w.length ≤ 10 ^ 7 := Nat.pow_le_pow_right (by decide) (by omega)
          omega
        · exact wordsM_rng r ms hr n hn
set_option maxHeartbeats 8000000 in
set_option maxRecDepth 100000 in
theorem dk_line (w0 w : World) (O : Nat → Prop) (d : Nat) (s : Bk) (l : List UInt8) (hl : l.length ≤ 3000) (h : DkS w0 w O d s) (hc : Come s) :
    Calls Tryz.prog 40 #[.pointer (some ⟨d, 0, none⟩), .string ⟨l.toArray⟩] w (AnsPost w0 w O d (answerM s l).1 (answerM s l).2) := by
  have H := Lib.hid h; have HC := Lib.hid hc
  obtain ⟨hd, T, hP⟩ := List.exists_cons_of_ne_nil (cutAt_ne 32 l)
  have HA : Hid (answerM s l = match wordsM T with | none => (s, sBad) | some ns => doM s hd ns) := Lib.hid (by unfold answerM; rw [hP]; rfl)
  obtain ⟨m, hm⟩ : ∃ m, m = T.length := ⟨_, rfl⟩
  have HM := Lib.hid hm
  have hlen : (cutAt 32 l).length = m + 1 := by rw [hP, List.length_cons, hm]
  have hml : m ≤ 3000 := by have h1 := cutAt_len 32 l; have h2 := List.count_le_length (a := (32 : UInt8)) (l := l); omega
  have HTL : Hid (∀ x ∈ T, x.length ≤ 100000) := Lib.hid fun x hx => by have := cutAt_small 32 l x (by rw [hP]; simp [hx]); omega
  have HV0 : Hid (VMap (w.alloc (.map #[] 0)) w.heap.size []) := Lib.hid (vmap_new w)
  have HK0 : Hid (Keep [] w (w.alloc (.map #[] 0))) := Lib.hid ((Keep.refl [] w).alloc _)
  have n1 : ∀ p ∈ ([] : List (List UInt8 × Int × FuncId)), p.1 ≠ sPut := by simp
  have n2 : ∀ p ∈ [(sPut, (2 : Int), 68)], p.1 ≠ sGet := by decide
  have n3 : ∀ p ∈ [(sPut, (2 : Int), 68), (sGet, (1 : Int), 69)], p.1 ≠ sKeys := by decide
  have n4 : ∀ p ∈ [(sPut, (2 : Int), 68), (sGet, (1 : Int), 69), (sKeys, (0 : Int), 70)], p.1 ≠ sCrash := by decide
  have hmk : (Instr.makeMap 111 none).run Tryz.prog w = .ok (.map (some w.heap.size)) (w.alloc (.map #[] 0)) := by simp [Instr.makeMap]
  clear h hc hm
  go_enter Tryz.func40, Tryz.ntmps40
  go_wp2_with (first
    | (refine wpList_put_verb rfl _ _ _ rfl w.heap.size [] rfl HV0.out sPut 2 68 rfl rfl n1 ?_; intro w1 hv1 hg1 hs1; have HV1 := Lib.hid hv1; have HG1 : Hid (Keep [] w w1) := Lib.hid (HK0.out.grown hg1 (fun k hk hlt => by injection hk with hk; omega)); clear hv1 hg1 hs1 HV0 HK0)
    | (refine wpList_put_verb rfl _ _ _ rfl w.heap.size _ rfl HV1.out sGet 1 69 rfl rfl n2 ?_; intro w2 hv2 hg2 hs2; have HV2 := Lib.hid hv2; have HG2 : Hid (Keep [] w w2) := Lib.hid (HG1.out.grown hg2 (fun k hk hlt => by injection hk with hk; omega)); clear hv2 hg2 hs2 HV1 HG1)
    | (refine wpList_put_verb rfl _ _ _ rfl w.heap.size _ rfl HV2.out sKeys 0 70 rfl rfl n3 ?_; intro w3 hv3 hg3 hs3; have HV3 := Lib.hid hv3; have HG3 : Hid (Keep [] w w3) := Lib.hid (HG2.out.grown hg3 (fun k hk hlt => by injection hk with hk; omega)); clear hv3 hg3 hs3 HV2 HG2)
    | (refine wpList_put_verb rfl _ _ _ rfl w.heap.size _ rfl HV3.out sCrash 1 71 rfl rfl n4 ?_; intro w4 hv4 hg4 hs4; have HV4 : Hid (VMap w4 w.heap.size verbs) := Lib.hid hv4; have HG4 : Hid (Keep [] w w4) := Lib.hid (HG3.out.grown hg4 (fun k hk hlt => by injection hk with hk; omega)); clear hv4 hg4 hs4 HV3 HG3))
  refine (split_any l (by omega) _).mono ?_
  rintro e w5 ⟨rfl, hw5⟩
  have hb5 : Below w.heap.size w w5 := by rw [hw5]; exact (HG4.out.below (Nat.le_refl _) (by simp)).alloc HG4.out.size _
  have hblk : Blk w5 w4.heap.size 9 (strV hd :: T.map strV) := by rw [hw5, hP]; exact Blk.new w4 _ _
  have hv5 : VMap w5 w.heap.size verbs := HV4.out.keep (by rw [hw5]; exact Below.heap_alloc _ _ _ HV4.out.lt)
  have hs4 : w.heap.size ≤ w4.heap.size := HG4.out.size
  obtain ⟨p0, hp0⟩ : ∃ p0, p0 = w4.heap.size := ⟨_, rfl⟩
  rw [hlen, ← hp0]
  rw [← hp0] at hblk
  have HB5 := Lib.hid hb5
  have HSI : Hid (∀ W, Keep [] w5 W → StrsIn W (some ⟨p0, 1, none⟩) T) := Lib.hid fun W hk hn => ⟨p0, 1, rfl, Nat.lt_of_lt_of_le hblk.lt hk.size, fun q x hx => (hk.cell (p := ⟨p0, 1 + q, none⟩) hblk.lt (by simp)).trans (hblk.cell_ (by rw [Nat.add_comm, List.getElem?_cons_succ, List.getElem?_map, hx]; rfl))⟩
  have HSN : Hid (m = 0 → ∀ W a, StrsIn W a T) := Lib.hid fun h0 W a hn => by have := HM.out; omega
  have hd0 := hblk.cell_ (i := 0) (v := strV hd) rfl
  have hlk := look_verb (P := Tryz.prog) Tryz.underlying111 Tryz.underlying9 (zero_verb w5) hv5 hd
  clear hb5 hblk hv5 hs4 hw5 hp0 hlen hmk n1 n2 n3 n4 HG4 HV4 hP
  have hmp : m = 0 ∨ (0 < m ∧ ¬ m = 0) := by omega
  rcases hlk with ⟨mv, f, hmem, hlk⟩ | ⟨hno, hlk⟩
  · have hlk' : (Instr.lookup 111 (.map (some w.heap.size)) (.string ⟨hd.toArray⟩) true).run Tryz.prog w5 = .ok (.tuple #[.agg #[.int .i64 mv, .func (.func f) #[] #[]], .bool true]) w5 := hlk
    have HME := Lib.hid hmem
    clear hlk hmem
-- PRINTED
-- PRINTED
-- PRINTED
    rcases hmp with h0 | ⟨hm0, hm1⟩
    · go_wp2_with fail
      refine (words_any _ 0 _ T _ (by rw [← HM.out]; exact h0) (by omega) (HSN.out h0 _ _) HTL.out (H.out.below (HB5.out.alloc HB5.out.size _)).err (H.out.below (HB5.out.alloc HB5.out.size _)).tab).mono ?_
      rintro e w7 ⟨hb7, hc7⟩
      have HB7 : Hid (Below w.heap.size w w7) := Lib.hid ((HB5.out.alloc HB5.out.size _).trans (hb7.mono (by simp; have := HB5.out.size; omega)))
      have hvb := (Blk.new w5 110 [.int .i64 mv, .func (.func f) #[] #[]]).below hb7 (by simp)
      have v0 := hvb.cell_ (i := 0) rfl
      have v1 := hvb.cell_ (i := 1) rfl
      clear hvb
      rcases hc7 with ⟨hw, rfl⟩ | ⟨ns, v9, hw, rfl, ho9⟩
      · have HR : Hid (answerM s l = (s, sBad)) := Lib.hid (by rw [HA.out, hw])
        clear hw
        go_wp2
        go_ret
        exact ⟨ret_eq (by rw [HR.out]; rfl), by rw [HR.out]; exact H.out.below HB7.out, KeepP.of_below HB7.out (Nat.le_refl _)⟩
      · have HRD : Hid (answerM s l = doM s hd ns) := Lib.hid (by rw [HA.out, hw])
        have HRN := Lib.hid (wordsM_rng T ns hw)
        have HOB : Hid (∀ g, v9.ownBlock = some g → w5.heap.size ≤ g ∧ g < w7.heap.size) := Lib.hid fun g hg => by
          have := World.ownsRow.lt ho9 g hg
          simp at this
          omega
        obtain ⟨a9, c9, rfl, hi9⟩ := ho9.shape
        obtain ⟨k, hk⟩ : ∃ k, k = ns.length := ⟨_, rfl⟩
        rw [← hk] at HOB
        rw [← hk]
        have HK := Lib.hid hk; have HI := Lib.hid hi9
        clear hw ho9 hi9 hk
        by_cases hkm : (k : Int) = mv
        · have HS7 := Lib.hid (H.out.shrink HB7.out)
          have hgO : ∀ g o, a9 = some ⟨g, o, none⟩ → ¬ (fun x => O x ∧ (x < w.heap.size ∨ w7.heap.size ≤ x)) g := fun g o e ho => by
            have := HOB.out g (by rw [e]; rfl)
            have h5 := HB5.out.size
            rcases ho.2 with h | h <;> omega
          have HGO := Lib.hid hgO
          clear hgO
          rcases verbs_is HME.out with ⟨rfl, rfl, rfl⟩ | ⟨rfl, rfl, rfl⟩ | ⟨rfl, rfl, rfl⟩ | ⟨rfl, rfl, rfl⟩
          · obtain rfl : k = 2 := by omega
            obtain ⟨x, y, rfl⟩ : ∃ x y, ns = [x, y] := by
              match ns, HK.out with
              | [x, y], _ => exact ⟨x, y, rfl⟩
            have HR : Hid (answerM s l = (putS 3 s x y, putA s x y)) := Lib.hid (by rw [HRD.out]; simp [doM])
            go_wp2_with fail
            refine (dk_put w0 w7 _ d s a9 c9 x y HS7.out HI.out HGO.out).mono ?_
            intro e w8 hp8
            have hp9 := AnsPost.grow H.out HB7.out hp8
            obtain ⟨rfl, hp10⟩ := hp9
            have HP := Lib.hid hp10
            clear hp8 hp10
            go_wp2
            go_ret
            exact ⟨ret_eq (by rw [HR.out]; rfl), by rw [HR.out]; exact HP.out.1, HP.out.2⟩
          · obtain rfl : k = 1 := by omega
            obtain ⟨x, rfl⟩ : ∃ x, ns = [x] := by
              match ns, HK.out with
              | [x], _ => exact ⟨x, rfl⟩
            have HR : Hid (answerM s l = (getS s x, getA s x)) := Lib.hid (by rw [HRD.out]; simp [doM, sGet, sPut])
            go_wp2_with fail
            refine (dk_get w0 w7 _ d s a9 c9 x HS7.out HI.out HGO.out).mono ?_
            intro e w8 hp8
            have hp9 := AnsPost.grow H.out HB7.out hp8
            obtain ⟨rfl, hp10⟩ := hp9
            have HP := Lib.hid hp10
            clear hp8 hp10
            go_wp2
            go_ret
            exact ⟨ret_eq (by rw [HR.out]; rfl), by rw [HR.out]; exact HP.out.1, HP.out.2⟩
          · obtain rfl : k = 0 := by omega
            obtain rfl : ns = [] := by
              match ns, HK.out with
              | [], _ => rfl
            have HR : Hid (answerM s l = (s, sKeys ++ keysA s.keys)) := Lib.hid (by rw [HRD.out]; simp [doM, sKeys, sGet, sPut])
            go_wp2_with fail
            refine (dk_keys w0 w7 _ d s _ HS7.out).mono ?_
            intro e w8 hp8
            have hp9 := AnsPost.grow H.out HB7.out hp8
            obtain ⟨rfl, hp10⟩ := hp9
            have HP := Lib.hid hp10
            clear hp8 hp10
            go_wp2
            go_ret
            exact ⟨ret_eq (by rw [HR.out]; rfl), by rw [HR.out]; exact HP.out.1, HP.out.2⟩
          · obtain rfl : k = 1 := by omega
            obtain ⟨x, rfl⟩ : ∃ x, ns = [x] := by
              match ns, HK.out with
              | [x], _ => exact ⟨x, rfl⟩
            have HR : Hid (answerM s l = crashM s x) := Lib.hid (by rw [HRD.out]; simp [doM, sCrash, sKeys, sGet, sPut])
            obtain ⟨hx0, hx1⟩ := HRN.out x (by simp)
            go_wp2_with fail
            refine (dk_crash w0 w7 _ d s a9 c9 x HS7.out HC.out hx0 hx1 HI.out HGO.out).mono ?_
            intro e w8 hp8
            have hp9 := AnsPost.grow H.out HB7.out hp8
            obtain ⟨rfl, hp10⟩ := hp9
            have HP := Lib.hid hp10
            clear hp8 hp10
            go_wp2
            go_ret
            exact ⟨ret_eq (by rw [HR.out]; rfl), by rw [HR.out]; exact HP.out.1, HP.out.2⟩
        · have HR : Hid (answerM s l = (s, sBad)) := Lib.hid (by rw [HRD.out]; exact wrong_many HME.out (by rw [← HK.out]; exact hkm))
          have hkm' : ((k : Int) != mv) = true := by simpa using hkm
          go_wp2
          go_ret
          exact ⟨ret_eq (by rw [HR.out]; rfl), by rw [HR.out]; exact H.out.below HB7.out, KeepP.of_below HB7.out (Nat.le_refl _)⟩
    · go_wp2_with fail
      refine (words_any _ m _ T _ HM.out.symm (by omega) (HSI.out _ ((Keep.refl [] w5).alloc _)) HTL.out (H.out.below (HB5.out.alloc HB5.out.size _)).err (H.out.below (HB5.out.alloc HB5.out.size _)).tab).mono ?_
      rintro e w7 ⟨hb7, hc7⟩
      have HB7 : Hid (Below w.heap.size w w7) := Lib.hid ((HB5.out.alloc HB5.out.size _).trans (hb7.mono (by simp; have := HB5.out.size; omega)))
      have hvb := (Blk.new w5 110 [.int .i64 mv, .func (.func f) #[] #[]]).below hb7 (by simp)
      have v0 := hvb.cell_ (i := 0) rfl
      have v1 := hvb.cell_ (i := 1) rfl
      clear hvb
      rcases hc7 with ⟨hw, rfl⟩ | ⟨ns, v9, hw, rfl, ho9⟩
      · have HR : Hid (answerM s l = (s, sBad)) := Lib.hid (by rw [HA.out, hw])
        clear hw
        go_wp2
        go_ret
        exact ⟨ret_eq (by rw [HR.out]; rfl), by rw [HR.out]; exact H.out.below HB7.out, KeepP.of_below HB7.out (Nat.le_refl _)⟩
      · have HRD : Hid (answerM s l = doM s hd ns) := Lib.hid (by rw [HA.out, hw])
        have HRN := Lib.hid (wordsM_rng T ns hw)
        have HOB : Hid (∀ g, v9.ownBlock = some g → w5.heap.size ≤ g ∧ g < w7.heap.size) := Lib.hid fun g hg => by
          have := World.ownsRow.lt ho9 g hg
          simp at this
          omega
        obtain ⟨a9, c9, rfl, hi9⟩ := ho9.shape
        obtain ⟨k, hk⟩ : ∃ k, k = ns.length := ⟨_, rfl⟩
        rw [← hk] at HOB
        rw [← hk]
        have HK := Lib.hid hk; have HI := Lib.hid hi9
        clear hw ho9 hi9 hk
        by_cases hkm : (k : Int) = mv
        · have HS7 := Lib.hid (H.out.shrink HB7.out)
          have hgO : ∀ g o, a9 = some ⟨g, o, none⟩ → ¬ (fun x => O x ∧ (x < w.heap.size ∨ w7.heap.size ≤ x)) g := fun g o e ho => by
            have := HOB.out g (by rw [e]; rfl)
            have h5 := HB5.out.size
            rcases ho.2 with h | h <;> omega
          have HGO := Lib.hid hgO
          clear hgO
          rcases verbs_is HME.out with ⟨rfl, rfl, rfl⟩ | ⟨rfl, rfl, rfl⟩ | ⟨rfl, rfl, rfl⟩ | ⟨rfl, rfl, rfl⟩
          · obtain rfl : k = 2 := by omega
            obtain ⟨x, y, rfl⟩ : ∃ x y, ns = [x, y] := by
              match ns, HK.out with
              | [x, y], _ => exact ⟨x, y, rfl⟩
            have HR : Hid (answerM s l = (putS 3 s x y, putA s x y)) := Lib.hid (by rw [HRD.out]; simp [doM])
            go_wp2_with fail
            refine (dk_put w0 w7 _ d s a9 c9 x y HS7.out HI.out HGO.out).mono ?_
            intro e w8 hp8
            have hp9 := AnsPost.grow H.out HB7.out hp8
            obtain ⟨rfl, hp10⟩ := hp9
            have HP := Lib.hid hp10
            clear hp8 hp10
            go_wp2
            go_ret
            exact ⟨ret_eq (by rw [HR.out]; rfl), by rw [HR.out]; exact HP.out.1, HP.out.2⟩
          · obtain rfl : k = 1 := by omega
            obtain ⟨x, rfl⟩ : ∃ x, ns = [x] := by
              match ns, HK.out with
              | [x], _ => exact ⟨x, rfl⟩
            have HR : Hid (answerM s l = (getS s x, getA s x)) := Lib.hid (by rw [HRD.out]; simp [doM, sGet, sPut])
            go_wp2_with fail
            refine (dk_get w0 w7 _ d s a9 c9 x HS7.out HI.out HGO.out).mono ?_
            intro e w8 hp8
            have hp9 := AnsPost.grow H.out HB7.out hp8
            obtain ⟨rfl, hp10⟩ := hp9
            have HP := Lib.hid hp10
            clear hp8 hp10
            go_wp2
            go_ret
            exact ⟨ret_eq (by rw [HR.out]; rfl), by rw [HR.out]; exact HP.out.1, HP.out.2⟩
          · obtain rfl : k = 0 := by omega
            obtain rfl : ns = [] := by
              match ns, HK.out with
              | [], _ => rfl
            have HR : Hid (answerM s l = (s, sKeys ++ keysA s.keys)) := Lib.hid (by rw [HRD.out]; simp [doM, sKeys, sGet, sPut])
            go_wp2_with fail
            refine (dk_keys w0 w7 _ d s _ HS7.out).mono ?_
            intro e w8 hp8
            have hp9 := AnsPost.grow H.out HB7.out hp8
            obtain ⟨rfl, hp10⟩ := hp9
            have HP := Lib.hid hp10
            clear hp8 hp10
            go_wp2
            go_ret
            exact ⟨ret_eq (by rw [HR.out]; rfl), by rw [HR.out]; exact HP.out.1, HP.out.2⟩
          · obtain rfl : k = 1 := by omega
            obtain ⟨x, rfl⟩ : ∃ x, ns = [x] := by
              match ns, HK.out with
              | [x], _ => exact ⟨x, rfl⟩
            have HR : Hid (answerM s l = crashM s x) := Lib.hid (by rw [HRD.out]; simp [doM, sCrash, sKeys, sGet, sPut])
            obtain ⟨hx0, hx1⟩ := HRN.out x (by simp)
            go_wp2_with fail
            refine (dk_crash w0 w7 _ d s a9 c9 x HS7.out HC.out hx0 hx1 HI.out HGO.out).mono ?_
            intro e w8 hp8
            have hp9 := AnsPost.grow H.out HB7.out hp8
            obtain ⟨rfl, hp10⟩ := hp9
            have HP := Lib.hid hp10
            clear hp8 hp10
            go_wp2
            go_ret
            exact ⟨ret_eq (by rw [HR.out]; rfl), by rw [HR.out]; exact HP.out.1, HP.out.2⟩
        · have HR : Hid (answerM s l = (s, sBad)) := Lib.hid (by rw [HRD.out]; exact wrong_many HME.out (by rw [← HK.out]; exact hkm))
          have hkm' : ((k : Int) != mv) = true := by simpa using hkm
          go_wp2
          go_ret
          exact ⟨ret_eq (by rw [HR.out]; rfl), by rw [HR.out]; exact H.out.below HB7.out, KeepP.of_below HB7.out (Nat.le_refl _)⟩
  · have hlk' : (Instr.lookup 111 (.map (some w.heap.size)) (.string ⟨hd.toArray⟩) true).run Tryz.prog w5 = .ok (.tuple #[.agg #[.int .i64 0, .nilFunc], .bool false]) w5 := hlk
    clear hlk
    rcases hmp with h0 | ⟨hm0, hm1⟩
    · go_wp2_with fail
      refine (words_any _ 0 _ T _ (by rw [← HM.out]; exact h0) (by omega) (HSN.out h0 _ _) HTL.out (H.out.below (HB5.out.alloc HB5.out.size _)).err (H.out.below (HB5.out.alloc HB5.out.size _)).tab).mono ?_
      rintro e w7 ⟨hb7, hc7⟩
      have HB7 : Hid (Below w.heap.size w w7) := Lib.hid ((HB5.out.alloc HB5.out.size _).trans (hb7.mono (by simp; have := HB5.out.size; omega)))
      have hvb := (Blk.new w5 110 [.int .i64 0, .nilFunc]).below hb7 (by simp)
      have v0 := hvb.cell_ (i := 0) rfl
      have v1 := hvb.cell_ (i := 1) rfl
      clear hvb
      have HR : Hid (answerM s l = (s, sBad)) := Lib.hid (by
        rw [HA.out]
        cases wordsM T with
        | none => rfl
        | some ns => exact not_verb hno)
      rcases hc7 with ⟨hw, rfl⟩ | ⟨ns, v9, hw, rfl, ho9⟩
      · go_wp2
        go_ret
        exact ⟨ret_eq (by rw [HR.out]; rfl), by rw [HR.out]; exact H.out.below HB7.out, KeepP.of_below HB7.out (Nat.le_refl _)⟩
      · go_wp2
        go_ret
        exact ⟨ret_eq (by rw [HR.out]; rfl), by rw [HR.out]; exact H.out.below HB7.out, KeepP.of_below HB7.out (Nat.le_refl _)⟩
    · go_wp2_with fail
      refine (words_any _ m _ T _ HM.out.symm (by omega) (HSI.out _ ((Keep.refl [] w5).alloc _)) HTL.out (H.out.below (HB5.out.alloc HB5.out.size _)).err (H.out.below (HB5.out.alloc HB5.out.size _)).tab).mono ?_
      rintro e w7 ⟨hb7, hc7⟩
      have HB7 : Hid (Below w.heap.size w w7) := Lib.hid ((HB5.out.alloc HB5.out.size _).trans (hb7.mono (by simp; have := HB5.out.size; omega)))
      have hvb := (Blk.new w5 110 [.int .i64 0, .nilFunc]).below hb7 (by simp)
      have v0 := hvb.cell_ (i := 0) rfl
      have v1 := hvb.cell_ (i := 1) rfl
      clear hvb
      have HR : Hid (answerM s l = (s, sBad)) := Lib.hid (by
        rw [HA.out]
        cases wordsM T with
        | none => rfl
        | some ns => exact not_verb hno)
      rcases hc7 with ⟨hw, rfl⟩ | ⟨ns, v9, hw, rfl, ho9⟩
      · go_wp2
        go_ret
        exact ⟨ret_eq (by rw [HR.out]; rfl), by rw [HR.out]; exact H.out.below HB7.out, KeepP.of_below HB7.out (Nat.le_refl _)⟩
      · go_wp2
        go_ret
        exact ⟨ret_eq (by rw [HR.out]; rfl), by rw [HR.out]; exact H.out.below HB7.out, KeepP.of_below HB7.out (Nat.le_refl _)⟩
end Go.Proofs.YticckfioggeaeaaGreatDoor
