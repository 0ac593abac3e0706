/-
  split.Add of a key that is not there: the walk.
-/
import Derived.Test.YthldhbcidcmmaaaDoorSplit6
import Derived.Deep.LoopGhost
namespace Go.Proofs.YthldhbcidcmmaaaDoor
open Go.RowKit

def DeepRel (w1 : World) (L : List Int) (k e : Nat) (d : Value) (wr : World) : Prop := ∃ n : Nat, d = .int .i64 n ∧ e < n ∧ n ≤ 21 ∧ (∀ d', e < d' → d' < n → allSame (toN L ++ [k]) d') ∧ Below w1.heap.size w1 wr
def DeepCut (w1 : World) (S : List Int) (k : Nat) (d : Value) (wx : World) : Prop := ∃ n : Nat, d = .int .i64 n ∧ n ≤ 21 ∧ (room S k ↔ n ≤ 6) ∧ Below w1.heap.size w1 wx

theorem OwnInts.low {w : World} {b : Nat} {v : Value} {xs : List Int} (h : OwnInts w b v xs) : OwnInts w 0 v xs := by
  obtain ⟨hl, h2⟩ := h
  refine ⟨hl, ?_⟩
  rcases h2 with h2 | ⟨g, cap, cur, e, hbb, r⟩
  · exact .inl h2
  · exact .inr ⟨g, cap, cur, e, Nat.zero_le _, r⟩
theorem clone_snoc {w : World} {b : Nat} {v : Value} {L : List Int} {k : Nat} (hL : ∀ x ∈ L, 0 ≤ x) (h : OwnInts w b v (L ++ [(k : Int)])) : ∃ a c, v = .slice a (L.length + 1) c ∧ IntsIn w w.heap.size a (natI (toN L ++ [k])) := by
  obtain ⟨a, c, rfl, hin⟩ := h.shape
  refine ⟨a, c, by rw [List.length_append]; rfl, ?_⟩
  have e : natI (toN L ++ [k]) = L ++ [(k : Int)] := by
    have := natI_toN hL
    unfold natI at this ⊢
    rw [List.map_append, this]; rfl
  rw [e]; exact hin
theorem TAt.bel {O : Nat → Prop} {w w' : World} {t g cap D : Nat} {pg deep : Nat → Nat} {kv : Nat → Value} {S : List Int} (h : TAt O w t g cap D pg deep kv S) (hb : Below w.heap.size w w') : TAt O w' t g cap D pg deep kv S := h.keep0 (Keep.of_below hb (Nat.le_refl _))
theorem cls_nodup {S : List Int} (h : Up S) (c : Int) (e : Nat) : (cls S c e).Nodup := (h.cls c e).imp (fun h => by omega)

set_option maxHeartbeats 4000000 in
set_option maxRecDepth 100000 in
theorem add_new {O : Nat → Prop} {w : World} {t g cap D : Nat} {pg deep : Nat → Nat} {kv : Nat → Value} {S : List Int} (k : Nat) (h : TAt O w t g cap D pg deep kv S) (hd : Dir S S D deep) (hS : ∀ x ∈ S, x ≤ 1000000) (hk : k ≤ 1000000) (hx : ¬ (k : Int) ∈ S) :
    Calls Tryd.prog 9 #[.pointer (some ⟨t, 0, none⟩), .int .i64 k] w (AddTab O w t S k) := by
  have H := Lib.hid h; have HD := Lib.hid hd; have HS := Lib.hid hS
  have HB : Hid (decide ((k : Int) ∈ S) = false) := Lib.hid (by simpa using hx)
  have HX := Lib.hid hx
  have HPOS : Hid (∀ x ∈ S, 0 ≤ x ∧ x ≤ 1000000) := Lib.hid fun x hm => ⟨hd.pos x hm, hS x hm⟩
  obtain ⟨i0, hi, hz0, hz1, hz2⟩ := info_parts info_int
  clear h hd hS hx
  go_enter Tryd.func9, Tryd.ntmps9
  go_wp2_with fail
  refine (within_yes _ _ _ _ (by omega) (by omega)).mono ?_
  rintro e w' ⟨rfl, rfl⟩
  go_wp2_with fail
  refine (tHas_is k false H.out HD.out (by omega) HB.out).mono ?_
  rintro e w1 ⟨rfl, hk1⟩
  have H1 := Lib.hid (H.out.keep0 hk1)
  have HK1 : Hid (KeepP O w w1) := Lib.hid (hk1.toP (by simp))
  clear hk1
  go_wp2_with fail
  refine (of_any k H1.out HD.out.le (by omega)).mono ?_
  rintro e w2 ⟨rfl, hk2⟩
  have H2 := Lib.hid (H1.out.keep0 hk2)
  have HK2 : Hid (KeepP O w w2) := Lib.hid (HK1.out.trans (hk2.toP (by simp)))
  clear hk2
  have y0 := (H2.out.pgs k).cell_ (i := 0) rfl
  have y1 := (H2.out.pgs k).cell_ (i := 1) rfl
  obtain ⟨ak, ck, hkv, hin⟩ := (H2.out.key k).shape
  rw [hkv] at y1
  obtain ⟨L, hL⟩ : ∃ L, L = cls S k (deep k) := ⟨_, rfl⟩
  rw [← hL] at hin y1
  have hf := HD.out.few k
  rw [← hL] at hf
  obtain ⟨m, hm⟩ : ∃ m, m = L.length := ⟨_, rfl⟩
  rw [← hm] at hf y1
  obtain ⟨ed, he⟩ : ∃ ed, ed = deep k := ⟨_, rfl⟩
  rw [← he] at y0 hL
  have he6 : ed ≤ 6 := by have := HD.out.le k; have := H2.out.d6; omega
  obtain ⟨p, hp⟩ : ∃ p, p = pg k := ⟨_, rfl⟩
  rw [← hp] at y0 y1 ⊢
  have hpl : p < w2.heap.size := by rw [hp]; exact (H2.out.pgs k).lt
  have hLb : ∀ x ∈ L, 0 ≤ x ∧ x ≤ 1000000 := fun x hx => by rw [hL] at hx; exact HPOS.out x (mem_cls.1 hx).1
  have hkL : ¬ (k : Int) ∈ L := fun hx => by rw [hL] at hx; exact HX.out (mem_cls.1 hx).1
  have HL := Lib.hid hL; have HM := Lib.hid hm.symm; have HIN := Lib.hid hin; have HP := Lib.hid hp; have HE := Lib.hid he; have HLB := Lib.hid hLb; have HKL := Lib.hid hkL
  have Y0 := Lib.hid y0; have Y1 := Lib.hid y1
  clear hkv hin hL hm he hp hLb hkL
  go_upto_if 29 with fail
  go_cut [6] (fun s6 wx => DeepCut w2 S k s6 wx)
  case first =>
    by_cases h3 : m = 3
    · have HLEN : Hid ((cls S k ed).length = 3) := Lib.hid (by rw [← HL.out, HM.out]; exact h3)
      have hL0 : L ≠ [] := fun h => by have := HM.out; rw [h] at this; simp at this; omega
      have HPT := Lib.hid (parted HLB.out hk HKL.out hL0)
      have HLN : Hid (∀ x ∈ L, 0 ≤ x) := Lib.hid fun x hx => (HLB.out x hx).1
      have hm3b : (((m : Nat) : Int) == 3) = true := by rw [h3]; rfl
      have HM3 := Lib.hid h3
      clear hL0 h3 y0 y1
      have y0 := Y0.out
      have y1 := Y1.out
      go_wp2
      simp only [hm3b]
      go_loopw [6] (fun d wr => DeepRel w2 L k ed d wr) (fun d _ => 21 - (intOf d).toNat)
      case atStart => exact ⟨ed + 1, by go_num, by omega, by omega, fun d' h1 h2 => by omega, Below.refl _ _⟩
      case round =>
        obtain ⟨n, rfl, hen, hn21, hall, hbel⟩ := hrel
        have HALL := Lib.hid hall; have HBEL := Lib.hid hbel
        have hzz := (hbel.cell (p := ⟨p, 1, none⟩) hpl).trans Y1.out
        have HINr : Hid (IntsIn wr wr.heap.size ak L) := Lib.hid ((HIN.out.below hbel).more hbel.size)
        have hn0 : (0 : Int) ≤ (n : Int) := by omega
        have HSM : Hid (∀ x ∈ toN L ++ [k], x ≤ 1000000) := Lib.hid fun x hx => by
          rw [List.mem_append, List.mem_singleton] at hx
          rcases hx with hx | rfl
          · obtain ⟨y, hy, rfl⟩ := List.mem_map.1 hx
            have := HLB.out y hy
            omega
          · exact hk
        have hbs := hbel.size
        clear hall hbel y0 y1
        by_cases hall : allSame (toN L ++ [k]) n
        · have HB2 : Hid (decide (allSame (toN L ++ [k]) n) = true) := Lib.hid (by simpa using hall)
          have hn20 : n < 20 := by
            rcases Nat.lt_or_ge n 20 with g | g
            · exact g
            · exact absurd (allSame_down HLN.out g hall) HPT.out
          have HAN : Hid (∀ d', ed < d' → d' < n + 1 → allSame (toN L ++ [k]) d') := Lib.hid fun d' h1 h2 => by
            rcases Nat.lt_or_ge d' n with g | g
            · exact HALL.out d' h1 g
            · obtain rfl : d' = n := by omega
              exact hall
          clear hall
          go_wp2_with (first
            | (go_at_call 36; refine (clone_all ak ck _ m L _ HM.out HINr.out (by omega)).mono ?_; rintro e w3 ⟨a3, c3, rfl, hown3, hb3⟩; have HO3 : Hid (w3.ownsRow wr.heap.size 3 1 (.slice a3 m c3) m (ints L)) := Lib.hid (by have := hown3; unfold OwnInts at this; rw [HM.out] at this; exact this); have HB3 := Lib.hid hb3; have hs3 := hb3.size; clear hown3 hb3)
            | (at_builtin; refine wpList_append_own _ rfl _ _ 22 rfl wr.heap.size 3 i0 (.int .i64 0) 1 8 Tryd.underlying22 hi hz0 hz1 hz2 rfl (by decide) _ _ _ rfl (HO3.out.alloc _) ⟨w3.heap.size, 0, none⟩ 1 1 [.int .i64 k] rfl rfl (cell_one_new _ _ _) (by intro u hu; simp at hu; subst hu; rfl) (by unfold maxLen; omega) (by omega) (by simp; omega) ?_; intro v4 w4 hown4 hgrow4 _; have ho4 : OwnInts w4 wr.heap.size v4 (L ++ [(k : Int)]) := (by unfold OwnInts; rw [List.length_append, HM.out]; simpa [ints] using hown4); obtain ⟨a4, c4, rfl, hin4⟩ := clone_snoc HLN.out ho4; rw [HM.out]; have HIN4 := Lib.hid hin4; have HB4 : Hid (Below w2.heap.size w2 w4) := Lib.hid (((HBEL.out.trans (HB3.out.mono hbs)).alloc (by omega) _).grown hgrow4 (by simp; omega) (fun x hx => by have := (HO3.out.lt x hx).1; omega)); clear hown4 hgrow4 hin4 ho4)
            | (go_at_call 35; refine (same_is a4 (m + 1) c4 (toN L ++ [k]) n true _ (by rw [List.length_append, toN_len, HM.out]; rfl) HIN4.out (by omega) (by omega) HSM.out (by omega) HB2.out).mono ?_; rintro e w5 ⟨rfl, hk5⟩; have HB5 : Hid (Below w2.heap.size w2 w5) := Lib.hid (HB4.out.trans (hk5.below HB4.out.size (by simp))); clear hk5))
          go_roundw
          case rel => exact ⟨n + 1, by simp, by omega, by omega, HAN.out, HB5.out⟩
          case measure => simp [intOf]; omega
        · have HB2 : Hid (decide (allSame (toN L ++ [k]) n) = false) := Lib.hid (by simpa using hall)
          have HRM : Hid (room S k ↔ n ≤ 6) := Lib.hid (room_iff (fun x hx => (HPOS.out x hx).1) he6 hen HLEN.out (by rw [← HL.out]; exact hall) (by rw [← HL.out]; exact HALL.out))
          clear hall
          go_wp2_with (first
            | (go_at_call 36; refine (clone_all ak ck _ m L _ HM.out HINr.out (by omega)).mono ?_; rintro e w3 ⟨a3, c3, rfl, hown3, hb3⟩; have HO3 : Hid (w3.ownsRow wr.heap.size 3 1 (.slice a3 m c3) m (ints L)) := Lib.hid (by have := hown3; unfold OwnInts at this; rw [HM.out] at this; exact this); have HB3 := Lib.hid hb3; have hs3 := hb3.size; clear hown3 hb3)
            | (at_builtin; refine wpList_append_own _ rfl _ _ 22 rfl wr.heap.size 3 i0 (.int .i64 0) 1 8 Tryd.underlying22 hi hz0 hz1 hz2 rfl (by decide) _ _ _ rfl (HO3.out.alloc _) ⟨w3.heap.size, 0, none⟩ 1 1 [.int .i64 k] rfl rfl (cell_one_new _ _ _) (by intro u hu; simp at hu; subst hu; rfl) (by unfold maxLen; omega) (by omega) (by simp; omega) ?_; intro v4 w4 hown4 hgrow4 _; have ho4 : OwnInts w4 wr.heap.size v4 (L ++ [(k : Int)]) := (by unfold OwnInts; rw [List.length_append, HM.out]; simpa [ints] using hown4); obtain ⟨a4, c4, rfl, hin4⟩ := clone_snoc HLN.out ho4; rw [HM.out]; have HIN4 := Lib.hid hin4; have HB4 : Hid (Below w2.heap.size w2 w4) := Lib.hid (((HBEL.out.trans (HB3.out.mono hbs)).alloc (by omega) _).grown hgrow4 (by simp; omega) (fun x hx => by have := (HO3.out.lt x hx).1; omega)); clear hown4 hgrow4 hin4 ho4)
            | (go_at_call 35; refine (same_is a4 (m + 1) c4 (toN L ++ [k]) n false _ (by rw [List.length_append, toN_len, HM.out]; rfl) HIN4.out (by omega) (by omega) HSM.out (by omega) HB2.out).mono ?_; rintro e w5 ⟨rfl, hk5⟩; have HB5 : Hid (Below w2.heap.size w2 w5) := Lib.hid (HB4.out.trans (hk5.below HB4.out.size (by simp))); clear hk5))
          go_meet
          exact ⟨n, rfl, hn21, HRM.out, HB5.out⟩
    · have hm3 : ¬ ((m : Nat) : Int) = 3 := by omega
      have hm3b : (((m : Nat) : Int) == 3) = false := beq_eq_false_iff_ne.2 hm3
      have HRM : Hid (room S k ↔ ed ≤ 6) := Lib.hid ⟨fun _ => he6, fun _ => room_few he6 (by rw [← HL.out, HM.out]; omega)⟩
      clear h3
      go_wp2
      go_meet
      exact ⟨ed, rfl, by omega, HRM.out, Below.refl _ _⟩
  case rest =>
    obtain ⟨n, rfl, hn21, hroom, hbel⟩ := hcut
    have H3 := Lib.hid (H2.out.bel hbel)
    have HK3 : Hid (KeepP O w wc) := Lib.hid (HK2.out.below hbel)
    clear hbel y0 y1
    by_cases hr : room S k
    · have hn6 := hroom.1 hr
      have hn6i : ¬ (6 : Int) < (n : Int) := by omega
      have HR := Lib.hid hr
      have HADD : Hid (addE S k = 0) := Lib.hid (addE_zero.2 ⟨by omega, by omega, HX.out, hr⟩)
      have HADS : Hid (addS S k = insK (k : Int) S) := Lib.hid (by unfold addS; rw [if_pos ⟨by omega, by omega, HX.out, hr⟩])
      clear hr hroom hn6
      go_wp2
      go_loopg [] (6 - deep k) (fun gk wr => SplRel O w t k S gk wr)
      case atStart => exact ⟨g, cap, D, pg, deep, kv, H3.out, HD.out.more (fun c e => cls_ins_le HD.out.up HX.out c e), HK3.out, rfl⟩
      case round =>
        obtain ⟨g', cap', D', pg', deep', kv', hT, hDir, hKP, rfl⟩ := hrel
        have HT := Lib.hid hT; have HDR := Lib.hid hDir; have HKP := Lib.hid hKP
        clear hT hDir hKP
        have hf2 := HDR.out.few k
        have hdk6 : deep' k ≤ 6 := by have := HDR.out.le k; have := HT.out.d6; omega
        obtain ⟨L2, hL2⟩ : ∃ L2, L2 = cls S k (deep' k) := ⟨_, rfl⟩
        rw [← hL2] at hf2
        obtain ⟨m2, hm2⟩ : ∃ m2, m2 = L2.length := ⟨_, rfl⟩
        rw [← hm2] at hf2
        have HL2 := Lib.hid hL2; have HM2 := Lib.hid hm2.symm
        clear hL2 hm2
        have HPG : Hid (∀ w', Keep [] wr w' → ∃ a c, kv' k = .slice a m2 c ∧ IntsIn w' w'.heap.size a L2 ∧ w'.cell? ⟨pg' k, 1, none⟩ = some (.slice a m2 c) ∧ w'.frozen? ⟨pg' k, 1, none⟩ = false) := Lib.hid fun w' hk' => by
          have h1 := HT.out.keep0 hk'
          obtain ⟨a, c, e1, e2⟩ := (h1.key k).shape
          rw [← HL2.out, HM2.out] at e1
          rw [← HL2.out] at e2
          have e3 := (h1.pgs k).cell_ (i := 1) rfl
          rw [e1] at e3
          exact ⟨a, c, e1, e2, e3, (h1.pgs k).free 1⟩
        go_wp2_with fail
        refine (of_any k HT.out HDR.out.le (by omega)).mono ?_
        rintro e w6 ⟨rfl, hk6⟩
        obtain ⟨a6, c6, hv6, hin6, z6, _⟩ := HPG.out w6 hk6
        have HK6 := Lib.hid hk6; have HV6 := Lib.hid hv6
        clear hin6 hv6
        by_cases h3 : m2 = 3
        · have h3b : (((m2 : Nat) : Int) == 3) = true := by rw [h3]; rfl
          have hlen3 : (cls S k (deep' k)).length = 3 := by rw [← HL2.out, HM2.out]; exact h3
          have hd5 : deep' k < 6 := by
            rcases Nat.lt_or_ge (deep' k) 6 with q | q
            · exact q
            · exfalso
              have e6 : deep' k = 6 := by omega
              have hrr := HR.out
              unfold room at hrr
              rw [e6] at hlen3
              omega
          have hsplit := HDR.out.split k (by rw [cls_ins HD.out.up HX.out, if_pos rfl, insK_len]; omega) (fun i => Nat.le_trans (cls_len_down (Nat.le_succ _)) (HDR.out.few i))
          have HSP := Lib.hid hsplit
          have HLEN3 := Lib.hid hlen3
          clear h3 hsplit hlen3
          have H6 := Lib.hid (HT.out.keep0 HK6.out)
          have HKP6 : Hid (KeepP O w w6) := Lib.hid (HKP.out.trans (HK6.out.toP (by simp)))
          go_wp2_with fail
          refine (of_any k H6.out HDR.out.le (by omega)).mono ?_
          rintro e w7 ⟨rfl, hk7⟩
          have H7 := Lib.hid (H6.out.keep0 hk7)
          have HKP7 : Hid (KeepP O w w7) := Lib.hid (HKP6.out.trans (hk7.toP (by simp)))
          clear z6 hk6 hk7
          go_wp2_with fail
          refine (split_any k H7.out HDR.out.le HDR.out.same HPOS.out (by rw [HLEN3.out]; omega) hd5).mono ?_
          rintro e w8 ⟨rfl, g8, cap8, pg8, kv8, hT8, hkp8⟩
          have HREL : Hid (SplRel O w t k S (6 - splitAt deep' k (deep' k) k) w8) := Lib.hid ⟨g8, cap8, _, pg8, _, kv8, hT8, HSP.out, HKP7.out.trans hkp8, rfl⟩
          have hms : splitAt deep' k (deep' k) k = deep' k + 1 := splitAt_in rfl
          have HMS := Lib.hid hms
          clear hT8 hkp8 hms
          go_wp2
          go_roundg (6 - splitAt deep' k (deep' k) k)
          case measure => rw [HMS.out]; omega
          case rel => exact HREL.out
        · have h3b : (((m2 : Nat) : Int) == 3) = false := beq_eq_false_iff_ne.2 (by omega)
          have h32 : m2 ≤ 2 := by omega
          have H6 := Lib.hid (HT.out.keep0 HK6.out)
          have HKP6 : Hid (KeepP O w w6) := Lib.hid (HKP.out.trans (HK6.out.toP (by simp)))
          clear h3
          go_wp2_with fail
          refine (of_any k H6.out HDR.out.le (by omega)).mono ?_
          rintro e w7 ⟨rfl, hk7⟩
          have H7 := Lib.hid (H6.out.keep0 hk7)
          have HKP7 : Hid (KeepP O w w7) := Lib.hid (HKP6.out.trans (hk7.toP (by simp)))
          obtain ⟨a7, c7, hv7, hin7, z7, f7⟩ := HPG.out w7 ((HK6.out).trans hk7)
          have HV7 := Lib.hid hv7; have HIN7 := Lib.hid hin7
          have HUP7 : Hid (Up L2) := Lib.hid (by rw [HL2.out]; exact HDR.out.up.cls _ _)
          have hnk : ¬ (k : Int) ∈ L2 := by rw [HL2.out]; exact fun hh => HX.out (mem_cls.1 hh).1
          have HNK := Lib.hid hnk
          have HND : Hid (decide ((k : Int) ∈ L2) = false) := Lib.hid (by simpa using hnk)
          have hpl7 := posK_le L2 (k : Int)
          obtain ⟨i7, hi7⟩ : ∃ i7, posK L2 (k : Int) = i7 := ⟨_, rfl⟩
          rw [hi7, HM2.out] at hpl7
          have HI7 := Lib.hid hi7
          clear z6 hk6 hk7 hv7 hin7 hnk hi7
          go_wp2_with fail
          refine (bs_is a7 m2 c7 _ L2 k i7 false _ HM2.out HIN7.out (by omega) HUP7.out HI7.out HND.out).mono ?_
          rintro e w' ⟨rfl, rfl⟩
          have hown7 : OwnInts (w7.alloc (.cells #[.int .i64 (k : Int)] 3)) 0 (.slice a7 m2 c7) L2 := by
            have h1 := H7.out.key k
            rw [HV7.out, ← HL2.out] at h1
            exact h1.keep fun y hy => Below.heap_alloc _ _ y (World.ownsRow.lt h1 y hy).2
          have hblk7 : Blk (w7.alloc (.cells #[.int .i64 (k : Int)] 3)) w7.heap.size 3 [.int .i64 (k : Int)] := Blk.new w7 3 [.int .i64 (k : Int)]
          have hne7 : some w7.heap.size ≠ (Value.slice a7 m2 c7).ownBlock := fun hh => by
            have := H7.out.kl k w7.heap.size (by rw [HV7.out]; exact hh.symm)
            omega
          have HOWN7 := Lib.hid hown7; have HBLK7 := Lib.hid hblk7; have HNE7 := Lib.hid hne7
          clear hown7 hblk7 hne7
          go_wp2_with fail
          refine (insAt_any (.slice a7 m2 c7) w7.heap.size 0 m2 i7 (k : Int) L2 _ HOWN7.out HM2.out hpl7 (Nat.zero_le _) HBLK7.out HNE7.out (by omega)).mono ?_
          rintro e w8 ⟨v8, rfl, hown8, F, hk8, hF8, hat8⟩
          rw [← HI7.out, ← insK_pos HUP7.out HNK.out] at hown8
          have hF9 : ∀ y ∈ F, some y = (kv' k).ownBlock := fun y hy => by rw [HV7.out]; exact hF8 y hy
          have hat9 : v8.ownBlock = (kv' k).ownBlock ∨ v8.ownBlock = some (w7.alloc (.cells #[.int .i64 (k : Int)] 3)).heap.size := by rw [HV7.out]; exact hat8
          have hpb : Blk w8 (pg' k) 62 [.int .i64 (deep' k), kv' k] := ((H7.out.pgs k).alloc _).keep hk8 (fun hm => H7.out.kp k k _ (hF9 _ hm).symm rfl)
          have z8 := hpb.cell_ (i := 1) rfl
          have f8 := hpb.free 1
          rw [HV7.out] at z8
          obtain ⟨a9, c9, e9, _⟩ := hown8.shape
          generalize (insK (k : Int) L2).length = ln at e9
          subst e9
          have HPUT := Lib.hid (H7.out.put (k := k) HDR.out.up HX.out (by rw [← HL2.out]; exact hown8) hk8 hF9 hat9)
          have HDP : Hid (Dir (insK (k : Int) S) (insK (k : Int) S) D' deep') := Lib.hid (HDR.out.put HX.out (by omega) (by rw [Int.toNat_natCast, ← HL2.out, HM2.out]; omega))
          clear hown8 hk8 hF8 hat8 hF9 hat9 hpb z7 f7
          go_wp2
          go_ret
          refine ⟨by rw [HADD.out]; rfl, ?_, HKP7.out.trans HPUT.out.2⟩
          rw [HADS.out]
          exact ⟨g', cap', D', pg', deep', _, HPUT.out.1, HDP.out, fun x hx => by
            rcases mem_insK.1 hx with rfl | hx
            · omega
            · exact HS.out x hx⟩
    · have hn6 : (6 : Int) < (n : Int) := by
        have : ¬ n ≤ 6 := fun h => hr (hroom.2 h)
        omega
      have HADD : Hid (addE S k = 4) := Lib.hid (by unfold addE; rw [if_neg (by omega), if_neg HX.out, if_neg hr])
      have HADS : Hid (addS S k = S) := Lib.hid (by unfold addS; rw [if_neg (fun h => hr h.2.2.2)])
      clear hr hroom
      go_wp2
      go_ret
      exact ⟨by rw [HADD.out]; rfl, by rw [HADS.out]; exact ⟨g, cap, D, pg, deep, kv, H3.out, HD.out, HS.out⟩, HK3.out⟩
end Go.Proofs.YthldhbcidcmmaaaDoor
