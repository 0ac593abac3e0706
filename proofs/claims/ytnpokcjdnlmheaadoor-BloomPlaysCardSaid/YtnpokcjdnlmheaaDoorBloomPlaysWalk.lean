/-
  BloomPlays: the walk (printed by wip/gen_bloomplays.py).
-/
import Derived.Test.YtnpokcjdnlmheaaDoorBloomPl2
import Derived.Test.YtnpokcjdnlmheaaDoorSameInts
import Derived.Test.YtnpokcjdnlmheaaDoorLift
import Derived.BigRegion
import Derived.Deep.RegionHeld3
import Derived.Deep.DeepCutAuto
namespace Go.Proofs.YtnpokcjdnlmheaaDoor
open Go.RowKit

set_option maxHeartbeats 4000000 in
set_option maxRecDepth 100000 in
theorem bloomPlays_no (bits hashes : Int) (a : Option Addr) (m c : Nat) (ask ii : Int) (wa : World) (h : ¬ (1 ≤ bits ∧ bits ≤ 128 ∧ 1 ≤ hashes ∧ hashes ≤ 4)) (hg : Handle wa) :
    Calls Tryd.prog 4 #[.int .i64 bits, .int .i64 hashes, .slice a m c, .int .i64 ask, .int .i64 ii] wa fun e w' => e = .returned (.bool true) ∧ Below wa.heap.size wa w' := by
  have HB := Lib.hid h; have HG := Lib.hid hg
  clear h hg
  go_enter Tryd.func4, Tryd.ntmps4
  go_wp2_with fail
  refine (bloomNew_no bits hashes _ HB.out).mono ?_
  rintro e w' ⟨rfl, rfl⟩
  have hw0 := HG.out.lt
  obtain ⟨ee, hee⟩ : ∃ ee, ee = hE ask ii bits := ⟨_, rfl⟩
  obtain ⟨hv, hhv⟩ : ∃ hv, hv = hV ask ii bits := ⟨_, rfl⟩
  have HEE := Lib.hid hee; have HHV := Lib.hid hhv
  clear hee hhv
  go_upto_region 3 with fail
  go_cut [44] (fun cc wx => cc = .bool (decide (ee = 1)) ∧ wx = wa)
  case first =>
    by_cases hok : hOk ask ii bits
    · have h0 : ee = 0 := by rw [HEE.out]; unfold hE; rw [if_pos hok]
      obtain ⟨q1, q2, q3, q4, q5, q6⟩ := hok
      go_wp2_with (go_at_call 7; refine (in_yes _ _ _ _ (by omega) (by omega)).mono ?_; rintro e w' ⟨rfl, rfl⟩)
      go_meet
      case rel => exact ⟨by rw [h0]; rfl, rfl⟩
    · have h0 : ee = 1 := by rw [HEE.out]; unfold hE; rw [if_neg hok]
      have hc : (ask < 0 ∨ 1000000 < ask) ∨ ((0 ≤ ask ∧ ask ≤ 1000000) ∧ (ii < 0 ∨ 3 < ii)) ∨ ((0 ≤ ask ∧ ask ≤ 1000000) ∧ (0 ≤ ii ∧ ii ≤ 3) ∧ (bits < 1 ∨ 128 < bits)) := by unfold hOk at hok; omega
      clear hok
      rcases hc with h | ⟨h, h'⟩ | ⟨h, h', h''⟩
      all_goals first
        | (exfalso; omega)
        | (go_wp2_with (first
            | (go_at_call 7; refine (in_yes _ _ _ _ (by omega) (by omega)).mono ?_; rintro e w' ⟨rfl, rfl⟩)
            | (go_at_call 7; refine (in_no _ _ _ _ (by omega)).mono ?_; rintro e w' ⟨rfl, rfl⟩))
           go_meet
           case rel => exact ⟨by rw [h0]; rfl, rfl⟩)
  case rest =>
    obtain ⟨rfl, hw⟩ := hcut
    rw [hw]
    clear hw
    go_upto_if 44 with fail
    go_cut [13] (fun cc wx => cc = .int .i64 ee ∧ wx = wa)
    case first =>
      by_cases hok : hOk ask ii bits
      · have h0 : ee = 0 := by rw [HEE.out]; unfold hE; rw [if_pos hok]
        subst h0
        go_wp2
        go_meet
        case rel => exact ⟨rfl, rfl⟩
      · have h0 : ee = 1 := by rw [HEE.out]; unfold hE; rw [if_neg hok]
        subst h0
        go_wp2
        go_meet
        case rel => exact ⟨rfl, rfl⟩
    case rest =>
      obtain ⟨rfl, hw⟩ := hcut
      rw [hw]
      clear hw
      go_upto_if 46 with fail
      go_cut [14] (fun cc wx => cc = .int .i64 hv ∧ Keep [] wa wx)
      case first =>
        by_cases hok : hOk ask ii bits
        · have h0 : ee = 0 := by rw [HEE.out]; unfold hE; rw [if_pos hok]
          have hv0 : hv = (hashN ask ii.toNat (bits : Int).toNat : Nat) := by rw [HHV.out]; unfold hV; rw [if_pos hok]
          have HV0 := Lib.hid hv0
          clear hv0
          obtain ⟨q1, q2, q3, q4, q5, q6⟩ := hok
          obtain ⟨k, hk⟩ := Int.eq_ofNat_of_zero_le q3
          obtain ⟨n', hn'⟩ := Int.eq_ofNat_of_zero_le (show 0 ≤ (bits : Int) by omega)
          have hR : ∀ wx : World, Calls Tryd.prog 13 #[.int .i64 ask, .int .i64 ii, .int .i64 bits] wx fun e w' => e = .returned (.int .i64 hv) ∧ Below wx.heap.size wx w' := fun wx => by
            have h2 := rhash_any ask k n' wx (by omega) q1 q2 (by omega) (by omega)
            rw [HV0.out, hk, hn', Int.toNat_natCast, Int.toNat_natCast]
            exact h2
          have HR := Lib.hid hR
          have he : (ee == 0) = true := by rw [h0]; rfl
          clear hR hk hn' h0
          go_wp2_with (go_at_call 13; refine (HR.out _).mono ?_; rintro e w4 ⟨rfl, hb4⟩)
          go_meet
          case rel => exact ⟨rfl, Keep.of_below hb4 (Nat.le_refl _)⟩
        · have h0 : ee = 1 := by rw [HEE.out]; unfold hE; rw [if_neg hok]
          have hv0 : hv = 0 := by rw [HHV.out]; unfold hV; rw [if_neg hok]
          have he : (ee == 0) = false := by rw [h0]; rfl
          clear h0
          go_wp2
          go_meet
          case rel => exact ⟨by rw [hv0], Keep.refl _ _⟩
      case rest =>
        obtain ⟨rfl, hkc⟩ := hcut
        have HKC := Lib.hid hkc
        clear hkc
        go_wp2_with fail
        refine (bhash_any ask ii bits _).mono ?_
        rintro e w5 ⟨⟨er, rfl, her⟩, rfl⟩
        rw [← HHV.out]
        rw [← HEE.out] at her
        have HER := Lib.hid her
        clear her
        go_wp2_with fail
        refine (eError_n er ee _ HER.out (HG.out.below (HKC.out.below (Nat.le_refl _) (by simp)) hw0)).mono ?_
        rintro e w6 ⟨rfl, hb6⟩
        have HB6 := Lib.hid hb6
        clear hb6
        have HB7 : Hid (Below wa.heap.size wa w6) := Lib.hid ((HKC.out.below (Nat.le_refl _) (by simp)).trans (HB6.out.mono (HKC.out.size)))
        have hb := HB.out
        have hc : (bits < 1 ∨ 128 < bits) ∨ ((1 ≤ bits ∧ bits ≤ 128) ∧ (hashes < 1 ∨ 4 < hashes)) := by omega
        clear hb
        rcases hc with h | ⟨h, h'⟩
        all_goals
          go_wp2_with (first
            | (go_at_call 7; refine (in_yes _ _ _ _ (by omega) (by omega)).mono ?_; rintro e w' ⟨rfl, rfl⟩)
            | (go_at_call 7; refine (in_no _ _ _ _ (by omega)).mono ?_; rintro e w' ⟨rfl, rfl⟩)
            | (go_at_call 8; refine (eError_n (errv 1) 1 _ (.inr rfl) (HG.out.below HB7.out hw0)).mono ?_; rintro e w8 ⟨rfl, hb8⟩))
          go_ret
          exact ⟨rfl, HB7.out.trans (hb8.mono HB7.out.size)⟩

def BPRel (w : World) (b g n hh m : Nat) (v i : Value) (wr : World) : Prop :=
  ∃ (k : Nat) (bl : List Bool) (xv : Value) (set : List Int), k ≤ m ∧ k ≤ 40 ∧ i = .int .i64 k ∧ xv = v ∧ FS w wr b g bl hh xv set ∧ FI n hh bl set k

set_option maxHeartbeats 8000000 in
set_option maxRecDepth 100000 in
theorem bloomPlays_yes (n hh : Nat) (h1 : 1 ≤ (n : Int)) (h2 : (n : Int) ≤ 128) (h3 : 1 ≤ (hh : Int)) (h4 : (hh : Int) ≤ 4) (a : Option Addr) (c : Nat) (ks : List Int) (ask ii : Int) (w : World) (hx : IntsIn w w.heap.size a ks) (hn : ks.length ≤ maxLen) (hg : Handle w) :
    Calls Tryd.prog 4 #[.int .i64 n, .int .i64 hh, .slice a ks.length c, .int .i64 ask, .int .i64 ii] w fun e w' => e = .returned (.bool true) ∧ Below w.heap.size w w' := by
  have HX := Lib.hid hx; have HN := Lib.hid hn; have HG := Lib.hid hg
  clear hx hn hg
  have hw0 := HG.out.lt
  have hnn : 0 < n := by omega
  go_enter Tryd.func4, Tryd.ntmps4
  go_wp2_with fail
  refine (bloomNew_yes n hh _ h1 h2 h3 h4).mono ?_
  rintro e wa ⟨rfl, hf, hb1⟩
  obtain ⟨b, hb⟩ : ∃ b, b = w.heap.size + 1 := ⟨_, rfl⟩
  obtain ⟨g, hg⟩ : ∃ g, g = w.heap.size := ⟨_, rfl⟩
  rw [← hb] at hf ⊢
  rw [← hg] at hf
  have hfs : FS w wa b g (List.replicate n false) hh (.slice none 0 0) [] := ⟨hf, OwnInts.nil _ _, ⟨by simp [Value.ownBlock], by simp [Value.ownBlock]⟩, hb1, by omega, by omega⟩
  have HFS := Lib.hid hfs
  clear hfs hf hb1 hb hg
  obtain ⟨ee, hee⟩ : ∃ ee, ee = hE ask ii n := ⟨_, rfl⟩
  obtain ⟨hv, hhv⟩ : ∃ hv, hv = hV ask ii n := ⟨_, rfl⟩
  have HEE := Lib.hid hee; have HHV := Lib.hid hhv
  clear hee hhv
  go_upto_region 3 with fail
  go_cut [44] (fun cc wx => cc = .bool (decide (ee = 1)) ∧ wx = wa)
  case first =>
    by_cases hok : hOk ask ii n
    · have h0 : ee = 0 := by rw [HEE.out]; unfold hE; rw [if_pos hok]
      obtain ⟨q1, q2, q3, q4, q5, q6⟩ := hok
      go_wp2_with (go_at_call 7; refine (in_yes _ _ _ _ (by omega) (by omega)).mono ?_; rintro e w' ⟨rfl, rfl⟩)
      go_meet
      case rel => exact ⟨by rw [h0]; rfl, rfl⟩
    · have h0 : ee = 1 := by rw [HEE.out]; unfold hE; rw [if_neg hok]
      have hc : (ask < 0 ∨ 1000000 < ask) ∨ ((0 ≤ ask ∧ ask ≤ 1000000) ∧ (ii < 0 ∨ 3 < ii)) ∨ ((0 ≤ ask ∧ ask ≤ 1000000) ∧ (0 ≤ ii ∧ ii ≤ 3) ∧ (n < 1 ∨ 128 < n)) := by unfold hOk at hok; omega
      clear hok
      rcases hc with h | ⟨h, h'⟩ | ⟨h, h', h''⟩
      all_goals first
        | (exfalso; omega)
        | (go_wp2_with (first
            | (go_at_call 7; refine (in_yes _ _ _ _ (by omega) (by omega)).mono ?_; rintro e w' ⟨rfl, rfl⟩)
            | (go_at_call 7; refine (in_no _ _ _ _ (by omega)).mono ?_; rintro e w' ⟨rfl, rfl⟩))
           go_meet
           case rel => exact ⟨by rw [h0]; rfl, rfl⟩)
  case rest =>
    obtain ⟨rfl, hw⟩ := hcut
    rw [hw]
    clear hw
    go_upto_if 44 with fail
    go_cut [13] (fun cc wx => cc = .int .i64 ee ∧ wx = wa)
    case first =>
      by_cases hok : hOk ask ii n
      · have h0 : ee = 0 := by rw [HEE.out]; unfold hE; rw [if_pos hok]
        subst h0
        go_wp2
        go_meet
        case rel => exact ⟨rfl, rfl⟩
      · have h0 : ee = 1 := by rw [HEE.out]; unfold hE; rw [if_neg hok]
        subst h0
        go_wp2
        go_meet
        case rel => exact ⟨rfl, rfl⟩
    case rest =>
      obtain ⟨rfl, hw⟩ := hcut
      rw [hw]
      clear hw
      go_upto_if 46 with fail
      go_cut [14] (fun cc wx => cc = .int .i64 hv ∧ Keep [] wa wx)
      case first =>
        by_cases hok : hOk ask ii n
        · have h0 : ee = 0 := by rw [HEE.out]; unfold hE; rw [if_pos hok]
          have hv0 : hv = (hashN ask ii.toNat (n : Int).toNat : Nat) := by rw [HHV.out]; unfold hV; rw [if_pos hok]
          have HV0 := Lib.hid hv0
          clear hv0
          obtain ⟨q1, q2, q3, q4, q5, q6⟩ := hok
          obtain ⟨k, hk⟩ := Int.eq_ofNat_of_zero_le q3
          obtain ⟨n', hn'⟩ := Int.eq_ofNat_of_zero_le (show 0 ≤ (n : Int) by omega)
          have hR : ∀ wx : World, Calls Tryd.prog 13 #[.int .i64 ask, .int .i64 ii, .int .i64 n] wx fun e w' => e = .returned (.int .i64 hv) ∧ Below wx.heap.size wx w' := fun wx => by
            have h2 := rhash_any ask k n' wx (by omega) q1 q2 (by omega) (by omega)
            rw [HV0.out, hk, hn', Int.toNat_natCast, Int.toNat_natCast]
            exact h2
          have HR := Lib.hid hR
          have he : (ee == 0) = true := by rw [h0]; rfl
          clear hR hk hn' h0
          go_wp2_with (go_at_call 13; refine (HR.out _).mono ?_; rintro e w4 ⟨rfl, hb4⟩)
          go_meet
          case rel => exact ⟨rfl, Keep.of_below hb4 (Nat.le_refl _)⟩
        · have h0 : ee = 1 := by rw [HEE.out]; unfold hE; rw [if_neg hok]
          have hv0 : hv = 0 := by rw [HHV.out]; unfold hV; rw [if_neg hok]
          have he : (ee == 0) = false := by rw [h0]; rfl
          clear h0
          go_wp2
          go_meet
          case rel => exact ⟨by rw [hv0], Keep.refl _ _⟩
      case rest =>
        obtain ⟨rfl, hkc⟩ := hcut
        have HKC := Lib.hid hkc
        clear hkc
        go_wp2_with fail
        refine (bhash_any ask ii n _).mono ?_
        rintro e w5 ⟨⟨er, rfl, her⟩, rfl⟩
        rw [← HHV.out]
        rw [← HEE.out] at her
        have HER := Lib.hid her
        clear her
        go_wp2_with fail
        refine (eError_n er ee _ HER.out (HG.out.below ((HFS.out.keep0 HKC.out).bel) hw0)).mono ?_
        rintro e w6 ⟨rfl, hb6⟩
        have HB6 := Lib.hid hb6
        clear hb6
        have HFS7 := Lib.hid ((HFS.out.keep0 HKC.out).below HB6.out)
        go_wp2_with (first
          | (go_at_call 7; refine (in_yes _ _ _ _ (by omega) (by omega)).mono ?_; rintro e w' ⟨rfl, rfl⟩))
        go_loopw [17, 18] (fun v i wr => BPRel w b g n hh ks.length v i wr) (fun _ i _ => ks.length - (intOf i).toNat)
        case atStart => exact ⟨0, _, _, _, Nat.zero_le _, by omega, rfl, rfl, HFS7.out, fi0 n hh⟩
        case round =>
          obtain ⟨k, bl, v, set, hk, hk4, rfl, rfl, hfs, hfi⟩ := hrel
          have HF := Lib.hid hfs; have HI := Lib.hid hfi
          have hbl := hfi.len
          clear hfs hfi
          by_cases hlt : k < ks.length ∧ k < 40
          · obtain ⟨hlt, hlt4⟩ := hlt
            obtain ⟨bx, off, rfl, hbB, hc⟩ := HX.out.at_ hlt
            obtain ⟨x, hx⟩ : ∃ x, x = ks[k] := ⟨_, rfl⟩
            rw [← hx] at hc
            clear hx
            have HC : Hid (∀ w' : World, Below w.heap.size w w' → w'.cell? ⟨bx, off + k, none⟩ = some (.int .i64 x)) := Lib.hid fun w' hb => (hb.cell (p := ⟨bx, off + k, none⟩) hbB).trans hc
            clear hc
            have hc0 := HC.out _ HF.out.bel
            have hk40 : (k : Int) < 40 := by omega
            have hkn : (k : Int) < (ks.length : Int) := by omega
            have hk0 : (0 : Int) ≤ (k : Int) := by omega
            have hsl : set.length ≤ 160 := by
              have h5 := HI.out.sl
              have h6 : hh * k ≤ 4 * 40 := Nat.mul_le_mul (by omega) (by omega)
              omega
            by_cases hr : 0 ≤ x ∧ x ≤ 1000000
            · obtain ⟨g1, g2⟩ := hr
              go_wp2_with (go_at_call 7; refine (in_yes _ _ _ _ (by omega) (by omega)).mono ?_; rintro e w' ⟨rfl, rfl⟩)
              refine (rbits_any x n hh _ g1 g2 h1 h2 (by omega)).mono ?_
              rintro e w8 ⟨vB, rfl, hB, hb8⟩
              obtain ⟨aB, cB, rfl, hnB, _⟩ := hB.new
              rw [bitsOf_len]
              obtain ⟨gB, rfl, hgB, hgB2, hcB⟩ := hnB (by rw [bitsOf_len]; omega)
              obtain ⟨i0, hi, hz0, hz1, hz2⟩ := info_parts info_int
              have HF8 := Lib.hid (HF.out.below hb8)
              have HOW : Hid (OwnInts w8 w.heap.size v set) := Lib.hid HF8.out.S
              have hc8 := HC.out w8 HF8.out.bel
              have HNW : Hid (∀ j u, (ints (bitsOf x n hh))[j]? = some u → w8.cell? ((⟨gB, 0, none⟩ : Addr).add j) = some u) := Lib.hid fun j u hu => by
                simp only [ints, List.getElem?_map, Option.map_eq_some_iff] at hu
                obtain ⟨y, hy, rfl⟩ := hu
                rw [add_addr, Nat.zero_add]
                exact hcB j y hy
              have HNI := Lib.hid (HI.out.add hnn x)
              clear hB hnB hb8 hcB hgB hgB2
              go_wp2_with (first
                | (at_builtin; refine wpList_append_own_at _ rfl _ _ 30 rfl w.heap.size 3 i0 (.int .i64 0) 1 8 Tryd.underlying30 hi hz0 hz1 hz2 rfl (by decide) _ _ _ rfl HOW.out ⟨gB, 0, none⟩ hh cB (ints (bitsOf x n hh)) rfl (by rw [ints_len, bitsOf_len]; omega) HNW.out (by intro u hu; obtain ⟨y, _, rfl⟩ := List.mem_map.1 hu; rfl) (by unfold maxLen; omega) (by omega) (by have := HF8.out.bel.size; omega) ?_; intro v' w9 hown' hgrow _ hat; have hob : OwnInts w9 w.heap.size v' (set ++ bitsOf x n hh) := (by unfold OwnInts; rw [List.length_append, bitsOf_len]; simpa [ints] using hown'); have hf9 := HF8.out.app hob hgrow hat; have HF9 := Lib.hid hf9; have hc9 := HC.out w9 hf9.bel; clear hob hown' hgrow hat hf9 hc8)
                | (go_at_call 18; refine (bloomAdd_yes b g bl hh x _ HF9.out.f g1 g2 (by omega) (by omega) h4).mono ?_; rintro e w10 ⟨rfl, hf10, hk10⟩; rw [hbl] at hf10; have HF10 := Lib.hid (HF9.out.put hk10 hf10); clear hf10 hk10)
                | (go_at_call 8; refine (eError_n .nilIface 0 _ (.inl ⟨rfl, rfl⟩) (HG.out.below HF10.out.bel hw0)).mono ?_; rintro e w11 ⟨rfl, hb11⟩))
              go_roundw
              case rel => exact ⟨k + 1, _, _, _, hlt, by omega, by simp, rfl, HF10.out.below hb11, HNI.out⟩
              case measure => simp [intOf]; omega
            · have hr' : x < 0 ∨ 1000000 < x := by omega
              clear hr
              go_wp2_with (first
                | (go_at_call 7; refine (in_no _ _ _ _ (by omega)).mono ?_; rintro e w' ⟨rfl, rfl⟩)
                | (go_at_call 18; refine (bloomAdd_no b x _ hr').mono ?_; rintro e w' ⟨rfl, rfl⟩)
                | (go_at_call 8; refine (eError_n (errv 1) 1 _ (.inr rfl) (HG.out.below HF.out.bel hw0)).mono ?_; rintro e w9 ⟨rfl, hb9⟩))
              go_roundw
              case rel => exact ⟨k + 1, bl, v, set, hlt, by omega, by simp, rfl, HF.out.below hb9, HI.out.mono⟩
              case measure => simp [intOf]; omega
          · have hx : ¬ (k : Int) < (ks.length : Int) ∨ ((k : Int) < (ks.length : Int) ∧ ¬ (k : Int) < 40) := by omega
            clear hlt
            rcases hx with hx | ⟨hx, hx2⟩
            all_goals
              obtain ⟨sl, hsl⟩ : ∃ sl, sl = set.length := ⟨_, rfl⟩
              obtain ⟨aS, cS, rfl, hnS, _⟩ := HF.out.S.new
              have hsl2 : set.length ≤ 160 := by
                have h5 := HI.out.sl
                have h6 : hh * k ≤ 4 * 40 := Nat.mul_le_mul (by omega) (by omega)
                omega
              obtain ⟨W0, hW0⟩ : ∃ W0 : World, W0 = wr := ⟨_, rfl⟩
              rw [← hW0] at HF
              have HSI : Hid (IntsIn W0 W0.heap.size aS set) := Lib.hid (by rw [hW0]; exact hnS.ints)
              have hsz0 := HF.out.bel.size
              rw [← hsl] at HF ⊢
              have HSL := Lib.hid hsl.symm
              rw [← hsl] at hsl2
              clear hnS hsl
              go_wp2_with fail
              go_loopw [20, 21] (fun v i wr => ∃ (m : Nat) (xv : Value), m ≤ n ∧ i = .int .i64 m ∧ xv = v ∧ OwnInts wr W0.heap.size xv (setTo bl m) ∧ Below W0.heap.size W0 wr) (fun _ i _ => n - (intOf i).toNat)
              case atStart => exact ⟨0, _, Nat.zero_le _, rfl, rfl, OwnInts.nil _ _, by rw [hW0]; exact Below.refl _ _⟩
              case round =>
                obtain ⟨m, vR, hm, rfl, rfl, hoR, hbR⟩ := hrel
                have HOR := Lib.hid hoR; have HBR := Lib.hid hbR
                clear hoR hbR
                by_cases hlt2 : m < n
                · have hmn : (m : Int) < (n : Int) := by omega
                  have hm0 : (0 : Int) ≤ (m : Int) := by omega
                  have hstl := setTo_len bl m
                  go_wp2_with fail
                  refine (rhas_any aS sl cS _ m set _ HSL.out (HSI.out.below HBR.out) (by omega)).mono ?_
                  rintro e w' ⟨rfl, rfl⟩
                  rw [HI.out.has hlt2]
                  cases hbit : bl.getD m false
                  · go_wp2
                    go_roundw
                    case rel => exact ⟨m + 1, _, hlt2, by simp, rfl, by rw [setTo_succ_no hbit]; exact HOR.out, HBR.out⟩
                    case measure => simp [intOf]; omega
                  · obtain ⟨i0, hi, hz0, hz1, hz2⟩ := info_parts info_int
                    have HOW : Hid (∀ w' : World, Keep [] wr w' → OwnInts w' W0.heap.size vR (setTo bl m)) := Lib.hid fun w' hk => HOR.out.keep fun x hx => hk.block x (World.ownsRow.lt HOR.out x hx).2 (by simp)
                    have HGE : Hid (∀ x, vR.ownBlock = some x → W0.heap.size ≤ x) := Lib.hid fun x hx => (World.ownsRow.lt HOR.out x hx).1
                    go_wp2_with (at_builtin; refine wpList_append_own_at _ rfl _ _ 30 rfl W0.heap.size 3 i0 (.int .i64 0) 1 8 Tryd.underlying30 hi hz0 hz1 hz2 rfl (by decide) _ _ _ rfl (HOW.out _ ((Keep.refl _ _).alloc _)) ⟨wr.heap.size, 0, none⟩ 1 1 [.int .i64 (m : Int)] rfl rfl (by intro p u hp; match p, hp with | 0, hp => simp at hp; subst hp; simp [Addr.add]) (by intro u hu; simp at hu; subst hu; rfl) (by unfold maxLen; omega) (by omega) (by have := HBR.out.size; simp; omega) ?_; intro v' w5 hown' hgrow _ _; have hob : OwnInts w5 W0.heap.size v' (setTo bl m ++ [(m : Int)]) := (by unfold OwnInts; simpa [ints] using hown'); have hb5 : Below W0.heap.size W0 w5 := (HBR.out.alloc HBR.out.size _).grown hgrow (by have := HBR.out.size; simp; omega) HGE.out; have HOB := Lib.hid hob; have HB5 := Lib.hid hb5; clear hob hown' hgrow hb5)
                    go_roundw
                    case rel => exact ⟨m + 1, _, hlt2, by simp, rfl, by rw [setTo_succ_yes hbit]; exact HOB.out, HB5.out⟩
                    case measure => simp [intOf]; omega
                · obtain rfl : m = n := by omega
                  have HF2 := Lib.hid (HF.out.below HBR.out)
                  have hstl := setTo_len bl m
                  obtain ⟨rl, hrl⟩ : ∃ rl, rl = (setTo bl m).length := ⟨_, rfl⟩
                  obtain ⟨aR, cR, rfl, hnR, _⟩ := HOR.out.new
                  have HRI := Lib.hid hnR.ints
                  rw [← hrl] at hstl ⊢
                  have HRL := Lib.hid hrl.symm
                  clear hnR hrl
                  go_wp2_with fail
                  refine (bloomSet_any b g bl hh _ HF2.out.f (by omega)).mono ?_
                  rintro e w12 ⟨aQ, cQ, rfl, hnQ, hb12⟩
                  rw [hbl] at hnQ ⊢
                  have HQI := Lib.hid hnQ.ints
                  have HF12 := Lib.hid (HF2.out.below hb12)
                  have HRI12 := Lib.hid (HRI.out.below hb12)
                  rw [HRL.out]
                  clear hnQ hb12
                  go_wp2_with fail
                  refine (ints_same aQ aR rl cQ cR _ _ (setTo bl m) _ HRL.out HQI.out HRI12.out (by unfold maxLen; omega)).mono ?_
                  rintro e w13 ⟨rfl, q13, hw13⟩
                  have HF13 : Hid (FS w w13 b g bl hh (.slice aS sl cS) set) := Lib.hid (by rw [hw13]; exact HF12.out.keep0 ((Keep.refl _ _).drewN _))
                  have HSI13 : Hid (IntsIn w13 w13.heap.size aS set) := Lib.hid (by
                    obtain ⟨a', c', e, hnw, _⟩ := HF13.out.S.new
                    injection e with e1 e2 e3
                    subst e1
                    exact hnw.ints)
                  clear hw13
                  have hw130 := HF13.out.bel.size
                  by_cases hr : 0 ≤ ask ∧ ask ≤ 1000000
                  · obtain ⟨g1, g2⟩ := hr
                    go_wp2_with (go_at_call 7; refine (in_yes _ _ _ _ (by omega) (by omega)).mono ?_; rintro e w' ⟨rfl, rfl⟩)
                    refine (rbits_any ask m hh _ g1 g2 h1 h2 (by omega)).mono ?_
                    rintro e w14 ⟨vB, rfl, hB, hb14⟩
                    obtain ⟨aB, cB, rfl, hnB, _⟩ := hB.new
                    rw [bitsOf_len]
                    have HBI : Hid (IntsIn w14 w14.heap.size aB (bitsOf ask m hh)) := Lib.hid hnB.ints
                    have HF14 := Lib.hid (HF13.out.below hb14)
                    have HSI14 := Lib.hid (HSI13.out.below hb14)
                    clear hB hnB hb14
                    go_wp2_with fail
                    go_loopw [22, 24] (fun v i wr => ∃ q : Nat, q ≤ hh ∧ i = .int .i64 q ∧ v = .bool (hasK ask m bl q) ∧ w14 = wr) (fun _ i _ => hh - (intOf i).toNat)
                    case atStart => exact ⟨0, Nat.zero_le _, rfl, rfl, rfl⟩
                    case round =>
                      obtain ⟨q, hq, rfl, rfl, hwq⟩ := hrel
                      obtain ⟨b0, hb0⟩ : ∃ b0, b0 = hasK ask m bl q := ⟨_, rfl⟩
                      by_cases hltq : q < hh
                      · have hqi : (q : Int) < (hh : Int) := by omega
                        have hq0 : (0 : Int) ≤ (q : Int) := by omega
                        have hqB : q < (bitsOf ask m hh).length := by rw [bitsOf_len]; exact hltq
                        obtain ⟨bB, oB, rfl, _, hcB⟩ := HBI.out.at_ hqB
                        have e1 : (bitsOf ask m hh)[q] = ((hashN ask q m : Nat) : Int) := by simp [bitsOf]
                        rw [e1, hwq] at hcB
                        have hHas : decide (((hashN ask q m : Nat) : Int) ∈ set) = bl.getD (hashN ask q m) false := HI.out.has (hashN_lt ask q m (by omega))
                        have HSU : Hid (hasK ask m bl (q + 1) = (b0 && decide (((hashN ask q m : Nat) : Int) ∈ set))) := Lib.hid (by rw [hHas, hb0]; rfl)
                        rw [← hb0]
                        obtain ⟨hq2, hhq2⟩ : ∃ hq2, hq2 = hashN ask q m := ⟨_, rfl⟩
                        obtain ⟨d0, hd0⟩ : ∃ d0, d0 = decide (((hashN ask q m : Nat) : Int) ∈ set) := ⟨_, rfl⟩
                        have HHA : ∀ wx : World, IntsIn wx w13.heap.size aS set → Calls Tryd.prog 19 #[.slice aS sl cS, .int .i64 ((hashN ask q m : Nat) : Int)] wx fun e w' => e = .returned (.bool d0) ∧ wx = w' := fun wx hx => by rw [hd0]; exact rhas_any aS sl cS _ _ set _ HSL.out hx (by omega)
                        have HHA := Lib.hid HHA
                        rw [← hd0] at HSU
                        rw [← hhq2] at hcB HHA
                        have HSI15 : Hid (IntsIn wr w13.heap.size aS set) := Lib.hid (by rw [← hwq]; exact HSI14.out)
                        have HWQ := Lib.hid hwq
                        clear e1 hHas hd0 hhq2 hb0 hwq
                        cases b0
                        · go_wp2_with (go_at_call 19; refine (HHA.out _ HSI15.out).mono ?_; rintro e w' ⟨rfl, rfl⟩)
                          go_roundw
                          case rel => exact ⟨q + 1, hltq, by simp, by rw [HSU.out]; rfl, HWQ.out⟩
                          case measure => simp [intOf]; omega
                        · go_wp2_with (go_at_call 19; refine (HHA.out _ HSI15.out).mono ?_; rintro e w' ⟨rfl, rfl⟩)
                          go_roundw
                          case rel => exact ⟨q + 1, hltq, by simp, by rw [HSU.out]; simp, HWQ.out⟩
                          case measure => simp [intOf]; omega
                      · obtain rfl : q = hh := by omega
                        have HF15 : Hid (FS w wr b g bl q (.slice aS sl cS) set) := Lib.hid (by rw [← hwq]; exact HF14.out)
                        clear hwq
                        have hbl1 : 1 ≤ (bl.length : Int) := by rw [hbl]; exact h1
                        have hbl2 : (bl.length : Int) ≤ 128 := by rw [hbl]; exact h2
                        have hHP : ∀ wx, FilterAt wx b g bl q → Calls Tryd.prog 22 #[.pointer (some ⟨b, 0, none⟩), .int .i64 ask] wx fun e w' => e = .returned (.tuple #[.bool b0, .nilIface]) ∧ Keep [] wx w' := fun wx hx => by
                          have := bloomHas_yes b g bl q ask wx hx g1 g2 hbl1 hbl2 h4
                          unfold HasPost at this
                          rw [hbl, ← hb0] at this
                          exact this
                        have HHP := Lib.hid hHP
                        rw [← hb0]
                        clear hHP hb0
                        go_wp2_with (first
                          | (go_at_call 8; have hq18 := HF18; refine (eError_n (errv 3) 3 _ (.inr rfl) (HG.out.below HF18.out.bel hw0)).mono ?_; rintro e w19 ⟨rfl, hb19⟩; have HF19 := Lib.hid (HF18.out.below hb19); clear hb19)
                          | (go_at_call 22; refine (HHP.out _ HF15.out.f).mono ?_; rintro e w16 ⟨rfl, hk16⟩; have HF16 := Lib.hid (HF15.out.keep0 hk16); clear hk16)
                          | (go_at_call 23; refine (both_nil b g bl q _ HF17.out.f).mono ?_; rintro e w18 ⟨rfl, hk18⟩; have HF18 := Lib.hid (HF17.out.keep0 hk18); clear hk18)
                          | (go_at_call 8; refine (eError_n .nilIface 0 _ (.inl ⟨rfl, rfl⟩) (HG.out.below HF16.out.bel hw0)).mono ?_; rintro e w17 ⟨rfl, hb17⟩; have HF17 := Lib.hid (HF16.out.below hb17); clear hb17))
                        all_goals
                          go_ret
                          exact ⟨by simp, HF19.out.bel⟩
                  · have hr' : ask < 0 ∨ 1000000 < ask := by omega
                    clear hr
                    go_wp2_with (first
                      | (go_at_call 7; refine (in_no _ _ _ _ (by omega)).mono ?_; rintro e w' ⟨rfl, rfl⟩)
                      | (go_at_call 22; refine (bloomHas_no b ask _ hr').mono ?_; rintro e w' ⟨rfl, rfl⟩)
                      | (go_at_call 8; have hq18 := HF18; refine (eError_n (errv 3) 3 _ (.inr rfl) (HG.out.below HF18.out.bel hw0)).mono ?_; rintro e w19 ⟨rfl, hb19⟩; have HF19 := Lib.hid (HF18.out.below hb19); clear hb19)
                      | (go_at_call 8; refine (eError_n (errv 1) 1 _ (.inr rfl) (HG.out.below HF13.out.bel hw0)).mono ?_; rintro e w17 ⟨rfl, hb17⟩; have HF17 := Lib.hid (HF13.out.below hb17); clear hb17)
                      | (go_at_call 23; refine (both_nil b g bl hh _ HF17.out.f).mono ?_; rintro e w18 ⟨rfl, hk18⟩; have HF18 := Lib.hid (HF17.out.keep0 hk18); clear hk18))
                    go_ret
                    exact ⟨rfl, HF19.out.bel⟩

theorem bloomPlays_walk (x0 x1 : Int) (a2 : Option Addr) (c2 : Nat) (l2 : List Int) (x3 x4 : Int) (w : World) (_ : I64 x0) (_ : I64 x1) (h2 : IntsIn w w.heap.size a2 l2) (_ : ∀ y ∈ l2, I64 y) (hr : Reached l2) (_ : I64 x3) (_ : I64 x4) (hg : Handle w) :
    Calls Tryd.prog 4 #[.int .i64 x0, .int .i64 x1, .slice a2 l2.length c2, .int .i64 x3, .int .i64 x4] w fun e w' => e = .returned (.bool true) ∧ Below w.heap.size w w' := by
  by_cases h : 1 ≤ x0 ∧ x0 ≤ 128 ∧ 1 ≤ x1 ∧ x1 ≤ 4
  · obtain ⟨g1, g2, g3, g4⟩ := h
    obtain ⟨n, rfl⟩ := Int.eq_ofNat_of_zero_le (show 0 ≤ x0 by omega)
    obtain ⟨hh, rfl⟩ := Int.eq_ofNat_of_zero_le (show 0 ≤ x1 by omega)
    exact bloomPlays_yes n hh g1 g2 g3 g4 a2 c2 l2 x3 x4 w h2 (by unfold maxLen; have := hr; unfold Reached reachBytes at this; omega) hg
  · exact bloomPlays_no x0 x1 a2 l2.length c2 x3 x4 w h hg
end Go.Proofs.YtnpokcjdnlmheaaDoor
