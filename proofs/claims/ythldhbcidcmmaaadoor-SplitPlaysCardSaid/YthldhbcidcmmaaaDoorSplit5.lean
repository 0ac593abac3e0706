/-
  split.split, by its contract: the walk.
-/
import Derived.Test.YthldhbcidcmmaaaDoorSplit4
import Derived.Deep.RegionLaw
import Derived.Deep.DeepCutAuto
namespace Go.Proofs.YthldhbcidcmmaaaDoor
open Go.RowKit

theorem ptrs_one (pg : Nat → Nat) (n : Nat) : ∀ u ∈ ptrs pg n, u.oneCell' = true := by
  intro u hu
  unfold ptrs at hu
  obtain ⟨q, _, rfl⟩ := List.mem_map.1 hu
  rfl
theorem cHas_is (k e : Nat) (b : Bool) (w : World) (hk : k ≤ 1000000) (he : e ≤ 30) (hb : decide (k / 2 ^ e % 2 = 1) = b) :
    Calls Tryd.prog 56 #[.int .i64 k, .int .i64 e] w fun e' w' => e' = .returned (.bool b) ∧ w = w' := by
  subst hb; exact cHas_any k e w hk he
theorem KeepP.below {O : Nat → Prop} {w w' w'' : World} (h : KeepP O w w') (hb : Below w'.heap.size w' w'') : KeepP O w w'' := ⟨hb.os.trans h.os, hb.tape.trans h.tape, hb.output.trans h.output, Nat.le_trans h.size hb.size, fun x hx hO => (hb.block x (Nat.lt_of_lt_of_le hx h.size)).trans (h.block x hx hO)⟩

set_option maxHeartbeats 8000000 in
set_option maxRecDepth 100000 in
theorem split_any {O : Nat → Prop} {w : World} {t g cap D : Nat} {pg deep : Nat → Nat} {kv : Nat → Value} {S : List Int} (a : Nat) (h : TAt O w t g cap D pg deep kv S) (hle : ∀ i, deep i ≤ D)
    (hsame : ∀ i j : Nat, ((i : Int) % 2 ^ deep j = (j : Int) % 2 ^ deep j) → deep i = deep j) (hS : ∀ x ∈ S, 0 ≤ x ∧ x ≤ 1000000) (hf : (cls S a (deep a)).length ≤ 3) (he : deep a < 6) :
    Calls Tryd.prog 37 #[.pointer (some ⟨t, 0, none⟩), .pointer (some ⟨pg a, 0, none⟩)] w (SplitPost O w t D a deep S) := by
  have x0 := h.top.cell_ (i := 0) rfl
  have y0 := (h.pgs a).cell_ (i := 0) rfl
  have HLE := Lib.hid hle; have HSA := Lib.hid hsame; have HS := Lib.hid hS
  obtain ⟨i0, hi, hz0, hz1, hz2⟩ := info_parts info_int
  obtain ⟨ip, hip, hzp0, hzp1, hzp2⟩ := info_parts info_ptr
  have hd6 := h.d6
  obtain ⟨e, hee⟩ : ∃ e, e = deep a := ⟨_, rfl⟩
  rw [← hee] at y0 he
  have hed : e ≤ D := by rw [hee]; exact hle a
  obtain ⟨p, hpp⟩ : ∃ p, p = pg a := ⟨_, rfl⟩
  rw [← hpp] at y0 ⊢
  have HE := Lib.hid hee; have HPP := Lib.hid hpp; have HF := Lib.hid hf
  have hpt : ¬ p = t := fun e2 => h.tp a (by rw [← hpp, e2])
  have hd : TAt O w.drew t g cap D pg deep kv S := h.keep0 ((Keep.refl _ _).drew)
  have hkd : KeepP O w w.drew := ((Keep.refl [] w).drew).toP (by simp)
  have HD := Lib.hid hd; have HKD := Lib.hid hkd
  clear h hle hsame hS hpp hee hf hd hkd
  go_enter Tryd.func37, Tryd.ntmps37
  go_wp2
  go_still_tail 8, (by kernel_rfl)
  go_upto_if 18 with fail
  have hd := HD.out
  have hkd := HKD.out
  clear HD HKD x0 y0
  generalize w.drew = wd at hd hkd ⊢
  go_cut [4] (fun s4 wx => s4 = undef ∧ ∃ g1 cap1, TAt O wx t g1 cap1 (if deep a = D then D + 1 else D) pg deep kv S ∧ KeepP O w wx)
  case first =>
    have x0 := hd.top.cell_ (i := 0) rfl
    have x1 := hd.top.cell_ (i := 1) rfl
    have f0 := hd.top.free 0
    have f1 := hd.top.free 1
    have hown := hd.own
    have hp := hd.pow
    by_cases hD : e = D
    · have hdd : (((e : Nat) : Int) == ((D : Nat) : Int)) = true := by rw [hD]; simp
      have HDD : Hid (e = D) := Lib.hid hD
      clear hD
      have HGW := Lib.hid (fun w1 g1 cap1 => hd.grow (w1 := w1) (g1 := g1) (cap1 := cap1) HLE.out (by have := HDD.out; omega))
      obtain ⟨n, hn⟩ : ∃ n, n = 2 ^ D := ⟨_, rfl⟩
      rw [← hn] at x1 hown hp HGW
      have hn1 : 1 ≤ n := (by rw [hn]; exact Nat.pow_pos (by decide))
      have HN := Lib.hid hn
      have HOWN := Lib.hid hown
      have HNEWS : Hid (∀ (j : Nat) (u : Value), (ptrs pg n)[j]? = some u → wd.drew.cell? ((⟨g, 0, none⟩ : Addr).add j) = some u) := Lib.hid (World.ownsRow.cells hown (g := g) rfl)
      have HK := Lib.hid hkd; have HT := Lib.hid hd
      have HTG := Lib.hid hd.tg
      clear hown hn hkd hd
      go_wp2
      go_region_law ((refine step_append_lies _ (by rfl) _ _ 63 (by rfl) 0 60 ip (.pointer none) 1 8 Tryd.underlying63 hip hzp0 hzp1 hzp2 rfl (by decide) _ n (ptrs pg n) (by rfl) HOWN.out ⟨g, 0, none⟩ n cap (ptrs pg n) (by rfl) (by rw [ptrs_len]; omega) HNEWS.out (ptrs_one pg n) (by omega) (by unfold maxLen; omega) (by omega) (Nat.zero_le _) wd.heap.size (by rfl) ?_; intro g1 cap1 w1 hown1 hgrow1 hg1 hlt1; have hbt := HT.out.top.drew.grown (w' := w1) hgrow1 (fun hh => HTG.out (by simpa [Value.ownBlock] using hh)); have z0 := hbt.cell_ (i := 0) rfl; have z1 := hbt.cell_ (i := 1) rfl; have q0 := hbt.free 0; have q1 := hbt.free 1; have HG1 := Lib.hid (HGW.out w1 g1 cap1 hown1 hgrow1 hg1); clear hown1 hgrow1 hg1 hlt1 hbt))
      all_goals
        go_wp2
        go_meet
        exact ⟨rfl, g1, cap1, by rw [← HE.out, if_pos HDD.out]; exact HG1.out.1, HK.out.trans HG1.out.2⟩
    · have hdd : (((e : Nat) : Int) == ((D : Nat) : Int)) = false := beq_eq_false_iff_ne.2 (by omega)
      have HDD : Hid (e ≠ D) := Lib.hid hD
      have HK := Lib.hid hkd; have HT := Lib.hid hd
      clear hown hkd hd hD
      go_wp2
      go_meet
      exact ⟨rfl, g, cap, by rw [← HE.out, if_neg HDD.out]; exact HT.out, HK.out⟩
  case rest =>
    obtain ⟨rfl, g1, cap1, hT, hK⟩ := hcut
    clear hd hkd
    obtain ⟨D1, hD1⟩ : ∃ D1, D1 = if deep a = D then D + 1 else D := ⟨_, rfl⟩
    rw [← hD1] at hT
    have hle1 : ∀ i, deep i ≤ D1 := fun i => by have := HLE.out i; rw [hD1]; split <;> omega
    have hleS : ∀ i, splitAt deep a (deep a) i ≤ D1 := fun i => by
      have h1 := HLE.out i
      have h2 := HLE.out a
      unfold splitAt
      rw [hD1]
      split <;> split <;> omega
    have HD1 := Lib.hid hD1; have HT := Lib.hid hT; have HK := Lib.hid hK; have HLE1 := Lib.hid hle1; have HLES := Lib.hid hleS
    have y0 := (hT.pgs a).cell_ (i := 0) rfl
    have y1 := (hT.pgs a).cell_ (i := 1) rfl
    obtain ⟨ak, ck, hkv, hin⟩ := (hT.key a).shape
    rw [hkv] at y1
    obtain ⟨L, hL⟩ : ∃ L, L = cls S a (deep a) := ⟨_, rfl⟩
    rw [← hL] at hin y1
    have hf := HF.out
    rw [← hL] at hf
    obtain ⟨m, hm⟩ : ∃ m, m = L.length := ⟨_, rfl⟩
    rw [← hm] at hf y1
    have HL := Lib.hid hL; have HM := Lib.hid hm.symm; have HIN := Lib.hid hin
    rw [← HE.out] at y0
    rw [← HPP.out] at y0 y1
    have hLb : ∀ x ∈ L, 0 ≤ x ∧ x ≤ 1000000 := fun x hx => by rw [hL, mem_cls] at hx; exact HS.out x hx.1
    have HLB := Lib.hid hLb
    have hpl : p < wc.heap.size := by rw [HPP.out]; exact (hT.pgs a).lt
    have htl : t < wc.heap.size := hT.top.lt
    have x1 := hT.top.cell_ (i := 1) rfl
    have X1 := Lib.hid x1
    have Y0 := Lib.hid y0
    clear hD1 hT hK hle1 hleS hkv hin hL hm hLb x1
    obtain ⟨hb, hhb⟩ : ∃ hb, hb = wc.heap.size := ⟨_, rfl⟩
    obtain ⟨rb, hrb⟩ : ∃ rb, rb = wc.heap.size + 1 := ⟨_, rfl⟩
    have hst : SpAt wc ((wc.alloc (.cells #[.int .i64 ((e : Int) + 1), .slice none 0 0] 62)).alloc (.cells #[.int .i64 ((e : Int) + 1), .slice none 0 0] 62)) hb rb e (.slice none 0 0) (.slice none 0 0) [] := by
      have b1 := (Blk.new wc 62 [.int .i64 ((e : Int) + 1), .slice none 0 0]).alloc (.cells #[.int .i64 ((e : Int) + 1), .slice none 0 0] 62)
      have b2 := Blk.new (wc.alloc (.cells #[.int .i64 ((e : Int) + 1), .slice none 0 0] 62)) 62 [.int .i64 ((e : Int) + 1), .slice none 0 0]
      rw [World.size_alloc] at b2
      rw [hhb, hrb]
      exact { half := b1, rest := b2, hk := OwnInts.nil _ _, rk := OwnInts.nil _ _, sep := fun x hx => by simp [Value.ownBlock] at hx, ne := by omega, lo := by omega, bel := ((Below.refl _ wc).alloc (Nat.le_refl _) _).alloc (by simp) _ }
    have HST := Lib.hid hst
    have HHB := Lib.hid hhb; have HRB := Lib.hid hrb
    clear hst hhb hrb
    go_wp2
    rw [← HRB.out, ← HHB.out]
    go_loopw [7, 8, 57] (fun _ _ i wr => Sp1Rel wc hb rb e L i wr) (fun _ _ i _ => m - (intOf i).toNat)
    case atStart => exact ⟨0, _, _, by omega, rfl, by simpa using HST.out⟩
    case round =>
      obtain ⟨j, vh, vr, hj, rfl, hsp⟩ := hrel
      have HSP := Lib.hid hsp
      have hbs := hsp.bel.size
      have hy0 := (hsp.bel.cell (p := ⟨p, 0, none⟩) hpl).trans Y0.out
      have c1 := hsp.half.cell_ (i := 1) rfl
      have c2 := hsp.rest.cell_ (i := 1) rfl
      clear hsp y0 y1
      by_cases hlt : j < m
      · have hjl : j < L.length := by rw [HM.out]; exact hlt
        obtain ⟨bk, off, rfl, hbk, hcx⟩ := HIN.out.at_ hjl
        have hcw := (HSP.out.bel.cell (p := ⟨bk, off + j, none⟩) hbk).trans hcx
        have HTS := Lib.hid (List.take_succ_eq_append_getElem hjl)
        have hxb := HLB.out _ (List.getElem_mem hjl)
        obtain ⟨x, hx⟩ : ∃ x, x = L[j] := ⟨_, rfl⟩
        rw [← hx] at hcw hxb HTS
        obtain ⟨k, rfl⟩ := Int.eq_ofNat_of_zero_le hxb.1
        have hk6 : k ≤ 1000000 := by omega
        have hji : (j : Int) < (m : Int) := by omega
        have hj0 : (0 : Int) ≤ (j : Int) := by omega
        have hFl : ∀ b : Bool, ((L.take j).filter fun x => bitN e x == b).length ≤ 3 := fun b => by
          have h1 := List.length_filter_le (fun x => bitN e x == b) (L.take j)
          rw [List.length_take] at h1
          have := HM.out
          omega
        have hF1 := hFl true
        have hF2 := hFl false
        clear hcx hx hFl
        by_cases hbit : k / 2 ^ e % 2 = 1
        · have HBIT : Hid (decide (k / 2 ^ e % 2 = 1) = true) := Lib.hid (by simpa using hbit)
          have HBN : Hid (bitN e (k : Int) = true) := Lib.hid (by rw [bitN_nat]; simpa using hbit)
          clear hbit
          go_wp2_with (first
            | (go_at_call 56; refine (cHas_is k e true _ hk6 (by omega) HBIT.out).mono ?_; rintro e' w' ⟨rfl, rfl⟩)
            | (at_builtin; refine wpList_append_own_at _ rfl _ _ 22 rfl wc.heap.size 3 i0 (.int .i64 0) 1 8 Tryd.underlying22 hi hz0 hz1 hz2 rfl (by decide) _ _ _ rfl (HSP.out.hk.alloc _) ⟨wr.heap.size, 0, none⟩ 1 1 [.int .i64 k] rfl rfl (cell_one_new _ _ _) (by intro u hu; simp at hu; subst hu; rfl) (by unfold maxLen; omega) (by omega) (by simp; omega) ?_; intro v' w2 hown' hgrow _ hat; have ho : OwnInts w2 wc.heap.size v' (((L.take j).filter fun x => bitN e x == true) ++ [(k : Int)]) := (by unfold OwnInts; simpa [ints] using hown'); obtain ⟨a', c', hv', _⟩ := ho.shape; generalize (((L.take j).filter fun x => bitN e x == true) ++ [(k : Int)]).length = ln at hv'; subst hv'; have hb2 := HSP.out.blkH hgrow; have d1 := hb2.cell_ (i := 1) rfl; have d2 := hb2.free 1; have HNX := Lib.hid (HSP.out.putH HBN.out ho hgrow hat); clear hown' hgrow hat hb2 ho))
          go_roundw
          case rel => exact ⟨j + 1, _, vr, hjl, by simp, by rw [HTS.out]; exact HNX.out⟩
          case measure => simp [intOf]; omega
        · have HBIT : Hid (decide (k / 2 ^ e % 2 = 1) = false) := Lib.hid (by simpa using hbit)
          have HBN : Hid (bitN e (k : Int) = false) := Lib.hid (by rw [bitN_nat]; simpa using hbit)
          clear hbit
          go_wp2_with (first
            | (go_at_call 56; refine (cHas_is k e false _ hk6 (by omega) HBIT.out).mono ?_; rintro e' w' ⟨rfl, rfl⟩)
            | (at_builtin; refine wpList_append_own_at _ rfl _ _ 22 rfl wc.heap.size 3 i0 (.int .i64 0) 1 8 Tryd.underlying22 hi hz0 hz1 hz2 rfl (by decide) _ _ _ rfl (HSP.out.rk.alloc _) ⟨wr.heap.size, 0, none⟩ 1 1 [.int .i64 k] rfl rfl (cell_one_new _ _ _) (by intro u hu; simp at hu; subst hu; rfl) (by unfold maxLen; omega) (by omega) (by simp; omega) ?_; intro v' w2 hown' hgrow _ hat; have ho : OwnInts w2 wc.heap.size v' (((L.take j).filter fun x => bitN e x == false) ++ [(k : Int)]) := (by unfold OwnInts; simpa [ints] using hown'); obtain ⟨a', c', hv', _⟩ := ho.shape; generalize (((L.take j).filter fun x => bitN e x == false) ++ [(k : Int)]).length = ln at hv'; subst hv'; have hb2 := HSP.out.blkR hgrow; have d1 := hb2.cell_ (i := 1) rfl; have d2 := hb2.free 1; have HNX := Lib.hid (HSP.out.putR HBN.out ho hgrow hat); clear hown' hgrow hat hb2 ho))
          go_roundw
          case rel => exact ⟨j + 1, vh, _, hjl, by simp, by rw [HTS.out]; exact HNX.out⟩
          case measure => simp [intOf]; omega
      · obtain rfl : j = m := by have := HM.out; omega
        have hall : L.take j = L := List.take_of_length_le (by rw [HM.out]; exact Nat.le_refl _)
        have HSQ : Hid (SpAt wc wr hb rb e vh vr L) := Lib.hid (by rw [← hall]; exact HSP.out)
        clear hall c1 c2
        obtain ⟨w5, rfl⟩ : ∃ w5, w5 = wr := ⟨_, rfl⟩
        obtain ⟨n, hn⟩ : ∃ n, n = 2 ^ D1 := ⟨_, rfl⟩
        have hx1 := (HSQ.out.bel.cell (p := ⟨t, 1, none⟩) htl).trans X1.out
        rw [← hn] at hx1
        have hn64 : n ≤ 64 := by rw [hn]; exact HT.out.pow
        have harr : ∃ rest, Blk w5 g1 60 (ptrs pg n ++ rest) ∧ (ptrs pg n ++ rest).length = cap1 := by
          rw [hn]
          obtain ⟨rest, h1, h2⟩ := HT.out.arr
          exact ⟨rest, h1.below HSQ.out.bel h1.lt, h2⟩
        have HARR := Lib.hid harr; have HN := Lib.hid hn
        have htg := HT.out.tg
        have hpg := HT.out.pgg a
        rw [← HPP.out] at hpg
        have HX1 := Lib.hid hx1; have HY0 := Lib.hid hy0
        obtain ⟨pg', hpg'⟩ : ∃ pg', pg' = splitTo pg a e hb rb := ⟨_, rfl⟩
        have HPG := Lib.hid hpg'
        have hpb : Blk w5 p 62 [.int .i64 e, kv a] := by rw [HPP.out, HE.out]; exact (HT.out.pgs a).below HSQ.out.bel (HT.out.pgs a).lt
        have HPB := Lib.hid hpb
        clear harr hn hpg' hpb
        go_wp2
        go_loopw [9, 85] (fun _ i wr => Sp2Rel w5 g1 cap1 n pg pg' i wr) (fun _ i _ => n - (intOf i).toNat)
        case atStart =>
          obtain ⟨rest, h1, h2⟩ := HARR.out
          exact ⟨0, by omega, rfl, Keep.refl _ _, rest, by rw [ptrsTo_zero]; exact h1, by rw [ptrsTo_zero]; exact h2⟩
        case round =>
          obtain ⟨i, hi2, rfl, hkr, rest, hblk, hlen⟩ := hrel
          have HKR := Lib.hid hkr; have HBLK := Lib.hid hblk; have HLEN := Lib.hid hlen
          have hz1 := (hkr.cell (p := ⟨t, 1, none⟩) (Nat.lt_of_lt_of_le htl hbs) (by simp; exact htg)).trans HX1.out
          have hz0 := (hkr.cell (p := ⟨p, 0, none⟩) (Nat.lt_of_lt_of_le hpl hbs) (by simp; exact hpg)).trans HY0.out
          clear hkr hblk hlen hx1 hy0
          by_cases hlt2 : i < n
          · have hii : (i : Int) < (n : Int) := by omega
            have hi0 : (0 : Int) ≤ (i : Int) := by omega
            have hgi : ¬ g1 = t := fun h => htg h.symm
            have hgp : ¬ g1 = p := fun h => hpg h.symm
            have hci : wr.cell? ⟨g1, i, none⟩ = some (.pointer (some ⟨pg i, 0, none⟩)) := by
              refine HBLK.out.cell_ ?_
              unfold ptrsTo
              rw [List.getElem?_append_left (by rw [ptrs_len]; exact hlt2), ptrs_get _ hlt2, if_neg (Nat.lt_irrefl _)]
            have hfi := HBLK.out.free i
            have hil : i < (ptrsTo pg pg' i n).length := by unfold ptrsTo; rw [ptrs_len]; exact hlt2
            have HIL := Lib.hid hil
            by_cases hin : (i : Int) % 2 ^ e = (a : Int) % 2 ^ e
            · have hpi : pg i = p := by rw [HPP.out, HT.out.one, ← HE.out]; exact hin
              rw [hpi] at hci
              have hne := neq_same wr ⟨p, 0, none⟩
              have HHIN := Lib.hid hin; have HPI := Lib.hid hpi
              clear hin hpi hil
              by_cases hbit : i / 2 ^ e % 2 = 1
              · have HBIT : Hid (decide (i / 2 ^ e % 2 = 1) = true) := Lib.hid (by simpa using hbit)
                have HPX : Hid (pg' i = hb) := Lib.hid (by rw [HPG.out]; exact splitTo_half HHIN.out hbit)
                clear hbit
                go_wp2_with (go_at_call 56; refine (cHas_is i e true _ (by omega) (by omega) HBIT.out).mono ?_; rintro e' w' ⟨rfl, rfl⟩)
                go_roundw
                case rel =>
                  refine ⟨i + 1, hlt2, by simp, (HKR.out.set (p := ⟨g1, i, none⟩) (fun _ => by simp) _).set (p := ⟨g1, i, none⟩) (fun _ => by simp) _, rest, ?_, ?_⟩
                  · have h9 := (HBLK.out.set i (.pointer (some ⟨rb, 0, none⟩))).set i (.pointer (some ⟨hb, 0, none⟩))
                    rw [List.set_set, List.set_append_left _ _ HIL.out, ← HPX.out, ptrsTo_set hlt2] at h9
                    rw [← HPX.out]
                    exact h9
                  · have := HLEN.out; unfold ptrsTo at this ⊢; rw [List.length_append, ptrs_len] at this ⊢; exact this
                case measure => simp [intOf]; omega
              · have HBIT : Hid (decide (i / 2 ^ e % 2 = 1) = false) := Lib.hid (by simpa using hbit)
                have HPX : Hid (pg' i = rb) := Lib.hid (by rw [HPG.out]; exact splitTo_rest HHIN.out hbit)
                clear hbit
                go_wp2_with (go_at_call 56; refine (cHas_is i e false _ (by omega) (by omega) HBIT.out).mono ?_; rintro e' w' ⟨rfl, rfl⟩)
                go_roundw
                case rel =>
                  refine ⟨i + 1, hlt2, by simp, HKR.out.set (p := ⟨g1, i, none⟩) (fun _ => by simp) _, rest, ?_, ?_⟩
                  · have h9 := HBLK.out.set i (.pointer (some ⟨rb, 0, none⟩))
                    rw [List.set_append_left _ _ HIL.out, ← HPX.out, ptrsTo_set hlt2] at h9
                    rw [← HPX.out]
                    exact h9
                  · have := HLEN.out; unfold ptrsTo at this ⊢; rw [List.length_append, ptrs_len] at this ⊢; exact this
                case measure => simp [intOf]; omega
            · have hpi : pg i ≠ p := fun h => hin (by rw [HPP.out, HT.out.one, ← HE.out] at h; exact h)
              have hbi : Blk wr (pg i) 62 [.int .i64 (deep i), kv i] := ((HT.out.pgs i).below HSQ.out.bel (HT.out.pgs i).lt).keep HKR.out (by simp; exact HT.out.pgg i)
              have hne := neq_other wr hbi (HPB.out.keep HKR.out (by simp; exact hpg)) hpi
              have HPX : Hid (pg' i = pg i) := Lib.hid (by rw [HPG.out]; exact splitTo_old hin)
              obtain ⟨q, hq⟩ : ∃ q, q = pg i := ⟨_, rfl⟩
              rw [← hq] at hci hne HPX
              have HQ := Lib.hid hq
              clear hin hpi hbi hq hil
              go_wp2
              go_roundw
              case rel =>
                refine ⟨i + 1, hlt2, by simp, HKR.out, rest, ?_, ?_⟩
                · rw [← ptrsTo_old hlt2 (by rw [HPX.out, HQ.out])]; exact HBLK.out
                · rw [← ptrsTo_old hlt2 (by rw [HPX.out, HQ.out])]; exact HLEN.out
              case measure => simp [intOf]; omega
          · obtain rfl : i = n := by omega
            have hfin : TAt O wr t g1 cap1 D1 pg' (splitAt deep a (deep a)) (splitTo kv a (deep a) vh vr) S := by
              have hsq := HSQ.out
              rw [HL.out, HE.out] at hsq
              have h1 := HBLK.out; have h2 := HLEN.out
              rw [ptrsTo_all] at h1 h2
              rw [HPG.out, HE.out] at h1 h2 ⊢
              rw [HN.out] at h1 h2
              exact HT.out.splitted HSA.out (fun x hx => (HS.out x hx).1) hsq HKR.out ⟨rest, h1, h2⟩
            have hkp : KeepP O w wr := (HK.out.below HSQ.out.bel).trans (HKR.out.toP (fun x hx => by simp at hx; rw [hx]; exact HT.out.og))
            have HFIN := Lib.hid hfin; have HKP := Lib.hid hkp
            clear hfin hkp
            go_wp2
            go_end0
            exact ⟨rfl, g1, cap1, pg', _, by rw [← HD1.out]; exact HFIN.out, HKP.out⟩
end Go.Proofs.YthldhbcidcmmaaaDoor
