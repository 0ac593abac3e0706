/-
  book.keys, by its contract.
-/
import Derived.Test.YticckfioggeaeaaGreatDoorBookKeys
import Derived.StillTailTactics
import Derived.Deep.DeepCutAuto
namespace Go.Proofs.YticckfioggeaeaaGreatDoor
open Go.RowKit

theorem own_front {w : World} {base : Nat} {v : Value} {l : List Int} (h : OwnInts w base v l) (hp : 0 < l.length) : ∃ g cap rest, v = .slice (some ⟨g, 0, none⟩) l.length cap ∧ base ≤ g ∧ Blk w g 3 (ints l ++ rest) ∧ (ints l ++ rest).length = cap ∧ cap ≤ maxLen := by
  obtain ⟨hl, ⟨rfl, hn⟩ | ⟨g, cap, cur, rfl, hb, hh, hc, hm, hs, ht⟩⟩ := h
  · omega
  · refine ⟨g, cap, cur.toList.drop (l.length * 1), rfl, hb, ?_, ?_, hm⟩
    · unfold Blk
      rw [← ht, List.take_append_drop]; simpa using hh
    · rw [← ht, List.take_append_drop]; simpa using hs
theorem own_low {w : World} {b b' : Nat} {v : Value} {xs : List Int} (h : OwnInts w b v xs) (hb : b' ≤ b) : OwnInts w b' v xs := by
  obtain ⟨hl, h2⟩ := h
  refine ⟨hl, ?_⟩
  rcases h2 with h2 | ⟨g, cap, cur, e, hg, r⟩
  · exact .inl h2
  · exact .inr ⟨g, cap, cur, e, Nat.le_trans hb hg, r⟩
theorem own_back {w : World} {base g cap : Nat} {l : List Int} {rest : List Value} (hb : base ≤ g) (h : Blk w g 3 (ints l ++ rest)) (hc : (ints l ++ rest).length = cap) (hm : cap ≤ maxLen) : OwnInts w base (.slice (some ⟨g, 0, none⟩) l.length cap) l := by
  refine ⟨by simp [ints], .inr ⟨g, cap, (ints l ++ rest).toArray, rfl, hb, h, ?_, hm, ?_, ?_⟩⟩
  · rw [← hc, List.length_append, ints_len]; omega
  · simpa using hc
  · rw [Nat.mul_one]
    simp [ints]
set_option maxHeartbeats 1000000 in
set_option maxRecDepth 100000 in
theorem sort_empty (a : Option Addr) (c : Nat) (ad : Addr) (w : World) :
    Calls Tryz.prog 63 #[.slice a 0 c, .func (.func 64) #[] #[.pointer (some ad)]] w fun e w' => e = .returned (.tuple #[]) ∧ w = w' := by
  have h3 : ∀ w : World, Calls Tryz.prog 108 #[.slice a 0 c, .int .i64 0, .int .i64 0, .func (.func 64) #[] #[.pointer (some ad)]] w fun e w' => e = .returned (.tuple #[]) ∧ w = w' := by
    intro w
    go_enter Tryz.func108, Tryz.ntmps108
    go_wp2
    go_loopw [8, 9] (fun i _ wr => i = .int .i64 1 ∧ w = wr) (fun _ _ _ => 0)
    case atStart => exact ⟨rfl, rfl⟩
    case round =>
      obtain ⟨rfl, rfl⟩ := hrel
      go_wp2
      go_end0
      exact ⟨rfl, rfl⟩
  have H3 := Lib.hid h3; clear h3
  have h2 : ∀ (lim : Int) (w : World), Calls Tryz.prog 92 #[.slice a 0 c, .int .i64 0, .int .i64 0, .int .i64 lim, .func (.func 64) #[] #[.pointer (some ad)]] w fun e w' => e = .returned (.tuple #[]) ∧ w = w' := by
    intro lim w
    go_enter Tryz.func92, Tryz.ntmps92
    go_wp2
    refine wp_loop_rounds 1 ?_
    rw [rounds_succ]
    go_wp2_with fail
    refine (H3.out _).mono ?_
    rintro e w2 ⟨rfl, rfl⟩
    go_wp2
    first
      | (refine bodyPost_ret (results_none _ _ _ _) rfl ?_; exact ⟨rfl, rfl⟩)
      | (refine bodyPost_ret (v := .tuple #[]) (by simp [results, go_sem]) rfl ?_; exact ⟨rfl, rfl⟩)
  have H2 := Lib.hid h2; clear h2
  go_enter Tryz.func63, Tryz.ntmps63
  go_wp2_with fail
  refine (len_some 0 _ (by omega)).mono ?_
  rintro e w' ⟨⟨v, rfl⟩, rfl⟩
  go_wp2_with fail
  refine (H2.out v _).mono ?_
  rintro e w2 ⟨rfl, rfl⟩
  go_wp2
  go_end0
  exact ⟨rfl, rfl⟩


/-- How a store's map lies. -/
structure EntAt (w : World) (b gm : Nat) (E : List Ent) : Prop where
  at_ : w.cell? ⟨b, 1, none⟩ = some (.map (some gm))
  map : MapAt w gm E
  srt : E.Pairwise fun p q => q.2.2 < p.2.2
  n8 : E.length ≤ 8
theorem EntAt.lt {w : World} {b gm : Nat} {E : List Ent} (h : EntAt w b gm E) : b < w.heap.size ∧ gm < w.heap.size := ⟨World.block_lt_of_cell? w _ h.at_, h.map.lt⟩
theorem EntAt.keep {w w' : World} {b gm : Nat} {E : List Ent} (h : EntAt w b gm E) (hb : w'.heap[b]? = w.heap[b]?) (hg : w'.heap[gm]? = w.heap[gm]?) : EntAt w' b gm E :=
  { h with at_ := (World.cell?_of_block (w := w) hb).trans h.at_, map := h.map.keep hg }

/-- What the loop has taken. -/
structure KR (w wr : World) (bx b g r : Nat) (M left taken : List Ent) (v : Value) : Prop where
  rng : RangeAt wr g r M left
  prm : (taken ++ left).Perm M
  own : OwnInts wr (r + 1) v (taken.map (·.1))
  cmp : CmpAt wr bx b g M
  bel : Below w.heap.size w wr
  bx0 : w.heap.size ≤ bx
  bxr : bx < r
  lb : b < w.heap.size
  lg : g < w.heap.size
section
variable {w wr w1 w4 : World} {bx b g r : Nat} {M left left' taken : List Ent} {v v' : Value} {x : Ent}
theorem KR.own1 (h : KR w wr bx b g r M left taken v) (hg : wr.grownBy w1 (some r)) (o : Obj) : OwnInts (w1.alloc o) (r + 1) v (taken.map (·.1)) :=
  h.own.keep fun y hy => by
    have hl := World.ownsRow.lt h.own y hy
    exact (Below.heap_alloc w1 o y (Nat.lt_of_lt_of_le hl.2 hg.size)).trans (hg.block y hl.2 (by intro e; injection e with e; omega))
theorem KR.step (h : KR w wr bx b g r M left taken v) (hp : left.Perm (x :: left')) (hr : RangeAt w1 g r M left') (hg : wr.grownBy w1 (some r)) {o : Obj} (ho : OwnInts w4 (r + 1) v' (taken.map (·.1) ++ [x.1])) (hg4 : (w1.alloc o).grownBy w4 v.ownBlock) : KR w w4 bx b g r M left' (taken ++ [x]) v' := by
  have hv : ∀ y, v.ownBlock = some y → r + 1 ≤ y := fun y hy => (World.ownsRow.lt h.own y hy).1
  have hrl := h.rng.lt
  have hk4 : ∀ y, y ≤ r → w4.heap[y]? = w1.heap[y]? := fun y hy => by
    have hlt : y < w1.heap.size := by have := hg.size; omega
    exact (hg4.block y (by simp; omega) (fun e => by have := hv y e.symm; omega)).trans (Below.heap_alloc w1 o y hlt)
  have hk1 : ∀ y, y < r → w1.heap[y]? = wr.heap[y]? := fun y hy => hg.block y (by omega) (by intro e; injection e with e; omega)
  have hbxr := h.bxr; have hbx0 := h.bx0; have hlb := h.lb; have hlg := h.lg
  have hb1 : Below w.heap.size wr w1 := (Below.refl w.heap.size wr).grown hg h.bel.size (by intro k e; injection e with e; omega)
  have hb4 : Below w.heap.size wr w4 := (hb1.alloc (Nat.le_trans h.bel.size hg.size) o).grown hg4 (by have := h.bel.size; have := hg.size; simp; omega) (fun k e => by have := hv k e; omega)
  refine ⟨hr.keep (hk4 g (by omega)) (hk4 r (Nat.le_refl _)), taken_step h.prm hp, by rw [List.map_append]; exact ho, ?_, h.bel.trans hb4, hbx0, hbxr, hlb, hlg⟩
  exact ⟨(World.cell?_of_block (w := wr) ((hk4 bx (by omega)).trans (hk1 bx (by omega)))).trans h.cmp.box, (World.cell?_of_block (w := wr) ((hk4 b (by omega)).trans (hk1 b (by omega)))).trans h.cmp.at_, h.cmp.map.keep ((hk4 g (by omega)).trans (hk1 g (by omega)))⟩
theorem KR.start {t : TypeId} {E : List Ent} (h : EntAt w b g E) (hr : RangeAt w1 g (w.alloc (.cells #[.pointer (some ⟨b, 0, none⟩)] t)).heap.size E E) (hg : (w.alloc (.cells #[.pointer (some ⟨b, 0, none⟩)] t)).grownBy w1 none) : KR w w1 w.heap.size b g (w.heap.size + 1) E E [] (.slice none 0 0) := by
  obtain ⟨h1, h2⟩ := h.lt
  rw [World.size_alloc] at hr
  have hk : ∀ y, y < w.heap.size + 1 → w1.heap[y]? = (w.alloc (.cells #[.pointer (some ⟨b, 0, none⟩)] t)).heap[y]? := fun y hy => hg.block y (by simpa using hy) (by simp)
  have hk0 : ∀ y, y < w.heap.size → w1.heap[y]? = w.heap[y]? := fun y hy => (hk y (by omega)).trans (Below.heap_alloc w _ y hy)
  refine ⟨hr, by simp, OwnInts.nil _ _, ⟨?_, (World.cell?_of_block (w := w) (hk0 b h1)).trans h.at_, h.map.keep (hk0 g h2)⟩, ((Below.refl _ w).alloc (Nat.le_refl _) _).grown hg (by simp) (by simp), Nat.le_refl _, by omega, h1, h2⟩
  exact (World.cell?_of_block (w := w.alloc (.cells #[.pointer (some ⟨b, 0, none⟩)] t)) (hk w.heap.size (by omega))).trans (by simp)
theorem KR.len (h : KR w wr bx b g r M left taken v) : taken.length + left.length = M.length := by have := h.prm.length_eq; simpa using this
end

def KeysPost (w : World) (E : List Ent) (e : Ending) (w' : World) : Prop := ∃ v, e = .returned v ∧ OwnInts w' w.heap.size v (E.map (·.1)) ∧ Below w.heap.size w w'
def KLoop (w : World) (bx b g r : Nat) (M : List Ent) (n : Nat) (v : Value) (wr : World) : Prop := ∃ left taken, left.length = n ∧ KR w wr bx b g r M left taken v

set_option maxHeartbeats 2000000 in
set_option maxRecDepth 100000 in
theorem keys_any (b gm : Nat) (E : List Ent) (w : World) (h : EntAt w b gm E) :
    Calls Tryz.prog 36 #[.pointer (some ⟨b, 0, none⟩)] w (KeysPost w E) := by
  obtain ⟨i0, hi, hz0, hz1, hz2⟩ := info_parts info_int
  have H := Lib.hid h
  obtain ⟨hlb, hlg⟩ := h.lt
  have hat := h.at_
  have HM0 : Hid (∀ o : Obj, MapAt (w.alloc o) gm E) := Lib.hid fun o => H.out.map.keep (Below.heap_alloc w o gm hlg)
  clear h
  go_enter Tryz.func36, Tryz.ntmps36
  go_wp2_with (at_range; refine wpList_range_map rfl (.tmp 8) rfl gm E rfl (HM0.out _) ?_; intro w1 hr1 hg1 hs1; have HKR := Lib.hid (KR.start H.out hr1 hg1); clear hr1 hg1 hs1; rw [World.size_alloc])
  go_frame
  go_loopg [3, 4] E.length (fun n v _ wr => KLoop w w.heap.size b gm (w.heap.size + 1) E n v wr)
  case atStart => exact ⟨E, [], rfl, HKR.out⟩
  case round =>
    clear HKR
    obtain ⟨left, taken, hlen, hkr⟩ := hrel
    have HK := Lib.hid hkr; have HL := Lib.hid hlen
    clear hkr hlen
    have hle := HK.out.len
    have h8 := H.out.n8
    obtain ⟨ta, tc, hv, _⟩ := HK.out.own.shape
    rw [List.length_map] at hv
    obtain ⟨m, hm⟩ : ∃ m, m = taken.length := ⟨_, rfl⟩
    rw [← hm] at hv
    have HM := Lib.hid hm; have HV := Lib.hid hv
    clear hm hv
    have hmv : OwnInts wr (w.heap.size + 1 + 1) (.slice ta m tc) (taken.map (·.1)) := by rw [← HV.out]; exact HK.out.own
    have HOWN := Lib.hid hmv
    clear hmv
    have hsz := HK.out.bel.size
    have hm8 : m ≤ 8 := by have := HM.out; omega
    have ht8 : (taken.map (·.1)).length ≤ 8 := by rw [List.length_map]; omega
    have HO1 : Hid (∀ (w1 : World) (o : Obj), wr.grownBy w1 (some (w.heap.size + 1)) → (w1.alloc o).ownsRow (w.heap.size + 1 + 1) 3 1 (.slice ta m tc) (taken.map (·.1)).length (ints (taken.map (·.1)))) := Lib.hid fun w1 o hg => by rw [← HV.out]; exact HK.out.own1 hg o
    clear hle
    rw [HV.out]
    have HLE : Hid (taken.length + left.length = E.length) := Lib.hid HK.out.len
    go_wp2_with (first
      | (at_next; refine wpList_next_map rfl (.tmp 9) rfl gm (w.heap.size + 1) E left rfl HK.out.rng (fun hl0 => ?_) (fun x left' w1 hp hr hg hs hen => ?_))
      | (at_builtin; refine wpList_append_own_at _ rfl (.tmp 14) (.tmp 16) 22 rfl (w.heap.size + 1 + 1) 3 i0 (.int .i64 0) 1 8 Tryz.underlying22 hi hz0 hz1 hz2 rfl (by decide) _ _ _ rfl (HO1.out _ _ hg) ⟨wr.heap.size, 0, none⟩ 1 1 [.int .i64 x.1] rfl rfl (by intro p u hp; match p, hp with | 0, hp => simp at hp; subst hp; rw [← hs]; simp [Addr.add]) (by intro u hu; simp at hu; subst hu; rfl) (by unfold maxLen; omega) (by omega) (by have := HK.out.rng.lt; have := hg.size; simp; omega) ?_; intro v' w4 hown' hgrow _ _; have HST := Lib.hid (HK.out.step hp hr hg (by unfold OwnInts; simpa [ints] using hown') (by rw [HV.out]; exact hgrow)); clear hown' hgrow; have HP := Lib.hid hp; clear hp))
    · have HL0 := Lib.hid hl0
      clear hl0
      have HPM : Hid (taken.Perm E) := Lib.hid (by have := HK.out.prm; rw [HL0.out, List.append_nil] at this; exact this)
      by_cases h0 : m = 0
      · have HE : Hid (E = []) := Lib.hid (List.length_eq_zero_iff.1 (by rw [← HPM.out.length_eq, ← HM.out]; exact h0))
        subst h0
        refine (sort_empty ta tc _ _).mono ?_
        rintro e' w3 ⟨rfl, rfl⟩
        go_wp2
        go_ret
        refine ⟨_, rfl, ?_, HK.out.bel⟩
        have h1 := HOWN.out
        rw [List.length_eq_zero_iff.1 HM.out.symm] at h1
        rw [HE.out]
        exact own_low h1 (by omega)
      · obtain ⟨g, cap, rest, hv, hg, hblk, hcap, hmax⟩ := own_front HOWN.out (by rw [List.length_map, ← HM.out]; omega)
        injection hv with e1 e2 e3
        subst e1 e3
        have HBLK := Lib.hid hblk; have HCAP := Lib.hid hcap
        have had : w.heap.size ≠ g ∧ b ≠ g ∧ gm ≠ g := ⟨by omega, by omega, by omega⟩
        clear e2 hblk hcap
        refine (sortFunc_any g m tc (turnOf E) w.heap.size b gm E (taken.map (·.1)) rest _ (by rw [List.length_map]; exact HM.out.symm) HBLK.out HK.out.cmp had rfl (fun x hx => (HPM.out.map (·.1)).mem_iff.1 hx) (by omega)).mono ?_
        rintro e' w3 ⟨rfl, xs, hp, hs, hb3, hk3⟩
        have HP := Lib.hid hp; have HS := Lib.hid hs; have HB3 := Lib.hid hb3; have HK3 := Lib.hid hk3; clear hp hs hb3 hk3
        go_wp2
        go_ret
        have hxl : xs.length = m := by rw [HP.out.length_eq, List.length_map]; exact HM.out.symm
        have hxs : xs = E.map (·.1) := sorted_keys H.out.map.nodup H.out.srt (HP.out.trans (HPM.out.map (·.1))) (by rw [hxl, show m = (taken.map (·.1)).length by rw [List.length_map]; exact HM.out]; exact HS.out)
        refine ⟨_, rfl, ?_, HK.out.bel.trans (HK3.out.below HK.out.bel.size (by simp; omega))⟩
        have hob := own_back (base := w.heap.size) (by omega) HB3.out (cap := tc) (by rw [← HCAP.out, List.length_append, List.length_append, ints_len, ints_len, HP.out.length_eq]) hmax
        rw [← hxs]
        rw [hxl] at hob
        exact hob
    · go_roundg left'.length
      case measure => have := HP.out.length_eq; simp at this; have := HL.out; omega
      case rel => exact ⟨left', taken ++ [x], rfl, HST.out⟩
end Go.Proofs.YticckfioggeaeaaGreatDoor
