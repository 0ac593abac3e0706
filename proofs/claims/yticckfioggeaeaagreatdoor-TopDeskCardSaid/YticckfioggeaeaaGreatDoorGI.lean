/-
  Several texts in one (merged by wip/mergefix.py): DeskOps, DeskOps2.
-/
import Derived.Test.YticckfioggeaeaaGreatDoorGG
import Derived.Test.YticckfioggeaeaaGreatDoorDeskWords
import Derived.Test.YticckfioggeaeaaGreatDoorBookOpen
import Derived.Deep.RegionHeld3
set_option linter.unusedVariables false
set_option linter.unusedSimpArgs false
set_option linter.unnecessarySimpa false
/-
  A desk: put, get, by their contracts.
-/
set_option linter.unusedVariables false
namespace Go.Proofs.YticckfioggeaeaaGreatDoor
open Go.RowKit

structure DkS (w0 w : World) (O : Nat → Prop) (d : Nat) (s : Bk) : Prop where
  at_ : ∃ b, Blk w d 78 [.pointer (some ⟨b, 0, none⟩)] ∧ BookAt O w b 3 s
  nd : ¬ O d
  lo : ∀ x, x < w0.heap.size → ¬ O x
  dlo : w0.heap.size ≤ d
  bel : Below w0.heap.size w0 w
  tab0 : Tab w0
  err0 : Errs w0
  hnd0 : Handle w0
abbrev OD (O : Nat → Prop) (d : Nat) : Nat → Prop := fun x => O x ∨ x = d
section
variable {w0 w w' w'' : World} {O : Nat → Prop} {d : Nat} {s s' : Bk}
theorem DkS.tab (h : DkS w0 w O d s) : Tab w := h.tab0.below h.bel (Nat.le_refl _)
theorem DkS.err (h : DkS w0 w O d s) : Errs w := h.err0.below h.bel (Nat.le_refl _)
theorem DkS.hnd (h : DkS w0 w O d s) : Handle w := h.hnd0.below h.bel h.hnd0.lt
/-- The book has gone on. -/
theorem DkS.book {b : Nat} (h : DkS w0 w O d s) (hd : Blk w d 78 [.pointer (some ⟨b, 0, none⟩)]) (hb : BookAt O w' b 3 s') (hk : KeepP O w w') : DkS w0 w' O d s' :=
  { h with
    at_ := ⟨b, (hk.block d hd.lt h.nd).trans hd, hb⟩
    bel := h.bel.trans (hk.toBelow h.bel.size h.lo) }
theorem DkS.below (h : DkS w0 w O d s) (hb : Below w.heap.size w w') : DkS w0 w' O d s := by
  obtain ⟨b, h1, h2⟩ := h.at_
  exact h.book h1 (h2.below hb) (KeepP.of_below hb (Nat.le_refl _))
theorem DkS.ok (h : DkS w0 w O d s) : BkOk 3 s := by
  obtain ⟨b, _, h2⟩ := h.at_
  exact h2.ok.1
end
def AnsPost (w0 w : World) (O : Nat → Prop) (d : Nat) (s' : Bk) (ans : List UInt8) (e : Ending) (w' : World) : Prop := e = .returned (.string ⟨ans.toArray⟩) ∧ DkS w0 w' O d s' ∧ KeepP (OD O d) w w'
theorem errs_put (s : Bk) (k v : Int) : putE s k v = 0 ∨ someE (putE s k v) := by
  rcases putE_cases s k v with h | h | h
  · exact .inl h
  · exact .inr (by rw [h]; exact .inl rfl)
  · exact .inr (by rw [h]; exact .inr (.inr (.inl rfl)))
theorem errs_get (s : Bk) (k : Int) : getE s k = 0 ∨ someE (getE s k) := by
  rcases getE_cases s k with h | h | h
  · exact .inl h
  · exact .inr (by rw [h]; exact .inr (.inr (.inr (.inl rfl))))
  · exact .inr (by rw [h]; exact .inr (.inr (.inl rfl)))
set_option maxHeartbeats 4000000 in
set_option maxRecDepth 100000 in
theorem dk_put (w0 w : World) (O : Nat → Prop) (d : Nat) (s : Bk) (a : Option Addr) (c : Nat) (k v : Int) (h : DkS w0 w O d s) (hl : IntsIn w w.heap.size a [k, v]) (hgO : ∀ g o, a = some ⟨g, o, none⟩ → ¬ O g) :
    Calls Tryz.prog 68 #[.pointer (some ⟨d, 0, none⟩), .slice a 2 c] w (AnsPost w0 w O d (putS 3 s k v) (putA s k v)) := by
  obtain ⟨b, hd, hb⟩ := h.at_
  obtain ⟨g9, o9, rfl, hg9, hc9⟩ := hl (by simp)
  have hg0 := hgO _ _ rfl
  have HRD : Hid (∀ wx, KeepP O w wx → wx.cell? ⟨d, 0, none⟩ = some (.pointer (some ⟨b, 0, none⟩)) ∧ wx.cell? ⟨g9, o9, none⟩ = some (.int .i64 k) ∧ wx.cell? ⟨g9, o9 + 1, none⟩ = some (.int .i64 v)) := Lib.hid fun wx hw =>
    ⟨(World.cell?_of_block (a := ⟨d, 0, none⟩) (hw.block d hd.lt h.nd)).trans (hd.cell_ (i := 0) rfl), (World.cell?_of_block (a := ⟨g9, o9, none⟩) (hw.block g9 hg9 hg0)).trans (hc9 0 k rfl), (World.cell?_of_block (a := ⟨g9, o9 + 1, none⟩) (hw.block g9 hg9 hg0)).trans (hc9 1 v rfl)⟩
  have H := Lib.hid h; have HD := Lib.hid hd; have HB := Lib.hid hb
  have hvr := putV_rng h.ok k v
  have HEE := Lib.hid (errs_put s k v)
  clear h hd hb hl hg9 hc9 hg0 hgO
  go_enter Tryz.func68, Tryz.ntmps68
  go_upto_region 1 with fail
  go_region_held3 (fun w' => w'.cell? ⟨d, 0, none⟩ = some (.pointer (some ⟨b, 0, none⟩)) ∧ w'.cell? ⟨g9, o9, none⟩ = some (.int .i64 k) ∧ w'.cell? ⟨g9, o9 + 1, none⟩ = some (.int .i64 v))
    (first | (refine HRD.out _ ?_; first | with_reducible exact KeepP.of_below (drewB w) (Nat.le_refl _) | with_reducible exact HKO.out) | fail)
    (first | (go_at_call 24; refine (put_any b 3 s k v _ (HB.out.below (drewB w)) (H.out.below (drewB w)).tab).mono ?_; rintro e w4 ⟨rfl, hb4, hk4⟩; have HS4 := Lib.hid ((H.out.below (drewB w)).book (HD.out.below (drewB w) HD.out.lt) hb4 hk4); have HKO : Hid (KeepP O w w4) := Lib.hid ((KeepP.of_below (drewB w) (Nat.le_refl _)).trans hk4); clear hb4 hk4) | fail)
  have HK4 : Hid (KeepP (OD O d) w w4) := Lib.hid (HKO.out.mono fun x hx => .inl hx)
  obtain ⟨er, her⟩ : ∃ er, er = putE s k v := ⟨_, rfl⟩
  obtain ⟨out, hout⟩ : ∃ out, out = putV 3 s k v := ⟨_, rfl⟩
  have HA : Hid (putA s k v = if er = 0 ∧ 0 ≤ out then sOk ++ 32 :: Lib.itoa out else nameOf er) := Lib.hid (by rw [her, hout]; rfl)
  rw [← her] at HEE
  rw [← hout] at hvr
  rw [← her, ← hout]
  obtain ⟨hv0, hv1⟩ := hvr
  clear her hout HB HD H HRD HKO
  by_cases he : er = 0
  · subst he
    rw [errw_zero]
    by_cases ho : 0 ≤ out
    · have HA2 : Hid (putA s k v = sOk ++ 32 :: Lib.itoa out) := Lib.hid (by rw [HA.out, if_pos ⟨rfl, ho⟩])
      have ho' : ¬ out < 0 := by omega
      have hil := (itoa_plain ho (by omega)).2
      have hbd : ¬ 9223372036854775807 < 3 + (Lib.itoa out).length := by omega
      go_wp2_with (go_at_call 75; refine (itoa_any out (by omega) (by omega) _ HS4.out.tab).mono ?_; rintro e w5 ⟨rfl, hb5⟩; have HS5 := Lib.hid (HS4.out.below hb5); have HK5 : Hid (KeepP (OD O d) w w5) := Lib.hid (HK4.out.trans (KeepP.of_below hb5 (Nat.le_refl _))); clear hb5)
      go_ret
      exact ⟨ret_eq (congrArg Value.string (by rw [HA2.out, show (⟨#[111, 107, 32]⟩ : ByteArray) = ⟨[111, 107, 32].toArray⟩ from rfl, str_cat]; rfl)), HS5.out, HK5.out⟩
    · have HA2 : Hid (putA s k v = nameOf 0) := Lib.hid (by rw [HA.out, if_neg (fun h => ho h.2)])
      have ho' : out < 0 := by omega
      go_wp2_with (go_at_call 38; refine (dtold_nil _).mono ?_; rintro e w5 ⟨rfl, hb5⟩; have HS5 := Lib.hid (HS4.out.below hb5); have HK5 : Hid (KeepP (OD O d) w w5) := Lib.hid (HK4.out.trans (KeepP.of_below hb5 (Nat.le_refl _))); clear hb5)
      go_ret
      exact ⟨ret_eq (by rw [HA2.out]; rfl), HS5.out, HK5.out⟩
  · have hse := HEE.out.resolve_left he
    have HA2 : Hid (putA s k v = nameOf er) := Lib.hid (by rw [HA.out, if_neg (fun h => he h.1)])
    rw [errw_of he]
    clear he
    go_wp2_with (go_at_call 38; refine (dtold_some er hse _ HS4.out.hnd).mono ?_; rintro e w5 ⟨rfl, hb5⟩; have HS5 := Lib.hid (HS4.out.below hb5); have HK5 : Hid (KeepP (OD O d) w w5) := Lib.hid (HK4.out.trans (KeepP.of_below hb5 (Nat.le_refl _))); clear hb5)
    go_ret
    exact ⟨ret_eq (by rw [HA2.out]; rfl), HS5.out, HK5.out⟩
set_option maxHeartbeats 4000000 in
set_option maxRecDepth 100000 in
theorem dk_get (w0 w : World) (O : Nat → Prop) (d : Nat) (s : Bk) (a : Option Addr) (c : Nat) (k : Int) (h : DkS w0 w O d s) (hl : IntsIn w w.heap.size a [k]) (hgO : ∀ g o, a = some ⟨g, o, none⟩ → ¬ O g) :
    Calls Tryz.prog 69 #[.pointer (some ⟨d, 0, none⟩), .slice a 1 c] w (AnsPost w0 w O d (getS s k) (getA s k)) := by
  obtain ⟨b, hd, hb⟩ := h.at_
  obtain ⟨g9, o9, rfl, hg9, hc9⟩ := hl (by simp)
  have hg0 := hgO _ _ rfl
  have HRD : Hid (∀ wx, KeepP O w wx → wx.cell? ⟨d, 0, none⟩ = some (.pointer (some ⟨b, 0, none⟩)) ∧ wx.cell? ⟨g9, o9, none⟩ = some (.int .i64 k)) := Lib.hid fun wx hw =>
    ⟨(World.cell?_of_block (a := ⟨d, 0, none⟩) (hw.block d hd.lt h.nd)).trans (hd.cell_ (i := 0) rfl), (World.cell?_of_block (a := ⟨g9, o9, none⟩) (hw.block g9 hg9 hg0)).trans (hc9 0 k rfl)⟩
  have H := Lib.hid h; have HD := Lib.hid hd; have HB := Lib.hid hb
  have hvr := getV_rng h.ok k
  have HEE := Lib.hid (errs_get s k)
  clear h hd hb hl hg9 hc9 hg0 hgO
  go_enter Tryz.func69, Tryz.ntmps69
  go_upto_region 1 with fail
  go_region_held3 (fun w' => w'.cell? ⟨d, 0, none⟩ = some (.pointer (some ⟨b, 0, none⟩)) ∧ w'.cell? ⟨g9, o9, none⟩ = some (.int .i64 k))
    (first | (refine HRD.out _ ?_; first | with_reducible exact KeepP.of_below (drewB w) (Nat.le_refl _) | with_reducible exact HKO.out) | fail)
    (first | (go_at_call 37; refine (get_any b 3 s k _ (HB.out.below (drewB w)) (H.out.below (drewB w)).tab).mono ?_; rintro e w4 ⟨rfl, hb4, hk4⟩; have HS4 := Lib.hid ((H.out.below (drewB w)).book (HD.out.below (drewB w) HD.out.lt) hb4 hk4); have HKO : Hid (KeepP O w w4) := Lib.hid ((KeepP.of_below (drewB w) (Nat.le_refl _)).trans hk4); clear hb4 hk4) | fail)
  have HK4 : Hid (KeepP (OD O d) w w4) := Lib.hid (HKO.out.mono fun x hx => .inl hx)
  obtain ⟨er, her⟩ : ∃ er, er = getE s k := ⟨_, rfl⟩
  obtain ⟨out, hout⟩ : ∃ out, out = getV s k := ⟨_, rfl⟩
  have HA : Hid (getA s k = if er = 0 then Lib.itoa out else nameOf er) := Lib.hid (by rw [her, hout]; rfl)
  rw [← her] at HEE
  rw [← hout] at hvr
  rw [← her, ← hout]
  obtain ⟨hv0, hv1⟩ := hvr
  clear her hout HB HD H HRD HKO
  by_cases he : er = 0
  · subst he
    rw [errw_zero]
    have HA2 : Hid (getA s k = Lib.itoa out) := Lib.hid (by rw [HA.out, if_pos rfl])
    go_wp2_with (go_at_call 75; refine (itoa_any out (by omega) (by omega) _ HS4.out.tab).mono ?_; rintro e w5 ⟨rfl, hb5⟩; have HS5 := Lib.hid (HS4.out.below hb5); have HK5 : Hid (KeepP (OD O d) w w5) := Lib.hid (HK4.out.trans (KeepP.of_below hb5 (Nat.le_refl _))); clear hb5)
    go_ret
    exact ⟨ret_eq (by rw [HA2.out]; rfl), HS5.out, HK5.out⟩
  · have hse := HEE.out.resolve_left he
    have HA2 : Hid (getA s k = nameOf er) := Lib.hid (by rw [HA.out, if_neg he])
    rw [errw_of he]
    clear he
    go_wp2_with (go_at_call 38; refine (dtold_some er hse _ HS4.out.hnd).mono ?_; rintro e w5 ⟨rfl, hb5⟩; have HS5 := Lib.hid (HS4.out.below hb5); have HK5 : Hid (KeepP (OD O d) w w5) := Lib.hid (HK4.out.trans (KeepP.of_below hb5 (Nat.le_refl _))); clear hb5)
    go_ret
    exact ⟨ret_eq (by rw [HA2.out]; rfl), HS5.out, HK5.out⟩
end Go.Proofs.YticckfioggeaeaaGreatDoor

/-
  A desk: keys, crash, by their contracts.
-/
set_option linter.unusedVariables false
namespace Go.Proofs.YticckfioggeaeaaGreatDoor
open Go.RowKit

theorem keysA_snoc : ∀ (l : List Int) (k : Int), keysA (l ++ [k]) = keysA l ++ (32 :: Lib.itoa k)
  | [], k => by simp [keysA]
  | x :: l, k => by rw [List.cons_append, keysA, keysA, keysA_snoc l k]; simp
set_option maxHeartbeats 4000000 in
set_option maxRecDepth 100000 in
theorem dk_keys (w0 w : World) (O : Nat → Prop) (d : Nat) (s : Bk) (x : Value) (h : DkS w0 w O d s) :
    Calls Tryz.prog 70 #[.pointer (some ⟨d, 0, none⟩), x] w (AnsPost w0 w O d s (sKeys ++ keysA s.keys)) := by
  obtain ⟨b, hd, hb⟩ := h.at_
  have z0 := hd.cell_ (i := 0) rfl
  have H := Lib.hid h; have HB := Lib.hid hb
  have hok := h.ok
  obtain ⟨n, hn⟩ : ∃ n, n = s.keys.length := ⟨_, rfl⟩
  have hn3 : n ≤ 3 := by rw [hn]; have := hok.len; simpa [Bk.keys] using this
  have HKR := Lib.hid (keys_rng hok)
  have HN := Lib.hid hn
  clear h hd hb hok hn
  go_enter Tryz.func70, Tryz.ntmps70
  go_wp2_with fail
  refine (keysB_any _ HB.out).mono ?_
  rintro e w2 ⟨v2, rfl, ho2, hb2⟩
  obtain ⟨a2, c2, hv2, hi2⟩ := ho2.shape
  rw [← HN.out] at hv2
  subst hv2
  have HI2 := Lib.hid hi2; have HB2 := Lib.hid hb2
  clear hb2 ho2 hi2 HB
  go_wp2
  go_loopw [5, 14] (fun v5 v14 wr => ∃ (j : Nat), j ≤ n ∧ v14 = .int .i64 j ∧ v5 = .string ⟨(sKeys ++ keysA (s.keys.take j)).toArray⟩ ∧ Below w.heap.size w wr ∧ Below w2.heap.size w2 wr) (fun _ v14 _ => n - (intOf v14).toNat)
  case atStart => exact ⟨0, Nat.zero_le _, rfl, rfl, HB2.out, Below.refl _ _⟩
  case round =>
    obtain ⟨j, hj, rfl, rfl, hb, hb3⟩ := hrel
    have HBL := Lib.hid hb; have HB3 := Lib.hid hb3
    clear hb hb3
    by_cases hlt : j < n
    · have hjk : j < s.keys.length := by rw [← HN.out]; exact hlt
      obtain ⟨bx, off, rfl, hbb, hcx⟩ := HI2.out.at_ hjk
      obtain ⟨k, hk⟩ : ∃ k, k = s.keys[j] := ⟨_, rfl⟩
      rw [← hk] at hcx
      have hkr := HKR.out k (by rw [hk]; exact List.getElem_mem _)
      have HNX : Hid (keysA (s.keys.take (j + 1)) = keysA (s.keys.take j) ++ (32 :: Lib.itoa k)) := Lib.hid (by rw [List.take_succ_eq_append_getElem hjk, ← hk, keysA_snoc])
      have hcx2 := (HB3.out.cell (p := ⟨bx, off + j, none⟩) hbb).trans hcx
      have hkl := (keysA_plain (s.keys.take j) (fun y hy => HKR.out y (List.mem_of_mem_take hy))).2
      rw [List.length_take] at hkl
      obtain ⟨hk0, hk1⟩ := hkr
      have hil := (itoa_plain hk0 (by omega)).2
      have hsl : sKeys.length = 4 := rfl
      have hjn : (j : Int) < (n : Int) := by omega
      have hj0 : (0 : Int) ≤ (j : Int) := by omega
      have hbd1 : ¬ 9223372036854775807 < 1 + (Lib.itoa k).length := by omega
      have hbd2 : ¬ 9223372036854775807 < (sKeys ++ keysA (s.keys.take j)).length + (1 + (Lib.itoa k).length) := by rw [List.length_append]; omega
      have hbd3 : ¬ 9223372036854775807 < sKeys.length + (keysA (s.keys.take j)).length + (1 + (Lib.itoa k).length) := by omega
      have hbd4 : ¬ 9223372036854775807 < 4 + (keysA (s.keys.take j)).length + (1 + (Lib.itoa k).length) := by omega
      clear hk hcx hkl
      go_wp2_with (go_at_call 75; refine (itoa_any k (by omega) (by omega) _ (H.out.below HBL.out).tab).mono ?_; rintro e w5 ⟨rfl, hb5⟩; have HBL5 : Hid (Below w.heap.size w w5) := Lib.hid (HBL.out.trans (hb5.mono HBL.out.size)); have HB35 : Hid (Below w2.heap.size w2 w5) := Lib.hid (HB3.out.trans (hb5.mono HB3.out.size)); clear hb5)
      go_roundw
      case rel =>
        refine ⟨j + 1, hlt, by simp, ?_, HBL5.out, HB35.out⟩
        rw [HNX.out, show (⟨#[32]⟩ : ByteArray) = ⟨[32].toArray⟩ from rfl, str_cat, str_cat]
        simp
      case measure => simp [intOf]; omega
    · obtain rfl : j = n := by omega
      have e : s.keys.take j = s.keys := List.take_of_length_le (by rw [← HN.out]; omega)
      rw [e]
      go_wp2
      go_ret
      exact ⟨rfl, H.out.below HBL.out, KeepP.of_below HBL.out (Nat.le_refl _)⟩
theorem DkS.crash {w0 w w' : World} {O : Nat → Prop} {d b2 : Nat} {s s' : Bk} {v : Value} (h : DkS w0 w O d s) (hk : KeepP O w w') (hd : Blk w' d 78 [v]) (hb : BookAt (fun x => w.heap.size ≤ x) w' b2 3 s') (hO : ∀ x, w.heap.size ≤ x → O x) :
    DkS w0 (w'.setCell ⟨d, 0, none⟩ (.pointer (some ⟨b2, 0, none⟩))) O d s' ∧ KeepP (OD O d) w (w'.setCell ⟨d, 0, none⟩ (.pointer (some ⟨b2, 0, none⟩))) := by
  have hset : Keep [d] w' (w'.setCell ⟨d, 0, none⟩ (.pointer (some ⟨b2, 0, none⟩))) := (Keep.refl [d] w').set (fun _ => by simp) _
  have hkk : KeepP (OD O d) w (w'.setCell ⟨d, 0, none⟩ (.pointer (some ⟨b2, 0, none⟩))) := (hk.mono fun x hx => .inl hx).trans (hset.toP (by intro x hx; simp at hx; exact .inr hx))
  refine ⟨{ h with at_ := ⟨b2, hd.set 0 _, ?_⟩, bel := h.bel.trans (hkk.toBelow h.bel.size (fun x hx ho => ?_)) }, hkk⟩
  · have h1 := hb.mono (O' := O) hO
    have h2 := h1.away (O2 := fun x => x = d) (hset.toP (by simp)) (fun x _ ho e => h.nd (e ▸ ho))
    exact h2.mono fun x hx => hx.1
  · rcases ho with ho | rfl
    · exact h.lo x hx ho
    · exact absurd h.dlo (by omega)
theorem BookAt.fresh {O : Nat → Prop} {w : World} {b slots : Nat} {s : Bk} (h : BookAt O w b slots s) : ∀ x, w.heap.size ≤ x → O x := by
  obtain ⟨gm, E, p, bv, h⟩ := h
  exact h.on
theorem take_min (t : List UInt8) (n : Int) : t.take (min n (t.length : Int)).toNat = t.take n.toNat := by
  by_cases h : n ≤ (t.length : Int)
  · rw [Int.min_eq_left h]
  · rw [Int.min_eq_right (by omega), List.take_of_length_le (by omega), List.take_of_length_le (by omega)]
set_option maxHeartbeats 4000000 in
set_option maxRecDepth 100000 in
theorem dk_crash (w0 w : World) (O : Nat → Prop) (d : Nat) (s : Bk) (a : Option Addr) (c : Nat) (n : Int) (h : DkS w0 w O d s) (hc : Come s) (hn : 0 ≤ n) (hn9 : n ≤ 9999999) (hl : IntsIn w w.heap.size a [n]) (hgO : ∀ g o, a = some ⟨g, o, none⟩ → ¬ O g) :
    Calls Tryz.prog 71 #[.pointer (some ⟨d, 0, none⟩), .slice a 1 c] w (AnsPost w0 w O d (crashM s n).1 (crashM s n).2) := by
  obtain ⟨b, hd, hb⟩ := h.at_
  obtain ⟨g9, o9, rfl, hg9, hc9⟩ := hl (by simp)
  have hg0 := hgO _ _ rfl
  have z0 := hd.cell_ (i := 0) rfl
  have HRD : Hid (∀ wx, KeepP O w wx → wx.cell? ⟨g9, o9, none⟩ = some (.int .i64 n)) := Lib.hid fun wx hw => (World.cell?_of_block (a := ⟨g9, o9, none⟩) (hw.block g9 hg9 hg0)).trans (hc9 0 n rfl)
  have H := Lib.hid h; have HD := Lib.hid hd; have HB := Lib.hid hb
  obtain ⟨c1, c2, m, c3, c4⟩ := hc.crash n
  have HM : Hid (crashM s n = ((crashO s n).1, sFound ++ Lib.itoa (m : Int))) := Lib.hid (by unfold crashM; rw [if_pos c2, c3])
  have HCR : Hid ((crashO s n).2.2 = 0 ∧ (crashO s n).2.1 = m) := Lib.hid ⟨c2, c3⟩
  obtain ⟨tl, htl⟩ : ∃ tl, tl = s.text.length := ⟨_, rfl⟩
  have htx : tl ≤ 2000 := by rw [htl]; have h1 := h.ok.text; have h2 := h.ok.many; omega
  have HTL := Lib.hid htl
  have hsz : (⟨s.text.toArray⟩ : ByteArray).size = tl := by rw [htl]; simp [ByteArray.size]
  clear h hd hb hl hg9 hc9 hg0 hgO hc c1 c2 c3 htl
  go_enter Tryz.func71, Tryz.ntmps71
  go_wp2_with fail
  refine (text_any _ HB.out).mono ?_
  rintro e w2 ⟨rfl, hb2, hk2⟩
  have HK2 := Lib.hid hk2
  have HS2 := Lib.hid (H.out.book HD.out hb2 hk2)
  have HB2 := Lib.hid hb2
  have z9 := HRD.out _ hk2
  clear hb2 hk2 z0
  have hex : (⟨s.text.toArray⟩ : ByteArray).extract 0 (min n (tl : Int)).toNat = ⟨(s.text.take n.toNat).toArray⟩ := by
    have hmin : (min n (tl : Int)).toNat ≤ tl := by omega
    have h2 := ext_left (s.text.take (min n (tl : Int)).toNat) (s.text.drop (min n (tl : Int)).toNat)
    rw [List.take_append_drop, List.length_take, Nat.min_eq_left (by rw [← HTL.out]; exact hmin)] at h2
    rw [h2, HTL.out, take_min]
  have HEX := Lib.hid hex
  clear hex
  have HOP : Hid ((openL 3 bk0 (lns (s.text.take n.toNat))).2.2 = 0 ∧ (openL 3 bk0 (lns (s.text.take n.toNat))).2.1 = m ∧ (openL 3 bk0 (lns (s.text.take n.toNat))).1 = (crashO s n).1) := Lib.hid ⟨HCR.out.1, HCR.out.2, rfl⟩
  go_wp2_with fail
  rw [HEX.out]
  refine (open_any 3 (s.text.take n.toNat) w2 HS2.out.tab HS2.out.err).mono ?_
  rintro e w4 ⟨hb4, ⟨hno, _⟩ | ⟨m', hm', _, _, ⟨hl4, _⟩ | ⟨_, ⟨he4, _⟩ | ⟨_, b2, rfl, hbk2⟩⟩⟩⟩
  · exact absurd ⟨by decide, by decide⟩ hno
  · rw [List.length_take] at hl4
    have := HTL.out
    omega
  · obtain rfl : m' = 3 := by omega
    exact absurd HOP.out.1 he4
  obtain rfl : m' = 3 := by omega
  rw [HOP.out.2.1]
  rw [HOP.out.2.2] at hbk2
  have hd4 := (HD.out : Blk w d 78 [.pointer (some ⟨b, 0, none⟩)])
  obtain ⟨b', hd2, hbk'⟩ := HS2.out.at_
  have hd5 := hd2.below hb4 hd2.lt
  obtain ⟨hcr1, hcr2⟩ := DkS.crash HS2.out (KeepP.of_below hb4 (Nat.le_refl _)) hd5 hbk2 hbk'.fresh
  have HC1 := Lib.hid hcr1
  have HC2 : Hid (KeepP (OD O d) w (w4.setCell ⟨d, 0, none⟩ (.pointer (some ⟨b2, 0, none⟩)))) := Lib.hid ((HK2.out.mono fun x hx => .inl hx).trans hcr2)
  have z4 := hd5.cell_ (i := 0) rfl
  have f4 := hd5.free 0
  have HCM := HM
  clear hcr1 hcr2 hd4 hd2 hbk' hbk2 hb4 hm' z9 hd5 HOP HEX HCR HRD HB HB2 HD
  have hm0 : (0 : Int) ≤ (m : Int) := by omega
  have hil := (itoa_plain hm0 (show (m : Int) ≤ 9999999 by omega)).2
  have hbd : ¬ 9223372036854775807 < 6 + (Lib.itoa (m : Int)).length := by omega
  go_wp2_with (go_at_call 75; refine (itoa_any (m : Int) (by omega) (by omega) _ HC1.out.tab).mono ?_; rintro e w5 ⟨rfl, hb5⟩; have HS5 := Lib.hid (HC1.out.below hb5); have HK5 : Hid (KeepP (OD O d) w w5) := Lib.hid (HC2.out.trans (KeepP.of_below hb5 (Nat.le_refl _))); clear hb5)
  go_ret
  refine ⟨ret_eq (congrArg Value.string (show _ = (⟨((crashM s n).2).toArray⟩ : ByteArray) from ?_)), ?_, HK5.out⟩
  · rw [HCM.out, show (⟨#[102, 111, 117, 110, 100, 32]⟩ : ByteArray) = ⟨[102, 111, 117, 110, 100, 32].toArray⟩ from rfl, str_cat]
    rfl
  · rw [HCM.out]
    exact HS5.out
end Go.Proofs.YticckfioggeaeaaGreatDoor
