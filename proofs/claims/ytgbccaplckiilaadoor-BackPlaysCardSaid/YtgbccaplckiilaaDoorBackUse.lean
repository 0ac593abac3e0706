/-
  back.use, by its contract.
-/
import Derived.Test.YtgbccaplckiilaaDoorBackClean
import Derived.Deep.RegionWith
namespace Go.Proofs.YtgbccaplckiilaaDoor
open Go.RowKit

theorem FAt.shape {w : World} {base : Nat} {v : Value} {L : List Fr} (h : FAt w base v L) :
    (v = .slice none 0 0 ∧ L = []) ∨ ∃ g cap rest, v = .slice (some ⟨g, 0, none⟩) L.length cap ∧ base ≤ g ∧ L.length ≤ cap ∧ cap ≤ maxLen ∧ Blk w g 59 (flat3 L ++ rest) ∧ (flat3 L ++ rest).length = cap * 3 := by
  obtain ⟨hl, ⟨rfl, hn⟩ | ⟨g, cap, cur, rfl, hb, hh, hc, hm, hs, ht⟩⟩ := h.row
  · exact .inl ⟨rfl, List.length_eq_zero_iff.1 hn⟩
  · refine .inr ⟨g, cap, cur.toList.drop (L.length * 3), rfl, hb, hc, hm, ?_, ?_⟩
    · unfold Blk
      rw [← ht, List.take_append_drop]; simpa using hh
    · rw [← ht, List.take_append_drop]; simpa using hs
/-- For a walk: any g serves where there are none. -/
theorem FAt.view {w : World} {base : Nat} {v : Value} {L : List Fr} (h : FAt w base v L) (d : Nat) (hd : d < w.heap.size) :
    ∃ a g cap, v = .slice a L.length cap ∧ (0 < L.length → a = some ⟨g, 0, none⟩) ∧ g < w.heap.size ∧ FIn w g L ∧ (0 < L.length → base ≤ g ∧ L.length ≤ cap ∧ cap ≤ maxLen ∧ ∃ rest, Blk w g 59 (flat3 L ++ rest) ∧ (flat3 L ++ rest).length = cap * 3) := by
  rcases h.shape with ⟨rfl, rfl⟩ | ⟨g, cap, rest, rfl, h1, h2, h3, h4, h5⟩
  · exact ⟨none, d, 0, rfl, fun h => by simp at h, hd, fun i x h => by simp at h, fun h => by simp at h⟩
  · exact ⟨_, g, cap, rfl, fun _ => rfl, h4.lt, blk_fin h4, fun _ => ⟨h1, h2, h3, rest, h4, h5⟩⟩
theorem FAt.keepB {w w' : World} {base : Nat} {v : Value} {L : List Fr} (h : FAt w base v L) (hk : ∀ g, v.ownBlock = some g → w'.heap[g]? = w.heap[g]?) : FAt w' base v L := by
  obtain ⟨hl, h2⟩ := h.row
  refine ⟨hl, ?_⟩
  rcases h2 with h2 | ⟨g, cap, cur, e, hb, hh, r⟩
  · exact .inl h2
  · exact .inr ⟨g, cap, cur, e, hb, (hk g (by rw [e]; rfl)).trans hh, r⟩
theorem FAt.lt {w : World} {base : Nat} {v : Value} {L : List Fr} (h : FAt w base v L) (g : Nat) (hg : v.ownBlock = some g) : base ≤ g ∧ g < w.heap.size := World.ownsRow.lt h.row g hg
theorem FAt.keepF {w w' : World} {F : List Nat} {base : Nat} {v : Value} {L : List Fr} (h : FAt w base v L) (hk : Keep F w w') (hF : ∀ x ∈ F, some x ≠ v.ownBlock) : FAt w' base v L :=
  h.keepB fun g hg => hk.block g (h.lt g hg).2 (fun hm => hF g hm hg.symm)

/-- What a use of a cache may turn: its own block, its frames'. -/
def KeepO (b : Nat) (v : Value) (w w' : World) : Prop := ∃ F, Keep F w w' ∧ ∀ x ∈ F, x = b ∨ some x = v.ownBlock
def UsePost (w : World) (b : Nat) (v : Value) (slots : Nat) (t : BSt) (e : Ending) (w' : World) : Prop :=
  ∃ v' g, e = .returned (.pointer (some ⟨g, 0, none⟩)) ∧ BAt w' b v' slots t ∧ v'.ownBlock = some g ∧ KeepO b v w w' ∧ (v.ownBlock = some g ∨ w.heap.size ≤ g)

theorem own6 {V : Value} {g6 n6 cap6 : Nat} {w5 : World} {X : Obj} (h : (Value.slice (some ⟨g6, 0, none⟩) n6 cap6).ownBlock = V.ownBlock ∨ (Value.slice (some ⟨g6, 0, none⟩) n6 cap6).ownBlock = some ((w5.alloc X).drew).heap.size) : V.ownBlock = some g6 ∨ w5.heap.size ≤ g6 := by
  rcases h with h | h
  · exact .inl h.symm
  · right
    have h2 : g6 = w5.heap.size + 1 := by simpa [Value.ownBlock] using h
    omega

theorem fr3_of {w : World} {g : Nat} {t : TypeId} {x : Fr} (h : Blk w g t (fr3 x)) : w.cell? ⟨g, 0, none⟩ = some (.int .i64 x.1) ∧ w.cell? ⟨g, 1, none⟩ = some (.int .i64 x.2.1) ∧ w.cell? ⟨g, 2, none⟩ = some (.bool x.2.2) := ⟨h.cell_ rfl, h.cell_ rfl, h.cell_ rfl⟩

theorem xs6 {w w' : World} {b bt slots : Nat} {disk : List Int} {v : Value} {r wr : Int} (f : Fr) {F : List Nat} (ht : Blk w b 52 (ctop disk v slots r wr)) (hd : disk.length = 8) (hb : Blk w bt 59 (fr3 f)) (hk : Keep F w w') (h1 : b ∉ F) (h2 : bt ∉ F) :
    w'.cell? ⟨b, 8, none⟩ = some v ∧ w'.cell? ⟨bt, 0, none⟩ = some (.int .i64 f.1) ∧ w'.cell? ⟨bt, 1, none⟩ = some (.int .i64 f.2.1) ∧ w'.cell? ⟨bt, 2, none⟩ = some (.bool f.2.2) :=
  ⟨(ht.keep hk h1).cell_ (ctop_rest hd).1, fr3_of (hb.keep hk h2)⟩

theorem xu6 {w w' : World} {b bt : Nat} (f : Fr) {F : List Nat} (hb : Blk w bt 59 (fr3 f)) (hk : Keep F w w') (h2 : bt ∉ F) (hne : bt ≠ b) (u : Value) :
    (w'.setCell ⟨b, 8, none⟩ u).cell? ⟨bt, 0, none⟩ = some (.int .i64 f.1) ∧ (w'.setCell ⟨b, 8, none⟩ u).cell? ⟨bt, 1, none⟩ = some (.int .i64 f.2.1) ∧ (w'.setCell ⟨b, 8, none⟩ u).cell? ⟨bt, 2, none⟩ = some (.bool f.2.2) :=
  fr3_of ((hb.keep hk h2).far (p := ⟨b, 8, none⟩) hne u)

set_option maxHeartbeats 4000000 in
set_option maxRecDepth 100000 in
theorem use_hit (b k slots : Nat) (rd : Bool) (v : Value) (s : BSt) (w : World) (h : BAt w b v slots s) (h1 : 1 ≤ slots) (h8 : slots ≤ 8) (hle : s.fr.length ≤ slots) (hrng : ∀ x ∈ s.fr, 0 ≤ x.1 ∧ x.1 ≤ 7) (hk : k ≤ 7)
    (hr0 : 0 ≤ s.reads) (hr1 : s.reads ≤ 1000000) (hw0 : 0 ≤ s.writes) (hw1 : s.writes ≤ 1000000) (hhit : ∃ x ∈ s.fr, x.1 = k) :
    Calls Tryd.prog 25 #[.pointer (some ⟨b, 0, none⟩), .int .i64 k, .bool rd] w (UsePost w b v slots (useB slots s k rd)) := by
  obtain ⟨disk, L, reads, writes⟩ := s
  simp only at hle hrng hr0 hr1 hw0 hw1 hhit
  have HHIT := Lib.hid hhit; clear hhit
  have hd : disk.length = 8 := h.dl
  have htop : Blk w b 52 (ctop disk v slots reads writes) := h.top
  have hfr : FAt w (b + 1) v L := h.fr
  have hbl := htop.lt
  have hfrA : FAt (w.alloc (.cells #[.int .i64 k] 3)) (b + 1) v L := hfr.keepF ((Keep.refl [] w).alloc _) (by simp)
  obtain ⟨a, g, cap, hv, hag, hg, hkin, hmore⟩ := hfrA.view w.heap.size (by simp)
  obtain ⟨n, hn⟩ : ∃ n, n = L.length := ⟨_, rfl⟩
  rw [← hn] at hv hag hmore hle
  subst hv
  have htopA := htop.alloc (.cells #[.int .i64 k] 3)
  obtain ⟨c8, c9, c10, c11⟩ := ctop_rest (v := .slice a n cap) (slots := slots) (r := reads) (wr := writes) hd
  have hx8 := htopA.cell_ c8
  have hn8 : n ≤ 8 := by omega
  have HN := Lib.hid hn.symm; have HAG := Lib.hid hag; have HKIN := Lib.hid hkin; have HMORE := Lib.hid hmore; have HTOP := Lib.hid htop; have HFR := Lib.hid hfr; have HD := Lib.hid hd; have HTOPA := Lib.hid htopA; have HRNG := Lib.hid hrng
  have HC8 := Lib.hid c8; have HC9 := Lib.hid c9; have HC10 := Lib.hid c10; have HC11 := Lib.hid c11; have HFRA := Lib.hid hfrA
  clear hn hag hkin hmore htop hfr hd htopA hrng c8 c9 c10 c11 hfrA h
  go_enter Tryd.func25, Tryd.ntmps25
  go_wp2_with fail
  refine (idxUse n cap g a ⟨w.heap.size, 0, none⟩ k L _ HN.out HAG.out hg HKIN.out (by omega) (by simp) (by simp)).mono ?_
  rintro e w1 ⟨hb1, ⟨i, x, hx, hxk, hbefore, rfl⟩ | ⟨hno, rfl⟩⟩
  · -- it is there
    have hin : i < n := by rw [← HN.out]; exact (List.getElem?_eq_some_iff.1 hx).1
    obtain ⟨hbase, hcap, hcm, rest, hblk, hlen⟩ := HMORE.out (by omega)
    obtain rfl := HAG.out (by omega)
    have htop1 := HTOPA.out.below hb1 (by simp; omega)
    have hblk1 := hblk.below hb1 hg
    have hp1 : w1.cell? ⟨w.heap.size, 0, none⟩ = some (.int .i64 k) := (hb1.cell (p := ⟨w.heap.size, 0, none⟩) (by simp)).trans (by simp)
    obtain ⟨hxc0, hxc1, hxc2⟩ := blk_fin hblk1 i x hx
    have hx8' := htop1.cell_ HC8.out
    have hf8' := htop1.free 8
    have hii : (i : Int) < (n : Int) := by omega
    have hi0 : (0 : Int) ≤ (i : Int) := by omega
    have hwi : IntKind.i64.wrap ((i : Int) + 1) = ((i + 1 : Nat) : Int) := by rw [show (i : Int) + 1 = ((i + 1 : Nat) : Int) by omega]; exact IntWalk.i64_in _ (by omega)
    have hs1 := hb1.size
    rw [World.size_alloc] at hs1
    have hb1l : b < w1.heap.size := by omega
    have hg1l : g < w1.heap.size := hblk1.lt
    have hbne : b ≠ w1.heap.size := by omega
    have hgne : g ≠ w1.heap.size := by omega
    have HX := Lib.hid hx; have HXK := Lib.hid hxk; have HBEF := Lib.hid hbefore; have HBLK1 := Lib.hid hblk1; have HTOP1 := Lib.hid htop1; have HLEN := Lib.hid hlen; have HCM := Lib.hid hcm; have HCAP := Lib.hid hcap; have HBASE := Lib.hid hbase
    have HK1 : Hid (Keep [] w w1) := Lib.hid (((Keep.refl [] w).alloc _).trans (Keep.of_below hb1 (Nat.le_refl _)))
    clear hx hxk hbefore hblk1 htop1 hlen hcm hcap hbase hb1 hblk hx8 hs1
    go_wp2_with fail
    refine (delFr1 g cap n i L rest _ HN.out hin HCAP.out HCM.out (HBLK1.out.alloc _) HLEN.out (by omega)).mono ?_
    rintro e w4 ⟨rfl, ⟨rest4, hblk4, hlen4⟩, hk4⟩
    rw [HN.out]
    have hbg : b ≠ g := by have := HBASE.out; omega
    have htop4 := (HTOP1.out.alloc (.cells (fr3 x).toArray 59)).keep hk4 (by simpa using hbg)
    have hbt4 := (Blk.new w1 59 (fr3 x)).keep hk4 (by simpa using hgne.symm)
    have HBT4 := Lib.hid hbt4; have HTOP4 := Lib.hid htop4; have HBLK4 := Lib.hid hblk4; have HLEN4 := Lib.hid hlen4
    have HK4 : Hid (Keep [g] w w4) := Lib.hid (((HK1.out.alloc (.cells (fr3 x).toArray 59)).mono (by simp)).trans hk4)
    have hsz4 : w1.heap.size < w4.heap.size := hbt4.lt
    have hx84 := htop4.cell_ HC8.out
    have hx94 := htop4.cell_ HC9.out
    have hf84 := htop4.free 8
    obtain ⟨ht0, ht1, ht2⟩ := fr3_of hbt4
    obtain ⟨bt, hbt⟩ : ∃ bt, bt = w1.heap.size := ⟨_, rfl⟩
    rw [← hbt] at HBT4 ht0 ht1 ht2 hbne hgne hsz4 ⊢
    clear hbt4 htop4 hblk4 hlen4 hk4 hbt hx8' hf8' hp1 hxc0 hxc1 hxc2
    go_wp2
    have hni : ¬ (i : Int) < 0 := by omega
    go_quiet (fail)
    go_wp2
    obtain ⟨w5, hw5⟩ : ∃ w5, w5 = (w4.setCell ⟨b, 8, none⟩ (.slice (some ⟨g, 0, none⟩) (n - 1) cap)).drewN nq := ⟨_, rfl⟩
    have htop5 : Blk w5 b 52 (ctop disk (.slice (some ⟨g, 0, none⟩) (n - 1) cap) slots reads writes) := by
      rw [hw5, ← ctop_set8 (v := .slice (some ⟨g, 0, none⟩) n cap) HD.out]
      exact (HTOP4.out.set 8 _).drewN _
    have hk45 : Keep [b] w4 w5 := by rw [hw5]; exact ((Keep.refl _ w4).set (fun _ => by simp) _).drewN _
    have hbt5 := HBT4.out.keep hk45 (by simpa using hbne.symm)
    have hblk5 := HBLK4.out.keep hk45 (by simpa using hbg.symm)
    have hel : (L.eraseIdx i).length = n - 1 := by rw [List.length_eraseIdx_of_lt (by rw [HN.out]; exact hin), HN.out]
    have hf5 : FAt w5 (b + 1) (.slice (some ⟨g, 0, none⟩) (n - 1) cap) (L.eraseIdx i) := by
      rw [← hel]
      exact FAt.mk_ HBASE.out (by rw [hel]; have := HCAP.out; omega) HCM.out hblk5 HLEN4.out (by rw [List.take_append_of_le_length (by rw [flat3_len]; exact Nat.le_refl _)]; exact List.take_of_length_le (by rw [flat3_len]; exact Nat.le_refl _))
    have HTOP5 := Lib.hid htop5; have HBT5 := Lib.hid hbt5; have HF5 := Lib.hid hf5; have HL5 := Lib.hid hel; have HD5 := Lib.hid HD.out
    have HK5 : Hid (Keep [b, g] w w5) := Lib.hid ((HK4.out.mono (by simp)).trans (hk45.mono (by simp)))
    have huse : useB slots ⟨disk, L, reads, writes⟩ (k : Int) rd = ⟨disk, x :: L.eraseIdx i, reads, writes⟩ := by
      obtain ⟨e1, e2⟩ := first_erase (p := fun y : Fr => y.1 == (k : Int)) L i x HX.out (by simpa using HXK.out) (fun j y hj hy => by simpa using HBEF.out j y hj hy)
      unfold useB
      rw [e1]
      show BSt.mk disk (x :: L.eraseP _) reads writes = _
      rw [e2]
    have HUSE := Lib.hid huse
    rw [← hw5]
    clear huse hw5 htop5 hk45 hbt5 hblk5 hel hf5 hx84 hx94 hf84 ht0 ht1 ht2
    have hxq : ∀ wx, Keep [] w5 wx → wx.cell? ⟨b, 8, none⟩ = some (.slice (some ⟨g, 0, none⟩) (n - 1) cap) ∧ wx.cell? ⟨bt, 0, none⟩ = some (.int .i64 (x).1) ∧ wx.cell? ⟨bt, 1, none⟩ = some (.int .i64 (x).2.1) ∧ wx.cell? ⟨bt, 2, none⟩ = some (.bool (x).2.2) := fun wx hk =>
      ⟨(HTOP5.out.keep hk (by simp)).cell_ (ctop_rest HD5.out).1, fr3_of (HBT5.out.keep hk (by simp))⟩
    have HXQ := Lib.hid hxq
    obtain ⟨hy8, hy0, hy1, hy2⟩ := hxq _ (Keep.refl [] w5)
    have hbl5 := HTOP5.out.lt
    have hbn5 : b ≠ w5.heap.size := by omega
    have hxt : ∀ wx, Keep [b] w5 wx → wx.cell? ⟨bt, 0, none⟩ = some (.int .i64 (x).1) ∧ wx.cell? ⟨bt, 1, none⟩ = some (.int .i64 (x).2.1) ∧ wx.cell? ⟨bt, 2, none⟩ = some (.bool (x).2.2) := fun wx hk => fr3_of (HBT5.out.keep hk (by simpa using hbne.symm))
    have HXT := Lib.hid hxt
    clear hxq hxt
    have hbtl5 : bt < w5.heap.size := HBT5.out.lt
    have hbtn5 : bt ≠ w5.heap.size := by omega
    go_region_with
      (first
      | (go_at_call 33; refine (insFr_any _ _ (b + 1) (n - 1) (x) (L.eraseIdx i) _ ?_ HL5.out ?_ ?_ ?_ (by omega)).mono ?_; exact HF5.out.keepF (((Keep.refl [] w5).alloc _).drew) (by simp); (simp; omega); exact (Blk.new w5 59 (fr3 (x))).drew; (intro he; have := (HF5.out.lt _ he.symm).2; simp at this); rintro e w6 ⟨v6, rfl, hf6, F6, hk6, hF6, hown6⟩; obtain ⟨g6, cap6, rest6, rfl, hbase6, hcap6, hcm6, hblk6, hlen6⟩ := (hf6.shape).resolve_left (by simp); have HOW6 := Lib.hid (own6 hown6); have HXS := Lib.hid ((xs6 (x) (HTOP5.out.alloc _).drew HD5.out (HBT5.out.alloc _).drew hk6 (fun hm => by have := hF6 _ hm; simp [Value.ownBlock] at this; omega) (fun hm => by have := hF6 _ hm; simp [Value.ownBlock] at this; omega))); have HXU := Lib.hid (fun u => xu6 (x) (HBT5.out.alloc _).drew hk6 (fun hm => by have := hF6 _ hm; simp [Value.ownBlock] at this; omega) hbne.symm u); have HF6 := Lib.hid hf6; have HK6 := Lib.hid hk6; have HFF6 := Lib.hid hF6; have HBLK6 := Lib.hid hblk6; have hfz6 := (((HTOP5.out.alloc _).drew).keep hk6 (fun hm => by have := hF6 _ hm; simp [Value.ownBlock] at this; omega)).free 8; have hc86 := HXS.out.1; clear hf6 hk6 hF6 hblk6 hown6))
    all_goals
      have htop7 : Blk (w6.setCell ⟨b, 8, none⟩ (.slice (some ⟨g6, 0, none⟩) ((L.eraseIdx i).length + 1) cap6)) b 52 (ctop disk (.slice (some ⟨g6, 0, none⟩) ((L.eraseIdx i).length + 1) cap6) slots reads writes) := by
        rw [← ctop_set8 (v := .slice (some ⟨g, 0, none⟩) (n - 1) cap) HD5.out]
        exact ((((HTOP5.out.alloc _).drew).keep HK6.out (fun hm => by have := HFF6.out _ hm; simp [Value.ownBlock] at this; omega)).set 8 _)
      have hl8 := htop7.cell_ (ctop_rest HD5.out).1
      have HTOP7 := Lib.hid htop7
      have hlen0 : (0 : Int) < (((L.eraseIdx i).length : Nat) : Int) + 1 := by omega
      clear htop7
      go_wp2
      go_ret
      rw [HUSE.out]
      refine ⟨_, g6, rfl, ⟨HTOP7.out, HD5.out, HF6.out.keepF (F := [b]) ((Keep.refl _ w6).set (fun _ => by simp) _) (by simp [Value.ownBlock]; omega)⟩, rfl, ⟨[b, g], ((((HK5.out.alloc _).drew).trans (HK6.out.mono (fun z hz _ => ?_))).set (fun _ => by simp) _), ?_⟩, HOW6.out.imp id (fun h => by have := HK5.out.size; omega)⟩
      · have := HFF6.out _ hz
        simp [Value.ownBlock] at this
        simp [this]
      · simp [Value.ownBlock]
  · obtain ⟨x, hx, e⟩ := HHIT.out
    exact absurd e (hno x hx)
end Go.Proofs.YtgbccaplckiilaaDoor
