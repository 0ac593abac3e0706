/-
  back.use where the block is not there, by its contract. (Printed by gen_backuse2.py.)
-/
import Derived.Test.YtgbccaplckiilaaDoorBackUse
namespace Go.Proofs.YtgbccaplckiilaaDoor
open Go.RowKit

set_option maxHeartbeats 4000000 in
set_option maxRecDepth 100000 in
theorem use_miss (b k slots : Nat) (rd : Bool) (v : Value) (s : BSt) (w : World) (h : BAt w b v slots s) (h1 : 1 ≤ slots) (h8 : slots ≤ 8) (hle : s.fr.length ≤ slots) (hrng : ∀ x ∈ s.fr, 0 ≤ x.1 ∧ x.1 ≤ 7) (hk : k ≤ 7)
    (hr0 : 0 ≤ s.reads) (hr1 : s.reads ≤ 1000000) (hw0 : 0 ≤ s.writes) (hw1 : s.writes ≤ 1000000) (hhit : ∀ x ∈ s.fr, x.1 ≠ k) :
    Calls Tryd.prog 25 #[.pointer (some ⟨b, 0, none⟩), .int .i64 k, .bool rd] w (UsePost w b v slots (useB slots s k rd)) := by
  obtain ⟨disk, L, reads, writes⟩ := s
  simp only at hle hrng hr0 hr1 hw0 hw1 hhit
  have HHIT := Lib.hid hhit; clear hhit
  have hd : disk.length = 8 := h.dl
  have htop : Blk w b 52 (ctop disk v slots reads writes) := h.top
  have hfr : FAt w (b + 1) v L := h.fr
  have hbl := htop.lt
  have hfrA : FAt (w.alloc (.cells #[.int .i64 k] 3)) (b + 1) v L := hfr.keepF ((Keep.refl [] w).alloc _) (by simp)
  obtain ⟨a, g, cap, hv, hag, hg, hkin, hmore⟩ := hfrA.view w.heap.size (by simp)
  obtain ⟨n, hn⟩ : ∃ n, n = L.length := ⟨_, rfl⟩
  rw [← hn] at hv hag hmore hle
  subst hv
  have htopA := htop.alloc (.cells #[.int .i64 k] 3)
  obtain ⟨c8, c9, c10, c11⟩ := ctop_rest (v := .slice a n cap) (slots := slots) (r := reads) (wr := writes) hd
  have hx8 := htopA.cell_ c8
  have hn8 : n ≤ 8 := by omega
  have HN := Lib.hid hn.symm; have HAG := Lib.hid hag; have HKIN := Lib.hid hkin; have HMORE := Lib.hid hmore; have HTOP := Lib.hid htop; have HFR := Lib.hid hfr; have HD := Lib.hid hd; have HTOPA := Lib.hid htopA; have HRNG := Lib.hid hrng
  have HC8 := Lib.hid c8; have HC9 := Lib.hid c9; have HC10 := Lib.hid c10; have HC11 := Lib.hid c11; have HFRA := Lib.hid hfrA
  clear hn hag hkin hmore htop hfr hd htopA hrng c8 c9 c10 c11 hfrA h
  go_enter Tryd.func25, Tryd.ntmps25
  go_wp2_with fail
  refine (idxUse n cap g a ⟨w.heap.size, 0, none⟩ k L _ HN.out HAG.out hg HKIN.out (by omega) (by simp) (by simp)).mono ?_
  rintro e w1 ⟨hb1, ⟨i, x, hx, hxk, hbefore, rfl⟩ | ⟨hno, rfl⟩⟩
  · exact absurd hxk (HHIT.out x (List.mem_of_getElem? hx))
  · clear HHIT
    have htop1 := HTOPA.out.below hb1 (by simp; omega)
    have hp1 : w1.cell? ⟨w.heap.size, 0, none⟩ = some (.int .i64 k) := (hb1.cell (p := ⟨w.heap.size, 0, none⟩) (by simp)).trans (by simp)
    have hx8' := htop1.cell_ HC8.out
    have hf8' := htop1.free 8
    have hxr := htop1.cell_ HC10.out
    have hxrf := htop1.free 10
    obtain ⟨dv, hdv⟩ : ∃ dv, dv = disk.getD k 0 := ⟨_, rfl⟩
    have hdc : ∀ (v' : Value) (r' : Int), (ctop disk v' slots r' writes)[k]? = some (.int .i64 dv) := fun v' r' => by rw [hdv]; exact ctop_disk HD.out (by omega)
    have HDC := Lib.hid hdc; have HDV := Lib.hid hdv
    have hxd := htop1.cell_ (hdc _ _)
    clear hdv hdc
    have hwr : IntKind.i64.wrap (reads + 1) = reads + 1 := IntWalk.i64_in _ (by omega)
    have hk8 : (k : Int) < 8 := by omega
    have hk0 : (0 : Int) ≤ (k : Int) := by omega
    have hs1 := hb1.size
    rw [World.size_alloc] at hs1
    have hb1l : b < w1.heap.size := by omega
    have hbne : b ≠ w1.heap.size := by omega
    have hpne : w.heap.size ≠ w1.heap.size := by omega
    have hpl : w.heap.size < w1.heap.size := by omega
    have hfr1 := HFRA.out.keepF (F := []) (Keep.of_below hb1 (Nat.le_refl _)) (by simp)
    have HK1 : Hid (Keep [] w w1) := Lib.hid (((Keep.refl [] w).alloc _).trans (Keep.of_below hb1 (Nat.le_refl _)))
    have HBTN := Lib.hid (Blk.new w1 59 [.int .i64 k, .int .i64 0, .bool false])
    have hof : ∀ z ∈ [b, w1.heap.size], some z ≠ (Value.slice a n cap).ownBlock := by
      intro z hz e
      have := hfr1.lt z e.symm
      simp at hz
      omega
    have HTOP1 := Lib.hid htop1; have HNO := Lib.hid hno; have HFR1 := Lib.hid hfr1; have HOF := Lib.hid hof
    have hbtw : w.heap.size < w1.heap.size := by omega
    clear htop1 hb1 hno hfr1 hx8 hs1 hof

    rcases HFRA.out.shape with ⟨e1, e2⟩ | ⟨g, cap', rest, e1, hbase, hcap, hcm, hblk, hlen⟩
    · simp only [Value.slice.injEq] at e1
      obtain ⟨rfl, rfl, rfl⟩ := e1
      clear e2
      have hsl : ¬ (0 : Int) = (slots : Int) := by omega
      have hsl2 : ¬ 0 = slots := by omega
      cases rd with
      | true =>
        go_wp2
        obtain ⟨w2, hw2⟩ : ∃ w2, w2 = w1.alloc (.cells #[.int .i64 k, .int .i64 0, .bool false] 59) := ⟨_, rfl⟩
        have hbt2 : Blk w2 w1.heap.size 59 [.int .i64 k, .int .i64 0, .bool false] := by rw [hw2]; exact HBTN.out
        have htop2 : Blk w2 b 52 (ctop disk (.slice none 0 0) slots reads writes) := by rw [hw2]; exact HTOP1.out.alloc _
        have hk12 : Keep [] w1 w2 := by rw [hw2]; exact (Keep.refl _ w1).alloc _
        have hp2 : w2.cell? ⟨w.heap.size, 0, none⟩ = some (.int .i64 k) := (hk12.cell (p := ⟨w.heap.size, 0, none⟩) hpl (by simp)).trans hp1
        have HK12 := Lib.hid hk12; have HBT2 := Lib.hid hbt2; have HTOP2 := Lib.hid htop2
        rw [← hw2]
        clear hx8' hf8' hp1 hxr hxrf hxd hw2 hk12
        have hq0 := hbt2.cell_ (i := 0) rfl
        have hq1 := hbt2.cell_ (i := 1) rfl
        have hq2 := hbt2.cell_ (i := 2) rfl
        have hqf := hbt2.free 1
        have hxr := htop2.cell_ (ctop_rest HD.out).2.2.1
        have hxrf := htop2.free 10
        have hxd := htop2.cell_ (HDC.out _ _)
        clear hbt2 htop2
        go_still_tail 7, (by kernel_rfl)
        go_wp2
        obtain ⟨w3, hw3⟩ : ∃ w3, w3 = ((w2.setCell ⟨w1.heap.size, 1, none⟩ (.int .i64 (dv))).setCell ⟨b, 10, none⟩ (.int .i64 (reads + 1))).drew := ⟨_, rfl⟩
        have hbt3 : Blk w3 w1.heap.size 59 (fr3 (((k : Int), dv, false) : Fr)) := by rw [hw3]; exact ((HBT2.out.drew.set 1 (.int .i64 (dv))).far (p := ⟨b, 10, none⟩) hbne.symm _)
        have htop3 : Blk w3 b 52 (ctop disk (.slice none 0 0) slots (reads + 1) writes) := by
          rw [hw3, ← ctop_set10 (r := reads) HD.out]
          exact ((HTOP2.out.drew).far (p := ⟨w1.heap.size, 1, none⟩) hbne _).set 10 _
        have hk3 : Keep [b] w w3 := by rw [hw3]; exact ((((HK1.out.trans HK12.out).mono (by simp)).drew).set (p := ⟨w1.heap.size, 1, none⟩) (fun h => absurd h (by show ¬ w1.heap.size < w.heap.size; omega)) _).set (fun _ => by simp) _
        have hf3 : FAt w3 (b + 1) (.slice none 0 0) L := by rw [hw3]; exact HFR1.out.keepF (F := [b, w1.heap.size]) ((((HK12.out.mono (by simp)).drew).set (fun _ => by simp) _).set (fun _ => by simp) _) HOF.out
        have HBT3 := Lib.hid hbt3; have HTOP3 := Lib.hid htop3; have HK3 := Lib.hid hk3; have HF3 := Lib.hid hf3
        have hy83 := htop3.cell_ (ctop_rest HD.out).1
        have hy93 := htop3.cell_ (ctop_rest HD.out).2.1
        have hz83 := htop3.free 8
        rw [show ((w2.setCell ⟨w1.heap.size, 1, none⟩ (.int .i64 (dv))).setCell ⟨b, 10, none⟩ (.int .i64 (reads + 1))).drew = w3 from hw3.symm]
        clear hw3 hbt3 htop3 hk3 hf3 hq0 hq1 hq2 hqf hp2 hxr hxrf hxd
        go_quiet (fail)
        go_wp2
        obtain ⟨w5, hw5⟩ : ∃ w5, w5 = w3.drewN nq := ⟨_, rfl⟩
        have HTOP5 : Hid (Blk w5 b 52 (ctop disk (.slice none 0 0) slots (reads + 1) writes)) := Lib.hid (by rw [hw5]; exact HTOP3.out.drewN _)
        have HBT5 : Hid (Blk w5 w1.heap.size 59 (fr3 (((k : Int), dv, false) : Fr))) := Lib.hid (by rw [hw5]; exact HBT3.out.drewN _)
        have HF5 : Hid (FAt w5 (b + 1) (.slice none 0 0) L) := Lib.hid (by rw [hw5]; exact HF3.out.keepF (F := []) ((Keep.refl [] w3).drewN _) (by simp))
        have HK5 : Hid (Keep [b] w w5) := Lib.hid (by rw [hw5]; exact (HK3.out.mono (by simp)).drewN _)
        have HL5 : Hid (L.length = 0) := Lib.hid HN.out
        have HD5 := Lib.hid HD.out
        have HUSE : Hid (useB slots ⟨disk, L, reads, writes⟩ (k : Int) true = ⟨disk, (((k : Int), dv, false) : Fr) :: L, (reads + 1), writes⟩) := Lib.hid (by
          unfold useB room
          rw [find_none' HNO.out]
          have hln : ¬ L.length = slots := by rw [HN.out]; omega
          have htn : ((k : Int)).toNat = k := by omega
          simp [hln, htn, HDV.out])
        rw [← hw5]
        clear hw5 hy83 hy93 hz83
        have hxq : ∀ wx, Keep [] w5 wx → wx.cell? ⟨b, 8, none⟩ = some (.slice none 0 0) ∧ wx.cell? ⟨w1.heap.size, 0, none⟩ = some (.int .i64 ((((k : Int), dv, false) : Fr)).1) ∧ wx.cell? ⟨w1.heap.size, 1, none⟩ = some (.int .i64 ((((k : Int), dv, false) : Fr)).2.1) ∧ wx.cell? ⟨w1.heap.size, 2, none⟩ = some (.bool ((((k : Int), dv, false) : Fr)).2.2) := fun wx hk =>
          ⟨(HTOP5.out.keep hk (by simp)).cell_ (ctop_rest HD5.out).1, fr3_of (HBT5.out.keep hk (by simp))⟩
        have HXQ := Lib.hid hxq
        obtain ⟨hy8, hy0, hy1, hy2⟩ := hxq _ (Keep.refl [] w5)
        have hbl5 := HTOP5.out.lt
        have hbn5 : b ≠ w5.heap.size := by omega
        have hxt : ∀ wx, Keep [b] w5 wx → wx.cell? ⟨w1.heap.size, 0, none⟩ = some (.int .i64 ((((k : Int), dv, false) : Fr)).1) ∧ wx.cell? ⟨w1.heap.size, 1, none⟩ = some (.int .i64 ((((k : Int), dv, false) : Fr)).2.1) ∧ wx.cell? ⟨w1.heap.size, 2, none⟩ = some (.bool ((((k : Int), dv, false) : Fr)).2.2) := fun wx hk => fr3_of (HBT5.out.keep hk (by simpa using hbne.symm))
        have HXT := Lib.hid hxt
        clear hxq hxt
        have hbtl5 : w1.heap.size < w5.heap.size := HBT5.out.lt
        have hbtn5 : w1.heap.size ≠ w5.heap.size := by omega
        go_region_with
          (first
          | (go_at_call 33; refine (insFr_any _ _ (b + 1) (0) ((((k : Int), dv, false) : Fr)) (L) _ ?_ HL5.out ?_ ?_ ?_ (by omega)).mono ?_; exact HF5.out.keepF (((Keep.refl [] w5).alloc _).drew) (by simp); (first | (simp; omega) | (simp; done) | omega); exact (Blk.new w5 59 (fr3 ((((k : Int), dv, false) : Fr)))).drew; (intro he; have h9 := (HF5.out.lt _ he.symm).2; exact absurd h9 (by simp)); rintro e w6 ⟨v6, rfl, hf6, F6, hk6, hF6, hown6⟩; obtain ⟨g6, cap6, rest6, rfl, hbase6, hcap6, hcm6, hblk6, hlen6⟩ := (hf6.shape).resolve_left (by simp); have HOW6 := Lib.hid (own6 hown6); have HXS := Lib.hid ((xs6 ((((k : Int), dv, false) : Fr)) (HTOP5.out.alloc _).drew HD5.out (HBT5.out.alloc _).drew hk6 (fun hm => by have := hF6 _ hm; (first | (simp [Value.ownBlock] at this; omega) | (simp [Value.ownBlock] at this; done))) (fun hm => by have := hF6 _ hm; (first | (simp [Value.ownBlock] at this; omega) | (simp [Value.ownBlock] at this; done))))); have HXU := Lib.hid (fun u => xu6 ((((k : Int), dv, false) : Fr)) (HBT5.out.alloc _).drew hk6 (fun hm => by have := hF6 _ hm; (first | (simp [Value.ownBlock] at this; omega) | (simp [Value.ownBlock] at this; done))) hbne.symm u); have HF6 := Lib.hid hf6; have HK6 := Lib.hid hk6; have HFF6 := Lib.hid hF6; have HBLK6 := Lib.hid hblk6; have hfz6 := (((HTOP5.out.alloc _).drew).keep hk6 (fun hm => by have := hF6 _ hm; (first | (simp [Value.ownBlock] at this; omega) | (simp [Value.ownBlock] at this; done)))).free 8; have hc86 := HXS.out.1; clear hf6 hk6 hF6 hblk6 hown6))
        all_goals
          have htop7 : Blk (w6.setCell ⟨b, 8, none⟩ (.slice (some ⟨g6, 0, none⟩) ((L).length + 1) cap6)) b 52 (ctop disk (.slice (some ⟨g6, 0, none⟩) ((L).length + 1) cap6) slots (reads + 1) writes) := by
            rw [← ctop_set8 (v := .slice none 0 0) HD5.out]
            exact ((((HTOP5.out.alloc _).drew).keep HK6.out (fun hm => by have := HFF6.out _ hm; (first | (simp [Value.ownBlock] at this; omega) | (simp [Value.ownBlock] at this; done)))).set 8 _)
          have hl8 := htop7.cell_ (ctop_rest HD5.out).1
          have HTOP7 := Lib.hid htop7
          have hlen0 : (0 : Int) < (((L).length : Nat) : Int) + 1 := by omega
          clear htop7
          go_wp2
          go_ret
          rw [HUSE.out]
          refine ⟨_, g6, rfl, ⟨HTOP7.out, HD5.out, HF6.out.keepF (F := [b]) ((Keep.refl _ w6).set (fun _ => by simp) _) (by simp [Value.ownBlock]; omega)⟩, rfl, ⟨[b], ((((HK5.out.alloc _).drew).trans (HK6.out.mono (fun z hz _ => ?_))).set (fun _ => by simp) _), ?_⟩, HOW6.out.imp id (fun h => by have := HK5.out.size; omega)⟩
          · have := HFF6.out _ hz
            first | (simp [Value.ownBlock] at this; simp [this]; done) | (simp [Value.ownBlock] at this)
          · first | (simp [Value.ownBlock]; done) | simp

      | false =>
        go_wp2
        obtain ⟨w3, hw3⟩ : ∃ w3, w3 = w1.alloc (.cells #[.int .i64 k, .int .i64 0, .bool false] 59) := ⟨_, rfl⟩
        have hbt3 : Blk w3 w1.heap.size 59 (fr3 (((k : Int), 0, false) : Fr)) := by rw [hw3]; exact HBTN.out
        have htop3 : Blk w3 b 52 (ctop disk (.slice none 0 0) slots reads writes) := by rw [hw3]; exact HTOP1.out.alloc _
        have hk3 : Keep [b] w w3 := by rw [hw3]; exact (HK1.out.mono (by simp)).alloc _
        have hf3 : FAt w3 (b + 1) (.slice none 0 0) L := by rw [hw3]; exact HFR1.out.keepF (F := []) ((Keep.refl [] w1).alloc _) (by simp)
        have HBT3 := Lib.hid hbt3; have HTOP3 := Lib.hid htop3; have HK3 := Lib.hid hk3; have HF3 := Lib.hid hf3
        have hy83 := htop3.cell_ (ctop_rest HD.out).1
        have hy93 := htop3.cell_ (ctop_rest HD.out).2.1
        have hz83 := htop3.free 8
        rw [← hw3]
        clear hw3 hbt3 htop3 hk3 hf3 hx8' hf8' hp1 hxr hxrf hxd
        go_quiet (fail)
        go_wp2
        obtain ⟨w5, hw5⟩ : ∃ w5, w5 = w3.drewN nq := ⟨_, rfl⟩
        have HTOP5 : Hid (Blk w5 b 52 (ctop disk (.slice none 0 0) slots reads writes)) := Lib.hid (by rw [hw5]; exact HTOP3.out.drewN _)
        have HBT5 : Hid (Blk w5 w1.heap.size 59 (fr3 (((k : Int), 0, false) : Fr))) := Lib.hid (by rw [hw5]; exact HBT3.out.drewN _)
        have HF5 : Hid (FAt w5 (b + 1) (.slice none 0 0) L) := Lib.hid (by rw [hw5]; exact HF3.out.keepF (F := []) ((Keep.refl [] w3).drewN _) (by simp))
        have HK5 : Hid (Keep [b] w w5) := Lib.hid (by rw [hw5]; exact (HK3.out.mono (by simp)).drewN _)
        have HL5 : Hid (L.length = 0) := Lib.hid HN.out
        have HD5 := Lib.hid HD.out
        have HUSE : Hid (useB slots ⟨disk, L, reads, writes⟩ (k : Int) false = ⟨disk, (((k : Int), 0, false) : Fr) :: L, reads, writes⟩) := Lib.hid (by
          unfold useB room
          rw [find_none' HNO.out]
          have hln : ¬ L.length = slots := by rw [HN.out]; omega
          have htn : ((k : Int)).toNat = k := by omega
          simp [hln, htn, HDV.out])
        rw [← hw5]
        clear hw5 hy83 hy93 hz83
        have hxq : ∀ wx, Keep [] w5 wx → wx.cell? ⟨b, 8, none⟩ = some (.slice none 0 0) ∧ wx.cell? ⟨w1.heap.size, 0, none⟩ = some (.int .i64 ((((k : Int), 0, false) : Fr)).1) ∧ wx.cell? ⟨w1.heap.size, 1, none⟩ = some (.int .i64 ((((k : Int), 0, false) : Fr)).2.1) ∧ wx.cell? ⟨w1.heap.size, 2, none⟩ = some (.bool ((((k : Int), 0, false) : Fr)).2.2) := fun wx hk =>
          ⟨(HTOP5.out.keep hk (by simp)).cell_ (ctop_rest HD5.out).1, fr3_of (HBT5.out.keep hk (by simp))⟩
        have HXQ := Lib.hid hxq
        obtain ⟨hy8, hy0, hy1, hy2⟩ := hxq _ (Keep.refl [] w5)
        have hbl5 := HTOP5.out.lt
        have hbn5 : b ≠ w5.heap.size := by omega
        have hxt : ∀ wx, Keep [b] w5 wx → wx.cell? ⟨w1.heap.size, 0, none⟩ = some (.int .i64 ((((k : Int), 0, false) : Fr)).1) ∧ wx.cell? ⟨w1.heap.size, 1, none⟩ = some (.int .i64 ((((k : Int), 0, false) : Fr)).2.1) ∧ wx.cell? ⟨w1.heap.size, 2, none⟩ = some (.bool ((((k : Int), 0, false) : Fr)).2.2) := fun wx hk => fr3_of (HBT5.out.keep hk (by simpa using hbne.symm))
        have HXT := Lib.hid hxt
        clear hxq hxt
        have hbtl5 : w1.heap.size < w5.heap.size := HBT5.out.lt
        have hbtn5 : w1.heap.size ≠ w5.heap.size := by omega
        go_region_with
          (first
          | (go_at_call 33; refine (insFr_any _ _ (b + 1) (0) ((((k : Int), 0, false) : Fr)) (L) _ ?_ HL5.out ?_ ?_ ?_ (by omega)).mono ?_; exact HF5.out.keepF (((Keep.refl [] w5).alloc _).drew) (by simp); (first | (simp; omega) | (simp; done) | omega); exact (Blk.new w5 59 (fr3 ((((k : Int), 0, false) : Fr)))).drew; (intro he; have h9 := (HF5.out.lt _ he.symm).2; exact absurd h9 (by simp)); rintro e w6 ⟨v6, rfl, hf6, F6, hk6, hF6, hown6⟩; obtain ⟨g6, cap6, rest6, rfl, hbase6, hcap6, hcm6, hblk6, hlen6⟩ := (hf6.shape).resolve_left (by simp); have HOW6 := Lib.hid (own6 hown6); have HXS := Lib.hid ((xs6 ((((k : Int), 0, false) : Fr)) (HTOP5.out.alloc _).drew HD5.out (HBT5.out.alloc _).drew hk6 (fun hm => by have := hF6 _ hm; (first | (simp [Value.ownBlock] at this; omega) | (simp [Value.ownBlock] at this; done))) (fun hm => by have := hF6 _ hm; (first | (simp [Value.ownBlock] at this; omega) | (simp [Value.ownBlock] at this; done))))); have HXU := Lib.hid (fun u => xu6 ((((k : Int), 0, false) : Fr)) (HBT5.out.alloc _).drew hk6 (fun hm => by have := hF6 _ hm; (first | (simp [Value.ownBlock] at this; omega) | (simp [Value.ownBlock] at this; done))) hbne.symm u); have HF6 := Lib.hid hf6; have HK6 := Lib.hid hk6; have HFF6 := Lib.hid hF6; have HBLK6 := Lib.hid hblk6; have hfz6 := (((HTOP5.out.alloc _).drew).keep hk6 (fun hm => by have := hF6 _ hm; (first | (simp [Value.ownBlock] at this; omega) | (simp [Value.ownBlock] at this; done)))).free 8; have hc86 := HXS.out.1; clear hf6 hk6 hF6 hblk6 hown6))
        all_goals
          have htop7 : Blk (w6.setCell ⟨b, 8, none⟩ (.slice (some ⟨g6, 0, none⟩) ((L).length + 1) cap6)) b 52 (ctop disk (.slice (some ⟨g6, 0, none⟩) ((L).length + 1) cap6) slots reads writes) := by
            rw [← ctop_set8 (v := .slice none 0 0) HD5.out]
            exact ((((HTOP5.out.alloc _).drew).keep HK6.out (fun hm => by have := HFF6.out _ hm; (first | (simp [Value.ownBlock] at this; omega) | (simp [Value.ownBlock] at this; done)))).set 8 _)
          have hl8 := htop7.cell_ (ctop_rest HD5.out).1
          have HTOP7 := Lib.hid htop7
          have hlen0 : (0 : Int) < (((L).length : Nat) : Int) + 1 := by omega
          clear htop7
          go_wp2
          go_ret
          rw [HUSE.out]
          refine ⟨_, g6, rfl, ⟨HTOP7.out, HD5.out, HF6.out.keepF (F := [b]) ((Keep.refl _ w6).set (fun _ => by simp) _) (by simp [Value.ownBlock]; omega)⟩, rfl, ⟨[b], ((((HK5.out.alloc _).drew).trans (HK6.out.mono (fun z hz _ => ?_))).set (fun _ => by simp) _), ?_⟩, HOW6.out.imp id (fun h => by have := HK5.out.size; omega)⟩
          · have := HFF6.out _ hz
            first | (simp [Value.ownBlock] at this; simp [this]; done) | (simp [Value.ownBlock] at this)
          · first | (simp [Value.ownBlock]; done) | simp

    · simp only [Value.slice.injEq] at e1
      obtain ⟨rfl, hnl, rfl⟩ := e1
      clear hnl
      by_cases hfull : n = slots
      · subst hfull
        have hsl : (n : Int) = (n : Int) := rfl
        have hbg : b ≠ g := by omega
        have hgl1 : g < w1.heap.size := (HFR1.out.lt g rfl).2
        have hgne : g ≠ w1.heap.size := by omega
        clear hsl
        cases rd with
        | true =>
          go_wp2
          obtain ⟨w2, hw2⟩ : ∃ w2, w2 = w1.alloc (.cells #[.int .i64 k, .int .i64 0, .bool false] 59) := ⟨_, rfl⟩
          have hbt2 : Blk w2 w1.heap.size 59 [.int .i64 k, .int .i64 0, .bool false] := by rw [hw2]; exact HBTN.out
          have htop2 : Blk w2 b 52 (ctop disk (.slice (some ⟨g, 0, none⟩) n cap) n reads writes) := by rw [hw2]; exact HTOP1.out.alloc _
          have hk12 : Keep [] w1 w2 := by rw [hw2]; exact (Keep.refl _ w1).alloc _
          have hp2 : w2.cell? ⟨w.heap.size, 0, none⟩ = some (.int .i64 k) := (hk12.cell (p := ⟨w.heap.size, 0, none⟩) hpl (by simp)).trans hp1
          have HK12 := Lib.hid hk12; have HBT2 := Lib.hid hbt2; have HTOP2 := Lib.hid htop2
          rw [← hw2]
          clear hx8' hf8' hp1 hxr hxrf hxd hw2 hk12
          have hq0 := hbt2.cell_ (i := 0) rfl
          have hq1 := hbt2.cell_ (i := 1) rfl
          have hq2 := hbt2.cell_ (i := 2) rfl
          have hqf := hbt2.free 1
          have hxr := htop2.cell_ (ctop_rest HD.out).2.2.1
          have hxrf := htop2.free 10
          have hxd := htop2.cell_ (HDC.out _ _)
          clear hbt2 htop2
          go_still_tail 7, (by kernel_rfl)
          go_wp2
          obtain ⟨w3, hw3⟩ : ∃ w3, w3 = ((w2.setCell ⟨w1.heap.size, 1, none⟩ (.int .i64 (dv))).setCell ⟨b, 10, none⟩ (.int .i64 (reads + 1))).drew := ⟨_, rfl⟩
          have hbt3 : Blk w3 w1.heap.size 59 (fr3 (((k : Int), dv, false) : Fr)) := by rw [hw3]; exact ((HBT2.out.drew.set 1 (.int .i64 (dv))).far (p := ⟨b, 10, none⟩) hbne.symm _)
          have htop3 : Blk w3 b 52 (ctop disk (.slice (some ⟨g, 0, none⟩) n cap) n (reads + 1) writes) := by
            rw [hw3, ← ctop_set10 (r := reads) HD.out]
            exact ((HTOP2.out.drew).far (p := ⟨w1.heap.size, 1, none⟩) hbne _).set 10 _
          have hk3 : Keep [b] w w3 := by rw [hw3]; exact ((((HK1.out.trans HK12.out).mono (by simp)).drew).set (p := ⟨w1.heap.size, 1, none⟩) (fun h => absurd h (by show ¬ w1.heap.size < w.heap.size; omega)) _).set (fun _ => by simp) _
          have hf3 : FAt w3 (b + 1) (.slice (some ⟨g, 0, none⟩) n cap) L := by rw [hw3]; exact HFR1.out.keepF (F := [b, w1.heap.size]) ((((HK12.out.mono (by simp)).drew).set (fun _ => by simp) _).set (fun _ => by simp) _) HOF.out
          have HBT3 := Lib.hid hbt3; have HTOP3 := Lib.hid htop3; have HK3 := Lib.hid hk3; have HF3 := Lib.hid hf3
          have hy83 := htop3.cell_ (ctop_rest HD.out).1
          have hy93 := htop3.cell_ (ctop_rest HD.out).2.1
          have hz83 := htop3.free 8
          rw [show ((w2.setCell ⟨w1.heap.size, 1, none⟩ (.int .i64 (dv))).setCell ⟨b, 10, none⟩ (.int .i64 (reads + 1))).drew = w3 from hw3.symm]
          clear hw3 hbt3 htop3 hk3 hf3 hq0 hq1 hq2 hqf hp2 hxr hxrf hxd
          go_quiet (fail)
          go_wp2
          obtain ⟨w4, hw4⟩ : ∃ w4, w4 = w3.drewN nq := ⟨_, rfl⟩
          have htop4 : Blk w4 b 52 (ctop disk (.slice (some ⟨g, 0, none⟩) n cap) n (reads + 1) writes) := by rw [hw4]; exact HTOP3.out.drewN _
          have hbt4 : Blk w4 w1.heap.size 59 (fr3 (((k : Int), dv, false) : Fr)) := by rw [hw4]; exact HBT3.out.drewN _
          have hf4 : FAt w4 (b + 1) (.slice (some ⟨g, 0, none⟩) n cap) L := by rw [hw4]; exact HF3.out.keepF (F := []) ((Keep.refl [] w3).drewN _) (by simp)
          have HK4 : Hid (Keep [b] w w4) := Lib.hid (by rw [hw4]; exact HK3.out.drewN _)
          rw [← hw4]
          clear hw4 hy83 hy93 hz83
          obtain ⟨g4, cap4, rest4, e4, hbase4, hcap4, hcm4, hblk4, hlen4⟩ := (hf4.shape).resolve_left (by simp)
          have e5 : g = g4 ∧ cap = cap4 := by injection e4 with e6 e7 e8; injection e6 with e9; injection e9 with e10; exact ⟨e10, e8⟩
          obtain ⟨rfl, rfl⟩ := e5
          have hy84 := htop4.cell_ (ctop_rest HD.out).1
          have hy94 := htop4.cell_ (ctop_rest HD.out).2.1
          have hnp : n - 1 < L.length := by rw [HN.out]; omega
          obtain ⟨x, hx⟩ : ∃ x, x = L[n - 1] := ⟨_, rfl⟩
          have hxg : L[n - 1]? = some x := by rw [hx]; exact List.getElem?_eq_getElem hnp
          obtain ⟨hx0, hx7⟩ := HRNG.out x (List.mem_of_getElem? hxg)
          have hwn : IntKind.i64.wrap ((n : Int) - 1) = ((n - 1 : Nat) : Int) := by rw [show (n : Int) - 1 = ((n - 1 : Nat) : Int) by omega]; exact IntWalk.i64_in _ (by omega)
          have hn1 : ((n - 1 : Nat) : Int) < (n : Int) := by omega
          have hn2 : (0 : Int) ≤ ((n - 1 : Nat) : Int) := by omega
          have HX := Lib.hid hxg; have HTOP4 := Lib.hid htop4; have HBT4 := Lib.hid hbt4; have HBLK4 := Lib.hid hblk4; have HLEN4 := Lib.hid hlen4; have HCAP4 := Lib.hid hcap4; have HCM4 := Lib.hid hcm4
          clear e4 hx hxg htop4 hbt4 hblk4 hlen4 hcap4 hcm4 hf4 hnp
          go_still_tail 11, (by kernel_rfl)
          go_wp2_with fail
          refine (clean_any b g (n - 1) n disk (.slice (some ⟨g, 0, none⟩) n cap) (reads + 1) writes L rest4 x _ (HTOP4.out.drew) HD.out (HBLK4.out.drew) HX.out hx0 hx7 hw0 hw1).mono ?_
          rintro e w6 ⟨rfl, htop6, hblk6, hk6⟩
          have hcd : (cleanD disk x).length = 8 := by rw [cleanD_len]; exact HD.out
          have hbt6 := HBT4.out.drew.keep hk6 (by simp; exact ⟨hbne.symm, hgne.symm⟩)
          have hy86 := htop6.cell_ (ctop_rest hcd).1
          have hy96 := htop6.cell_ (ctop_rest hcd).2.1
          have hz86 := htop6.free 8
          have HTOP6 := Lib.hid htop6; have HBLK6' := Lib.hid hblk6; have HBT6 := Lib.hid hbt6; have HCD := Lib.hid hcd
          have HK6' : Hid (Keep [b, g] w w6) := Lib.hid (((HK4.out.drew).mono (by simp)).trans hk6)
          clear htop6 hblk6 hk6 hbt6 hcd hy84 hy94
          have hnc : n - 1 ≤ cap := by have := HCAP4.out; have := HN.out; omega
          have hnci : ((n - 1 : Nat) : Int) ≤ (cap : Int) := by omega
          go_wp2
          go_still_tail 13, (by kernel_rfl)
          go_wp2
          obtain ⟨w5, hw5⟩ : ∃ w5, w5 = (w6.setCell ⟨b, 8, none⟩ (.slice (some ⟨g, 0, none⟩) (n - 1) cap)).drew := ⟨_, rfl⟩
          have HTOP5 : Hid (Blk w5 b 52 (ctop (cleanD disk x) (.slice (some ⟨g, 0, none⟩) (n - 1) cap) n (reads + 1) (writes + cleanW x))) := Lib.hid (by
            rw [hw5, ← ctop_set8 (v := .slice (some ⟨g, 0, none⟩) n cap) HCD.out]
            exact (HTOP6.out.set 8 _).drew)
          have HBT5 : Hid (Blk w5 w1.heap.size 59 (fr3 (((k : Int), dv, false) : Fr))) := Lib.hid (by rw [hw5]; exact (HBT6.out.far (p := ⟨b, 8, none⟩) hbne.symm _).drew)
          have hel : (L.take (n - 1)).length = n - 1 := by rw [List.length_take, HN.out]; omega
          have hf5 : FAt w5 (b + 1) (.slice (some ⟨g, 0, none⟩) (n - 1) cap) (L.take (n - 1)) := by
            rw [hw5]
            have hls : (L.set (n - 1) (unD x)).length = L.length := List.length_set
            have hfll := flat3_len (L.set (n - 1) (unD x))
            have key := FAt.mk_ (L := L.take (n - 1)) hbase4 (by rw [hel]; exact hnc) HCM4.out ((HBLK6'.out.far (p := ⟨b, 8, none⟩) hbg.symm (.slice (some ⟨g, 0, none⟩) (n - 1) cap)).drew) (by have := HLEN4.out; rw [List.length_append] at this ⊢; rw [hfll, hls, ← flat3_len L]; exact this) (by
              rw [hel, List.take_append_of_le_length (by rw [hfll, hls, HN.out]; omega), flat3_take]
              congr 1
              rw [List.take_set]
              exact List.set_eq_of_length_le (by rw [hel]; exact Nat.le_refl _))
            rwa [hel] at key
          have HK5 : Hid (Keep [b, g] w w5) := Lib.hid (by rw [hw5]; exact (HK6'.out.set (fun _ => by simp) _).drew)
          have HD5 := HCD
          have huse : useB n ⟨disk, L, reads, writes⟩ (k : Int) true = ⟨cleanD disk x, (((k : Int), dv, false) : Fr) :: L.take (n - 1), (reads + 1), writes + cleanW x⟩ := by
            unfold useB room
            rw [find_none' HNO.out]
            have hgl : L.getLast? = some x := by rw [List.getLast?_eq_getElem?, HN.out]; exact HX.out
            have hdl : L.dropLast = L.take (n - 1) := by rw [List.dropLast_eq_take, HN.out]
            have htn : ((k : Int)).toNat = k := by omega
            simp only [HN.out, if_pos, hgl, evict, hdl]
            simp [htn, HDV.out]
          obtain ⟨L5, hL5⟩ : ∃ L5, L5 = L.take (n - 1) := ⟨_, rfl⟩
          rw [← hL5] at hf5 hel huse
          have HL5 := Lib.hid hel; have HF5 := Lib.hid hf5; have HUSE := Lib.hid huse
          clear hL5 hf5 huse
          rw [show World.drew (World.setCell w6 ⟨b, 8, none⟩ (.slice (some ⟨g, 0, none⟩) (n - 1) cap)) = w5 from hw5.symm]
          clear hw5 hel hy86 hy96 hz86
          have hxq : ∀ wx, Keep [] w5 wx → wx.cell? ⟨b, 8, none⟩ = some (.slice (some ⟨g, 0, none⟩) (n - 1) cap) ∧ wx.cell? ⟨w1.heap.size, 0, none⟩ = some (.int .i64 ((((k : Int), dv, false) : Fr)).1) ∧ wx.cell? ⟨w1.heap.size, 1, none⟩ = some (.int .i64 ((((k : Int), dv, false) : Fr)).2.1) ∧ wx.cell? ⟨w1.heap.size, 2, none⟩ = some (.bool ((((k : Int), dv, false) : Fr)).2.2) := fun wx hk =>
            ⟨(HTOP5.out.keep hk (by simp)).cell_ (ctop_rest HD5.out).1, fr3_of (HBT5.out.keep hk (by simp))⟩
          have HXQ := Lib.hid hxq
          obtain ⟨hy8, hy0, hy1, hy2⟩ := hxq _ (Keep.refl [] w5)
          have hbl5 := HTOP5.out.lt
          have hbn5 : b ≠ w5.heap.size := by omega
          have hxt : ∀ wx, Keep [b] w5 wx → wx.cell? ⟨w1.heap.size, 0, none⟩ = some (.int .i64 ((((k : Int), dv, false) : Fr)).1) ∧ wx.cell? ⟨w1.heap.size, 1, none⟩ = some (.int .i64 ((((k : Int), dv, false) : Fr)).2.1) ∧ wx.cell? ⟨w1.heap.size, 2, none⟩ = some (.bool ((((k : Int), dv, false) : Fr)).2.2) := fun wx hk => fr3_of (HBT5.out.keep hk (by simpa using hbne.symm))
          have HXT := Lib.hid hxt
          clear hxq hxt
          have hbtl5 : w1.heap.size < w5.heap.size := HBT5.out.lt
          have hbtn5 : w1.heap.size ≠ w5.heap.size := by omega
          go_region_with
            (first
            | (go_at_call 33; refine (insFr_any _ _ (b + 1) (n - 1) ((((k : Int), dv, false) : Fr)) (L5) _ ?_ HL5.out ?_ ?_ ?_ (by omega)).mono ?_; exact HF5.out.keepF (((Keep.refl [] w5).alloc _).drew) (by simp); (first | (simp; omega) | (simp; done) | omega); exact (Blk.new w5 59 (fr3 ((((k : Int), dv, false) : Fr)))).drew; (intro he; have h9 := (HF5.out.lt _ he.symm).2; exact absurd h9 (by simp)); rintro e w6 ⟨v6, rfl, hf6, F6, hk6, hF6, hown6⟩; obtain ⟨g6, cap6, rest6, rfl, hbase6, hcap6, hcm6, hblk6, hlen6⟩ := (hf6.shape).resolve_left (by simp); have HOW6 := Lib.hid (own6 hown6); have HXS := Lib.hid ((xs6 ((((k : Int), dv, false) : Fr)) (HTOP5.out.alloc _).drew HD5.out (HBT5.out.alloc _).drew hk6 (fun hm => by have := hF6 _ hm; (first | (simp [Value.ownBlock] at this; omega) | (simp [Value.ownBlock] at this; done))) (fun hm => by have := hF6 _ hm; (first | (simp [Value.ownBlock] at this; omega) | (simp [Value.ownBlock] at this; done))))); have HXU := Lib.hid (fun u => xu6 ((((k : Int), dv, false) : Fr)) (HBT5.out.alloc _).drew hk6 (fun hm => by have := hF6 _ hm; (first | (simp [Value.ownBlock] at this; omega) | (simp [Value.ownBlock] at this; done))) hbne.symm u); have HF6 := Lib.hid hf6; have HK6 := Lib.hid hk6; have HFF6 := Lib.hid hF6; have HBLK6 := Lib.hid hblk6; have hfz6 := (((HTOP5.out.alloc _).drew).keep hk6 (fun hm => by have := hF6 _ hm; (first | (simp [Value.ownBlock] at this; omega) | (simp [Value.ownBlock] at this; done)))).free 8; have hc86 := HXS.out.1; clear hf6 hk6 hF6 hblk6 hown6))
          all_goals
            have htop7 : Blk (w6.setCell ⟨b, 8, none⟩ (.slice (some ⟨g6, 0, none⟩) ((L5).length + 1) cap6)) b 52 (ctop (cleanD disk x) (.slice (some ⟨g6, 0, none⟩) ((L5).length + 1) cap6) n (reads + 1) (writes + cleanW x)) := by
              rw [← ctop_set8 (v := .slice (some ⟨g, 0, none⟩) (n - 1) cap) HD5.out]
              exact ((((HTOP5.out.alloc _).drew).keep HK6.out (fun hm => by have := HFF6.out _ hm; (first | (simp [Value.ownBlock] at this; omega) | (simp [Value.ownBlock] at this; done)))).set 8 _)
            have hl8 := htop7.cell_ (ctop_rest HD5.out).1
            have HTOP7 := Lib.hid htop7
            have hlen0 : (0 : Int) < (((L5).length : Nat) : Int) + 1 := by omega
            clear htop7
            go_wp2
            go_ret
            rw [HUSE.out]
            refine ⟨_, g6, rfl, ⟨HTOP7.out, HD5.out, HF6.out.keepF (F := [b]) ((Keep.refl _ w6).set (fun _ => by simp) _) (by simp [Value.ownBlock]; omega)⟩, rfl, ⟨[b, g], ((((HK5.out.alloc _).drew).trans (HK6.out.mono (fun z hz _ => ?_))).set (fun _ => by simp) _), ?_⟩, HOW6.out.imp id (fun h => by have := HK5.out.size; omega)⟩
            · have := HFF6.out _ hz
              first | (simp [Value.ownBlock] at this; simp [this]; done) | (simp [Value.ownBlock] at this)
            · first | (simp [Value.ownBlock]; done) | simp

        | false =>
          go_wp2
          obtain ⟨w3, hw3⟩ : ∃ w3, w3 = w1.alloc (.cells #[.int .i64 k, .int .i64 0, .bool false] 59) := ⟨_, rfl⟩
          have hbt3 : Blk w3 w1.heap.size 59 (fr3 (((k : Int), 0, false) : Fr)) := by rw [hw3]; exact HBTN.out
          have htop3 : Blk w3 b 52 (ctop disk (.slice (some ⟨g, 0, none⟩) n cap) n reads writes) := by rw [hw3]; exact HTOP1.out.alloc _
          have hk3 : Keep [b] w w3 := by rw [hw3]; exact (HK1.out.mono (by simp)).alloc _
          have hf3 : FAt w3 (b + 1) (.slice (some ⟨g, 0, none⟩) n cap) L := by rw [hw3]; exact HFR1.out.keepF (F := []) ((Keep.refl [] w1).alloc _) (by simp)
          have HBT3 := Lib.hid hbt3; have HTOP3 := Lib.hid htop3; have HK3 := Lib.hid hk3; have HF3 := Lib.hid hf3
          have hy83 := htop3.cell_ (ctop_rest HD.out).1
          have hy93 := htop3.cell_ (ctop_rest HD.out).2.1
          have hz83 := htop3.free 8
          rw [← hw3]
          clear hw3 hbt3 htop3 hk3 hf3 hx8' hf8' hp1 hxr hxrf hxd
          go_quiet (fail)
          go_wp2
          obtain ⟨w4, hw4⟩ : ∃ w4, w4 = w3.drewN nq := ⟨_, rfl⟩
          have htop4 : Blk w4 b 52 (ctop disk (.slice (some ⟨g, 0, none⟩) n cap) n reads writes) := by rw [hw4]; exact HTOP3.out.drewN _
          have hbt4 : Blk w4 w1.heap.size 59 (fr3 (((k : Int), 0, false) : Fr)) := by rw [hw4]; exact HBT3.out.drewN _
          have hf4 : FAt w4 (b + 1) (.slice (some ⟨g, 0, none⟩) n cap) L := by rw [hw4]; exact HF3.out.keepF (F := []) ((Keep.refl [] w3).drewN _) (by simp)
          have HK4 : Hid (Keep [b] w w4) := Lib.hid (by rw [hw4]; exact HK3.out.drewN _)
          rw [← hw4]
          clear hw4 hy83 hy93 hz83
          obtain ⟨g4, cap4, rest4, e4, hbase4, hcap4, hcm4, hblk4, hlen4⟩ := (hf4.shape).resolve_left (by simp)
          have e5 : g = g4 ∧ cap = cap4 := by injection e4 with e6 e7 e8; injection e6 with e9; injection e9 with e10; exact ⟨e10, e8⟩
          obtain ⟨rfl, rfl⟩ := e5
          have hy84 := htop4.cell_ (ctop_rest HD.out).1
          have hy94 := htop4.cell_ (ctop_rest HD.out).2.1
          have hnp : n - 1 < L.length := by rw [HN.out]; omega
          obtain ⟨x, hx⟩ : ∃ x, x = L[n - 1] := ⟨_, rfl⟩
          have hxg : L[n - 1]? = some x := by rw [hx]; exact List.getElem?_eq_getElem hnp
          obtain ⟨hx0, hx7⟩ := HRNG.out x (List.mem_of_getElem? hxg)
          have hwn : IntKind.i64.wrap ((n : Int) - 1) = ((n - 1 : Nat) : Int) := by rw [show (n : Int) - 1 = ((n - 1 : Nat) : Int) by omega]; exact IntWalk.i64_in _ (by omega)
          have hn1 : ((n - 1 : Nat) : Int) < (n : Int) := by omega
          have hn2 : (0 : Int) ≤ ((n - 1 : Nat) : Int) := by omega
          have HX := Lib.hid hxg; have HTOP4 := Lib.hid htop4; have HBT4 := Lib.hid hbt4; have HBLK4 := Lib.hid hblk4; have HLEN4 := Lib.hid hlen4; have HCAP4 := Lib.hid hcap4; have HCM4 := Lib.hid hcm4
          clear e4 hx hxg htop4 hbt4 hblk4 hlen4 hcap4 hcm4 hf4 hnp
          go_still_tail 11, (by kernel_rfl)
          go_wp2_with fail
          refine (clean_any b g (n - 1) n disk (.slice (some ⟨g, 0, none⟩) n cap) reads writes L rest4 x _ (HTOP4.out.drew) HD.out (HBLK4.out.drew) HX.out hx0 hx7 hw0 hw1).mono ?_
          rintro e w6 ⟨rfl, htop6, hblk6, hk6⟩
          have hcd : (cleanD disk x).length = 8 := by rw [cleanD_len]; exact HD.out
          have hbt6 := HBT4.out.drew.keep hk6 (by simp; exact ⟨hbne.symm, hgne.symm⟩)
          have hy86 := htop6.cell_ (ctop_rest hcd).1
          have hy96 := htop6.cell_ (ctop_rest hcd).2.1
          have hz86 := htop6.free 8
          have HTOP6 := Lib.hid htop6; have HBLK6' := Lib.hid hblk6; have HBT6 := Lib.hid hbt6; have HCD := Lib.hid hcd
          have HK6' : Hid (Keep [b, g] w w6) := Lib.hid (((HK4.out.drew).mono (by simp)).trans hk6)
          clear htop6 hblk6 hk6 hbt6 hcd hy84 hy94
          have hnc : n - 1 ≤ cap := by have := HCAP4.out; have := HN.out; omega
          have hnci : ((n - 1 : Nat) : Int) ≤ (cap : Int) := by omega
          go_wp2
          go_still_tail 13, (by kernel_rfl)
          go_wp2
          obtain ⟨w5, hw5⟩ : ∃ w5, w5 = (w6.setCell ⟨b, 8, none⟩ (.slice (some ⟨g, 0, none⟩) (n - 1) cap)).drew := ⟨_, rfl⟩
          have HTOP5 : Hid (Blk w5 b 52 (ctop (cleanD disk x) (.slice (some ⟨g, 0, none⟩) (n - 1) cap) n reads (writes + cleanW x))) := Lib.hid (by
            rw [hw5, ← ctop_set8 (v := .slice (some ⟨g, 0, none⟩) n cap) HCD.out]
            exact (HTOP6.out.set 8 _).drew)
          have HBT5 : Hid (Blk w5 w1.heap.size 59 (fr3 (((k : Int), 0, false) : Fr))) := Lib.hid (by rw [hw5]; exact (HBT6.out.far (p := ⟨b, 8, none⟩) hbne.symm _).drew)
          have hel : (L.take (n - 1)).length = n - 1 := by rw [List.length_take, HN.out]; omega
          have hf5 : FAt w5 (b + 1) (.slice (some ⟨g, 0, none⟩) (n - 1) cap) (L.take (n - 1)) := by
            rw [hw5]
            have hls : (L.set (n - 1) (unD x)).length = L.length := List.length_set
            have hfll := flat3_len (L.set (n - 1) (unD x))
            have key := FAt.mk_ (L := L.take (n - 1)) hbase4 (by rw [hel]; exact hnc) HCM4.out ((HBLK6'.out.far (p := ⟨b, 8, none⟩) hbg.symm (.slice (some ⟨g, 0, none⟩) (n - 1) cap)).drew) (by have := HLEN4.out; rw [List.length_append] at this ⊢; rw [hfll, hls, ← flat3_len L]; exact this) (by
              rw [hel, List.take_append_of_le_length (by rw [hfll, hls, HN.out]; omega), flat3_take]
              congr 1
              rw [List.take_set]
              exact List.set_eq_of_length_le (by rw [hel]; exact Nat.le_refl _))
            rwa [hel] at key
          have HK5 : Hid (Keep [b, g] w w5) := Lib.hid (by rw [hw5]; exact (HK6'.out.set (fun _ => by simp) _).drew)
          have HD5 := HCD
          have huse : useB n ⟨disk, L, reads, writes⟩ (k : Int) false = ⟨cleanD disk x, (((k : Int), 0, false) : Fr) :: L.take (n - 1), reads, writes + cleanW x⟩ := by
            unfold useB room
            rw [find_none' HNO.out]
            have hgl : L.getLast? = some x := by rw [List.getLast?_eq_getElem?, HN.out]; exact HX.out
            have hdl : L.dropLast = L.take (n - 1) := by rw [List.dropLast_eq_take, HN.out]
            have htn : ((k : Int)).toNat = k := by omega
            simp only [HN.out, if_pos, hgl, evict, hdl]
            simp [htn, HDV.out]
          obtain ⟨L5, hL5⟩ : ∃ L5, L5 = L.take (n - 1) := ⟨_, rfl⟩
          rw [← hL5] at hf5 hel huse
          have HL5 := Lib.hid hel; have HF5 := Lib.hid hf5; have HUSE := Lib.hid huse
          clear hL5 hf5 huse
          rw [show World.drew (World.setCell w6 ⟨b, 8, none⟩ (.slice (some ⟨g, 0, none⟩) (n - 1) cap)) = w5 from hw5.symm]
          clear hw5 hel hy86 hy96 hz86
          have hxq : ∀ wx, Keep [] w5 wx → wx.cell? ⟨b, 8, none⟩ = some (.slice (some ⟨g, 0, none⟩) (n - 1) cap) ∧ wx.cell? ⟨w1.heap.size, 0, none⟩ = some (.int .i64 ((((k : Int), 0, false) : Fr)).1) ∧ wx.cell? ⟨w1.heap.size, 1, none⟩ = some (.int .i64 ((((k : Int), 0, false) : Fr)).2.1) ∧ wx.cell? ⟨w1.heap.size, 2, none⟩ = some (.bool ((((k : Int), 0, false) : Fr)).2.2) := fun wx hk =>
            ⟨(HTOP5.out.keep hk (by simp)).cell_ (ctop_rest HD5.out).1, fr3_of (HBT5.out.keep hk (by simp))⟩
          have HXQ := Lib.hid hxq
          obtain ⟨hy8, hy0, hy1, hy2⟩ := hxq _ (Keep.refl [] w5)
          have hbl5 := HTOP5.out.lt
          have hbn5 : b ≠ w5.heap.size := by omega
          have hxt : ∀ wx, Keep [b] w5 wx → wx.cell? ⟨w1.heap.size, 0, none⟩ = some (.int .i64 ((((k : Int), 0, false) : Fr)).1) ∧ wx.cell? ⟨w1.heap.size, 1, none⟩ = some (.int .i64 ((((k : Int), 0, false) : Fr)).2.1) ∧ wx.cell? ⟨w1.heap.size, 2, none⟩ = some (.bool ((((k : Int), 0, false) : Fr)).2.2) := fun wx hk => fr3_of (HBT5.out.keep hk (by simpa using hbne.symm))
          have HXT := Lib.hid hxt
          clear hxq hxt
          have hbtl5 : w1.heap.size < w5.heap.size := HBT5.out.lt
          have hbtn5 : w1.heap.size ≠ w5.heap.size := by omega
          go_region_with
            (first
            | (go_at_call 33; refine (insFr_any _ _ (b + 1) (n - 1) ((((k : Int), 0, false) : Fr)) (L5) _ ?_ HL5.out ?_ ?_ ?_ (by omega)).mono ?_; exact HF5.out.keepF (((Keep.refl [] w5).alloc _).drew) (by simp); (first | (simp; omega) | (simp; done) | omega); exact (Blk.new w5 59 (fr3 ((((k : Int), 0, false) : Fr)))).drew; (intro he; have h9 := (HF5.out.lt _ he.symm).2; exact absurd h9 (by simp)); rintro e w6 ⟨v6, rfl, hf6, F6, hk6, hF6, hown6⟩; obtain ⟨g6, cap6, rest6, rfl, hbase6, hcap6, hcm6, hblk6, hlen6⟩ := (hf6.shape).resolve_left (by simp); have HOW6 := Lib.hid (own6 hown6); have HXS := Lib.hid ((xs6 ((((k : Int), 0, false) : Fr)) (HTOP5.out.alloc _).drew HD5.out (HBT5.out.alloc _).drew hk6 (fun hm => by have := hF6 _ hm; (first | (simp [Value.ownBlock] at this; omega) | (simp [Value.ownBlock] at this; done))) (fun hm => by have := hF6 _ hm; (first | (simp [Value.ownBlock] at this; omega) | (simp [Value.ownBlock] at this; done))))); have HXU := Lib.hid (fun u => xu6 ((((k : Int), 0, false) : Fr)) (HBT5.out.alloc _).drew hk6 (fun hm => by have := hF6 _ hm; (first | (simp [Value.ownBlock] at this; omega) | (simp [Value.ownBlock] at this; done))) hbne.symm u); have HF6 := Lib.hid hf6; have HK6 := Lib.hid hk6; have HFF6 := Lib.hid hF6; have HBLK6 := Lib.hid hblk6; have hfz6 := (((HTOP5.out.alloc _).drew).keep hk6 (fun hm => by have := hF6 _ hm; (first | (simp [Value.ownBlock] at this; omega) | (simp [Value.ownBlock] at this; done)))).free 8; have hc86 := HXS.out.1; clear hf6 hk6 hF6 hblk6 hown6))
          all_goals
            have htop7 : Blk (w6.setCell ⟨b, 8, none⟩ (.slice (some ⟨g6, 0, none⟩) ((L5).length + 1) cap6)) b 52 (ctop (cleanD disk x) (.slice (some ⟨g6, 0, none⟩) ((L5).length + 1) cap6) n reads (writes + cleanW x)) := by
              rw [← ctop_set8 (v := .slice (some ⟨g, 0, none⟩) (n - 1) cap) HD5.out]
              exact ((((HTOP5.out.alloc _).drew).keep HK6.out (fun hm => by have := HFF6.out _ hm; (first | (simp [Value.ownBlock] at this; omega) | (simp [Value.ownBlock] at this; done)))).set 8 _)
            have hl8 := htop7.cell_ (ctop_rest HD5.out).1
            have HTOP7 := Lib.hid htop7
            have hlen0 : (0 : Int) < (((L5).length : Nat) : Int) + 1 := by omega
            clear htop7
            go_wp2
            go_ret
            rw [HUSE.out]
            refine ⟨_, g6, rfl, ⟨HTOP7.out, HD5.out, HF6.out.keepF (F := [b]) ((Keep.refl _ w6).set (fun _ => by simp) _) (by simp [Value.ownBlock]; omega)⟩, rfl, ⟨[b, g], ((((HK5.out.alloc _).drew).trans (HK6.out.mono (fun z hz _ => ?_))).set (fun _ => by simp) _), ?_⟩, HOW6.out.imp id (fun h => by have := HK5.out.size; omega)⟩
            · have := HFF6.out _ hz
              first | (simp [Value.ownBlock] at this; simp [this]; done) | (simp [Value.ownBlock] at this)
            · first | (simp [Value.ownBlock]; done) | simp

      · have hsl : ¬ (n : Int) = (slots : Int) := by omega
        have hsl2 : ¬ n = slots := hfull
        have hbg : b ≠ g := by omega
        have hgl1 : g < w1.heap.size := (HFR1.out.lt g rfl).2
        have hgne : g ≠ w1.heap.size := by omega
        clear hfull
        cases rd with
        | true =>
          go_wp2
          obtain ⟨w2, hw2⟩ : ∃ w2, w2 = w1.alloc (.cells #[.int .i64 k, .int .i64 0, .bool false] 59) := ⟨_, rfl⟩
          have hbt2 : Blk w2 w1.heap.size 59 [.int .i64 k, .int .i64 0, .bool false] := by rw [hw2]; exact HBTN.out
          have htop2 : Blk w2 b 52 (ctop disk (.slice (some ⟨g, 0, none⟩) n cap) slots reads writes) := by rw [hw2]; exact HTOP1.out.alloc _
          have hk12 : Keep [] w1 w2 := by rw [hw2]; exact (Keep.refl _ w1).alloc _
          have hp2 : w2.cell? ⟨w.heap.size, 0, none⟩ = some (.int .i64 k) := (hk12.cell (p := ⟨w.heap.size, 0, none⟩) hpl (by simp)).trans hp1
          have HK12 := Lib.hid hk12; have HBT2 := Lib.hid hbt2; have HTOP2 := Lib.hid htop2
          rw [← hw2]
          clear hx8' hf8' hp1 hxr hxrf hxd hw2 hk12
          have hq0 := hbt2.cell_ (i := 0) rfl
          have hq1 := hbt2.cell_ (i := 1) rfl
          have hq2 := hbt2.cell_ (i := 2) rfl
          have hqf := hbt2.free 1
          have hxr := htop2.cell_ (ctop_rest HD.out).2.2.1
          have hxrf := htop2.free 10
          have hxd := htop2.cell_ (HDC.out _ _)
          clear hbt2 htop2
          go_still_tail 7, (by kernel_rfl)
          go_wp2
          obtain ⟨w3, hw3⟩ : ∃ w3, w3 = ((w2.setCell ⟨w1.heap.size, 1, none⟩ (.int .i64 (dv))).setCell ⟨b, 10, none⟩ (.int .i64 (reads + 1))).drew := ⟨_, rfl⟩
          have hbt3 : Blk w3 w1.heap.size 59 (fr3 (((k : Int), dv, false) : Fr)) := by rw [hw3]; exact ((HBT2.out.drew.set 1 (.int .i64 (dv))).far (p := ⟨b, 10, none⟩) hbne.symm _)
          have htop3 : Blk w3 b 52 (ctop disk (.slice (some ⟨g, 0, none⟩) n cap) slots (reads + 1) writes) := by
            rw [hw3, ← ctop_set10 (r := reads) HD.out]
            exact ((HTOP2.out.drew).far (p := ⟨w1.heap.size, 1, none⟩) hbne _).set 10 _
          have hk3 : Keep [b] w w3 := by rw [hw3]; exact ((((HK1.out.trans HK12.out).mono (by simp)).drew).set (p := ⟨w1.heap.size, 1, none⟩) (fun h => absurd h (by show ¬ w1.heap.size < w.heap.size; omega)) _).set (fun _ => by simp) _
          have hf3 : FAt w3 (b + 1) (.slice (some ⟨g, 0, none⟩) n cap) L := by rw [hw3]; exact HFR1.out.keepF (F := [b, w1.heap.size]) ((((HK12.out.mono (by simp)).drew).set (fun _ => by simp) _).set (fun _ => by simp) _) HOF.out
          have HBT3 := Lib.hid hbt3; have HTOP3 := Lib.hid htop3; have HK3 := Lib.hid hk3; have HF3 := Lib.hid hf3
          have hy83 := htop3.cell_ (ctop_rest HD.out).1
          have hy93 := htop3.cell_ (ctop_rest HD.out).2.1
          have hz83 := htop3.free 8
          rw [show ((w2.setCell ⟨w1.heap.size, 1, none⟩ (.int .i64 (dv))).setCell ⟨b, 10, none⟩ (.int .i64 (reads + 1))).drew = w3 from hw3.symm]
          clear hw3 hbt3 htop3 hk3 hf3 hq0 hq1 hq2 hqf hp2 hxr hxrf hxd
          go_quiet (fail)
          go_wp2
          obtain ⟨w5, hw5⟩ : ∃ w5, w5 = w3.drewN nq := ⟨_, rfl⟩
          have HTOP5 : Hid (Blk w5 b 52 (ctop disk (.slice (some ⟨g, 0, none⟩) n cap) slots (reads + 1) writes)) := Lib.hid (by rw [hw5]; exact HTOP3.out.drewN _)
          have HBT5 : Hid (Blk w5 w1.heap.size 59 (fr3 (((k : Int), dv, false) : Fr))) := Lib.hid (by rw [hw5]; exact HBT3.out.drewN _)
          have HF5 : Hid (FAt w5 (b + 1) (.slice (some ⟨g, 0, none⟩) n cap) L) := Lib.hid (by rw [hw5]; exact HF3.out.keepF (F := []) ((Keep.refl [] w3).drewN _) (by simp))
          have HK5 : Hid (Keep [b, g] w w5) := Lib.hid (by rw [hw5]; exact (HK3.out.mono (by simp)).drewN _)
          have HL5 : Hid (L.length = n) := Lib.hid HN.out
          have HD5 := Lib.hid HD.out
          have HUSE : Hid (useB slots ⟨disk, L, reads, writes⟩ (k : Int) true = ⟨disk, (((k : Int), dv, false) : Fr) :: L, (reads + 1), writes⟩) := Lib.hid (by
            unfold useB room
            rw [find_none' HNO.out]
            have hln : ¬ L.length = slots := by rw [HN.out]; omega
            have htn : ((k : Int)).toNat = k := by omega
            simp [hln, htn, HDV.out])
          rw [← hw5]
          clear hw5 hy83 hy93 hz83
          have hxq : ∀ wx, Keep [] w5 wx → wx.cell? ⟨b, 8, none⟩ = some (.slice (some ⟨g, 0, none⟩) n cap) ∧ wx.cell? ⟨w1.heap.size, 0, none⟩ = some (.int .i64 ((((k : Int), dv, false) : Fr)).1) ∧ wx.cell? ⟨w1.heap.size, 1, none⟩ = some (.int .i64 ((((k : Int), dv, false) : Fr)).2.1) ∧ wx.cell? ⟨w1.heap.size, 2, none⟩ = some (.bool ((((k : Int), dv, false) : Fr)).2.2) := fun wx hk =>
            ⟨(HTOP5.out.keep hk (by simp)).cell_ (ctop_rest HD5.out).1, fr3_of (HBT5.out.keep hk (by simp))⟩
          have HXQ := Lib.hid hxq
          obtain ⟨hy8, hy0, hy1, hy2⟩ := hxq _ (Keep.refl [] w5)
          have hbl5 := HTOP5.out.lt
          have hbn5 : b ≠ w5.heap.size := by omega
          have hxt : ∀ wx, Keep [b] w5 wx → wx.cell? ⟨w1.heap.size, 0, none⟩ = some (.int .i64 ((((k : Int), dv, false) : Fr)).1) ∧ wx.cell? ⟨w1.heap.size, 1, none⟩ = some (.int .i64 ((((k : Int), dv, false) : Fr)).2.1) ∧ wx.cell? ⟨w1.heap.size, 2, none⟩ = some (.bool ((((k : Int), dv, false) : Fr)).2.2) := fun wx hk => fr3_of (HBT5.out.keep hk (by simpa using hbne.symm))
          have HXT := Lib.hid hxt
          clear hxq hxt
          have hbtl5 : w1.heap.size < w5.heap.size := HBT5.out.lt
          have hbtn5 : w1.heap.size ≠ w5.heap.size := by omega
          go_region_with
            (first
            | (go_at_call 33; refine (insFr_any _ _ (b + 1) (n) ((((k : Int), dv, false) : Fr)) (L) _ ?_ HL5.out ?_ ?_ ?_ (by omega)).mono ?_; exact HF5.out.keepF (((Keep.refl [] w5).alloc _).drew) (by simp); (first | (simp; omega) | (simp; done) | omega); exact (Blk.new w5 59 (fr3 ((((k : Int), dv, false) : Fr)))).drew; (intro he; have h9 := (HF5.out.lt _ he.symm).2; exact absurd h9 (by simp)); rintro e w6 ⟨v6, rfl, hf6, F6, hk6, hF6, hown6⟩; obtain ⟨g6, cap6, rest6, rfl, hbase6, hcap6, hcm6, hblk6, hlen6⟩ := (hf6.shape).resolve_left (by simp); have HOW6 := Lib.hid (own6 hown6); have HXS := Lib.hid ((xs6 ((((k : Int), dv, false) : Fr)) (HTOP5.out.alloc _).drew HD5.out (HBT5.out.alloc _).drew hk6 (fun hm => by have := hF6 _ hm; (first | (simp [Value.ownBlock] at this; omega) | (simp [Value.ownBlock] at this; done))) (fun hm => by have := hF6 _ hm; (first | (simp [Value.ownBlock] at this; omega) | (simp [Value.ownBlock] at this; done))))); have HXU := Lib.hid (fun u => xu6 ((((k : Int), dv, false) : Fr)) (HBT5.out.alloc _).drew hk6 (fun hm => by have := hF6 _ hm; (first | (simp [Value.ownBlock] at this; omega) | (simp [Value.ownBlock] at this; done))) hbne.symm u); have HF6 := Lib.hid hf6; have HK6 := Lib.hid hk6; have HFF6 := Lib.hid hF6; have HBLK6 := Lib.hid hblk6; have hfz6 := (((HTOP5.out.alloc _).drew).keep hk6 (fun hm => by have := hF6 _ hm; (first | (simp [Value.ownBlock] at this; omega) | (simp [Value.ownBlock] at this; done)))).free 8; have hc86 := HXS.out.1; clear hf6 hk6 hF6 hblk6 hown6))
          all_goals
            have htop7 : Blk (w6.setCell ⟨b, 8, none⟩ (.slice (some ⟨g6, 0, none⟩) ((L).length + 1) cap6)) b 52 (ctop disk (.slice (some ⟨g6, 0, none⟩) ((L).length + 1) cap6) slots (reads + 1) writes) := by
              rw [← ctop_set8 (v := .slice (some ⟨g, 0, none⟩) n cap) HD5.out]
              exact ((((HTOP5.out.alloc _).drew).keep HK6.out (fun hm => by have := HFF6.out _ hm; (first | (simp [Value.ownBlock] at this; omega) | (simp [Value.ownBlock] at this; done)))).set 8 _)
            have hl8 := htop7.cell_ (ctop_rest HD5.out).1
            have HTOP7 := Lib.hid htop7
            have hlen0 : (0 : Int) < (((L).length : Nat) : Int) + 1 := by omega
            clear htop7
            go_wp2
            go_ret
            rw [HUSE.out]
            refine ⟨_, g6, rfl, ⟨HTOP7.out, HD5.out, HF6.out.keepF (F := [b]) ((Keep.refl _ w6).set (fun _ => by simp) _) (by simp [Value.ownBlock]; omega)⟩, rfl, ⟨[b, g], ((((HK5.out.alloc _).drew).trans (HK6.out.mono (fun z hz _ => ?_))).set (fun _ => by simp) _), ?_⟩, HOW6.out.imp id (fun h => by have := HK5.out.size; omega)⟩
            · have := HFF6.out _ hz
              first | (simp [Value.ownBlock] at this; simp [this]; done) | (simp [Value.ownBlock] at this)
            · first | (simp [Value.ownBlock]; done) | simp

        | false =>
          go_wp2
          obtain ⟨w3, hw3⟩ : ∃ w3, w3 = w1.alloc (.cells #[.int .i64 k, .int .i64 0, .bool false] 59) := ⟨_, rfl⟩
          have hbt3 : Blk w3 w1.heap.size 59 (fr3 (((k : Int), 0, false) : Fr)) := by rw [hw3]; exact HBTN.out
          have htop3 : Blk w3 b 52 (ctop disk (.slice (some ⟨g, 0, none⟩) n cap) slots reads writes) := by rw [hw3]; exact HTOP1.out.alloc _
          have hk3 : Keep [b] w w3 := by rw [hw3]; exact (HK1.out.mono (by simp)).alloc _
          have hf3 : FAt w3 (b + 1) (.slice (some ⟨g, 0, none⟩) n cap) L := by rw [hw3]; exact HFR1.out.keepF (F := []) ((Keep.refl [] w1).alloc _) (by simp)
          have HBT3 := Lib.hid hbt3; have HTOP3 := Lib.hid htop3; have HK3 := Lib.hid hk3; have HF3 := Lib.hid hf3
          have hy83 := htop3.cell_ (ctop_rest HD.out).1
          have hy93 := htop3.cell_ (ctop_rest HD.out).2.1
          have hz83 := htop3.free 8
          rw [← hw3]
          clear hw3 hbt3 htop3 hk3 hf3 hx8' hf8' hp1 hxr hxrf hxd
          go_quiet (fail)
          go_wp2
          obtain ⟨w5, hw5⟩ : ∃ w5, w5 = w3.drewN nq := ⟨_, rfl⟩
          have HTOP5 : Hid (Blk w5 b 52 (ctop disk (.slice (some ⟨g, 0, none⟩) n cap) slots reads writes)) := Lib.hid (by rw [hw5]; exact HTOP3.out.drewN _)
          have HBT5 : Hid (Blk w5 w1.heap.size 59 (fr3 (((k : Int), 0, false) : Fr))) := Lib.hid (by rw [hw5]; exact HBT3.out.drewN _)
          have HF5 : Hid (FAt w5 (b + 1) (.slice (some ⟨g, 0, none⟩) n cap) L) := Lib.hid (by rw [hw5]; exact HF3.out.keepF (F := []) ((Keep.refl [] w3).drewN _) (by simp))
          have HK5 : Hid (Keep [b, g] w w5) := Lib.hid (by rw [hw5]; exact (HK3.out.mono (by simp)).drewN _)
          have HL5 : Hid (L.length = n) := Lib.hid HN.out
          have HD5 := Lib.hid HD.out
          have HUSE : Hid (useB slots ⟨disk, L, reads, writes⟩ (k : Int) false = ⟨disk, (((k : Int), 0, false) : Fr) :: L, reads, writes⟩) := Lib.hid (by
            unfold useB room
            rw [find_none' HNO.out]
            have hln : ¬ L.length = slots := by rw [HN.out]; omega
            have htn : ((k : Int)).toNat = k := by omega
            simp [hln, htn, HDV.out])
          rw [← hw5]
          clear hw5 hy83 hy93 hz83
          have hxq : ∀ wx, Keep [] w5 wx → wx.cell? ⟨b, 8, none⟩ = some (.slice (some ⟨g, 0, none⟩) n cap) ∧ wx.cell? ⟨w1.heap.size, 0, none⟩ = some (.int .i64 ((((k : Int), 0, false) : Fr)).1) ∧ wx.cell? ⟨w1.heap.size, 1, none⟩ = some (.int .i64 ((((k : Int), 0, false) : Fr)).2.1) ∧ wx.cell? ⟨w1.heap.size, 2, none⟩ = some (.bool ((((k : Int), 0, false) : Fr)).2.2) := fun wx hk =>
            ⟨(HTOP5.out.keep hk (by simp)).cell_ (ctop_rest HD5.out).1, fr3_of (HBT5.out.keep hk (by simp))⟩
          have HXQ := Lib.hid hxq
          obtain ⟨hy8, hy0, hy1, hy2⟩ := hxq _ (Keep.refl [] w5)
          have hbl5 := HTOP5.out.lt
          have hbn5 : b ≠ w5.heap.size := by omega
          have hxt : ∀ wx, Keep [b] w5 wx → wx.cell? ⟨w1.heap.size, 0, none⟩ = some (.int .i64 ((((k : Int), 0, false) : Fr)).1) ∧ wx.cell? ⟨w1.heap.size, 1, none⟩ = some (.int .i64 ((((k : Int), 0, false) : Fr)).2.1) ∧ wx.cell? ⟨w1.heap.size, 2, none⟩ = some (.bool ((((k : Int), 0, false) : Fr)).2.2) := fun wx hk => fr3_of (HBT5.out.keep hk (by simpa using hbne.symm))
          have HXT := Lib.hid hxt
          clear hxq hxt
          have hbtl5 : w1.heap.size < w5.heap.size := HBT5.out.lt
          have hbtn5 : w1.heap.size ≠ w5.heap.size := by omega
          go_region_with
            (first
            | (go_at_call 33; refine (insFr_any _ _ (b + 1) (n) ((((k : Int), 0, false) : Fr)) (L) _ ?_ HL5.out ?_ ?_ ?_ (by omega)).mono ?_; exact HF5.out.keepF (((Keep.refl [] w5).alloc _).drew) (by simp); (first | (simp; omega) | (simp; done) | omega); exact (Blk.new w5 59 (fr3 ((((k : Int), 0, false) : Fr)))).drew; (intro he; have h9 := (HF5.out.lt _ he.symm).2; exact absurd h9 (by simp)); rintro e w6 ⟨v6, rfl, hf6, F6, hk6, hF6, hown6⟩; obtain ⟨g6, cap6, rest6, rfl, hbase6, hcap6, hcm6, hblk6, hlen6⟩ := (hf6.shape).resolve_left (by simp); have HOW6 := Lib.hid (own6 hown6); have HXS := Lib.hid ((xs6 ((((k : Int), 0, false) : Fr)) (HTOP5.out.alloc _).drew HD5.out (HBT5.out.alloc _).drew hk6 (fun hm => by have := hF6 _ hm; (first | (simp [Value.ownBlock] at this; omega) | (simp [Value.ownBlock] at this; done))) (fun hm => by have := hF6 _ hm; (first | (simp [Value.ownBlock] at this; omega) | (simp [Value.ownBlock] at this; done))))); have HXU := Lib.hid (fun u => xu6 ((((k : Int), 0, false) : Fr)) (HBT5.out.alloc _).drew hk6 (fun hm => by have := hF6 _ hm; (first | (simp [Value.ownBlock] at this; omega) | (simp [Value.ownBlock] at this; done))) hbne.symm u); have HF6 := Lib.hid hf6; have HK6 := Lib.hid hk6; have HFF6 := Lib.hid hF6; have HBLK6 := Lib.hid hblk6; have hfz6 := (((HTOP5.out.alloc _).drew).keep hk6 (fun hm => by have := hF6 _ hm; (first | (simp [Value.ownBlock] at this; omega) | (simp [Value.ownBlock] at this; done)))).free 8; have hc86 := HXS.out.1; clear hf6 hk6 hF6 hblk6 hown6))
          all_goals
            have htop7 : Blk (w6.setCell ⟨b, 8, none⟩ (.slice (some ⟨g6, 0, none⟩) ((L).length + 1) cap6)) b 52 (ctop disk (.slice (some ⟨g6, 0, none⟩) ((L).length + 1) cap6) slots reads writes) := by
              rw [← ctop_set8 (v := .slice (some ⟨g, 0, none⟩) n cap) HD5.out]
              exact ((((HTOP5.out.alloc _).drew).keep HK6.out (fun hm => by have := HFF6.out _ hm; (first | (simp [Value.ownBlock] at this; omega) | (simp [Value.ownBlock] at this; done)))).set 8 _)
            have hl8 := htop7.cell_ (ctop_rest HD5.out).1
            have HTOP7 := Lib.hid htop7
            have hlen0 : (0 : Int) < (((L).length : Nat) : Int) + 1 := by omega
            clear htop7
            go_wp2
            go_ret
            rw [HUSE.out]
            refine ⟨_, g6, rfl, ⟨HTOP7.out, HD5.out, HF6.out.keepF (F := [b]) ((Keep.refl _ w6).set (fun _ => by simp) _) (by simp [Value.ownBlock]; omega)⟩, rfl, ⟨[b, g], ((((HK5.out.alloc _).drew).trans (HK6.out.mono (fun z hz _ => ?_))).set (fun _ => by simp) _), ?_⟩, HOW6.out.imp id (fun h => by have := HK5.out.size; omega)⟩
            · have := HFF6.out _ hz
              first | (simp [Value.ownBlock] at this; simp [this]; done) | (simp [Value.ownBlock] at this)
            · first | (simp [Value.ownBlock]; done) | simp

end Go.Proofs.YtgbccaplckiilaaDoor
