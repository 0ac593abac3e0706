/-
  back: use, Read, Write, Crash, Moves, by their contracts.
-/
import Derived.Test.YtgbccaplckiilaaDoorBackUse2
namespace Go.Proofs.YtgbccaplckiilaaDoor
open Go.RowKit

theorem use_any (b k slots : Nat) (rd : Bool) (v : Value) (s : BSt) (w : World) (h : BAt w b v slots s) (h1 : 1 ≤ slots) (h8 : slots ≤ 8) (hle : s.fr.length ≤ slots) (hrng : ∀ x ∈ s.fr, 0 ≤ x.1 ∧ x.1 ≤ 7) (hk : k ≤ 7)
    (hr0 : 0 ≤ s.reads) (hr1 : s.reads ≤ 1000000) (hw0 : 0 ≤ s.writes) (hw1 : s.writes ≤ 1000000) :
    Calls Tryd.prog 25 #[.pointer (some ⟨b, 0, none⟩), .int .i64 k, .bool rd] w (UsePost w b v slots (useB slots s k rd)) := by
  by_cases hh : ∃ x ∈ s.fr, x.1 = k
  · exact use_hit b k slots rd v s w h h1 h8 hle hrng hk hr0 hr1 hw0 hw1 hh
  · exact use_miss b k slots rd v s w h h1 h8 hle hrng hk hr0 hr1 hw0 hw1 (fun x hx e => hh ⟨x, hx, e⟩)

/-- A frame at the head, as a use leaves it. -/
theorem BAt.head {w : World} {b slots g : Nat} {v : Value} {s : BSt} {f : Fr} {r : List Fr} (h : BAt w b v slots s) (hg : v.ownBlock = some g) (hf : s.fr = f :: r) :
    b + 1 ≤ g ∧ g < w.heap.size ∧ w.cell? ⟨g, 0, none⟩ = some (.int .i64 f.1) ∧ w.cell? ⟨g, 1, none⟩ = some (.int .i64 f.2.1) ∧ w.cell? ⟨g, 2, none⟩ = some (.bool f.2.2) := by
  have hfr := h.fr
  rw [hf] at hfr
  rcases hfr.shape with ⟨rfl, e⟩ | ⟨g', cap, rest, rfl, h1, h2, h3, h4, h5⟩
  · cases e
  · obtain rfl : g' = g := by simpa [Value.ownBlock] using hg
    have := blk_fin h4 0 f (by simp)
    exact ⟨h1, h4.lt, by simpa using this.1, by simpa using this.2.1, by simpa using this.2.2⟩

/-- Where the frames lie: in their old row, or in a new block. -/
def OwnNew (w : World) (v v' : Value) : Prop := ∀ g, v'.ownBlock = some g → v.ownBlock = some g ∨ w.heap.size ≤ g
theorem OwnNew.refl (w : World) (v : Value) : OwnNew w v v := fun _ h => .inl h
theorem OwnNew.trans {w w1 : World} {v v1 v2 : Value} (h : OwnNew w v v1) (h1 : OwnNew w1 v1 v2) (hs : w.heap.size ≤ w1.heap.size) : OwnNew w v v2 := fun g hg => by
  rcases h1 g hg with h2 | h2
  · exact h g h2
  · exact .inr (by omega)
theorem KeepO.size {b : Nat} {v : Value} {w w' : World} (h : KeepO b v w w') : w.heap.size ≤ w'.heap.size := by
  obtain ⟨F, h, _⟩ := h; exact h.size
theorem KeepO.refl (b : Nat) (v : Value) (w : World) : KeepO b v w w := ⟨[], Keep.refl _ _, by simp⟩
theorem KeepO.trans {b : Nat} {v v1 : Value} {w w1 w2 : World} (h : KeepO b v w w1) (ho : OwnNew w v v1) (h1 : KeepO b v1 w1 w2) : KeepO b v w w2 := by
  obtain ⟨F, hF, hx⟩ := h
  obtain ⟨G, hG, hy⟩ := h1
  refine ⟨b :: v.ownBlock.toList, ((hF.mono (G := F ++ G) (by intro z hz _; simp [hz])).trans (hG.mono (by intro z hz _; simp [hz]))).mono (by
    intro z hz hl
    rcases List.mem_append.1 hz with hz | hz
    · rcases hx z hz with rfl | e
      · simp
      · simp [← e]
    · rcases hy z hz with rfl | e
      · simp
      · rcases ho z e.symm with e | e
        · simp [e]
        · omega), fun z hz => ?_⟩
  rcases List.mem_cons.1 hz with rfl | hz
  · exact .inl rfl
  · right
    cases e : v.ownBlock with
    | none => rw [e] at hz; cases hz
    | some y => rw [e] at hz; simp at hz; rw [hz]
theorem KeepO.blk {b q : Nat} {v : Value} {w w' : World} {t : TypeId} {cs : List Value} (h : KeepO b v w w') (hq : Blk w q t cs) (hb : q ≠ b) (hv : v.ownBlock ≠ some q) : Blk w' q t cs := by
  obtain ⟨F, hF, hx⟩ := h
  exact hq.keep hF fun hm => by
    rcases hx q hm with e | e
    · exact hb e
    · exact hv e.symm
theorem KeepO.old {b B : Nat} {v : Value} {w w' : World} (h : KeepO b v w w') (hs : B ≤ w.heap.size) (hb : B ≤ b) (hv : ∀ g, v.ownBlock = some g → B ≤ g) : Below B w w' := by
  obtain ⟨F, hF, hx⟩ := h
  exact hF.below hs fun x hm => by
    rcases hx x hm with e | e
    · omega
    · exact hv x e.symm

def ReadPost (w : World) (b : Nat) (v : Value) (slots : Nat) (t : BSt) (x : Int) (e : Ending) (w' : World) : Prop :=
  ∃ v', e = .returned (.tuple #[.int .i64 x, .nilIface]) ∧ BAt w' b v' slots t ∧ KeepO b v w w' ∧ OwnNew w v v'
theorem bRead_no (b : Nat) (k : Int) (w : World) (h : k < 0 ∨ 7 < k) : Calls Tryd.prog 9 #[.pointer (some ⟨b, 0, none⟩), .int .i64 k] w fun e w' => e = .returned (.tuple #[.int .i64 0, errv 1]) ∧ w = w' := by
  go_enter Tryd.func9, Tryd.ntmps9
  go_wp2_with (go_at_call 19; refine (within_no _ _ _ _ h).mono ?_; rintro e w' ⟨rfl, rfl⟩)
  go_ret2
  exact ⟨rfl, rfl⟩
theorem bRead_ok (b k slots : Nat) (v : Value) (s : BSt) (w : World) (h : BAt w b v slots s) (h1 : 1 ≤ slots) (h8 : slots ≤ 8) (hle : s.fr.length ≤ slots) (hrng : ∀ x ∈ s.fr, 0 ≤ x.1 ∧ x.1 ≤ 7) (hk : (k : Int) ≤ 7)
    (hr0 : 0 ≤ s.reads) (hr1 : s.reads ≤ 1000000) (hw0 : 0 ≤ s.writes) (hw1 : s.writes ≤ 1000000) (x : Int) (d : Bool) (r : List Fr) (hx : (useB slots s k true).fr = ((k : Int), x, d) :: r) :
    Calls Tryd.prog 9 #[.pointer (some ⟨b, 0, none⟩), .int .i64 k] w (ReadPost w b v slots (useB slots s k true) x) := by
  have h0 : (0 : Int) ≤ (k : Int) := by omega
  have H := Lib.hid h; have HX := Lib.hid hx; have HR := Lib.hid hrng
  clear h hx hrng
  go_enter Tryd.func9, Tryd.ntmps9
  go_wp2_with fail
  refine (within_yes _ _ _ _ h0 hk).mono ?_
  rintro e w' ⟨rfl, rfl⟩
  go_wp2_with fail
  refine (use_any b k slots true v s _ H.out h1 h8 hle HR.out (by omega) hr0 hr1 hw0 hw1).mono ?_
  rintro e w1 ⟨v', g, rfl, hb, hg, hko, hgo⟩
  obtain ⟨_, _, _, hc1, _⟩ := hb.head hg HX.out
  have HB := Lib.hid hb; have HKO := Lib.hid hko
  have hg' := hg
  clear hb hg hko
  go_wp2
  go_ret2
  exact ⟨v', rfl, HB.out, HKO.out, fun g' h' => by rw [hg'] at h'; cases h'; exact hgo⟩

theorem putB_cons {s : BSt} {f : Fr} {r : List Fr} (hf : s.fr = f :: r) (x : Int) : putB s x = { s with fr := (f.1, x, true) :: r } := by
  unfold putB; rw [hf]
theorem BAt.frame {w : World} {b slots g : Nat} {v : Value} {s : BSt} {f : Fr} {r : List Fr} (h : BAt w b v slots s) (hg : v.ownBlock = some g) (hf : s.fr = f :: r) :
    b ≠ g ∧ ∃ cs, Blk w g 59 cs ∧ ∀ x : Int, ∀ w' : World, Blk w' g 59 ((cs.set 1 (.int .i64 x)).set 2 (.bool true)) → Blk w' b 52 (ctop s.disk v slots s.reads s.writes) → BAt w' b v slots (putB s x) := by
  have hfr := h.fr
  rw [hf] at hfr
  rcases hfr.shape with ⟨rfl, e⟩ | ⟨g', cap, rest, rfl, h1, h2, h3, h4, h5⟩
  · cases e
  · obtain rfl : g' = g := by simpa [Value.ownBlock] using hg
    refine ⟨by omega, _, h4, fun x w' hb ht => ?_⟩
    rw [putB_cons hf]
    refine ⟨ht, h.dl, ?_⟩
    have e : ((flat3 (f :: r) ++ rest).set 1 (.int .i64 x)).set 2 (.bool true) = flat3 ((f.1, x, true) :: r) ++ rest := by simp [flat3_cons]
    rw [e] at hb
    have e2 : (f :: r).length = ((f.1, x, true) :: r).length := rfl
    rw [e2]
    exact FAt.mk_ h1 h2 h3 hb (by rw [← e]; simpa using h5) (by rw [List.take_append_of_le_length (by rw [flat3_len]; exact Nat.le_refl _)]; exact List.take_of_length_le (by rw [flat3_len]; exact Nat.le_refl _))

theorem useB_cons (slots : Nat) (s : BSt) (b : Int) (rd : Bool) : ∃ f r, (useB slots s b rd).fr = f :: r := by
  unfold useB
  split
  · exact ⟨_, _, rfl⟩
  · exact ⟨_, _, rfl⟩

theorem bWrite_no (b : Nat) (k x : Int) (w : World) (h : ¬ (0 ≤ k ∧ k ≤ 7 ∧ 0 ≤ x ∧ x ≤ 1000)) : Calls Tryd.prog 10 #[.pointer (some ⟨b, 0, none⟩), .int .i64 k, .int .i64 x] w fun e w' => e = .returned (errv 1) ∧ w = w' := by
  by_cases h1 : 0 ≤ k ∧ k ≤ 7
  · have h2 : x < 0 ∨ 1000 < x := by omega
    obtain ⟨h3, h4⟩ := h1
    clear h
    go_enter Tryd.func10, Tryd.ntmps10
    go_wp2_with (first
      | (go_at_call 19; refine (within_yes _ _ _ _ (by omega) (by omega)).mono ?_; rintro e w' ⟨rfl, rfl⟩)
      | (go_at_call 19; refine (within_no _ _ _ _ (by omega)).mono ?_; rintro e w' ⟨rfl, rfl⟩))
    go_ret
    exact ⟨rfl, rfl⟩
  · have h2 : k < 0 ∨ 7 < k := by omega
    clear h h1
    go_enter Tryd.func10, Tryd.ntmps10
    go_wp2_with (go_at_call 19; refine (within_no _ _ _ _ (by omega)).mono ?_; rintro e w' ⟨rfl, rfl⟩)
    go_ret
    exact ⟨rfl, rfl⟩

def WritePost (w : World) (b : Nat) (v : Value) (slots : Nat) (t : BSt) (e : Ending) (w' : World) : Prop :=
  ∃ v', e = .returned .nilIface ∧ BAt w' b v' slots t ∧ KeepO b v w w' ∧ OwnNew w v v'
theorem KeepO.own {b g : Nat} {v v' : Value} {w w1 w2 : World} (h : KeepO b v w w1) (hb : b < w.heap.size) (hg : v'.ownBlock = some g) (hk : Keep [b, g] w1 w2) (hgn : v.ownBlock = some g ∨ w.heap.size ≤ g) : KeepO b v w w2 := by
  obtain ⟨F, hF, hx⟩ := h
  rcases hgn with hgn | hgn
  · refine ⟨b :: g :: F, (hF.mono (by intro z hz; simp [hz])).trans (hk.mono (by intro z hz _; simp at hz; rcases hz with rfl | rfl <;> simp)), fun x hm => ?_⟩
    simp at hm
    rcases hm with rfl | rfl | hm
    · exact .inl rfl
    · exact .inr hgn.symm
    · exact hx x hm
  · refine ⟨b :: F, ((hF.mono (G := b :: g :: F) (by intro z hz; simp [hz])).trans (hk.mono (by intro z hz _; simp at hz; rcases hz with rfl | rfl <;> simp))).mono (by intro z hz hl; simp at hz; rcases hz with rfl | rfl | hz <;> first | (simp; done) | (exfalso; omega) | (simp [hz]; done)), fun x hm => ?_⟩
    simp at hm
    rcases hm with rfl | hm
    · exact .inl rfl
    · exact hx x hm

theorem bWrite_ok (b k slots : Nat) (y : Int) (v : Value) (s : BSt) (w : World) (h : BAt w b v slots s) (h1 : 1 ≤ slots) (h8 : slots ≤ 8) (hle : s.fr.length ≤ slots) (hrng : ∀ x ∈ s.fr, 0 ≤ x.1 ∧ x.1 ≤ 7) (hk : (k : Int) ≤ 7) (hy0 : 0 ≤ y) (hy1 : y ≤ 1000)
    (hr0 : 0 ≤ s.reads) (hr1 : s.reads ≤ 1000000) (hw0 : 0 ≤ s.writes) (hw1 : s.writes ≤ 1000000) :
    Calls Tryd.prog 10 #[.pointer (some ⟨b, 0, none⟩), .int .i64 k, .int .i64 y] w (WritePost w b v slots (putB (useB slots s k false) y)) := by
  have h0 : (0 : Int) ≤ (k : Int) := by omega
  have H := Lib.hid h; have HR := Lib.hid hrng
  clear h hrng
  go_enter Tryd.func10, Tryd.ntmps10
  go_wp2_with (first
    | (go_at_call 19; refine (within_yes _ _ _ _ (by omega) (by omega)).mono ?_; rintro e w' ⟨rfl, rfl⟩)
    | (go_at_call 25; refine (use_any b k slots false v s _ H.out h1 h8 hle HR.out (by omega) hr0 hr1 hw0 hw1).mono ?_; rintro e w1 ⟨v', g, rfl, hb, hg, hko, hgo⟩; have HB := Lib.hid hb; have HKO := Lib.hid hko; have HG := Lib.hid hg; have HGO := Lib.hid hgo; clear hb hg hko hgo; obtain ⟨f, r, hx⟩ : ∃ f r, (useB slots s k false).fr = f :: r := useB_cons slots s k false; obtain ⟨hne, cs, hblk, hput⟩ := HB.out.frame HG.out hx; obtain ⟨_, _, hc0, hc1, hc2⟩ := HB.out.head HG.out hx; have hf1 := hblk.free 1; have hf2 := hblk.free 2; have HBLK := Lib.hid hblk; have HPUT := Lib.hid hput; have HX := Lib.hid hx; have HNE := Lib.hid hne; clear hblk hput hx hne))
  go_ret
  have hbl := H.out.top.lt
  have htop := ((HB.out.top.far (p := ⟨g, 1, none⟩) HNE.out (.int .i64 y)).far (p := ⟨g, 2, none⟩) HNE.out (.bool true))
  exact ⟨v', rfl, HPUT.out y _ ((HBLK.out.set 1 (.int .i64 y)).set 2 (.bool true)) htop, HKO.out.own hbl HG.out (((Keep.refl [b, g] w1).set (fun _ => by simp) _).set (fun _ => by simp) _) HGO.out, fun g' h' => by rw [HG.out] at h'; cases h'; exact HGO.out⟩
end Go.Proofs.YtgbccaplckiilaaDoor
