/-
  circle.Shares, larderwicksame.Sum, by their contracts; the plain law of shares; the closed fact.
-/
import Derived.Test.YthldhbcidcmmaaaDoorCircle3
import Derived.Test.YthldhbcidcmmaaaDoorSameInts
namespace Go.Proofs.YthldhbcidcmmaaaDoor
open Go.RowKit

def cnt (l : List Int) : Nat → Int → Int
  | 0, _ => 0
  | k + 1, v => cnt l k v + if ownO k l = v then 1 else 0
def shares (l : List Int) (k : Nat) : List Int := l.map (cnt l k)
theorem cnt_bd (l : List Int) : ∀ k v, 0 ≤ cnt l k v ∧ cnt l k v ≤ k
  | 0, v => by simp [cnt]
  | k + 1, v => by have := cnt_bd l k v; unfold cnt; split <;> omega
theorem shares_len (l : List Int) (k : Nat) : (shares l k).length = l.length := by simp [shares]
theorem shares_get {l : List Int} {k i : Nat} (hi : i < l.length) : (shares l k)[i]? = some (cnt l k l[i]) := by simp [shares, hi]
theorem shares_zero (l : List Int) : shares l 0 = List.replicate l.length 0 := by
  unfold shares
  rw [List.eq_replicate_iff]
  exact ⟨by simp, fun b hb => by simp at hb; obtain ⟨x, _, e⟩ := hb; rw [← e]; rfl⟩
theorem shares_succ {l : List Int} {k i : Nat} (hn : l.Nodup) (hi : i < l.length) (he : l[i] = ownO k l) : (shares l k).set i (cnt l k l[i] + 1) = shares l (k + 1) := by
  apply List.ext_getElem
  · simp [shares]
  · intro j h1 h2
    have hj : j < l.length := by rw [shares_len] at h2; exact h2
    rw [List.getElem_set]
    simp only [shares, List.getElem_map]
    by_cases e : i = j
    · subst e
      rw [if_pos rfl]
      show _ = cnt l k l[i] + if ownO k l = l[i] then 1 else 0
      rw [if_pos he.symm]
    · rw [if_neg e]
      show _ = cnt l k l[j] + if ownO k l = l[j] then 1 else 0
      rw [if_neg (fun h => e ((List.getElem_inj (h₀ := hi) (h₁ := hj) hn).1 (by rw [he]; exact h)))]
      omega
theorem idx_own {l : List Int} {x : Int} (h : x ∈ l) : ∃ (i : Nat) (hi : i < l.length), idxI l x = (i : Int) ∧ l[i] = x := by
  have hlt : l.findIdx (fun y => x == y) < l.length := List.findIdx_lt_length.2 ⟨x, h, by simp⟩
  refine ⟨_, hlt, by unfold idxI; rw [if_pos h], ?_⟩
  have h2 : x = l[l.findIdx (fun y => x == y)] := by simpa using List.findIdx_getElem (w := hlt)
  exact h2.symm

def SharesRel (w : World) (l : List Int) (g n : Nat) (i : Value) (wr : World) : Prop :=
  ∃ k : Nat, k ≤ 1000 ∧ i = .int .i64 k ∧ Blk wr g 3 (ints (if n = 0 then [] else shares l k)) ∧ Below w.heap.size w wr
def SharesPost (w : World) (l : List Int) (e : Ending) (w' : World) : Prop :=
  Below w.heap.size w w' ∧ ((Good l ∧ e = .returned (.tuple #[.slice (some ⟨w.heap.size, 0, none⟩) l.length l.length, .nilIface]) ∧ Blk w' w.heap.size 3 (ints (if l = [] then [] else shares l 1000))) ∨ (¬ Good l ∧ ∃ k, e = .returned (.tuple #[.slice none 0 0, errv k])))

set_option maxHeartbeats 1000000 in
set_option maxRecDepth 100000 in
theorem shares_any (a : Option Addr) (n c : Nat) (l : List Int) (w : World) (hl : l.length = n) (h : IntsIn w w.heap.size a l) (hc : n ≤ c) :
    Calls Tryd.prog 28 #[.slice a n c] w (SharesPost w l) := by
  have HL := Lib.hid hl; have H := Lib.hid h; clear hl h
  by_cases hn12 : n ≤ 12
  · have hmk := fun wx : World => run_make_blk (P := Tryd.prog) 22 3 (.int .i64 0) 8 Tryd.underlying22 info_int rfl n (by omega) (by omega) wx
    have hn12i : (n : Int) ≤ 12 := by omega
    go_enter Tryd.func28, Tryd.ntmps28
    go_wp2_with fail
    refine (check_any a n c _ l _ HL.out H.out hc).mono ?_
    rintro e w' ⟨⟨hg, rfl⟩ | ⟨hg, k, rfl⟩, rfl⟩
    · have HG := Lib.hid hg; clear hg
      have HZ : Hid ((if n = 0 then [] else shares l 0) = List.replicate n 0) := Lib.hid (by
        by_cases e : n = 0
        · rw [if_pos e, e]; rfl
        · rw [if_neg e, shares_zero, HL.out])
      go_wp2
      go_loopw [6, 15] (fun _ i wr => SharesRel w l w.heap.size n i wr) (fun _ i _ => 1000 - (intOf i).toNat)
      case atStart =>
        refine ⟨0, by omega, rfl, ?_, (Below.refl _ w).alloc (Nat.le_refl _) _⟩
        rw [HZ.out]
        have := Blk.new w 3 (ints (List.replicate n 0))
        simpa [ints] using this
      case round =>
        obtain ⟨k, hk, rfl, hb, hbel⟩ := hrel
        have HB := Lib.hid hb; have HBE := Lib.hid hbel; clear hb hbel
        by_cases hlt : k < 1000
        · have hki : (k : Int) < 1000 := by omega
          have hk0 : (0 : Int) ≤ (k : Int) := by omega
          by_cases h0 : n = 0
          · have h0i : ¬ (0 : Int) < (n : Int) := by omega
            have HB2 : Hid (Blk wr w.heap.size 3 (ints (if n = 0 then [] else shares l (k + 1)))) := Lib.hid (by have := HB.out; rw [if_pos h0] at this ⊢; exact this)
            go_wp2
            go_roundw
            case rel => exact ⟨k + 1, hlt, by simp, HB2.out, HBE.out⟩
            case measure => simp [intOf]; omega
          · have h0i : (0 : Int) < (n : Int) := by omega
            have hne : l ≠ [] := fun h => h0 (by rw [← HL.out, h]; rfl)
            have hom := ownO_mem k hne
            obtain ⟨i, hi, hidx, hli⟩ := idx_own hom
            have hsu := shares_succ HG.out.2.2 hi hli
            have hget := shares_get (k := k) hi
            have hcb := cnt_bd l k l[i]
            obtain ⟨o, ho⟩ : ∃ o, ownO k l = o := ⟨_, rfl⟩
            obtain ⟨cv, hcv⟩ : ∃ cv, cv = cnt l k l[i] := ⟨_, rfl⟩
            rw [ho] at hidx
            rw [← hcv] at hsu hget hcb
            have hbb := HB.out
            rw [if_neg h0] at hbb
            have hcell := hbb.cell_ (ints_get hget)
            have hfree := hbb.free i
            have HO := Lib.hid ho; have HIX := Lib.hid hidx; have HSU := Lib.hid hsu; have HBB := Lib.hid hbb
            have hin : (i : Int) < (n : Int) := by have := HL.out; omega
            have hi0 : (0 : Int) ≤ (i : Int) := by omega
            obtain ⟨hcb0, hcb1⟩ := hcb
            have HIN : Hid (IntsIn wr wr.heap.size a l) := Lib.hid ((H.out.below HBE.out).more HBE.out.size)
            clear hidx hli hsu hget ho hcv hbb hom hne hi
            go_wp2_with fail
            refine (owner_any k a n c l _ HL.out HIN.out (by omega) (by omega) HG.out.2.1 (by omega) (by omega)).mono ?_
            rintro e w2 ⟨rfl, hb2⟩
            rw [HO.out]
            have hk2 : Keep [] wr w2 := Keep.of_below hb2 (Nat.le_refl _)
            have hcell2 := (hk2.cell (p := ⟨w.heap.size, i, none⟩) HBB.out.lt (by simp)).trans hcell
            have hbb2 := HBB.out.keep hk2 (by simp)
            have hfree2 := hbb2.free i
            have HBB2 := Lib.hid hbb2; have HB2 := Lib.hid hb2
            have HIN2 : Hid (IntsIn w2 wr.heap.size a l) := Lib.hid (HIN.out.below hb2)
            clear hcell hfree hb2 hk2 hbb2
            go_wp2_with fail
            refine (index_any a n c _ l o _ HL.out HIN2.out (by omega)).mono ?_
            rintro e w3 ⟨rfl, rfl⟩
            rw [HIX.out]
            go_wp2
            go_roundw
            case rel =>
              refine ⟨k + 1, hlt, by simp, ?_, (HBE.out.trans (HB2.out.mono HBE.out.size)).setCell (Nat.le_refl _) _⟩
              rw [if_neg h0, ← HSU.out, ← ints_set]
              exact HBB2.out.set i _
            case measure => simp [intOf]; omega
        · have hki : ¬ (k : Int) < 1000 := by omega
          obtain rfl : k = 1000 := by omega
          go_wp2
          go_ret2
          refine ⟨HBE.out, .inl ⟨HG.out, by rw [HL.out]; rfl, ?_⟩⟩
          have := HB.out
          by_cases e : n = 0
          · rw [if_pos e] at this
            rw [if_pos (List.length_eq_zero_iff.1 (by rw [HL.out]; exact e))]; exact this
          · rw [if_neg e] at this
            rw [if_neg (fun h => e (by rw [← HL.out, h]; rfl))]; exact this
    · have HG := Lib.hid hg; clear hg
      go_wp2
      go_ret2
      exact ⟨Below.refl _ _, .inr ⟨HG.out, k, rfl⟩⟩
  · have HBAD : Hid (¬ Good l) := Lib.hid (fun hg => by have := hg.1; have := HL.out; omega)
    go_enter Tryd.func28, Tryd.ntmps28
    go_wp2_with fail
    refine (check_any a n c _ l _ HL.out H.out hc).mono ?_
    rintro e w' ⟨⟨hg, rfl⟩ | ⟨hg, k, rfl⟩, rfl⟩
    · exact absurd hg HBAD.out
    · go_wp2
      go_ret2
      exact ⟨Below.refl _ _, .inr ⟨HBAD.out, k, rfl⟩⟩
end Go.Proofs.YthldhbcidcmmaaaDoor
