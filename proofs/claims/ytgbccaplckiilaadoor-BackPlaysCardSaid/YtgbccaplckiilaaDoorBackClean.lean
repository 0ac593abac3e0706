/-
  A cache over a disk in memory; New, clean, by their contracts.
-/
import Derived.Test.YtgbccaplckiilaaDoorBackIns2
namespace Go.Proofs.YtgbccaplckiilaaDoor
open Go.RowKit

def ctop (disk : List Int) (v : Value) (slots : Nat) (r wr : Int) : List Value := ints disk ++ [v, .int .i64 slots, .int .i64 r, .int .i64 wr]
theorem ctop_disk {disk : List Int} {v : Value} {slots : Nat} {r wr : Int} {j : Nat} (hd : disk.length = 8) (hj : j < 8) : (ctop disk v slots r wr)[j]? = some (.int .i64 (disk.getD j 0)) := by
  unfold ctop
  rw [List.getElem?_append_left (by rw [ints_len]; omega)]
  exact ints_get (by simp [List.getD, List.getElem?_eq_getElem (show j < disk.length by omega)])
theorem ctop_rest {disk : List Int} {v : Value} {slots : Nat} {r wr : Int} (hd : disk.length = 8) : (ctop disk v slots r wr)[8]? = some v ∧ (ctop disk v slots r wr)[9]? = some (.int .i64 slots) ∧ (ctop disk v slots r wr)[10]? = some (.int .i64 r) ∧ (ctop disk v slots r wr)[11]? = some (.int .i64 wr) := by
  have h : ∀ i, (ctop disk v slots r wr)[8 + i]? = [v, .int .i64 slots, .int .i64 r, .int .i64 wr][i]? := fun i => by
    unfold ctop
    rw [List.getElem?_append_right (by rw [ints_len]; omega), ints_len, hd]
    congr 1; omega
  exact ⟨h 0, h 1, h 2, h 3⟩
theorem ctop_setD {disk : List Int} {v : Value} {slots : Nat} {r wr : Int} {j : Nat} (hd : disk.length = 8) (hj : j < 8) (x : Int) : (ctop disk v slots r wr).set j (.int .i64 x) = ctop (disk.set j x) v slots r wr := by
  unfold ctop
  rw [List.set_append_left _ _ (by rw [ints_len]; omega), ints_set]
theorem ctop_set8 {disk : List Int} {v : Value} {slots : Nat} {r wr : Int} (hd : disk.length = 8) (u : Value) : (ctop disk v slots r wr).set 8 u = ctop disk u slots r wr := by
  unfold ctop
  rw [List.set_append_right _ _ (by rw [ints_len]; omega), ints_len, hd]; rfl
theorem ctop_set10 {disk : List Int} {v : Value} {slots : Nat} {r wr : Int} (hd : disk.length = 8) (x : Int) : (ctop disk v slots r wr).set 10 (.int .i64 x) = ctop disk v slots x wr := by
  unfold ctop
  rw [List.set_append_right _ _ (by rw [ints_len]; omega), ints_len, hd]; rfl
theorem ctop_set11 {disk : List Int} {v : Value} {slots : Nat} {r wr : Int} (hd : disk.length = 8) (x : Int) : (ctop disk v slots r wr).set 11 (.int .i64 x) = ctop disk v slots r x := by
  unfold ctop
  rw [List.set_append_right _ _ (by rw [ints_len]; omega), ints_len, hd]; rfl

/-- A cache at block b. -/
structure BAt (w : World) (b : Nat) (v : Value) (slots : Nat) (s : BSt) : Prop where
  top : Blk w b 52 (ctop s.disk v slots s.reads s.writes)
  dl : s.disk.length = 8
  fr : FAt w (b + 1) v s.fr

theorem flat3_setD : ∀ (L : List Fr) (i : Nat) (x : Fr) (d : Bool), L[i]? = some x → (flat3 L).set (i * 3 + 2) (.bool d) = flat3 (L.set i (x.1, x.2.1, d))
  | [], i, x, d, h => by simp at h
  | y :: L, 0, x, d, h => by simp at h; subst h; simp [flat3_cons]
  | y :: L, i + 1, x, d, h => by
    have := flat3_setD L i x d (by simpa using h)
    rw [flat3_cons, show (i + 1) * 3 + 2 = i * 3 + 2 + 1 + 1 + 1 by omega]
    simpa [flat3_cons] using this
theorem flat3_setV : ∀ (L : List Fr) (i : Nat) (x : Fr) (v : Int), L[i]? = some x → (flat3 L).set (i * 3 + 1) (.int .i64 v) = flat3 (L.set i (x.1, v, x.2.2))
  | [], i, x, d, h => by simp at h
  | y :: L, 0, x, d, h => by simp at h; subst h; simp [flat3_cons]
  | y :: L, i + 1, x, d, h => by
    have := flat3_setV L i x d (by simpa using h)
    rw [flat3_cons, show (i + 1) * 3 + 1 = i * 3 + 1 + 1 + 1 + 1 by omega]
    simpa [flat3_cons] using this

def CleanPost (w : World) (b g : Nat) (disk : List Int) (v : Value) (slots : Nat) (r wr : Int) (L : List Fr) (rest : List Value) (i : Nat) (x : Fr) (e : Ending) (w' : World) : Prop :=
  e = .returned (.tuple #[]) ∧ Blk w' b 52 (ctop (cleanD disk x) v slots r (wr + cleanW x)) ∧ Blk w' g 59 (flat3 (L.set i (unD x)) ++ rest) ∧ Keep [b, g] w w'

set_option maxHeartbeats 1000000 in
set_option maxRecDepth 100000 in
theorem clean_any (b g i slots : Nat) (disk : List Int) (v : Value) (r wr : Int) (L : List Fr) (rest : List Value) (x : Fr) (w : World) (hb : Blk w b 52 (ctop disk v slots r wr)) (hd : disk.length = 8)
    (hg : Blk w g 59 (flat3 L ++ rest)) (hx : L[i]? = some x) (h0 : 0 ≤ x.1) (h7 : x.1 ≤ 7) (hw0 : 0 ≤ wr) (hw1 : wr ≤ 1000000) :
    Calls Tryd.prog 26 #[.pointer (some ⟨b, 0, none⟩), .pointer (some ⟨g, i * 3, none⟩)] w (CleanPost w b g disk v slots r wr L rest i x) := by
  have hne : b ≠ g := hb.ne hg (by decide)
  have hil : i < L.length := (List.getElem?_eq_some_iff.1 hx).1
  obtain ⟨hx0, hx1, hx2⟩ := blk_fin hg i x hx
  obtain ⟨q, p, d⟩ := x
  obtain ⟨k, rfl⟩ := Int.eq_ofNat_of_zero_le h0
  simp only at hx0 hx1 hx2 h7 h0
  have HX := Lib.hid hx; have HB := Lib.hid hb; have HG := Lib.hid hg; have HD := Lib.hid hd
  have hff := hg.free (i * 3 + 2)
  have hdk := hb.cell_ (ctop_disk (j := k) hd (by omega))
  have hdf := hb.free k
  have hwc := hb.cell_ (ctop_rest hd).2.2.2
  have hwf := hb.free 11
  have hk8 : (k : Int) < 8 := by omega
  have hinc : IntKind.i64.wrap (wr + 1) = wr + 1 := IntWalk.i64_in _ (by omega)
  have hne2 : g ≠ b := fun e => hne e.symm
  clear hx hb hg hd
  cases d with
  | false =>
    have e1 : L.set i (unD (k, p, false)) = L := by
      obtain ⟨h1, h2⟩ := List.getElem?_eq_some_iff.1 HX.out
      show L.set i (k, p, false) = L
      rw [← h2]; exact List.set_getElem_self h1
    have E1 := Lib.hid e1; clear e1
    go_enter Tryd.func26, Tryd.ntmps26
    go_wp2
    go_end0
    refine ⟨rfl, ?_, ?_, Keep.refl _ _⟩
    · simpa [cleanD, cleanW] using HB.out
    · rw [E1.out]; exact HG.out
  | true =>
    go_enter Tryd.func26, Tryd.ntmps26
    go_wp2
    go_still_tail 12, (by kernel_rfl)
    go_wp2
    go_end0
    refine ⟨rfl, ?_, ?_, (((Keep.refl _ w).drew.set (fun _ => by simp) _).set (fun _ => by simp) _).set (fun _ => by simp) _⟩
    · have := (((HB.out.drew.set k (.int .i64 p)).far (p := ⟨g, i * 3 + 2, none⟩) hne (.bool false)).set 11 (.int .i64 (wr + 1)))
      rw [ctop_setD HD.out (by omega), ctop_set11 (by simpa using HD.out)] at this
      have e1 : cleanD disk ((k : Int), p, true) = disk.set k p := by simp [cleanD]
      have e2 : cleanW ((k : Int), p, true) = 1 := by simp [cleanW]
      rw [e1, e2]
      exact this
    · have := ((HG.out.drew.far (p := ⟨b, k, none⟩) hne2 (.int .i64 p)).set (i * 3 + 2) (.bool false)).far (p := ⟨b, 11, none⟩) hne2 (.int .i64 (wr + 1))
      rw [List.set_append_left _ _ (by rw [flat3_len]; omega), flat3_setD _ _ _ _ HX.out] at this
      exact this

theorem bNew_no (n : Int) (w : World) (h : n < 1 ∨ 8 < n) : Calls Tryd.prog 4 #[.int .i64 n] w fun e w' => e = .returned (.tuple #[.pointer none, errv 1]) ∧ w = w' := by
  go_enter Tryd.func4, Tryd.ntmps4
  go_wp2_with (go_at_call 19; refine (within_no _ _ _ _ h).mono ?_; rintro e w' ⟨rfl, rfl⟩)
  go_ret2
  exact ⟨rfl, rfl⟩
def bs0 : BSt := ⟨List.replicate 8 0, [], 0, 0⟩
theorem bNew_ok (n : Nat) (w : World) (h1 : 1 ≤ (n : Int)) (h2 : (n : Int) ≤ 8) : Calls Tryd.prog 4 #[.int .i64 n] w fun e w' => e = .returned (.tuple #[.pointer (some ⟨w.heap.size, 0, none⟩), .nilIface]) ∧ BAt w' w.heap.size (.slice none 0 0) n bs0 ∧ Below w.heap.size w w' := by
  go_enter Tryd.func4, Tryd.ntmps4
  go_wp2_with (go_at_call 19; refine (within_yes _ _ _ _ h1 h2).mono ?_; rintro e w' ⟨rfl, rfl⟩)
  go_ret2
  exact ⟨rfl, ⟨Blk.new w 52 (ctop (List.replicate 8 0) (.slice none 0 0) n 0 0), rfl, ⟨World.ownsRow_nil _ _ _ _⟩⟩, (Below.refl _ _).alloc (Nat.le_refl _) _⟩
end Go.Proofs.YtgbccaplckiilaaDoor
