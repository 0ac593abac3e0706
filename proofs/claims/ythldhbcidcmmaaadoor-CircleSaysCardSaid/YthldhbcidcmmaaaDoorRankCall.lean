/-
  circle.Rank, by its contract; sorted lists are one.
-/
import Derived.Test.YthldhbcidcmmaaaDoorRankFunc
namespace Go.Proofs.YthldhbcidcmmaaaDoor
open Go.RowKit

theorem own_front {w : World} {base : Nat} {v : Value} {l : List Int} (h : OwnInts w base v l) (hp : 0 < l.length) : ∃ g cap rest, v = .slice (some ⟨g, 0, none⟩) l.length cap ∧ base ≤ g ∧ Blk w g 3 (ints l ++ rest) := by
  obtain ⟨hl, ⟨rfl, hn⟩ | ⟨g, cap, cur, rfl, hb, hh, hc, hm, hs, ht⟩⟩ := h
  · omega
  · refine ⟨g, cap, cur.toList.drop (l.length * 1), rfl, hb, ?_⟩
    unfold Blk
    rw [← ht, List.take_append_drop]; simpa using hh

theorem clone_empty (a : Option Addr) (c : Nat) (w : World) : Calls Tryd.prog 36 #[.slice a 0 c] w fun e w' => (∃ a' c', e = .returned (.slice a' 0 c')) ∧ Below w.heap.size w w' := by
  have he := fun wx => Lib.run_eql_slice_nil (P := Tryd.prog) wx 22 3 a 0 c 0 0 Tryd.underlying22
  obtain ⟨i0, hi, hz0, hz1, hz2⟩ := info_parts info_int
  cases a with
  | none =>
    go_enter Tryd.func36, Tryd.ntmps36
    go_wp2
    go_ret
    exact ⟨⟨_, _, rfl⟩, Below.refl _ _⟩
  | some ad =>
    go_enter Tryd.func36, Tryd.ntmps36
    go_wp2_with (at_builtin; refine wpList_append_own _ rfl _ _ 22 rfl w.heap.size 3 i0 (.int .i64 0) 1 8 Tryd.underlying22 hi hz0 hz1 hz2 rfl (by decide) _ 0 [] rfl (World.ownsRow_made w #[] 0 (Nat.le_refl _) (by decide) rfl) ad 0 c [] rfl rfl (by simp) (by simp) (by unfold maxLen; omega) (by omega) (by simp) ?_; intro v' w1 hown hgrow _; (obtain ⟨a', c', hv, _⟩ := OwnInts.shape (xs := []) (v := v') hown); subst hv; simp only [List.length_nil])
    go_ret
    refine ⟨⟨_, _, rfl⟩, ((Below.refl _ _).alloc (Nat.le_refl _) _).grown hgrow (by simp) (fun k hk => ?_)⟩
    exact Nat.le_of_eq (Option.some.inj hk)

set_option maxHeartbeats 1000000 in
set_option maxRecDepth 100000 in
theorem sort_empty (a : Option Addr) (c : Nat) (ad : Addr) (w : World) :
    Calls Tryd.prog 51 #[.slice a 0 c, .func (.func 52) #[] #[.pointer (some ad)]] w fun e w' => e = .returned (.tuple #[]) ∧ w = w' := by
  have h3 : ∀ w : World, Calls Tryd.prog 73 #[.slice a 0 c, .int .i64 0, .int .i64 0, .func (.func 52) #[] #[.pointer (some ad)]] w fun e w' => e = .returned (.tuple #[]) ∧ w = w' := by
    intro w
    go_enter Tryd.func73, Tryd.ntmps73
    go_wp2
    go_loopw [8, 9] (fun i _ wr => i = .int .i64 1 ∧ w = wr) (fun _ _ _ => 0)
    case atStart => exact ⟨rfl, rfl⟩
    case round =>
      obtain ⟨rfl, rfl⟩ := hrel
      go_wp2
      go_end0
      exact ⟨rfl, rfl⟩
  have H3 := Lib.hid h3; clear h3
  have h2 : ∀ (lim : Int) (w : World), Calls Tryd.prog 65 #[.slice a 0 c, .int .i64 0, .int .i64 0, .int .i64 lim, .func (.func 52) #[] #[.pointer (some ad)]] w fun e w' => e = .returned (.tuple #[]) ∧ w = w' := by
    intro lim w
    go_enter Tryd.func65, Tryd.ntmps65
    go_wp2
    refine wp_loop_rounds 1 ?_
    rw [rounds_succ]
    go_wp2_with fail
    refine (H3.out _).mono ?_
    rintro e w2 ⟨rfl, rfl⟩
    go_wp2
    first
      | (refine bodyPost_ret (results_none _ _ _ _) rfl ?_; exact ⟨rfl, rfl⟩)
      | (refine bodyPost_ret (v := .tuple #[]) (by simp [results, go_sem]) rfl ?_; exact ⟨rfl, rfl⟩)
  have H2 := Lib.hid h2; clear h2
  go_enter Tryd.func51, Tryd.ntmps51
  go_wp2_with fail
  refine (len_some 0 _ (by omega)).mono ?_
  rintro e w' ⟨⟨v, rfl⟩, rfl⟩
  go_wp2_with fail
  refine (H2.out v _).mono ?_
  rintro e w2 ⟨rfl, rfl⟩
  go_wp2
  go_end0
  exact ⟨rfl, rfl⟩

def RankPost (l : List Int) (key : Int) (w : World) (e : Ending) (w' : World) : Prop :=
  Below w.heap.size w w' ∧ ((Good l ∧ 0 ≤ key ∧ key ≤ 1000000 ∧ ∃ a c xs, e = .returned (.tuple #[.slice a l.length c, .nilIface]) ∧ xs.Perm l ∧ SortedTo key xs l.length ∧ IntsIn w' w'.heap.size a xs) ∨
    (¬ (Good l ∧ 0 ≤ key ∧ key ≤ 1000000) ∧ ∃ k, e = .returned (.tuple #[.slice none 0 0, errv k])))

set_option maxHeartbeats 1000000 in
set_option maxRecDepth 100000 in
theorem cRank_any (a : Option Addr) (n c : Nat) (l : List Int) (key : Int) (w : World) (hl : l.length = n) (h : IntsIn w w.heap.size a l) (hc : n ≤ c) :
    Calls Tryd.prog 30 #[.slice a n c, .int .i64 key] w (RankPost l key w) := by
  have HL := Lib.hid hl; have H := Lib.hid h; clear hl h
  have HB0 : Hid (Below w.heap.size w (w.alloc (.cells #[.int .i64 key] 3))) := Lib.hid ((Below.refl _ w).alloc (Nat.le_refl _) _)
  have H1 : Hid (IntsIn (w.alloc (.cells #[.int .i64 key] 3)) (w.alloc (.cells #[.int .i64 key] 3)).heap.size a l) := Lib.hid ((H.out.below HB0.out).more (by simp))
  go_enter Tryd.func30, Tryd.ntmps30
  go_wp2_with fail
  refine (check_any a n c _ l _ HL.out H1.out hc).mono ?_
  rintro e w' ⟨⟨hg, rfl⟩ | ⟨hg, k, rfl⟩, rfl⟩
  · have HG := Lib.hid hg; clear hg
    have hn12 : n ≤ 12 := by have := HG.out.1; have := HL.out; omega
    by_cases hk : 0 ≤ key ∧ key ≤ 1000000
    · obtain ⟨hk0, hk1⟩ := hk
      by_cases h0 : n = 0
      · have HE : Hid (l = []) := Lib.hid (List.length_eq_zero_iff.1 (by rw [HL.out]; exact h0))
        subst h0
        go_wp2_with fail
        refine (within_yes _ _ _ _ hk0 hk1).mono ?_
        rintro e' w' ⟨rfl, rfl⟩
        go_wp2_with fail
        refine (clone_empty a c _).mono ?_
        rintro e' w2 ⟨⟨a', c', rfl⟩, hb2⟩
        have HB2 := Lib.hid hb2; clear hb2
        go_wp2_with fail
        refine (sort_empty a' c' _ _).mono ?_
        rintro e' w3 ⟨rfl, rfl⟩
        go_wp2
        go_ret2
        refine ⟨HB0.out.trans (HB2.out.mono (by simp)), .inl ⟨HG.out, hk0, hk1, a', c', [], by rw [HE.out]; rfl, by rw [HE.out], fun x y hx => by simp at hx, fun hh => by simp at hh⟩⟩
      · have h0i : ¬ (n : Int) = 0 := by omega
        have hnp : 0 < n := by omega
        go_wp2_with fail
        refine (within_yes _ _ _ _ hk0 hk1).mono ?_
        rintro e' w' ⟨rfl, rfl⟩
        go_wp2_with fail
        refine (clone_at a c _ n l _ HL.out H1.out hnp (by omega)).mono ?_
        rintro e' w2 ⟨v, rfl, hown, hb2⟩
        obtain ⟨g, cap, rest, rfl, hg, hblk⟩ := own_front hown (by rw [HL.out]; exact hnp)
        have hck : w2.cell? ⟨w.heap.size, 0, none⟩ = some (.int .i64 key) := (hb2.cell (p := ⟨w.heap.size, 0, none⟩) (by simp)).trans (by simp)
        have hsz2 := hb2.size
        rw [World.size_alloc] at hsz2 hg
        have HB2 := Lib.hid hb2; have HBLK := Lib.hid hblk; have HCK := Lib.hid hck
        clear hb2 hown hblk hck
        rw [HL.out]
        go_wp2_with fail
        refine (sortFunc_any g n cap key ⟨w.heap.size, 0, none⟩ l rest _ HL.out HBLK.out HCK.out (by show w.heap.size ≠ g; omega) (by show w.heap.size < _; omega) hk0 hk1 HG.out.2.1 hn12).mono ?_
        rintro e' w3 ⟨rfl, xs, hp, hs, hb3, hk3⟩
        have HP := Lib.hid hp; have HS := Lib.hid hs; have HB3 := Lib.hid hb3; have HK3 := Lib.hid hk3; clear hp hs hb3 hk3
        go_wp2
        go_ret2
        refine ⟨(HB0.out.trans (HB2.out.mono (by simp))).trans (HK3.out.below (by omega) (by simp; omega)), .inl ⟨HG.out, hk0, hk1, _, cap, xs, by rw [HL.out]; rfl, HP.out, HS.out, fun _ => ⟨g, 0, rfl, HB3.out.lt, fun i x hx => ?_⟩⟩⟩
        rw [Nat.zero_add]
        have hi : i < xs.length := (List.getElem?_eq_some_iff.1 hx).1
        exact HB3.out.cell_ (by rw [List.getElem?_append_left (by rw [ints_len]; exact hi)]; exact ints_get hx)
    · have hk2 : key < 0 ∨ 1000000 < key := by omega
      have HK := Lib.hid hk2; have HK1 := Lib.hid hk; clear hk hk2
      go_wp2_with fail
      refine (within_no _ _ _ _ HK.out).mono ?_
      rintro e' w' ⟨rfl, rfl⟩
      go_wp2
      go_ret2
      exact ⟨HB0.out, .inr ⟨fun hh => HK1.out ⟨hh.2.1, hh.2.2⟩, 1, rfl⟩⟩
  · have HG := Lib.hid hg; clear hg
    go_wp2
    go_ret2
    exact ⟨HB0.out, .inr ⟨fun hh => HG.out hh.1, k, rfl⟩⟩

/-! ### sorted lists are one -/
theorem srt_pair {k : Int} {xs : List Int} (h : SortedTo k xs xs.length) : xs.Pairwise (leR k) := by
  rw [List.pairwise_iff_getElem]
  exact fun i j hi hj hij => h i j hi hj hij hj
theorem srt_uniq {k : Int} : ∀ (xs ys : List Int), xs.Perm ys → xs.Pairwise (leR k) → ys.Pairwise (leR k) → xs = ys
  | [], ys, h, _, _ => (List.nil_perm.1 h).symm
  | x :: xs, [], h, _, _ => absurd h.length_eq (by simp)
  | x :: xs, y :: ys, h, h1, h2 => by
    rw [List.pairwise_cons] at h1 h2
    have hx : x ∈ y :: ys := h.mem_iff.1 (by simp)
    have hy : y ∈ x :: xs := h.mem_iff.2 (by simp)
    have e : x = y := by
      rcases List.mem_cons.1 hx with e | hx
      · exact e
      · rcases List.mem_cons.1 hy with e | hy
        · exact e.symm
        · exact leR_anti (h1.1 y hy) (h2.1 x hx)
    subst e
    rw [srt_uniq xs ys ((List.perm_cons x).1 h) h1.2 h2.2]
theorem good_perm {l m : List Int} (h : l.Perm m) (hg : Good l) : Good m :=
  ⟨by rw [← h.length_eq]; exact hg.1, fun x hx => hg.2.1 x (h.mem_iff.2 hx), h.nodup_iff.1 hg.2.2⟩
end Go.Proofs.YthldhbcidcmmaaaDoor
