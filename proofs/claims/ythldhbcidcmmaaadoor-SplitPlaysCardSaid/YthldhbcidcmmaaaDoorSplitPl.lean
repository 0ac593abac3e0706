/-
  SplitPlays: a table and the reference's pages beside each other.
-/
import Derived.Test.YthldhbcidcmmaaaDoorPageAddWalk
import Derived.Test.YthldhbcidcmmaaaDoorSplitOps
import Derived.Test.YthldhbcidcmmaaaDoorTold2
import Derived.Test.YthldhbcidcmmaaaDoorSameInts
namespace Go.Proofs.YthldhbcidcmmaaaDoor
open Go.RowKit

/-! ### NewPages -/
def NewPost (w : World) (e : Ending) (w' : World) : Prop :=
  ∃ (bD cD bK cK : Nat) (vals : List Value), e = .returned (.agg #[.int .i64 0, .slice (some ⟨bD, 0, none⟩) 1 cD, .slice (some ⟨bK, 0, none⟩) 1 cK]) ∧ PgV w' 1 [] (fun _ => 0) bD cD bK cK vals ∧ PIn (fun x => w.heap.size ≤ x) bD bK vals ∧ Below w.heap.size w w'
theorem newOwn {w : World} {B : Nat} (h : B ≤ w.heap.size) : OwnInts (w.alloc (.cells #[.int .i64 0] 3)) B (.slice (some ⟨w.heap.size, 0, none⟩) 1 1) (deepL 1 (fun _ => 0)) := by
  have hb := Blk.new w 3 [.int .i64 0]
  unfold Blk at hb
  refine ⟨by simp [deepL, ints], .inr ⟨_, 1, #[.int .i64 0], rfl, h, hb, by rw [deepL_len]; exact Nat.le_refl _, by decide, rfl, by simp [deepL, ints, List.range_succ]⟩⟩
theorem newOwnV {w : World} {B : Nat} (h : B ≤ w.heap.size) : OwnV (w.alloc (.cells #[.slice none 0 0] 22)) B (.slice (some ⟨w.heap.size, 0, none⟩) 1 1) [.slice none 0 0] := by
  have hb := Blk.new w 22 [.slice none 0 0]
  unfold Blk at hb
  exact ⟨rfl, .inr ⟨_, 1, #[.slice none 0 0], rfl, h, hb, Nat.le_refl _, by decide, rfl, rfl⟩⟩
set_option maxRecDepth 100000 in
theorem kNew (w : World) : Calls Tryd.prog 15 #[] w (NewPost w) := by
  go_enter Tryd.func15, Tryd.ntmps15
  go_wp2
  (try simp only [Exit.inBlock, Exit.then])
  have hI := newOwn (B := 0) (w := w.alloc (.cells #[.int .i64 0, .slice (some ⟨w.heap.size + 1, 0, none⟩) 1 1, .slice (some ⟨w.heap.size + 1 + 1, 0, none⟩) 1 1] 35)) (Nat.zero_le _)
  have hV := newOwnV (B := 0) (w := (w.alloc (.cells #[.int .i64 0, .slice (some ⟨w.heap.size + 1, 0, none⟩) 1 1, .slice (some ⟨w.heap.size + 1 + 1, 0, none⟩) 1 1] 35)).alloc (.cells #[.int .i64 0] 3)) (Nat.zero_le _)
  rw [World.size_alloc] at hI
  rw [World.size_alloc, World.size_alloc] at hV
  refine bodyPost_ret (results_cell1 rfl _ _ w.heap.size 35 _ _ rfl (((Blk.new w 35 [.int .i64 0, .slice (some ⟨w.heap.size + 1, 0, none⟩) 1 1, .slice (some ⟨w.heap.size + 1 + 1, 0, none⟩) 1 1]).alloc _).alloc _) Tryd.underlying35 rfl info_pages) rfl ?_
  refine ⟨w.heap.size + 1, 1, w.heap.size + 1 + 1, 1, [.slice none 0 0], rfl, ⟨hI.keep fun g hg => ?_, hV, by simp [keysL], ?_⟩, ⟨by omega, by omega, ?_⟩, (((Below.refl _ w).alloc (Nat.le_refl _) _).alloc (by simp) _).alloc (by simp; omega) _⟩
  · exact Below.heap_alloc _ _ g (World.ownsRow.lt hI g hg).2
  · intro i xs hx
    match i, hx with
    | 0, hx =>
      obtain rfl : [] = xs := by simpa [keysL, cls, List.range_succ] using hx
      exact ⟨_, rfl, OwnInts.nil _ _⟩
    | i + 1, hx => simp [keysL] at hx
  · intro v hv x hx
    simp at hv
    subst hv
    simp [Value.ownBlock] at hx

/-! ### The two beside each other -/
structure PS (w wr : World) (O : Nat → Prop) (t xb : Nat) (T S : List Int) (n D : Nat) (deep : Nat → Nat) (bD cD bK cK : Nat) (vals : List Value) : Prop where
  tab : Tab O wr t T
  x : Blk wr xb 35 [.int .i64 D, .slice (some ⟨bD, 0, none⟩) n cD, .slice (some ⟨bK, 0, none⟩) n cK]
  pg : PgV wr n S deep bD cD bK cK vals
  dir : Dir S S D deep
  hn : n = 2 ^ D
  d6 : D ≤ 6
  pin : PIn (fun x => ¬ O x) bD bK vals
  nx : ¬ O xb
  lo : ∀ x, x < w.heap.size → ¬ O x
  x0 : w.heap.size ≤ xb
  bel : Below w.heap.size w wr
theorem AllP.mono {P Q : Nat → Prop} {vals : List Value} (h : AllP P vals) (hq : ∀ x, P x → Q x) : AllP Q vals := fun v hv x hx => hq x (h v hv x hx)
theorem PIn.mono {P Q : Nat → Prop} {bD bK : Nat} {vals : List Value} (h : PIn P bD bK vals) (hq : ∀ x, P x → Q x) : PIn Q bD bK vals := ⟨hq _ h.1, hq _ h.2.1, h.2.2.mono hq⟩
/-- The pages' blocks are there. -/
theorem PgV.pin_lt {w : World} {n : Nat} {S : List Int} {deep : Nat → Nat} {bD cD bK cK : Nat} {vals : List Value} (h : PgV w n S deep bD cD bK cK vals) : PIn (fun x => x < w.heap.size) bD bK vals :=
  ⟨(World.ownsRow.lt h.d bD rfl).2, (World.ownsRow.lt h.k bK rfl).2, fun v hv x hx => by
    obtain ⟨i, hi, hiv⟩ := List.getElem_of_mem hv
    obtain ⟨v', h1, h2⟩ := h.r.2 i _ (List.getElem?_eq_getElem (by rw [← h.r.1]; exact hi))
    rw [List.getElem?_eq_getElem hi, hiv] at h1
    obtain rfl := Option.some.inj h1
    exact (World.ownsRow.lt h2 x hx).2⟩
theorem PIn.and {P Q : Nat → Prop} {bD bK : Nat} {vals : List Value} (h : PIn P bD bK vals) (h' : PIn Q bD bK vals) : PIn (fun x => P x ∧ Q x) bD bK vals := ⟨⟨h.1, h'.1⟩, ⟨h.2.1, h'.2.1⟩, fun v hv x hx => ⟨h.2.2 v hv x hx, h'.2.2 v hv x hx⟩⟩
theorem PgV.keepO {w w' : World} {O : Nat → Prop} {n : Nat} {S : List Int} {deep : Nat → Nat} {bD cD bK cK : Nat} {vals : List Value} (h : PgV w n S deep bD cD bK cK vals) (hk : KeepP O w w') (hp : PIn (fun x => ¬ O x) bD bK vals) : PgV w' n S deep bD cD bK cK vals := by
  have hl := h.pin_lt
  refine ⟨h.d.keep fun g hg => ?_, h.k.keep fun g hg => ?_, h.r.keepG fun g hg v hv hvg => hk.block g hg (hp.2.2 v hv g hvg)⟩
  · simp only [Value.ownBlock, Option.some.injEq] at hg
    subst hg
    exact hk.block _ hl.1 hp.1
  · simp only [Value.ownBlock, Option.some.injEq] at hg
    subst hg
    exact hk.block _ hl.2.1 hp.2.1
section
variable {w wr w' : World} {O : Nat → Prop} {t xb : Nat} {T T' S : List Int} {n D : Nat} {deep : Nat → Nat} {bD cD bK cK : Nat} {vals : List Value}
theorem PS.below (h : PS w wr O t xb T S n D deep bD cD bK cK vals) (hb : Below wr.heap.size wr w') : PS w w' (fun x => O x ∧ (x < wr.heap.size ∨ w'.heap.size ≤ x)) t xb T S n D deep bD cD bK cK vals where
  tab := h.tab.away (O2 := fun _ => False) ((Keep.of_below (F := []) hb (Nat.le_refl _)).toP (by simp)) (fun _ _ _ hf => hf)
  x := h.x.below hb h.x.lt
  pg := h.pg.bel hb
  dir := h.dir
  hn := h.hn
  d6 := h.d6
  pin := h.pin.mono fun x hx ho => hx ho.1
  nx := fun ho => h.nx ho.1
  lo := fun x hx ho => h.lo x hx ho.1
  x0 := h.x0
  bel := h.bel.trans (hb.mono h.bel.size)
theorem PS.tstep (h : PS w wr O t xb T S n D deep bD cD bK cK vals) (ht : Tab O w' t T') (hk : KeepP O wr w') : PS w w' O t xb T' S n D deep bD cD bK cK vals where
  tab := ht
  x := by
    have := hk.block xb h.x.lt h.nx
    unfold Blk
    rw [this]
    exact h.x
  pg := h.pg.keepO hk h.pin
  dir := h.dir
  hn := h.hn
  d6 := h.d6
  pin := h.pin
  nx := h.nx
  lo := h.lo
  x0 := h.x0
  bel := h.bel.trans (hk.toBelow h.bel.size h.lo)
theorem PS.cells (h : PS w wr O t xb T S n D deep bD cD bK cK vals) : wr.cell? ⟨xb, 0, none⟩ = some (.int .i64 D) ∧ wr.cell? ⟨xb, 1, none⟩ = some (.slice (some ⟨bD, 0, none⟩) n cD) ∧ wr.cell? ⟨xb, 2, none⟩ = some (.slice (some ⟨bK, 0, none⟩) n cK) ∧ wr.frozen? ⟨xb, 0, none⟩ = false ∧ wr.frozen? ⟨xb, 1, none⟩ = false ∧ wr.frozen? ⟨xb, 2, none⟩ = false :=
  ⟨h.x.cell_ (i := 0) rfl, h.x.cell_ (i := 1) rfl, h.x.cell_ (i := 2) rfl, h.x.free 0, h.x.free 1, h.x.free 2⟩
theorem PS.tabD (h : PS w wr O t xb S S n D deep bD cD bK cK vals) : TabD O wr t S D deep := by
  obtain ⟨g, cap, D', pg, deep', kv, h1, h2, h3⟩ := h.tab
  obtain rfl := h2.depth_eq h.dir
  obtain rfl : deep' = deep := funext fun i => h2.deep_eq h.dir i
  exact ⟨g, cap, pg, kv, h1, h2, h3⟩
/-- AddPage has made new pages; then they are laid into x's block. -/
theorem PS.added (h : PS w wr O t xb T S n D deep bD cD bK cK vals) (hb : Below wr.heap.size wr w') {S' : List Int} {n' D' : Nat} {deep' : Nat → Nat} {bD' cD' bK' cK' : Nat} {vals' : List Value} (hp : PgV w' n' S' deep' bD' cD' bK' cK' vals') (hd : Dir S' S' D' deep') (hn : n' = 2 ^ D') (h6 : D' ≤ 6) (hin : PIn (fun x => ¬ O x ∨ wr.heap.size ≤ x) bD' bK' vals') :
    PS w (set3 w' xb (.int .i64 D') (.slice (some ⟨bD', 0, none⟩) n' cD') (.slice (some ⟨bK', 0, none⟩) n' cK')) (fun x => (O x ∧ (x < wr.heap.size ∨ w'.heap.size ≤ x)) ∧ (x < w'.heap.size ∨ w'.heap.size ≤ x)) t xb T S' n' D' deep' bD' cD' bK' cK' vals' := by
  have h1 := h.below hb
  have hk := keep3 w' xb (.int .i64 D') (.slice (some ⟨bD', 0, none⟩) n' cD') (.slice (some ⟨bK', 0, none⟩) n' cK')
  have hsz : (set3 w' xb (.int .i64 D') (.slice (some ⟨bD', 0, none⟩) n' cD') (.slice (some ⟨bK', 0, none⟩) n' cK')).heap.size = w'.heap.size := by simp
  have htab := h1.tab.away (KeepP.of_keep hk) (fun x _ ho hx => h1.nx (by simp at hx; rw [← hx]; exact ho))
  rw [hsz] at htab
  exact { tab := htab, x := blk3 h1.x _ _ _, pg := hp.blk h1.x (by decide) (by decide) (fun g hg hne => hk.block g hg (by simpa using hne)), dir := hd, hn := hn, d6 := h6
          pin := (hin.and hp.pin_lt).mono fun x hx ho => by
            rcases hx.1 with hx1 | hx1
            · exact hx1 ho.1.1
            · rcases ho.1.2 with h2 | h2
              · omega
              · have := hx.2; omega
          nx := fun ho => h1.nx ho.1
          lo := fun x hx ho => h1.lo x hx ho.1
          x0 := h.x0
          bel := h1.bel.trans (hk.below h1.bel.size (by simp; exact h.x0)) }
end

theorem bits_all (n m q0 : Nat) (w : World) (hn : (n : Int) ≤ 9223372036854775807) (hm : m ≤ 6) (hq0 : n % 2 ^ m = q0) : Calls Tryd.prog 20 #[.int .i64 n, .int .i64 m] w fun e w' => e = .returned (.int .i64 q0) ∧ w = w' := by
  subst hq0
  go_enter Tryd.func20, Tryd.ntmps20
  go_wp2
  go_loop [5, 6] (fun p i => BitsRel m p i) (fun _ i => m - (intOf i).toNat)
  case atStart => exact ⟨0, by omega, rfl, rfl⟩
  case round =>
    obtain ⟨k, hk, rfl, rfl⟩ := hrel
    have hp : 2 ^ k ≤ 2 ^ 6 := Nat.pow_le_pow_right (by decide) (by omega)
    have hs : 2 ^ (k + 1) = 2 ^ k * 2 := Nat.pow_succ ..
    have hp0 : 0 < 2 ^ k := Nat.pow_pos (by decide)
    obtain ⟨q, hq⟩ : ∃ q, q = 2 ^ k := ⟨_, rfl⟩
    rw [← hq] at hs hp hp0 ⊢
    have HQ := Lib.hid hq; have HS := Lib.hid hs
    clear hq hs
    by_cases hlt : k < m
    · have hki : (k : Int) < (m : Int) := by omega
      go_wp2
      go_round
      case rel => exact ⟨k + 1, hlt, by simp, by rw [HS.out]; go_num⟩
      case measure => simp [intOf]; omega
    · obtain rfl : k = m := by omega
      have HR : Hid ((n : Int) % (q : Int) = ((n % 2 ^ k : Nat) : Int)) := Lib.hid (by rw [mod_nat, HQ.out])
      go_wp2
      go_ret
      exact ⟨ret_int HR.out, rfl⟩
theorem PgV.row {w : World} {n : Nat} {S : List Int} {deep : Nat → Nat} {bD cD bK cK : Nat} {vals : List Value} (h : PgV w n S deep bD cD bK cK vals) {i : Nat} (hi : i < n) : ∃ a m c, w.cell? ⟨bD, i, none⟩ = some (.int .i64 (deep i)) ∧ w.cell? ⟨bK, i, none⟩ = some (.slice a m c) ∧ (cls S i (deep i)).length = m ∧ IntsIn w w.heap.size a (cls S i (deep i)) := by
  obtain ⟨a, m, c, h1, h2, h3, h4, _⟩ := h.at_ hi
  obtain ⟨a2, c2, e2, hIN⟩ := h4.shape
  simp only [Value.slice.injEq] at e2
  exact ⟨a, m, c, h1, h2, h3.symm, by rw [e2.1]; exact hIN⟩

/-- What AddPage gave, and the block y. -/
structure Y0 (wr wx : World) (O : Nat → Prop) (S : List Int) (n D : Nat) (deep : Nat → Nat) (bD cD bK cK : Nat) (vals : List Value) : Prop where
  pg : PgV wx n S deep bD cD bK cK vals
  dir : Dir S S D deep
  hn : n = 2 ^ D
  d6 : D ≤ 6
  pin : PIn (fun x => ¬ O x ∨ wr.heap.size ≤ x) bD bK vals
  bel : Below wr.heap.size wr wx
theorem Y0.below {wr wx w' : World} {O : Nat → Prop} {S : List Int} {n D : Nat} {deep : Nat → Nat} {bD cD bK cK : Nat} {vals : List Value} (h : Y0 wr wx O S n D deep bD cD bK cK vals) (hb : Below wx.heap.size wx w') : Y0 wr w' O S n D deep bD cD bK cK vals :=
  ⟨h.pg.bel hb, h.dir, h.hn, h.d6, h.pin, h.bel.trans (hb.mono h.bel.size)⟩
theorem Y0.put {wr wx : World} {O : Nat → Prop} {S : List Int} {n D : Nat} {deep : Nat → Nat} {bD cD bK cK : Nat} {vals : List Value} {y : Nat} {cs : List Value} (h : Y0 wr wx O S n D deep bD cD bK cK vals) (hy : Blk wx y 35 cs) (hle : wr.heap.size ≤ y) (v0 v1 v2 : Value) : Y0 wr (set3 wx y v0 v1 v2) O S n D deep bD cD bK cK vals :=
  ⟨h.pg.blk hy (by decide) (by decide) (fun g hg hne => (keep3 wx y v0 v1 v2).block g hg (by simpa using hne)), h.dir, h.hn, h.d6, h.pin, h.bel.trans ((keep3 wx y v0 v1 v2).below h.bel.size (by simpa using hle))⟩
def YRel (wr wx : World) (O : Nat → Prop) (S : List Int) (xb : Nat) (s8 : Value) : Prop :=
  ∃ (yb n D : Nat) (deep : Nat → Nat) (bD cD bK cK : Nat) (vals : List Value), s8 = .pointer (some ⟨yb, 0, none⟩) ∧ Y0 wr wx O S n D deep bD cD bK cK vals ∧ Blk wx yb 35 [.int .i64 D, .slice (some ⟨bD, 0, none⟩) n cD, .slice (some ⟨bK, 0, none⟩) n cK] ∧ yb ≠ xb
end Go.Proofs.YthldhbcidcmmaaaDoor
