/-
  book.Open, by its contract.
-/
import Derived.Test.YticckfioggeaeaaGreatDoorBookRange
import Derived.Sort.CutIn
import Derived.Deep.RegionHeld3
set_option linter.unusedVariables false
set_option linter.unusedSimpArgs false
set_option linter.unnecessarySimpa false
set_option linter.unusedVariables false
namespace Go.Proofs.YticckfioggeaeaaGreatDoor
open Go.RowKit Go.Shelf
attribute [local go_sem] Oper.semAt_some

theorem BookAt.mono {O O' : Nat → Prop} {w : World} {b slots : Nat} {s : Bk} (h : BookAt O w b slots s) (hO : ∀ x, O x → O' x) : BookAt O' w b slots s := by
  obtain ⟨gm, E, p, bv, h⟩ := h
  exact ⟨gm, E, p, bv, { h with ob := hO _ h.ob, og := hO _ h.og, ov := fun x hx => hO _ (h.ov x hx), on := fun x hx => hO _ (h.on x hx) }⟩
theorem open_results (tmps : Array Value) (w : World) (k : Nat) (v4 v5 v6 : Value) (p4 : tmps.getD 4 undef = .pointer (some ⟨k, 0, none⟩)) (p5 : tmps.getD 5 undef = .pointer (some ⟨k + 1, 0, none⟩)) (p6 : tmps.getD 6 undef = .pointer (some ⟨k + 2, 0, none⟩))
    (h4 : w.cell? ⟨k, 0, none⟩ = some v4) (h5 : w.cell? ⟨k + 1, 0, none⟩ = some v5) (h6 : w.cell? ⟨k + 2, 0, none⟩ = some v6) :
    (results Tryz.f12 tmps).run Tryz.prog w = .ok (.tuple #[v4, v5, v6]) w := by
  have p4' : tmps[4]?.getD undef = .pointer (some ⟨k, 0, none⟩) := by simpa using p4
  have p5' : tmps[5]?.getD undef = .pointer (some ⟨k + 1, 0, none⟩) := by simpa using p5
  have p6' : tmps[6]?.getD undef = .pointer (some ⟨k + 2, 0, none⟩) := by simpa using p6
  simp [results, p4', p5', p6', asAddr, loadVar, isAgg, underlying, Tryz.underlying27, Tryz.underlying3, Tryz.underlying29, h4, h5, h6, Result.andThen]
/-- The book, the boxes of Open's own, what the iterator has left. -/
structure OS (w W : World) (O : Nat → Prop) (b slots k h c B : Nat) (s : Bk) (v4 v5 v6 : Value) (cur : List UInt8) : Prop where
  bk : BookAt O W b slots s
  lo : ∀ x, x < w.heap.size → ¬ O x
  n0 : ¬ O k
  n1 : ¬ O (k + 1)
  n2 : ¬ O (k + 2)
  nh : ¬ O h
  nc : ¬ O c
  nB : ∀ x, Two B x → ¬ O x
  b4 : Blk W k 27 [v4]
  b5 : Blk W (k + 1) 3 [v5]
  b6 : Blk W (k + 2) 29 [v6]
  bh : Blk W h 27 [.pointer (some ⟨b, 0, none⟩)]
  bc : Blk W c 9 [strV cur]
  hk : k = w.heap.size
  hh : k + 2 < h
  hc : h < c
  hB : c < B
  bel : Below w.heap.size w W
section
variable {w W W' : World} {O : Nat → Prop} {b slots k h c B : Nat} {s s' : Bk} {v4 v5 v6 : Value} {cur cur' : List UInt8}
theorem OS.far (o : OS w W O b slots k h c B s v4 v5 v6 cur) {O2 : Nat → Prop} (hk : KeepP O2 W W') (hO : ∀ x, O2 x → ¬ O x) (h4 : ¬ O2 k) (h5 : ¬ O2 (k + 1)) (h6 : ¬ O2 (k + 2)) (h7 : ¬ O2 h) (h8 : ¬ O2 c) (hl : ∀ x, x < w.heap.size → ¬ O2 x) :
    OS w W' (fun x => O x ∧ (x < W.heap.size ∨ W'.heap.size ≤ x)) b slots k h c B s v4 v5 v6 cur :=
  { o with
    bk := o.bk.away hk (fun x _ h1 h2 => hO x h2 h1)
    lo := fun x hx h => o.lo x hx h.1
    n0 := fun h => o.n0 h.1
    n1 := fun h => o.n1 h.1
    n2 := fun h => o.n2 h.1
    nh := fun h => o.nh h.1
    nc := fun h => o.nc h.1
    nB := fun x hx h => o.nB x hx h.1
    b4 := (hk.block _ o.b4.lt h4).trans o.b4
    b5 := (hk.block _ o.b5.lt h5).trans o.b5
    b6 := (hk.block _ o.b6.lt h6).trans o.b6
    bh := (hk.block _ o.bh.lt h7).trans o.bh
    bc := (hk.block _ o.bc.lt h8).trans o.bc
    bel := o.bel.trans (hk.toBelow o.bel.size hl) }
theorem OS.two (o : OS w W O b slots k h c B s v4 v5 v6 cur) (hk : KeepP (Two B) W W') : OS w W' (fun x => O x ∧ (x < W.heap.size ∨ W'.heap.size ≤ x)) b slots k h c B s v4 v5 v6 cur := by
  have h1 := o.hk; have h2 := o.hh; have h3 := o.hc; have h4 := o.hB
  exact o.far hk (fun x hx => o.nB x hx) (by unfold Two; omega) (by unfold Two; omega) (by unfold Two; omega) (by unfold Two; omega) (by unfold Two; omega) (fun x hx => by unfold Two; omega)
/-- The book has gone on. -/
theorem OS.book (o : OS w W O b slots k h c B s v4 v5 v6 cur) (h1 : BookAt O W' b slots s') (hk : KeepP O W W') : OS w W' O b slots k h c B s' v4 v5 v6 cur :=
  { o with
    bk := h1
    b4 := (hk.block _ o.b4.lt o.n0).trans o.b4
    b5 := (hk.block _ o.b5.lt o.n1).trans o.b5
    b6 := (hk.block _ o.b6.lt o.n2).trans o.b6
    bh := (hk.block _ o.bh.lt o.nh).trans o.bh
    bc := (hk.block _ o.bc.lt o.nc).trans o.bc
    bel := o.bel.trans (hk.toBelow o.bel.size o.lo) }
theorem OS.below (o : OS w W O b slots k h c B s v4 v5 v6 cur) (hb : Below W.heap.size W W') : OS w W' O b slots k h c B s v4 v5 v6 cur := o.book (o.bk.below hb) (KeepP.of_below hb (Nat.le_refl _))
/-- The iterator has taken a line. -/
theorem OS.line (o : OS w W O b slots k h c B s v4 v5 v6 cur) (hk : Keep [c] W W') (hb : Blk W' c 9 [strV cur']) : OS w W' (fun x => O x ∧ (x < W.heap.size ∨ W'.heap.size ≤ x)) b slots k h c B s v4 v5 v6 cur' := by
  have h1 := o.hk; have h2 := o.hh; have h3 := o.hc; have h4 := o.hB
  have hp := hk.toP (O := fun x => x = c) (by simp)
  exact
  { o with
    bk := o.bk.away hp (fun x _ h1 h2 => o.nc (h2 ▸ h1))
    lo := fun x hx h => o.lo x hx h.1
    n0 := fun h => o.n0 h.1
    n1 := fun h => o.n1 h.1
    n2 := fun h => o.n2 h.1
    nh := fun h => o.nh h.1
    nc := fun h => o.nc h.1
    nB := fun x hx h => o.nB x hx h.1
    b4 := (hp.block _ o.b4.lt (by omega)).trans o.b4
    b5 := (hp.block _ o.b5.lt (by omega)).trans o.b5
    b6 := (hp.block _ o.b6.lt (by omega)).trans o.b6
    bh := (hp.block _ o.bh.lt (by omega)).trans o.bh
    bc := hb
    bel := o.bel.trans (hp.toBelow o.bel.size (fun x hx e => by omega)) }
end
theorem OS.start {w w3 : World} {O : Nat → Prop} {b slots k h : Nat} {s : Bk} (hB : BookAt O w3 b slots s) (hlo : ∀ x, x < w.heap.size → ¬ O x) (n0 : ¬ O k) (n1 : ¬ O (k + 1)) (n2 : ¬ O (k + 2)) (nh : ¬ O h)
    (b4 : Blk w3 k 27 [.pointer none]) (b5 : Blk w3 (k + 1) 3 [.int .i64 0]) (b6 : Blk w3 (k + 2) 29 [.nilIface]) (bh : Blk w3 h 27 [.pointer (some ⟨b, 0, none⟩)]) (hk : k = w.heap.size) (hh : k + 2 < h) (hbel : Below w.heap.size w w3) (text : List UInt8) (o1 o2 : Obj) :
    OS w (((w3.alloc (.cells #[strV text] 9)).alloc o1).alloc o2) (fun x => O x ∧ (x < w3.heap.size ∨ (((w3.alloc (.cells #[strV text] 9)).alloc o1).alloc o2).heap.size ≤ x)) b slots k h w3.heap.size (w3.alloc (.cells #[strV text] 9)).heap.size s (.pointer none) (.int .i64 0) .nilIface text := by
  have hkA := (((Keep.refl [] w3).alloc (.cells #[strV text] 9)).alloc o1).alloc o2
  have hsz : (((w3.alloc (.cells #[strV text] 9)).alloc o1).alloc o2).heap.size = w3.heap.size + 3 := by simp
  have hl := bh.lt
  exact
  { bk := hB.away (O2 := fun _ => False) (hkA.toP (by simp)) (fun _ _ _ hf => hf)
    lo := fun x hx h => hlo x hx h.1
    n0 := fun h => n0 h.1
    n1 := fun h => n1 h.1
    n2 := fun h => n2 h.1
    nh := fun h => nh h.1
    nc := fun h => by have := h.2; omega
    nB := fun x hx h => by have := h.2; unfold Two at hx; rw [World.size_alloc] at hx; omega
    b4 := b4.keep hkA (by simp)
    b5 := b5.keep hkA (by simp)
    b6 := b6.keep hkA (by simp)
    bh := bh.keep hkA (by simp)
    bc := ((Blk.new w3 9 [strV text]).alloc o1).alloc o2
    hk := hk
    hh := hh
    hc := hl
    hB := by rw [World.size_alloc]; exact Nat.lt_succ_self _
    bel := hbel.trans (hkA.below hbel.size (by simp)) }
theorem three {W : World} {k : Nat} {v4 v5 v6 : Value} (u4 u5 u6 : Value) (b4 : Blk W k 27 [v4]) (b5 : Blk W (k + 1) 3 [v5]) (b6 : Blk W (k + 2) 29 [v6]) :
    Blk (((W.setCell ⟨k, 0, none⟩ u4).setCell ⟨k + 1, 0, none⟩ u5).setCell ⟨k + 1 + 1, 0, none⟩ u6) k 27 [u4] ∧ Blk (((W.setCell ⟨k, 0, none⟩ u4).setCell ⟨k + 1, 0, none⟩ u5).setCell ⟨k + 1 + 1, 0, none⟩ u6) (k + 1) 3 [u5] ∧ Blk (((W.setCell ⟨k, 0, none⟩ u4).setCell ⟨k + 1, 0, none⟩ u5).setCell ⟨k + 1 + 1, 0, none⟩ u6) (k + 2) 29 [u6] ∧ Keep [k, k + 1, k + 2] W (((W.setCell ⟨k, 0, none⟩ u4).setCell ⟨k + 1, 0, none⟩ u5).setCell ⟨k + 1 + 1, 0, none⟩ u6) :=
  ⟨((b4.set 0 u4).far (by simp) _).far (by simp; omega) _, ((b5.far (by simp) _).set 0 u5).far (by simp) _, ((b6.far (by simp) _).far (by simp) _).set 0 u6,
   ((((Keep.refl _ W).set (p := ⟨k, 0, none⟩) (fun _ => by simp) _).set (p := ⟨k + 1, 0, none⟩) (fun _ => by simp) _).set (p := ⟨k + 1 + 1, 0, none⟩) (fun _ => by simp) _)⟩
theorem BookAt.onlt {O : Nat → Prop} {w : World} {b slots : Nat} {s : Bk} (h : BookAt O w b slots s) {x : Nat} (hx : ¬ O x) : x < w.heap.size := by
  obtain ⟨gm, E, p, bv, h⟩ := h
  rcases Nat.lt_or_ge x w.heap.size with h1 | h1
  · exact h1
  · exact absurd (h.on x h1) hx
theorem OS.stores {w W : World} {O : Nat → Prop} {b slots k h c B : Nat} {s : Bk} {v4 v5 v6 : Value} {cur : List UInt8} (u4 u5 u6 : Value) (o : OS w W O b slots k h c B s v4 v5 v6 cur) :
    ∃ O', OS w (((W.setCell ⟨k, 0, none⟩ u4).setCell ⟨k + 1, 0, none⟩ u5).setCell ⟨k + 1 + 1, 0, none⟩ u6) O' b slots k h c B s u4 u5 u6 cur := by
  obtain ⟨t4, t5, t6, tk⟩ := three u4 u5 u6 o.b4 o.b5 o.b6
  have hp := tk.toP (O := fun x => x = k ∨ x = k + 1 ∨ x = k + 2) (by simp)
  have h1 := o.hk; have h2 := o.hh; have h3 := o.hc; have h4 := o.hB
  exact ⟨_,
  { o with
    bk := o.bk.away hp (fun x _ hO hx => by
      rcases hx with rfl | rfl | rfl
      · exact o.n0 hO
      · exact o.n1 hO
      · exact o.n2 hO)
    lo := fun x hx h => o.lo x hx h.1
    n0 := fun h => o.n0 h.1
    n1 := fun h => o.n1 h.1
    n2 := fun h => o.n2 h.1
    nh := fun h => o.nh h.1
    nc := fun h => o.nc h.1
    nB := fun x hx h => o.nB x hx h.1
    b4 := t4
    b5 := t5
    b6 := t6
    bh := o.bh.keep tk (by simp; omega)
    bc := o.bc.keep tk (by simp; omega)
    bel := o.bel.trans (hp.toBelow o.bel.size (fun x hx e => by omega)) }⟩
theorem lns_hit {a : List UInt8} (r : List UInt8) (h : 10 ∉ a) : lns (a ++ 10 :: r) = a :: lns r := lns_line h r
theorem lns_miss {l : List UInt8} (h : 10 ∉ l) : lns l = [] := by unfold lns; rw [cutAt_no h]; rfl
theorem BookAt.manyCell {O : Nat → Prop} {w : World} {b slots : Nat} {s : Bk} (h : BookAt O w b slots s) : w.cell? ⟨b, 5, none⟩ = some (.int .i64 s.many) := by
  obtain ⟨gm, E, p, bv, h⟩ := h
  exact h.top.cell_ (i := 5) rfl
def OI (w : World) (b slots k h c B : Nat) (text : List UInt8) (rest : List UInt8) (W : World) : Prop :=
  ∃ s O, OS w W O b slots k h c B s (.pointer none) (.int .i64 0) .nilIface rest ∧ rest.length ≤ 2000 ∧ openL slots bk0 (lns text) = openL slots s (lns rest)
def OJ (w : World) (b slots k h c B : Nat) (text x rest : List UInt8) (W : World) : Prop :=
  ∃ s O, OS w W O b slots k h c B s (.pointer none) (.int .i64 0) .nilIface rest ∧ rest.length ≤ 2000 ∧ ((∃ a, x = a ++ [10] ∧ 10 ∉ a ∧ a.length ≤ 2000 ∧ openL slots bk0 (lns text) = openL slots s (a :: lns rest)) ∨ (10 ∉ x ∧ x.length ≤ 2000 ∧ openL slots bk0 (lns text) = (s, ((s.many : Nat) : Int), 0)))
def OX (w : World) (b slots k h c B : Nat) (text : List UInt8) (j : Code) (W : World) : Prop :=
  (j = .exit 0 ∧ ∃ s O cur, OS w W O b slots k h c B s (.pointer none) (.int .i64 0) .nilIface cur ∧ openL slots bk0 (lns text) = (s, ((s.many : Nat) : Int), 0)) ∨
  (j = .ret ∧ ∃ s O cur s2 m e, e ≠ 0 ∧ OS w W O b slots k h c B s (.pointer none) (.int .i64 m) (errv e) cur ∧ openL slots bk0 (lns text) = (s2, m, e))
theorem OI.line {w W W1 : World} {b slots k h c B : Nat} {text rest : List UInt8} (o : OI w b slots k h c B text rest W) (hk : Keep [c] W W1) (hb : Blk W1 c 9 [strV (nextLine rest).2]) : OJ w b slots k h c B text (nextLine rest).1 (nextLine rest).2 W1 := by
  obtain ⟨s, O, ho, hl, he⟩ := o
  rcases idx_split 10 rest with ⟨_, h2⟩ | ⟨a, r, rfl, h2, _⟩
  · rw [next_miss h2] at hb ⊢
    rw [lns_miss h2] at he
    exact ⟨s, _, ho.line hk hb, by simp, .inr ⟨h2, hl, he⟩⟩
  · rw [next_hit r h2] at hb ⊢
    rw [lns_hit r h2] at he
    simp at hl
    exact ⟨s, _, ho.line hk hb, by simp; omega, .inl ⟨a, rfl, h2, by omega, he⟩⟩
def OpenPost (w : World) (slots : Int) (text : List UInt8) (e : Ending) (w' : World) : Prop :=
  Below w.heap.size w w' ∧
  ((¬ (1 ≤ slots ∧ slots ≤ 8) ∧ e = .returned (.tuple #[.pointer none, .int .i64 0, errv 1])) ∨
   ∃ n : Nat, slots = n ∧ 1 ≤ n ∧ n ≤ 8 ∧
    ((2000 < text.length ∧ e = .returned (.tuple #[.pointer none, .int .i64 0, errv 4])) ∨
     (text.length ≤ 2000 ∧ (((openL n bk0 (lns text)).2.2 ≠ 0 ∧ e = .returned (.tuple #[.pointer none, .int .i64 (openL n bk0 (lns text)).2.1, errv (openL n bk0 (lns text)).2.2])) ∨
      ((openL n bk0 (lns text)).2.2 = 0 ∧ ∃ b, e = .returned (.tuple #[.pointer (some ⟨b, 0, none⟩), .int .i64 (openL n bk0 (lns text)).2.1, .nilIface]) ∧ BookAt (fun x => w.heap.size ≤ x) w' b n (openL n bk0 (lns text)).1)))))

theorem lines_in (t : List UInt8) (n : Nat) (h1 : 1 ≤ n) (w : World) : CallsIn Fence.wide n Tryz.prog 31 #[.string ⟨t.toArray⟩] w fun e w' => e = .returned (.func (.func 55) #[] #[.pointer (some ⟨w.heap.size, 0, none⟩)]) ∧ w' = w.alloc (.cells #[strV t] 9) := by
  refine callsIn_wide.2 ?_
  go_enter Tryz.func31, Tryz.ntmps31
  go_wp2
  go_ret
  exact ⟨rfl, rfl⟩
theorem cutS_yes (a : List UInt8) (ha : a.length ≤ 2000) (w : World) {n : Nat} : CallsIn Fence.wide n Tryz.prog 32 #[strV (a ++ [10]), .string ⟨#[10]⟩] w fun e w' => e = .returned (.tuple #[strV a, .bool true]) ∧ w' = w := by
  refine callsIn_wide.2 ?_
  have hd : (⟨(a ++ [10]).toArray⟩ : ByteArray).data.toList = a ++ [10] := by simp
  have h10 : (⟨#[10]⟩ : ByteArray).data.toList = [10] := rfl
  have hcs := cut_suf a
  have c := Tryz.strings_CutSuffix ⟨(a ++ [10]).toArray⟩ ⟨#[10]⟩ w (by simp [ByteArray.size]; omega)
  rw [hd, h10, hcs.1, hcs.2] at c
  exact c
theorem cutS_no (x : List UInt8) (hx : x.length ≤ 2000) (h : 10 ∉ x) (w : World) {n : Nat} : CallsIn Fence.wide n Tryz.prog 32 #[strV x, .string ⟨#[10]⟩] w fun e w' => e = .returned (.tuple #[strV x, .bool false]) ∧ w' = w := by
  refine callsIn_wide.2 ?_
  have hd : (⟨x.toArray⟩ : ByteArray).data.toList = x := by simp
  have h10 : (⟨#[10]⟩ : ByteArray).data.toList = [10] := rfl
  have hcs := cut_suf_no h
  have ht : Lib.trimSuffix x [10] = x := by unfold Lib.trimSuffix; rw [hcs]; rfl
  have c := Tryz.strings_CutSuffix ⟨x.toArray⟩ ⟨#[10]⟩ w (by simp [ByteArray.size]; omega)
  rw [hd, h10, hcs, ht] at c
  exact c
set_option maxHeartbeats 4000000 in
set_option maxRecDepth 100000 in
theorem open_yes (n : Nat) (h1 : 1 ≤ n) (h8 : n ≤ 8) (text : List UInt8) (w : World) (ht : Tab w) (he : Errs w) :
    Calls Tryz.prog 12 #[.int .i64 n, .string ⟨text.toArray⟩] w (OpenPost w n text) := by
  have HT := Lib.hid ht; have HE := Lib.hid he
  clear ht he
  refine (callsIn_wide (n := 8)).1 ?_
  refine callsIn_of_wp_marks Tryz.func12 rfl trivial ?_ rfl
  simp only [Tryz.ntmps12, List.size_toArray, List.length_cons, List.length_nil, Nat.reduceAdd, Nat.reduceSub, Array.replicate_succ, Array.replicate_zero, List.push_toArray, List.append_toArray, List.nil_append, List.cons_append]
  have hsz : (⟨text.toArray⟩ : ByteArray).size = text.length := by simp [ByteArray.size]
  gi_wp2_with fail
  refine ⟨trivial, ?_⟩
  obtain ⟨w1, hw1⟩ : ∃ w1, w1 = ((w.alloc (.cells #[.pointer none] 27)).alloc (.cells #[.int .i64 0] 3)).alloc (.cells #[.nilIface] 29) := ⟨_, rfl⟩
  have hs1 : w1.heap.size = w.heap.size + 3 := by rw [hw1]; simp
  have k4 : Blk w1 w.heap.size 27 [.pointer none] := by rw [hw1]; exact ((Blk.new w 27 [.pointer none]).alloc _).alloc _
  have k5 : Blk w1 (w.heap.size + 1) 3 [.int .i64 0] := by
    have := (Blk.new (w.alloc (.cells #[.pointer none] 27)) 3 [.int .i64 0]).alloc (.cells #[.nilIface] 29)
    rw [World.size_alloc] at this
    rw [hw1]; exact this
  have k6 : Blk w1 (w.heap.size + 2) 29 [.nilIface] := by
    have := Blk.new ((w.alloc (.cells #[.pointer none] 27)).alloc (.cells #[.int .i64 0] 3)) 29 [.nilIface]
    rw [World.size_alloc, World.size_alloc] at this
    rw [hw1]; exact this
  have kb : Below w.heap.size w w1 := by rw [hw1]; exact ((((Below.refl _ w).alloc (Nat.le_refl _) _).alloc (by simp) _).alloc (by simp; omega) _)
  rw [← hw1]
  refine (callsIn_wide.2 (new_yes n _ h1 h8)).mono ?_
  rintro e w2 ⟨b, rfl, hB2, hbw, hb2⟩
  have K4 := Lib.hid (k4.below hb2 (by omega)); have K5 := Lib.hid (k5.below hb2 (by omega)); have K6 := Lib.hid (k6.below hb2 (by omega))
  have KB := Lib.hid (kb.trans (hb2.mono kb.size)); have HB2 := Lib.hid hB2; have HS1 := Lib.hid hs1
  have hs2 : w.heap.size + 3 ≤ w2.heap.size := by have := hb2.size; omega
  clear k4 k5 k6 kb hB2 hb2 hs1 hw1 hbw
  gi_upto_region 2 with fail
  obtain ⟨w3, hw3⟩ : ∃ w3, w3 = w2.alloc (.cells #[.pointer (some ⟨b, 0, none⟩)] 27) := ⟨_, rfl⟩
  have hA := (Keep.refl [] w2).alloc (.cells #[.pointer (some ⟨b, 0, none⟩)] 27)
  have hB3 := HB2.out.away (O2 := fun _ => False) (hA.toP (by simp)) (fun _ _ _ hf => hf)
  have m4 := K4.out.keep hA (by simp); have m5 := K5.out.keep hA (by simp); have m6 := K6.out.keep hA (by simp)
  have mh := Blk.new w2 27 [.pointer (some ⟨b, 0, none⟩)]
  have kb3 := KB.out.trans (hA.below KB.out.size (by simp))
  have hsz3 : (w2.alloc (.cells #[.pointer (some ⟨b, 0, none⟩)] 27)).heap.size = w2.heap.size + 1 := World.size_alloc _ _
  rw [hsz3] at hB3
  rw [← hw3] at hB3 m4 m5 m6 mh kb3 hsz3 ⊢
  clear hw3 hA
  obtain ⟨h, hh⟩ : ∃ h, h = w2.heap.size := ⟨_, rfl⟩
  rw [← hh] at hB3 mh hsz3 hs2 ⊢
  obtain ⟨k, hk⟩ : ∃ k, k = w.heap.size := ⟨_, rfl⟩
  rw [← hk] at m4 m5 m6 hs2 ⊢
  have HB3 := Lib.hid hB3; have M4 := Lib.hid m4; have M5 := Lib.hid m5; have M6 := Lib.hid m6; have MH := Lib.hid mh; have KB3 := Lib.hid kb3; have HSZ := Lib.hid hsz3; have HKW := Lib.hid hk
  clear hB3 m4 m5 m6 mh kb3 hsz3 hh hk K4 K5 K6 KB HB2
  have y4 := M4.out.cell_ (i := 0) rfl; have y5 := M5.out.cell_ (i := 0) rfl; have y6 := M6.out.cell_ (i := 0) rfl
  have y6' : w3.cell? ⟨k + 1 + 1, 0, none⟩ = some .nilIface := y6
  have g4 := M4.out.free 0; have g5 := M5.out.free 0; have g6 := M6.out.free 0
  have g6' : w3.frozen? ⟨k + 1 + 1, 0, none⟩ = false := g6
  by_cases hlong : 2000 < text.length
  · gi_wp2
    obtain ⟨t4, t5, t6, tk⟩ := three (.pointer none) (.int .i64 0) (errv 4) M4.out M5.out M6.out
    refine ⟨_, open_results _ _ k _ _ _ rfl rfl rfl (t4.cell_ (i := 0) rfl) (t5.cell_ (i := 0) rfl) (t6.cell_ (i := 0) rfl), ?_⟩
    have hk := HKW.out
    exact ⟨KB3.out.trans (tk.below KB3.out.size (by simp; omega)), .inr ⟨n, rfl, h1, h8, .inl ⟨hlong, rfl⟩⟩⟩
  · gi_wp2_with fail
    refine ⟨trivial, ?_⟩
    refine (lines_in text 7 (by omega) _).mono ?_
    rintro e w4 ⟨rfl, rfl⟩
    gi_wp2
    have HST : Hid (∀ o1 o2, OI w b n k h w3.heap.size (w3.alloc (.cells #[strV text] 9)).heap.size text text (((w3.alloc (.cells #[strV text] 9)).alloc o1).alloc o2)) := Lib.hid fun o1 o2 => by
      have hk := HKW.out; have h1 := HS1.out
      refine ⟨bk0, _, OS.start HB3.out (fun x hx ho => ?_) (fun ho => ?_) (fun ho => ?_) (fun ho => ?_) (fun ho => ?_) M4.out M5.out M6.out MH.out HKW.out (by omega) KB3.out text o1 o2, by omega, rfl⟩
      · have := ho.1; omega
      · have := ho.1; omega
      · have := ho.1; omega
      · have := ho.1; omega
      · have := ho.2; omega
    refine range_lines (c := w3.heap.size) (by omega) rfl rfl (by simp) (OI w b n k h w3.heap.size (w3.alloc (.cells #[strV text] 9)).heap.size text) (OJ w b n k h w3.heap.size (w3.alloc (.cells #[strV text] 9)).heap.size text) (OX w b n k h w3.heap.size (w3.alloc (.cells #[strV text] 9)).heap.size text)
      (fun rest W ⟨s, O, ho, hl, _⟩ => ⟨ho.bc, by omega⟩)
      (fun rest W W' ⟨s, O, ho, hl, he⟩ hk => ⟨s, _, ho.two hk, hl, he⟩)
      (fun x rest W W' ⟨s, O, ho, hl, he⟩ hk => ⟨s, _, ho.two hk, hl, he⟩)
      (fun j W W' hx hk => by
        rcases hx with ⟨e, s, O, cur, ho, he⟩ | ⟨e, s, O, cur, s2, m, er, h0, ho, he⟩
        · exact .inl ⟨e, s, _, cur, ho.two hk, he⟩
        · exact .inr ⟨e, s, _, cur, s2, m, er, h0, ho.two hk, he⟩)
      (fun rest W W1 hi _ hk hb => hi.line hk hb) text HST.out
      (fun x => { tmps := #[.int .i64 n, .string ⟨text.toArray⟩, undef, undef, .pointer (some ⟨k, 0, none⟩), .pointer (some ⟨k + 1, 0, none⟩), .pointer (some ⟨k + 1 + 1, 0, none⟩), .pointer (some ⟨h, 0, none⟩), .nilIface, strV x, undef, undef, undef, undef, .tuple #[.pointer (some ⟨b, 0, none⟩), .nilIface], .int .i64 n, .tuple #[.pointer (some ⟨b, 0, none⟩), .nilIface], .pointer (some ⟨b, 0, none⟩), .nilIface, .nilIface, .bool false, undef, .string ⟨text.toArray⟩, .int .i64 text.length, .bool (decide (2000 < (text.length : Int))), undef, .string ⟨text.toArray⟩, .func (.func 55) #[] #[.pointer (some ⟨w3.heap.size, 0, none⟩)], strV x, undef, undef, undef, undef, undef, undef, undef, undef, undef, undef, undef, undef, undef, undef, undef, undef, undef, undef, undef, undef, undef, undef, undef, undef], defers := [] }) ?assign ?body ?done ?stop
    case assign =>
      intro l x W K hK
      gi_wp2
      exact hK
    case body =>
      rintro l x rest W ⟨s, O, ho, hl, hcase⟩
      have HO := Lib.hid ho
      have HTW := Lib.hid (HT.out.below ho.bel (Nat.le_refl _)); have HEW := Lib.hid (HE.out.below ho.bel (Nat.le_refl _))
      have hd1 : 1 ≤ 8 - 1 - 1 := by omega
      clear ho
      rcases hcase with ⟨a, rfl, h2, hla, he⟩ | ⟨h2, hlx, he⟩
      · have HEQ := Lib.hid he
        have z7 := HO.out.bh.cell_ (i := 0) rfl
        have z5 := HO.out.bk.manyCell
        have hmny := HO.out.bk.ok.1.many
        clear he
        gi_wp2_with fail
        refine ⟨trivial, (CallsIn.inRound l (cutS_yes a hla _)).mono ?_⟩
        rintro e w' ⟨rfl, rfl⟩
        gi_wp2_with fail
        refine ⟨trivial, (CallsIn.inRound l (callsIn_wide.2 (line_any b n s a _ (by omega) HO.out.bk HTW.out HEW.out))).mono ?_⟩
        rintro e w5 ⟨rfl, hb5, hk5⟩
        have HO5 := Lib.hid (HO.out.book hb5 hk5)
        have HTWO : Hid (∀ kk, Two (w3.alloc (.cells #[strV text] 9)).heap.size kk → w5.heap[kk]? = w'.heap[kk]?) := Lib.hid fun kk hkk => hk5.block kk (HO.out.bk.onlt (HO.out.nB kk hkk)) (HO.out.nB kk hkk)
        clear hb5 hk5
        by_cases he0 : (lineM n s a).2 = 0
        · have HEQ2 : Hid (openL n bk0 (lns text) = openL n (lineM n s a).1 (lns rest)) := Lib.hid (by rw [HEQ.out, openL, if_neg (by simpa using he0)])
          rw [he0, errw_zero]
          clear he0
          gi_wp2
          exact ⟨HTWO.out, ⟨_, _, HO5.out, hl, HEQ2.out⟩⟩
        · have HEQ2 : Hid (openL n bk0 (lns text) = (s, ((s.many : Nat) : Int) + 1, (lineM n s a).2)) := Lib.hid (by rw [HEQ.out, openL, if_pos he0])
          have HE0 := Lib.hid he0
          rw [errw_of he0]
          clear he0
          have y4 := HO5.out.b4.cell_ (i := 0) rfl; have y5 := HO5.out.b5.cell_ (i := 0) rfl; have y6 := HO5.out.b6.cell_ (i := 0) rfl
          have y6' : w5.cell? ⟨k + 1 + 1, 0, none⟩ = some .nilIface := y6
          have g4 := HO5.out.b4.free 0; have g5 := HO5.out.b5.free 0; have g6 := HO5.out.b6.free 0
          have g6' : w5.frozen? ⟨k + 1 + 1, 0, none⟩ = false := g6
          gi_wp2
          obtain ⟨O6, ho6⟩ := HO5.out.stores (.pointer none) (.int .i64 ((s.many : Int) + 1)) (errv (lineM n s a).2)
          obtain ⟨_, _, _, tk⟩ := three (.pointer none) (.int .i64 ((s.many : Int) + 1)) (errv (lineM n s a).2) HO5.out.b4 HO5.out.b5 HO5.out.b6
          have q1 := HO5.out.hh; have q2 := HO5.out.hc; have q3 := HO5.out.hB
          refine ⟨fun kk hkk => (tk.block kk (HO5.out.bk.onlt (HO5.out.nB kk hkk)) ?_).trans (HTWO.out kk hkk), .inr ⟨rfl, _, _, _, _, _, _, HE0.out, ho6, HEQ2.out⟩⟩
          unfold Two at hkk
          simp
          omega
      · have HEQ := Lib.hid he
        have z7 := HO.out.bh.cell_ (i := 0) rfl
        clear he
        gi_wp2_with fail
        refine ⟨trivial, (CallsIn.inRound l (cutS_no x hlx h2 _)).mono ?_⟩
        rintro e w' ⟨rfl, rfl⟩
        gi_wp2
        exact ⟨fun _ _ => rfl, .inl ⟨rfl, _, _, _, HO.out, HEQ.out⟩⟩
    case done =>
      rintro W ⟨s, O, ho, hl, he⟩ hK
      have HO := Lib.hid ho; have HEQ : Hid (openL n bk0 (lns text) = (s, ((s.many : Nat) : Int), 0)) := Lib.hid he; have HKD := Lib.hid hK
      clear ho hl he hK y4 y5 y6 y6' g4 g5 g6 g6'
      have z7 := HO.out.bh.cell_ (i := 0) rfl
      have z5 := HO.out.bk.manyCell
      have y4 := HO.out.b4.cell_ (i := 0) rfl; have y5 := HO.out.b5.cell_ (i := 0) rfl; have y6 := HO.out.b6.cell_ (i := 0) rfl
      have y6' : W.cell? ⟨k + 1 + 1, 0, none⟩ = some .nilIface := y6
      have g4 := HO.out.b4.free 0; have g5 := HO.out.b5.free 0; have g6 := HO.out.b6.free 0
      have g6' : W.frozen? ⟨k + 1 + 1, 0, none⟩ = false := g6
      gi_wp2
      have hmx : Tryz.prog.follows .mixedOrders = true := by kernel_rfl
      refine wpIn_mono (Q := NoPanic _) ?_ NoPanic.imp
      gi_region_with_o (fail)
      all_goals
        refine NoPanic.normal ?_
        gi_wp2
        obtain ⟨O6, ho6⟩ := HO.out.stores (.pointer (some ⟨b, 0, none⟩)) (.int .i64 (s.many : Int)) .nilIface
        obtain ⟨_, _, _, tk⟩ := three (.pointer (some ⟨b, 0, none⟩)) (.int .i64 (s.many : Int)) .nilIface HO.out.b4 HO.out.b5 HO.out.b6
        have q1 := HO.out.hh; have q2 := HO.out.hc; have q3 := HO.out.hB
        have hK' := (tk.block (w3.alloc (.cells #[strV text] 9)).heap.size (HO.out.bk.onlt (HO.out.nB _ (.inl rfl))) (by simp at q3 ⊢; omega)).trans HKD.out
        have ho7 := (ho6.below (drewB _)).two (two_put (.deferred none) (.inl rfl))
        rw [World.size_alloc] at hK' ho7
        refine ⟨by simp, .inl ⟨_, _, rfl, run_takeDeferred hK', ?_⟩⟩
        refine ⟨_, open_results _ _ k _ _ _ rfl rfl rfl (ho7.b4.cell_ (i := 0) rfl) (ho7.b5.cell_ (i := 0) rfl) (ho7.b6.cell_ (i := 0) rfl), ?_⟩
        exact ⟨ho7.bel, .inr ⟨n, rfl, h1, h8, .inr ⟨by omega, .inr ⟨by rw [HEQ.out], b, by rw [HEQ.out], by rw [HEQ.out]; exact ho7.bk.mono (fun x hx => Nat.le_of_not_lt fun hlt => ho7.lo x hlt hx)⟩⟩⟩⟩
    case stop =>
      rintro j W hx hK
      have HKD := Lib.hid hK
      rcases hx with ⟨rfl, s, O, cur, ho, he⟩ | ⟨rfl, s, O, cur, s2, m, er, h0, ho, he⟩
      · have HO := Lib.hid ho; have HEQ : Hid (openL n bk0 (lns text) = (s, ((s.many : Nat) : Int), 0)) := Lib.hid he
        clear ho he hK
        clear y4 y5 y6 y6' g4 g5 g6 g6'
        have z7 := HO.out.bh.cell_ (i := 0) rfl
        have z5 := HO.out.bk.manyCell
        have y4 := HO.out.b4.cell_ (i := 0) rfl; have y5 := HO.out.b5.cell_ (i := 0) rfl; have y6 := HO.out.b6.cell_ (i := 0) rfl
        have y6' : W.cell? ⟨k + 1 + 1, 0, none⟩ = some .nilIface := y6
        have g4 := HO.out.b4.free 0; have g5 := HO.out.b5.free 0; have g6 := HO.out.b6.free 0
        have g6' : W.frozen? ⟨k + 1 + 1, 0, none⟩ = false := g6
        gi_wp2
        have hmx : Tryz.prog.follows .mixedOrders = true := by kernel_rfl
        refine wpIn_mono (Q := NoPanic _) ?_ NoPanic.imp
        gi_region_with_o (fail)
        all_goals
          refine NoPanic.normal ?_
          gi_wp2
          obtain ⟨O6, ho6⟩ := HO.out.stores (.pointer (some ⟨b, 0, none⟩)) (.int .i64 (s.many : Int)) .nilIface
          obtain ⟨_, _, _, tk⟩ := three (.pointer (some ⟨b, 0, none⟩)) (.int .i64 (s.many : Int)) .nilIface HO.out.b4 HO.out.b5 HO.out.b6
          have q1 := HO.out.hh; have q2 := HO.out.hc; have q3 := HO.out.hB
          have hK' := (tk.block (w3.alloc (.cells #[strV text] 9)).heap.size (HO.out.bk.onlt (HO.out.nB _ (.inl rfl))) (by simp at q3 ⊢; omega)).trans HKD.out
          have ho7 := (ho6.below (drewB _)).two (two_put (.deferred none) (.inl rfl))
          rw [World.size_alloc] at hK' ho7
          refine ⟨by simp, .inl ⟨_, _, rfl, run_takeDeferred hK', ?_⟩⟩
          refine ⟨_, open_results _ _ k _ _ _ rfl rfl rfl (ho7.b4.cell_ (i := 0) rfl) (ho7.b5.cell_ (i := 0) rfl) (ho7.b6.cell_ (i := 0) rfl), ?_⟩
          exact ⟨ho7.bel, .inr ⟨n, rfl, h1, h8, .inr ⟨by omega, .inr ⟨by rw [HEQ.out], b, by rw [HEQ.out], by rw [HEQ.out]; exact ho7.bk.mono (fun x hx => Nat.le_of_not_lt fun hlt => ho7.lo x hlt hx)⟩⟩⟩⟩
      · clear y4 y5 y6 y6' g4 g5 g6 g6' hK
        gi_wp2
        have ho7 := ho.two (two_put (.deferred none) (.inl rfl))
        have hK' := HKD.out
        refine ⟨by simp, .inl ⟨_, _, rfl, run_takeDeferred hK', ?_⟩⟩
        refine ⟨_, open_results _ _ k _ _ _ rfl rfl rfl (ho7.b4.cell_ (i := 0) rfl) (ho7.b5.cell_ (i := 0) rfl) (ho7.b6.cell_ (i := 0) rfl), ?_⟩
        exact ⟨ho7.bel, .inr ⟨n, rfl, h1, h8, .inr ⟨by omega, .inl ⟨by rw [he]; exact h0, by rw [he]⟩⟩⟩⟩

theorem open_boxes (w w1 : World) (hw1 : w1 = ((w.alloc (.cells #[.pointer none] 27)).alloc (.cells #[.int .i64 0] 3)).alloc (.cells #[.nilIface] 29)) :
    w1.heap.size = w.heap.size + 3 ∧ Blk w1 w.heap.size 27 [.pointer none] ∧ Blk w1 (w.heap.size + 1) 3 [.int .i64 0] ∧ Blk w1 (w.heap.size + 2) 29 [.nilIface] ∧ Below w.heap.size w w1 := by
  refine ⟨by rw [hw1]; simp, by rw [hw1]; exact ((Blk.new w 27 [.pointer none]).alloc _).alloc _, ?_, ?_, by rw [hw1]; exact ((((Below.refl _ w).alloc (Nat.le_refl _) _).alloc (by simp) _).alloc (by simp; omega) _)⟩
  · have := (Blk.new (w.alloc (.cells #[.pointer none] 27)) 3 [.int .i64 0]).alloc (.cells #[.nilIface] 29)
    rw [World.size_alloc] at this
    rw [hw1]; exact this
  · have := Blk.new ((w.alloc (.cells #[.pointer none] 27)).alloc (.cells #[.int .i64 0] 3)) 29 [.nilIface]
    rw [World.size_alloc, World.size_alloc] at this
    rw [hw1]; exact this
set_option maxHeartbeats 2000000 in
set_option maxRecDepth 100000 in
theorem open_no (slots : Int) (h : ¬ (1 ≤ slots ∧ slots ≤ 8)) (text : List UInt8) (w : World) :
    Calls Tryz.prog 12 #[.int .i64 slots, .string ⟨text.toArray⟩] w (OpenPost w slots text) := by
  have HN := Lib.hid h
  clear h
  go_enter Tryz.func12, Tryz.ntmps12
  go_wp2_with fail
  obtain ⟨w1, hw1⟩ : ∃ w1, w1 = ((w.alloc (.cells #[.pointer none] 27)).alloc (.cells #[.int .i64 0] 3)).alloc (.cells #[.nilIface] 29) := ⟨_, rfl⟩
  obtain ⟨hs1, k4, k5, k6, kb⟩ := open_boxes w w1 hw1
  rw [← hw1]
  have K4 := Lib.hid k4; have K5 := Lib.hid k5; have K6 := Lib.hid k6; have KB := Lib.hid kb
  clear k4 k5 k6 kb hw1
  refine (new_no slots _ HN.out).mono ?_
  rintro e w2 ⟨rfl, rfl⟩
  go_upto_region 2 with fail
  obtain ⟨w3, hw3⟩ : ∃ w3, w3 = w1.alloc (.cells #[.pointer none] 27) := ⟨_, rfl⟩
  have m4 := K4.out.alloc (.cells #[.pointer none] 27); have m5 := K5.out.alloc (.cells #[.pointer none] 27); have m6 := K6.out.alloc (.cells #[.pointer none] 27)
  have kb3 := KB.out.alloc KB.out.size (.cells #[.pointer none] 27)
  rw [← hw3] at m4 m5 m6 kb3 ⊢
  clear hw3 hs1
  obtain ⟨k, hk⟩ : ∃ k, k = w.heap.size := ⟨_, rfl⟩
  rw [← hk] at m4 m5 m6 ⊢
  have M4 := Lib.hid m4; have M5 := Lib.hid m5; have M6 := Lib.hid m6; have KB3 := Lib.hid kb3; have HKW := Lib.hid hk
  clear m4 m5 m6 kb3 hk K4 K5 K6 KB
  have y4 := M4.out.cell_ (i := 0) rfl; have y5 := M5.out.cell_ (i := 0) rfl; have y6 := M6.out.cell_ (i := 0) rfl
  have y6' : w3.cell? ⟨k + 1 + 1, 0, none⟩ = some .nilIface := y6
  have g4 := M4.out.free 0; have g5 := M5.out.free 0; have g6 := M6.out.free 0
  have g6' : w3.frozen? ⟨k + 1 + 1, 0, none⟩ = false := g6
  go_wp2
  obtain ⟨t4, t5, t6, tk⟩ := three (.pointer none) (.int .i64 0) (errv 1) M4.out M5.out M6.out
  refine bodyPost_ret (open_results _ _ k _ _ _ rfl rfl rfl (t4.cell_ (i := 0) rfl) (t5.cell_ (i := 0) rfl) (t6.cell_ (i := 0) rfl)) rfl ?_
  have hk := HKW.out
  exact ⟨KB3.out.trans (tk.below KB3.out.size (by simp; omega)), .inl ⟨HN.out, rfl⟩⟩
theorem open_any (slots : Int) (text : List UInt8) (w : World) (ht : Tab w) (he : Errs w) :
    Calls Tryz.prog 12 #[.int .i64 slots, .string ⟨text.toArray⟩] w (OpenPost w slots text) := by
  by_cases h : 1 ≤ slots ∧ slots ≤ 8
  · obtain ⟨d, rfl⟩ := Int.eq_ofNat_of_zero_le (show 0 ≤ slots by omega)
    exact open_yes d (by omega) (by omega) text w ht he
  · exact open_no slots h text w
end Go.Proofs.YticckfioggeaeaaGreatDoor
