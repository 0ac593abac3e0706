/-
  Several texts in one (merged by wip/mergefix.py): Base, Core, Lift, Lift2, Sets, ErrW, RHas, SameInts, Append, ResCell.
-/
import Derived.WalkKit
import Derived.Deep.Draws
import Derived.Deep.OwnRows
import Derived.Deep.AppendLies
import Derived.Deep.QuietTactic
import Derived.BigQuiet
import Derived.Test.YticckfioggeaeaaGreatDoorRows
import Derived.WalkSpells
import Derived.WalkLawsBesides
import Derived.Lib.Hide
import Derived.ProofKit
import Derived.OpenShut
import Derived.ShutString
import Derived.ChangeOld
import Derived.Below
import Derived.SizedLaws
import Derived.Deep.Matrix
import Derived.Deep.MidRow
import Derived.Laws.AppendOwnNone
import Derived.Laws.ResultCell
import Derived.Laws.Rows
set_option linter.unusedVariables false
set_option linter.unusedSimpArgs false
set_option linter.unnecessarySimpa false
/-
  Words for memory, over no program: a block known whole ('Blk'), what a call leaves as it was ('Keep').
-/
namespace Go.Proofs.YticckfioggeaeaaGreatDoor
open Go.RowKit

/-- Block g is just the cells cs, of element type t; none is frozen. -/
def Blk (w : World) (g : Nat) (t : TypeId) (cs : List Value) : Prop := w.heap[g]? = some (.cells cs.toArray t (0, 0))

/-- Of the blocks that there were, only those in F may have turned. -/
structure Keep (F : List Nat) (w w' : World) : Prop where
  os : w'.os = w.os
  tape : w'.tape = w.tape
  output : w'.output = w.output
  size : w.heap.size ≤ w'.heap.size
  block : ∀ k, k < w.heap.size → k ∉ F → w'.heap[k]? = w.heap[k]?

section
variable {w w' w'' : World} {g h : Nat} {t u : TypeId} {cs ds : List Value} {F G : List Nat}

theorem Blk.lt (k : Blk w g t cs) : g < w.heap.size := by
  rcases Nat.lt_or_ge g w.heap.size with hlt | hge
  · exact hlt
  · unfold Blk at k; rw [Array.getElem?_eq_none hge] at k; cases k
theorem Blk.cell (k : Blk w g t cs) (i : Nat) : w.cell? ⟨g, i, none⟩ = cs[i]? := by
  unfold Blk at k; simp [World.cell?, k]
theorem Blk.cell_ {i : Nat} {v : Value} (k : Blk w g t cs) (e : cs[i]? = some v) : w.cell? ⟨g, i, none⟩ = some v := (k.cell i).trans e
theorem Blk.free (k : Blk w g t cs) (i : Nat) : w.frozen? ⟨g, i, none⟩ = false := by
  unfold Blk at k; simp [World.frozen?, k]
theorem Blk.new (w : World) (t : TypeId) (cs : List Value) : Blk (w.alloc (.cells cs.toArray t)) w.heap.size t cs := by
  unfold Blk; show (w.heap.push _)[w.heap.size]? = _; simp
theorem Blk.alloc (k : Blk w g t cs) (o : Obj) : Blk (w.alloc o) g t cs := (Below.heap_alloc w o g k.lt).trans k
theorem Blk.drew (k : Blk w g t cs) : Blk w.drew g t cs := k
theorem Blk.drewN (k : Blk w g t cs) (n : Nat) : Blk (w.drewN n) g t cs := k
theorem Blk.set (k : Blk w g t cs) (i : Nat) (v : Value) : Blk (w.setCell ⟨g, i, none⟩ v) g t (cs.set i v) := by
  unfold Blk at k ⊢
  simp [World.setCell, Array.getElem?_modify, k]
theorem Blk.far (k : Blk w g t cs) {p : Addr} (hp : g ≠ p.block) (v : Value) : Blk (w.setCell p v) g t cs := (Below.heap_setCell w p v g hp).trans k
theorem Blk.below {B : Nat} (k : Blk w g t cs) (hb : Below B w w') (hg : g < B) : Blk w' g t cs := (hb.block g hg).trans k
theorem Blk.keep (k : Blk w g t cs) (hk : Keep F w w') (hg : g ∉ F) : Blk w' g t cs := (hk.block g k.lt hg).trans k
theorem Blk.grown {row : Option Nat} (k : Blk w g t cs) (hb : w.grownBy w' row) (hg : some g ≠ row) : Blk w' g t cs := (hb.block g k.lt hg).trans k
theorem Blk.ne (k : Blk w g t cs) (k' : Blk w h u ds) (hn : t ≠ u) : g ≠ h := by
  rintro rfl
  unfold Blk at k k'
  rw [k] at k'
  injection k' with k'
  injection k' with _ ht
  exact hn ht
theorem Blk.uniq (k : Blk w g t cs) (k' : Blk w g u ds) : cs = ds := by
  unfold Blk at k k'
  rw [k] at k'
  injection k' with k'
  injection k' with ht _
  simpa using ht

theorem Keep.refl (F : List Nat) (w : World) : Keep F w w := ⟨rfl, rfl, rfl, Nat.le_refl _, fun _ _ _ => rfl⟩
theorem Keep.trans (a : Keep F w w') (b : Keep F w' w'') : Keep F w w'' :=
  ⟨b.os.trans a.os, b.tape.trans a.tape, b.output.trans a.output, Nat.le_trans a.size b.size, fun k hk hF => (b.block k (Nat.lt_of_lt_of_le hk a.size) hF).trans (a.block k hk hF)⟩
theorem Keep.mono (a : Keep F w w') (s : ∀ x ∈ F, x < w.heap.size → x ∈ G) : Keep G w w' :=
  ⟨a.os, a.tape, a.output, a.size, fun k hk hG => a.block k hk (fun hF => hG (s k hF hk))⟩
theorem Keep.alloc (a : Keep F w w') (o : Obj) : Keep F w (w'.alloc o) :=
  ⟨a.os, a.tape, a.output, Nat.le_trans a.size (by simp), fun k hk hF => (Below.heap_alloc w' o k (Nat.lt_of_lt_of_le hk a.size)).trans (a.block k hk hF)⟩
theorem Keep.drew (a : Keep F w w') : Keep F w w'.drew := ⟨a.os, a.tape, a.output, a.size, a.block⟩
theorem Keep.drewN (a : Keep F w w') (n : Nat) : Keep F w (w'.drewN n) := ⟨a.os, a.tape, a.output, a.size, a.block⟩
theorem Keep.set (a : Keep F w w') {p : Addr} (hp : p.block < w.heap.size → p.block ∈ F) (v : Value) : Keep F w (w'.setCell p v) :=
  ⟨a.os, a.tape, a.output, Nat.le_trans a.size (by simp), fun k hk hF => (Below.heap_setCell w' p v k (by rintro rfl; exact hF (hp hk))).trans (a.block k hk hF)⟩
theorem Keep.grown {row : Option Nat} (a : Keep F w w') (hg : w'.grownBy w'' row) (hr : ∀ k, row = some k → k < w.heap.size → k ∈ F) : Keep F w w'' :=
  ⟨hg.os.trans a.os, hg.tape.trans a.tape, hg.output.trans a.output, Nat.le_trans a.size hg.size,
    fun k hk hF => (hg.block k (Nat.lt_of_lt_of_le hk a.size) (fun e => hF (hr k e.symm hk))).trans (a.block k hk hF)⟩
theorem Keep.of_below {B : Nat} (hb : Below B w w') (hB : w.heap.size ≤ B) : Keep F w w' := ⟨hb.os, hb.tape, hb.output, hb.size, fun k hk _ => hb.block k (by omega)⟩
theorem Keep.below {B : Nat} (a : Keep F w w') (hB : B ≤ w.heap.size) (hF : ∀ x ∈ F, B ≤ x) : Below B w w' :=
  ⟨a.os, a.tape, a.output, a.size, fun k hk => a.block k (by omega) (fun h => by have := hF k h; omega)⟩
theorem Keep.cell (a : Keep F w w') {p : Addr} (hp : p.block < w.heap.size) (hF : p.block ∉ F) : w'.cell? p = w.cell? p := World.cell?_of_block (w := w) (a.block _ hp hF)
end

/-- A value that owns a row of other elements does not lie in block g. -/
theorem own_ne {w : World} {base g : Nat} {e t : TypeId} {size n : Nat} {v : Value} {xs cs : List Value} (h : w.ownsRow base e size v n xs) (hg : Blk w g t cs) (hne : e ≠ t) : some g ≠ v.ownBlock := by
  rcases h.2 with ⟨rfl, _⟩ | ⟨g', cap, cur, rfl, _, hh, _⟩
  · simp [Value.ownBlock]
  · intro he
    have : g = g' := by simpa [Value.ownBlock] using he
    subst this
    unfold Blk at hg
    rw [hg] at hh
    injection hh with hh
    injection hh with _ ht
    exact hne ht.symm

/-- What a value that owns something looks like: its block known. -/
theorem own_blk {w : World} {base : Nat} {e : TypeId} {n : Nat} {v : Value} {xs : List Value} (h : w.ownsRow base e 1 v n xs) (hn : 0 < n) :
    ∃ g cap cur, v = .slice (some ⟨g, 0, none⟩) n cap ∧ base ≤ g ∧ n ≤ cap ∧ Blk w g e cur ∧ ∀ (i : Nat) (x : Value), xs[i]? = some x → cur[i]? = some x := by
  obtain ⟨hl, ⟨_, h0⟩ | ⟨g, cap, cur, rfl, hb, hh, hc, _, _, ht⟩⟩ := h
  · omega
  · refine ⟨g, cap, cur.toList, rfl, hb, hc, by unfold Blk; simpa using hh, fun i x hx => ?_⟩
    have hi : i < xs.length := (List.getElem?_eq_some_iff.1 hx).1
    have h2 : (cur.toList.take (n * 1))[i]? = xs[i]? := by rw [ht]
    rw [List.getElem?_take_of_lt (by omega)] at h2
    rw [h2, hx]

theorem block_of_addr (a : Addr) (n : Nat) : (a.add n).block = a.block := by unfold Addr.add; split <;> rfl
theorem add_addr (b off n : Nat) : (⟨b, off, none⟩ : Addr).add n = ⟨b, off + n, none⟩ := by
  unfold Addr.add; split
  · rename_i h; simp_all
  · rfl

theorem madeCells_one (z : Value) (n : Nat) : madeCells #[z] n = (List.replicate n z).toArray := by
  apply Array.ext
  · simp [madeCells]
  · intro i h1 h2
    simp [madeCells, Nat.mod_one]

/-- 'make([]T, n)', T of one cell. -/
theorem run_make_blk {P : Program} (t e : TypeId) (z : Value) (bytes : Nat) (ht : P.underlying t = some (.slice e)) (hinfo : (P.info? e).map (fun i => (i.zero, i.size, i.bytes)) = some (some z, 1, bytes)) (hz1 : z.cells = #[z])
    (n : Nat) (hbytes : bytes * n ≤ 281474976710656) (h63 : n ≤ 9223372036854775807) (w : World) :
    (Instr.makeSlice t (.int .i64 (n : Int)) (.int .i64 (n : Int))).run P w = .ok (.slice (some ⟨w.heap.size, 0, none⟩) n n) (w.alloc (.cells (List.replicate n z).toArray e)) := by
  rw [run_make_row' t e z bytes ht hinfo hz1 .i64 .i64 n hbytes h63 w, madeCells_one]

/-- Only draws lie between. -/
theorem keep_heap {F : List Nat} {w w' : World} (h1 : w'.heap = w.heap) (h2 : w'.os = w.os) (h3 : w'.tape = w.tape) (h4 : w'.output = w.output) : Keep F w w' :=
  ⟨h2, h3, h4, by rw [h1]; exact Nat.le_refl _, fun _ _ _ => by rw [h1]⟩
/-- A contract that leaves the world alone, in a quiet region. -/
theorem quiet_eq {P : Program} {f : FuncId} {args : Array Value} {w : World} {n : Nat} {v : Value}
    (h : Calls P f args (w.drewN n) fun e w' => e = .returned v ∧ w.drewN n = w') : Calls P f args (w.drewN n) fun e w'' => e = .returned v ∧ ∃ m, w'' = w.drewN m :=
  h.mono fun _ _ ⟨he, hm⟩ => ⟨he, n, hm.symm⟩
/-- .. that draws. -/
theorem quiet_drew {P : Program} {f : FuncId} {args : Array Value} {w : World} {n : Nat} {v : Value}
    (h : Calls P f args (w.drewN n) fun e w' => e = .returned v ∧ ∃ q, w' = (w.drewN n).drewN q) : Calls P f args (w.drewN n) fun e w'' => e = .returned v ∧ ∃ m, w'' = w.drewN m :=
  Calls.quiet_of h

theorem still_eq {P : Program} {f : FuncId} {args : Array Value} {w : World} {v : Value}
    (h : Calls P f args w fun e w' => e = .returned v ∧ w = w') : Calls P f args w fun e w' => e = .returned v ∧ w' = w :=
  h.mono fun _ _ ⟨he, hm⟩ => ⟨he, hm.symm⟩

end Go.Proofs.YticckfioggeaeaaGreatDoor

/-
  core.Within, by its contracts; numbers; facts on types.
-/
namespace Go.Proofs.YticckfioggeaeaaGreatDoor
open Go.RowKit

theorem info_ints : (Tryz.prog.info? 22).map (fun i => (i.zero, i.size, i.bytes)) = some (some (.slice none 0 0), 1, 24) := by kernel_rfl
theorem info_int : (Tryz.prog.info? 3).map (fun i => (i.zero, i.size, i.bytes)) = some (some (.int .i64 0), 1, 8) := by kernel_rfl

def ints (l : List Int) : List Value := l.map (Value.int .i64)
theorem ints_get {l : List Int} {i : Nat} {x : Int} (h : l[i]? = some x) : (ints l)[i]? = some (.int .i64 x) := by simp [ints, h]
theorem ints_len (l : List Int) : (ints l).length = l.length := by simp [ints]
theorem ints_set (l : List Int) (i : Nat) (x : Int) : (ints l).set i (.int .i64 x) = ints (l.set i x) := by simp [ints, List.map_set]

/-- An error of the program's own. -/
abbrev errv (n : Int) : Value := .iface 61 (.int .i64 n)

theorem ret_eq {a b : Value} (h : a = b) : Ending.returned a = .returned b := by rw [h]
theorem ret2_bool {a b : Bool} {v : Value} (h : a = b) : Ending.returned (.tuple #[.bool a, v]) = .returned (.tuple #[.bool b, v]) := by rw [h]
theorem ret2_int {k : IntKind} {a b : Int} {v : Value} (h : a = b) : Ending.returned (.tuple #[.int k a, v]) = .returned (.tuple #[.int k b, v]) := by rw [h]
theorem ret2_ints {k : IntKind} {a b c d : Int} (h : a = b) (h' : c = d) : Ending.returned (.tuple #[.int k a, .int k c]) = .returned (.tuple #[.int k b, .int k d]) := by rw [h, h']
theorem ret_int {k : IntKind} {a b : Int} (h : a = b) : Ending.returned (.int k a) = .returned (.int k b) := by rw [h]
theorem ret_bool {a b : Bool} (h : a = b) : Ending.returned (.bool a) = .returned (.bool b) := by rw [h]

/-! ### slices of ints -/
/-- A slice value's address leads to the numbers xs, in a block below B. -/
def IntsIn (w : World) (B : Nat) (a : Option Addr) (xs : List Int) : Prop :=
  0 < xs.length → ∃ b off, a = some ⟨b, off, none⟩ ∧ b < B ∧ ∀ (i : Nat) (x : Int), xs[i]? = some x → w.cell? ⟨b, off + i, none⟩ = some (.int .i64 x)

/-- A slice of such: its address leads to slices, of the lists xss. -/
def RowsIn (w : World) (B : Nat) (a : Option Addr) (xss : List (List Int)) : Prop :=
  0 < xss.length → ∃ b off, a = some ⟨b, off, none⟩ ∧ b < B ∧ ∀ (i : Nat) (xs : List Int), xss[i]? = some xs →
    ∃ a' c', w.cell? ⟨b, off + i, none⟩ = some (.slice a' xs.length c') ∧ IntsIn w B a' xs

/-- A slice value's address leads to the numbers xs, at the head of a block from lo on. -/
def NewInts (w : World) (lo : Nat) (a : Option Addr) (xs : List Int) : Prop :=
  0 < xs.length → ∃ b, a = some ⟨b, 0, none⟩ ∧ lo ≤ b ∧ b < w.heap.size ∧ ∀ (i : Nat) (x : Int), xs[i]? = some x → w.cell? ⟨b, i, none⟩ = some (.int .i64 x)

/-- What the call owns: a slice value that holds the numbers xs. -/
def OwnInts (w : World) (base : Nat) (v : Value) (xs : List Int) : Prop := w.ownsRow base 3 1 v xs.length (ints xs)

section
variable {w w' : World} {B B' base : Nat} {a : Option Addr} {xs : List Int} {xss : List (List Int)} {v : Value}
theorem IntsIn.keep (h : IntsIn w B a xs) (hk : ∀ k, k < B → w'.heap[k]? = w.heap[k]?) : IntsIn w' B a xs := fun hn => by
  obtain ⟨b, off, e, hb, hc⟩ := h hn
  exact ⟨b, off, e, hb, fun i x hx => (World.cell?_of_block (w := w) (hk b hb)).trans (hc i x hx)⟩
theorem IntsIn.below (h : IntsIn w B a xs) (hb : Below B w w') : IntsIn w' B a xs := h.keep hb.block
theorem IntsIn.more (h : IntsIn w B a xs) (hB : B ≤ B') : IntsIn w B' a xs := fun hn => by
  obtain ⟨b, off, e, hb, hc⟩ := h hn
  exact ⟨b, off, e, by omega, hc⟩
theorem IntsIn.at_ {i : Nat} (h : IntsIn w B a xs) (hi : i < xs.length) : ∃ b off, a = some ⟨b, off, none⟩ ∧ b < B ∧ w.cell? ⟨b, off + i, none⟩ = some (.int .i64 xs[i]) := by
  obtain ⟨b, off, e, hb, hc⟩ := h (by omega)
  exact ⟨b, off, e, hb, hc i _ (List.getElem?_eq_getElem hi)⟩
theorem IntsIn.drew (h : IntsIn w B a xs) : IntsIn w.drew B a xs := h
theorem IntsIn.drewN (h : IntsIn w B a xs) (n : Nat) : IntsIn (w.drewN n) B a xs := h
theorem RowsIn.keep (h : RowsIn w B a xss) (hk : ∀ k, k < B → w'.heap[k]? = w.heap[k]?) : RowsIn w' B a xss := fun hn => by
  obtain ⟨b, off, e, hb, hc⟩ := h hn
  refine ⟨b, off, e, hb, fun i xs hx => ?_⟩
  obtain ⟨a', c', h1, h2⟩ := hc i xs hx
  exact ⟨a', c', (World.cell?_of_block (w := w) (hk b hb)).trans h1, h2.keep hk⟩
theorem RowsIn.below (h : RowsIn w B a xss) (hb : Below B w w') : RowsIn w' B a xss := h.keep hb.block
theorem RowsIn.at_ {i : Nat} (h : RowsIn w B a xss) (hi : i < xss.length) : ∃ b off a' c', a = some ⟨b, off, none⟩ ∧ b < B ∧ w.cell? ⟨b, off + i, none⟩ = some (.slice a' xss[i].length c') ∧ IntsIn w B a' xss[i] := by
  obtain ⟨b, off, e, hb, hc⟩ := h (by omega)
  obtain ⟨a', c', h1, h2⟩ := hc i _ (List.getElem?_eq_getElem hi)
  exact ⟨b, off, a', c', e, hb, h1, h2⟩
theorem OwnInts.nil (w : World) (base : Nat) : OwnInts w base (.slice none 0 0) [] := World.ownsRow_nil _ _ _ _
theorem OwnInts.shape (h : OwnInts w base v xs) : ∃ a c, v = .slice a xs.length c ∧ IntsIn w w.heap.size a xs := by
  obtain ⟨hl, ⟨rfl, hn⟩ | ⟨g, cap, cur, rfl, _, hh, _, _, _, ht⟩⟩ := h
  · exact ⟨none, 0, by rw [hn], fun h0 => by omega⟩
  · refine ⟨_, _, rfl, fun _ => ⟨g, 0, rfl, ?_, fun i x hx => ?_⟩⟩
    · rcases Nat.lt_or_ge g w.heap.size with h | h
      · exact h
      · rw [Array.getElem?_eq_none h] at hh; cases hh
    · have hi : i < xs.length := (List.getElem?_eq_some_iff.1 hx).1
      have h2 : (cur.toList.take (xs.length * 1))[i]? = (ints xs)[i]? := by rw [ht]
      rw [List.getElem?_take_of_lt (by omega)] at h2
      simp only [World.cell?, hh, Nat.zero_add]
      simpa [ints, hx] using h2
theorem OwnInts.new (h : OwnInts w base v xs) : ∃ a c, v = .slice a xs.length c ∧ NewInts w base a xs ∧ xs.length ≤ c ∧ (a = none → c = 0) ∧ c ≤ maxLen := by
  obtain ⟨hl, ⟨rfl, hn⟩ | ⟨g, cap, cur, rfl, hb, hh, hc, hm, _, ht⟩⟩ := h
  · exact ⟨none, 0, by rw [hn], fun h0 => by omega, by omega, fun _ => rfl, by unfold maxLen; omega⟩
  · refine ⟨_, _, rfl, fun _ => ⟨g, rfl, hb, ?_, fun i x hx => ?_⟩, hc, (fun h => by cases h), hm⟩
    · rcases Nat.lt_or_ge g w.heap.size with h | h
      · exact h
      · rw [Array.getElem?_eq_none h] at hh; cases hh
    · have hi : i < xs.length := (List.getElem?_eq_some_iff.1 hx).1
      have h2 : (cur.toList.take (xs.length * 1))[i]? = (ints xs)[i]? := by rw [ht]
      rw [List.getElem?_take_of_lt (by omega)] at h2
      simp only [World.cell?, hh]
      simpa [ints, hx] using h2
theorem NewInts.ints (h : NewInts w B a xs) : IntsIn w w.heap.size a xs := fun hn => by
  obtain ⟨b, e, _, hb, hc⟩ := h hn
  exact ⟨b, 0, e, hb, fun i x hx => by rw [Nat.zero_add]; exact hc i x hx⟩
theorem NewInts.keep {F : List Nat} (h : NewInts w B a xs) (hk : Keep F w w') (hF : ∀ x ∈ F, x < B) : NewInts w' B a xs := fun hn => by
  obtain ⟨b, e, hb, hb2, hc⟩ := h hn
  exact ⟨b, e, hb, Nat.lt_of_lt_of_le hb2 hk.size, fun i x hx => (hk.cell (p := ⟨b, i, none⟩) hb2 (fun hm => by have := hF b hm; omega)).trans (hc i x hx)⟩
theorem NewInts.more (h : NewInts w B a xs) (hB : B' ≤ B) : NewInts w B' a xs := fun hn => by
  obtain ⟨b, e, hb, r⟩ := h hn
  exact ⟨b, e, by omega, r⟩
theorem OwnInts.keep (h : OwnInts w base v xs) (hk : ∀ g, v.ownBlock = some g → w'.heap[g]? = w.heap[g]?) : OwnInts w' base v xs := by
  obtain ⟨hl, h2⟩ := h
  refine ⟨hl, ?_⟩
  rcases h2 with h2 | ⟨g, cap, cur, e, hb, hh, r⟩
  · exact .inl h2
  · exact .inr ⟨g, cap, cur, e, hb, (hk g (by rw [e]; rfl)).trans hh, r⟩
end

theorem within_yes (n l h : Int) (w : World) (h1 : l ≤ n) (h2 : n ≤ h) :
    Calls Tryz.prog 44 #[.int .i64 n, .int .i64 l, .int .i64 h] w fun e w' => e = .returned (.bool true) ∧ w = w' := by
  go_enter Tryz.func44, Tryz.ntmps44
  go_wp2
  go_ret
  simp
theorem within_no (n l h : Int) (w : World) (h1 : n < l ∨ h < n) :
    Calls Tryz.prog 44 #[.int .i64 n, .int .i64 l, .int .i64 h] w fun e w' => e = .returned (.bool false) ∧ w = w' := by
  by_cases h2 : l ≤ n
  · have h3 : h < n := by omega
    clear h1
    go_enter Tryz.func44, Tryz.ntmps44
    go_wp2
    go_ret
    simp [h3]
  · have h3 : n < l := by omega
    clear h1 h2
    go_enter Tryz.func44, Tryz.ntmps44
    go_wp2
    go_ret
    simp
end Go.Proofs.YticckfioggeaeaaGreatDoor

/-
  Arguments, opened to what the walks ask.
-/
namespace Go.Proofs.YticckfioggeaeaaGreatDoor
open Go.ChangeShapes Go.WideShapes Go.ChangeAt Go.RowKit

theorem own : ownKnob Tryz.prog.godebug = none := by kernel_rfl
theorem laidOut : laidOutB Tryz.prog = true := by kernel_rfl
theorem cellsInt : Tryz.prog.cellsOf 3 = 1 := by kernel_rfl
theorem bytesInt : Tryz.prog.bytesOf 3 = 8 := by kernel_rfl

/-- A number fits an int. -/
def I64 (x : Int) : Prop := (Lit.int .i64 x).wf = true
theorem I64.bd {x : Int} (h : I64 x) : -9223372036854775808 ≤ x ∧ x ≤ 9223372036854775807 := bounds_i64 h
/-- A list of ints is no longer than what can be read. -/
def Reached (l : List Int) : Prop := l.length * 8 ≤ reachBytes

section
variable {H : Type} {enc : TypeId × Value → H} {w : World} {fuel : Nat} {a : Option Addr} {n c : Nat} {x : DataW H × List MemPlace}

theorem intsIn_of (z : List Int) (ad : Addr) (len : Nat) (hl : len ≤ z.length) (hc : ∀ i, i < z.length → w.cell? (ad.add i) = some (.int .i64 (z.getD i 0))) : IntsIn w w.heap.size (some ad) (z.take len) := fun hn => by
  have h0 : 0 < z.length := by rw [List.length_take] at hn; omega
  obtain ⟨b, off, spot⟩ := ad
  have hs : spot = none := by simpa [Addr.add] using World.cell?_spot (hc 0 h0)
  subst hs
  refine ⟨b, off, rfl, World.block_lt_of_cell? w _ (by simpa [Addr.add] using hc 0 h0), fun i y hy => ?_⟩
  have hi : i < len := by have := (List.getElem?_eq_some_iff.1 hy).1; rw [List.length_take] at this; omega
  rw [List.getElem?_take_of_lt hi] at hy
  have := hc i (by omega)
  rw [add_addr] at this
  rw [this]
  simp [List.getD, hy]

theorem open_ints_arg (h : DataW.trod enc Tryz.prog w 0 (fun _ => true) true fuel 22 [.slice a n c] = some x) :
    ∃ l : List Int, n = l.length ∧ IntsIn w w.heap.size a l ∧ (∀ y ∈ l, I64 y) ∧ ((x.1 = .nil ∧ l = []) ∨ ∃ spare, x.1 = .slice (lits .i64 l) spare) := by
  rcases open_ints Tryz.underlying22 Tryz.underlying3 cellsInt h with ⟨hcs, hx⟩ | ⟨ad, len, cap, z, hcs, _, hl, _, hz, hx, hcell, hwz⟩
  · simp at hcs
    obtain ⟨rfl, rfl, rfl⟩ := hcs
    exact ⟨[], rfl, fun h => by simp at h, by simp, .inl ⟨by rw [hx], rfl⟩⟩
  · simp at hcs
    obtain ⟨rfl, rfl, rfl⟩ := hcs
    simp only [if_true] at hz
    refine ⟨z.take n, by simp; omega, intsIn_of z ad n (by omega) hcell, fun y hy => hwz y (List.mem_of_mem_take hy), .inr ⟨_, by rw [hx]⟩⟩

theorem open_ints_zero (h : DataW.trod enc Tryz.prog w 0 (fun _ => true) true fuel 22 [.slice a n c] = some x) : a = none → c = 0 := by
  rcases open_ints Tryz.underlying22 Tryz.underlying3 cellsInt h with ⟨hcs, _⟩ | ⟨ad, len, cap, z, hcs, _⟩
  · simp at hcs
    intro _
    exact hcs.2.2
  · simp at hcs
    intro h
    rw [hcs.1] at h
    cases h

theorem open_rows_arg (h : DataW.trod enc Tryz.prog w 0 (fun _ => true) true fuel 37 [.slice a n c] = some x) :
    ∃ l : List (List Int), n = l.length ∧ RowsIn w w.heap.size a l ∧ (∀ r ∈ l, r.length ≤ maxLen ∧ ∀ y ∈ r, I64 y) ∧ l.length ≤ maxLen := by
  rcases Deep.open_int_rows Tryz.underlying37 Tryz.underlying22 Tryz.underlying3 (by kernel_rfl) cellsInt h with ⟨hcs, hx⟩ | ⟨ad, len, cap, A, L, C, Z, hcs, _, hl, hm, _, hrows⟩
  · simp at hcs
    obtain ⟨rfl, rfl, rfl⟩ := hcs
    exact ⟨[], rfl, fun h => by simp at h, by simp, by simp⟩
  · simp at hcs
    obtain ⟨rfl, rfl, rfl⟩ := hcs
    refine ⟨(List.range n).map fun r => (Z r).take (L r), by simp, fun hn => ?_, ?_, by simp; omega⟩
    · have hn' : 0 < n := by simpa using hn
      obtain ⟨b, off, spot⟩ := ad
      have h0 := (hrows 0 (by omega)).1
      have hs : spot = none := by simpa [Addr.add] using World.cell?_spot h0
      subst hs
      refine ⟨b, off, rfl, World.block_lt_of_cell? w _ (by simpa [Addr.add] using h0), fun i y hy => ?_⟩
      simp only [List.getElem?_map, Option.map_eq_some_iff] at hy
      obtain ⟨r, hr, rfl⟩ := hy
      have hi : i < n := by have := (List.getElem?_eq_some_iff.1 hr).1; simpa using this
      obtain rfl : r = i := by rw [List.getElem?_range hi] at hr; exact (Option.some.inj hr).symm
      obtain ⟨h1, h2, _, h3, _, h4, h5⟩ := hrows r (by omega)
      rw [add_addr] at h1
      refine ⟨A r, C r, by rw [h1, List.length_take, Nat.min_eq_left (by omega)], ?_⟩
      cases hA : A r with
      | none =>
        have := h4 hA
        intro hp
        rw [List.length_take] at hp
        omega
      | some a' =>
        obtain ⟨_, h6⟩ := h5 a' hA
        exact intsIn_of (Z r) a' (L r) (by omega) (fun i hi => h6 i (by omega))
    · intro r hr
      obtain ⟨i, hi, rfl⟩ := List.mem_map.1 hr
      have hi' := List.mem_range.1 hi
      obtain ⟨_, h2, h7, h3, h8, _⟩ := hrows i (by omega)
      exact ⟨by rw [List.length_take]; omega, fun y hy => h8 y (List.mem_of_mem_take hy)⟩
end
end Go.Proofs.YticckfioggeaeaaGreatDoor

/-
  A row of rows that comes in has room for what it holds.
-/
namespace Go.Proofs.YticckfioggeaeaaGreatDoor
open Go.RowKit
theorem open_rows_cap {H : Type} {enc : TypeId × Value → H} {w : World} {fuel : Nat} {a : Option Addr} {n c : Nat} {x : DataW H × List MemPlace} (h : DataW.trod enc Tryz.prog w 0 (fun _ => true) true fuel 37 [.slice a n c] = some x) : n ≤ c := by
  rcases Deep.open_int_rows Tryz.underlying37 Tryz.underlying22 Tryz.underlying3 (by kernel_rfl) cellsInt h with ⟨hcs, hx⟩ | ⟨ad, len, cap, A, L, C, Z, hcs, _, hl, hm, _, hrows⟩
  · simp at hcs
    omega
  · simp at hcs
    obtain ⟨rfl, rfl, rfl⟩ := hcs
    omega
/-- One row of rows, as a row of rows by itself. -/
theorem RowsIn.one {w : World} {B : Nat} {b off k : Nat} {a' : Option Addr} {c' : Nat} {l : List Int} (hb : b < B) (h1 : w.cell? ⟨b, off + k, none⟩ = some (.slice a' l.length c')) (h2 : IntsIn w B a' l) : RowsIn w B (some ⟨b, off + k, none⟩) [l] := fun _ =>
  ⟨b, off + k, rfl, hb, fun i xs hi => by
    cases i with
    | zero => simp at hi; subst hi; exact ⟨a', c', h1, h2⟩
    | succ i => simp at hi⟩
end Go.Proofs.YticckfioggeaeaaGreatDoor

/-
  Many cells of a block set at once.
-/
namespace Go.Proofs.YticckfioggeaeaaGreatDoor
open Go.RowKit

def sets : List Value → Nat → List Value → List Value
  | cs, _, [] => cs
  | cs, i, v :: r => sets (cs.set i v) (i + 1) r
theorem Blk.setCells {b : Nat} {t : TypeId} : ∀ (vs : List Value) (i : Nat) (cs : List Value) (w : World), Blk w b t cs → Blk (w.setCells b i vs) b t (sets cs i vs)
  | [], _, _, _, h => h
  | v :: r, i, _, _, h => Blk.setCells r (i + 1) _ _ (h.set i v)
theorem Keep.setCells {b : Nat} {F : List Nat} {w0 : World} (hF : b < w0.heap.size → b ∈ F) : ∀ (vs : List Value) (i : Nat) (w : World), Keep F w0 w → Keep F w0 (w.setCells b i vs)
  | [], _, _, h => h
  | v :: r, i, _, h => Keep.setCells hF r (i + 1) _ (h.set (p := ⟨b, i, none⟩) hF v)
theorem sets_get : ∀ (vs cs : List Value) (i j : Nat), i + vs.length ≤ cs.length → (sets cs i vs)[j]? = if i ≤ j ∧ j < i + vs.length then vs[j - i]? else cs[j]?
  | [], cs, i, j, _ => by simp [sets]; intro h1 h2; omega
  | v :: r, cs, i, j, h => by
    simp only [List.length_cons] at h
    rw [sets, sets_get r _ (i + 1) j (by simp; omega)]
    simp only [List.length_cons]
    by_cases e : j = i
    · subst e
      rw [if_neg (by omega), if_pos (by omega)]
      simp [show j < cs.length by omega]
    · rw [List.getElem?_set_ne (by omega)]
      by_cases g : i ≤ j ∧ j < i + (r.length + 1)
      · rw [if_pos (by omega), if_pos g, show j - i = (j - (i + 1)) + 1 by omega, List.getElem?_cons_succ]
      · rw [if_neg (by omega), if_neg g]
theorem sets_len : ∀ (vs cs : List Value) (i : Nat), (sets cs i vs).length = cs.length
  | [], cs, i => rfl
  | v :: r, cs, i => by rw [sets, sets_len r]; simp
theorem sets_all (vs xs ys : List Value) (h : xs.length = vs.length) : sets (xs ++ ys) 0 vs = vs ++ ys := by
  apply List.ext_getElem?
  intro j
  rw [sets_get _ _ _ _ (by simp; omega)]
  by_cases g : j < vs.length
  · rw [if_pos (by omega), List.getElem?_append_left g]; simp
  · rw [if_neg (by omega), List.getElem?_append_right (by omega), List.getElem?_append_right (by omega), h]

end Go.Proofs.YticckfioggeaeaaGreatDoor

/-
  An error or none, by its number.
-/
namespace Go.Proofs.YticckfioggeaeaaGreatDoor

def errw (k : Int) : Value := if k = 0 then .nilIface else errv k
theorem errw_zero : errw 0 = .nilIface := rfl
theorem errw_of {k : Int} (h : k ≠ 0) : errw k = errv k := if_neg h
end Go.Proofs.YticckfioggeaeaaGreatDoor

/-
  The reference's Has, by its contract.
-/
namespace Go.Proofs.YticckfioggeaeaaGreatDoor
open Go.RowKit

theorem take_mem_succ {l : List Int} {k : Nat} {x : Int} (h : k < l.length) : x ∈ l.take (k + 1) ↔ x ∈ l.take k ∨ l[k] = x := by
  rw [List.take_succ_eq_append_getElem h, List.mem_append]
  simp [eq_comm]

theorem rHas (a : Option Addr) (n c B : Nat) (l : List Int) (x : Int) (w : World) (hl : l.length = n) (h : IntsIn w B a l) (hn : n ≤ 100000000000) :
    Calls Tryz.prog 26 #[.slice a n c, .int .i64 x] w fun e w' => e = .returned (.bool (decide (x ∈ l))) ∧ w = w' := by
  have HL := Lib.hid hl; clear hl
  have hn2 : (n : Int) ≤ 20000000000000 := by omega
  go_enter Tryz.func26, Tryz.ntmps26
  go_wp2
  go_loop [5] (fun i => ∃ k : Nat, k ≤ n ∧ i = .int .i64 k ∧ ¬ x ∈ l.take k) (fun i => n - (intOf i).toNat)
  case atStart => exact ⟨0, by omega, rfl, by simp⟩
  case round =>
    obtain ⟨k, hk, rfl, hnm⟩ := hrel
    have HM := Lib.hid hnm; clear hnm
    by_cases hlt : k < n
    · have hkl : k < l.length := by rw [HL.out]; exact hlt
      obtain ⟨b, off, rfl, hb, hc⟩ := h.at_ hkl
      have HS := Lib.hid (take_mem_succ (x := x) hkl)
      obtain ⟨y, hy⟩ : ∃ y, y = l[k] := ⟨_, rfl⟩
      rw [← hy] at hc HS
      clear hy
      have hki : (k : Int) < (n : Int) := by omega
      have hk0 : (0 : Int) ≤ (k : Int) := by omega
      by_cases e : y = x
      · subst e
        have hm : y ∈ l := List.mem_of_mem_take (HS.out.2 (.inr rfl))
        have HMM := Lib.hid (show decide (y ∈ l) = true by simpa using hm)
        clear hm
        go_wp2
        go_ret
        exact ⟨ret_bool HMM.out.symm, rfl⟩
      · go_wp2
        go_round
        case rel => exact ⟨k + 1, hlt, by simp, fun hh => (HS.out.1 hh).elim HM.out e⟩
        case measure => simp [intOf]; omega
    · obtain rfl : k = n := by omega
      have hm : decide (x ∈ l) = false := by
        have := HM.out
        rw [List.take_of_length_le (by rw [HL.out]; exact Nat.le_refl _)] at this
        simpa using this
      have HMM := Lib.hid hm; clear hm
      go_wp2
      go_ret
      exact ⟨ret_bool HMM.out.symm, rfl⟩

def WithoutPost (w : World) (l : List Int) (x : Int) (e : Ending) (w' : World) : Prop := ∃ v, e = .returned v ∧ OwnInts w' w.heap.size v (l.erase x) ∧ Below w.heap.size w w'
def WithoutRel (w : World) (l : List Int) (x : Int) (n : Nat) (out gone i : Value) (wr : World) : Prop :=
  ∃ k : Nat, k ≤ n ∧ i = .int .i64 k ∧ gone = .bool (decide (x ∈ l.take k)) ∧ OwnInts wr w.heap.size out ((l.take k).erase x) ∧ Below w.heap.size w wr
theorem rHas_is (a : Option Addr) (n c B : Nat) (l : List Int) (x : Int) (d : Bool) (w : World) (hl : l.length = n) (h : IntsIn w B a l) (hn : n ≤ 100000000000) (hd : decide (x ∈ l) = d) :
    Calls Tryz.prog 26 #[.slice a n c, .int .i64 x] w fun e w' => e = .returned (.bool d) ∧ w = w' := by
  subst hd; exact rHas a n c B l x w hl h hn
end Go.Proofs.YticckfioggeaeaaGreatDoor

/-
  larderwicksame.Ints of two lists that are the same, by its contract.
-/
namespace Go.Proofs.YticckfioggeaeaaGreatDoor
open Go.RowKit

theorem drewN_drew (w : World) (n : Nat) : (w.drewN n).drew = w.drewN (n + 1) := by simp [World.drewN, World.drew, Nat.add_assoc]
theorem drewN_drewN (w : World) (n m : Nat) : (w.drewN n).drewN m = w.drewN (n + m) := by simp [World.drewN, Nat.add_assoc]

set_option maxRecDepth 100000 in
theorem ints_same (a a' : Option Addr) (n c c' B B' : Nat) (xs : List Int) (w : World) (hl : xs.length = n) (h : IntsIn w B a xs) (h' : IntsIn w B' a' xs) (hn : n ≤ maxLen) :
    Calls Tryz.prog 15 #[.slice a n c, .slice a' n c'] w fun e w' => e = .returned (.bool true) ∧ ∃ q, w' = w.drewN q := by
  have HN := Lib.hid hn; clear hn
  go_enter Tryz.func15, Tryz.ntmps15
  go_wp2
  go_loopw [5] (fun i wr => ∃ k q : Nat, k ≤ n ∧ i = .int .i64 k ∧ wr = w.drewN q) (fun i _ => n - (intOf i).toNat)
  case atStart => exact ⟨0, 0, Nat.zero_le _, rfl, by simp [World.drewN]⟩
  case round =>
    obtain ⟨k, q, hk, rfl, hwr⟩ := hrel
    by_cases hlt : k < n
    · obtain ⟨b, off, rfl, hb, hc⟩ := h.at_ (by omega : k < xs.length)
      obtain ⟨b', off', rfl, hb', hc'⟩ := h'.at_ (by omega : k < xs.length)
      have hc1 : wr.cell? ⟨b, off + k, none⟩ = some (.int .i64 xs[k]) := by rw [hwr]; exact hc
      have hc2 : wr.cell? ⟨b', off' + k, none⟩ = some (.int .i64 xs[k]) := by rw [hwr]; exact hc'
      clear hc hc'
      obtain ⟨x, hx⟩ : ∃ x, x = xs[k] := ⟨_, rfl⟩
      rw [← hx] at hc1 hc2
      clear hx
      have HW := Lib.hid hwr; clear hwr
      have hk0 : (0 : Int) ≤ (k : Int) := by omega
      have hkn : (k : Int) < (n : Int) := by omega
      have hb63 : k < 9223372036854775807 := by have := HN.out; unfold maxLen at this; omega
      go_wp2
      go_quiet (fail)
      go_wp2
      go_roundw
      case rel => exact ⟨k + 1, _, hlt, by go_num, by rw [HW.out]; exact drewN_drewN _ _ _⟩
      case measure => simp [intOf]; omega
    · have HW := Lib.hid hwr; clear hwr
      go_wp2
      go_ret
      exact ⟨rfl, q, HW.out⟩

/-- .. as a plain step. -/
theorem ints_same_keep (a a' : Option Addr) (n c c' B B' : Nat) (xs : List Int) (w : World) (hl : xs.length = n) (h : IntsIn w B a xs) (h' : IntsIn w B' a' xs) (hn : n ≤ maxLen) :
    Calls Tryz.prog 15 #[.slice a n c, .slice a' n c'] w fun e w' => e = .returned (.bool true) ∧ Keep [] w w' := by
  refine (ints_same a a' n c c' B B' xs w hl h h' hn).mono ?_
  rintro e w' ⟨h1, q, rfl⟩
  exact ⟨h1, (Keep.refl _ _).drewN q⟩
end Go.Proofs.YticckfioggeaeaaGreatDoor

/-
  append of a whole list onto a row of the call's own, the list nil, empty or not.
-/
namespace Go.Proofs.YticckfioggeaeaaGreatDoor
open Go.RowKit

/-- What may be appended: nil, or numbers at an address. -/
def Src (w : World) (a : Option Addr) (m c : Nat) (news : List Value) : Prop :=
  news.length = m ∧ ((a = none ∧ m = 0 ∧ c = 0) ∨ ∃ ad, a = some ad ∧ ∀ (j : Nat) (u : Value), news[j]? = some u → w.cell? (ad.add j) = some u)

theorem src_ints {w : World} {B : Nat} {a : Option Addr} {xs : List Int} {m c : Nat} (hl : xs.length = m) (h : IntsIn w B a xs) (hz : a = none → c = 0) : Src w a m c (ints xs) := by
  refine ⟨by rw [ints_len, hl], ?_⟩
  cases a with
  | none =>
    refine .inl ⟨rfl, ?_, hz rfl⟩
    rcases Nat.eq_zero_or_pos xs.length with h0 | h0
    · omega
    · obtain ⟨b, off, e, _⟩ := h h0
      cases e
  | some ad =>
    refine .inr ⟨ad, rfl, fun j u hu => ?_⟩
    have hj : j < xs.length := by have := (List.getElem?_eq_some_iff.1 hu).1; rwa [ints_len] at this
    obtain ⟨b, off, e, _, hc⟩ := h (by omega)
    simp only [Option.some.injEq] at e
    subst e
    simp only [ints, List.getElem?_map, Option.map_eq_some_iff] at hu
    obtain ⟨x, hx, rfl⟩ := hu
    rw [add_addr]
    exact hc j x hx

theorem grownBy_refl (w : World) (r : Option Nat) : w.grownBy w r := ⟨rfl, rfl, rfl, Nat.le_refl _, fun _ _ _ => rfl⟩

theorem wpList_append_src {P : Program} {w : World} {ops : Array Oper} {rest : List Oper} {o : Oper} {a : Act} {Q : Exit → Act → World → Prop} (hgd : o.guard = none) (s x : Operand) (t : TypeId)
    (ho : o.op = .call { callee := .builtin .append, args := #[s, x], argTypes := #[t, t] })
    (base : Nat) (e : TypeId) (i : TypeInfo) (z : Value) (bytes : Nat) (ht : P.underlying t = some (.slice e)) (hi : P.info? e = some i) (hz : i.zero = some z)
    (hsize : i.size = 1) (hby : i.bytes = bytes) (hzs : z.cells.size = 1)
    (v : Value) (n : Nat) (xs : List Value) (hs : a.eval s = v) (hown : w.ownsRow base e 1 v n xs)
    (ad : Option Addr) (m c : Nat) (news : List Value) (hx : a.eval x = .slice ad m c) (hsrc : Src w ad m c news) (h1 : ∀ u ∈ news, u.oneCell' = true)
    (h63 : n + m ≤ maxLen) (hbytes : (n + m) * bytes ≤ 140737488355328) (hbase : base ≤ w.heap.size)
    (h : ∀ v' w', w'.ownsRow base e 1 v' (n + m) (xs ++ news) → w.grownBy w' v.ownBlock → wpList P ops Q rest (a.put o.dst v') w') : wpList P ops Q (o :: rest) a w := by
  obtain ⟨hl, ⟨rfl, rfl, rfl⟩ | ⟨ad, rfl, hc⟩⟩ := hsrc
  · have : news = [] := List.length_eq_zero_iff.1 hl
    subst this
    exact wpList_append_own_none hgd s x t ho base e i 1 ht hi v n xs hs hown hx (h v w (by simpa using hown) (grownBy_refl _ _))
  · exact wpList_append_own w hgd s x t ho base e i z 1 bytes ht hi hz hsize hby hzs (by decide) v n xs hs hown ad m c news hx (by rw [hl]; simp) hc h1 h63 hbytes hbase (fun v' w' a b _ => h v' w' a b)
theorem ints_one (l : List Int) : ∀ u ∈ ints l, u.oneCell' = true := by
  intro u hu
  simp only [ints, List.mem_map] at hu
  obtain ⟨x, _, rfl⟩ := hu
  rfl
end Go.Proofs.YticckfioggeaeaaGreatDoor

/-
  A struct result that lies in a block.
-/
namespace Go.Proofs.YticckfioggeaeaaGreatDoor
open Go.RowKit

/-- A struct result that lies in a block. -/
theorem results_cell1 {P : Program} {fn : Func} {p : Tmp} {ty : TypeId} (h : fn.results = #[.cell p ty]) (tmps : Array Value) (w : World) (g : Nat) (t : TypeId) (cs : List Value) (d : TypeDesc)
    (hp : tmps.getD p undef = .pointer (some ⟨g, 0, none⟩)) (hg : Blk w g t cs) (hu : P.underlying ty = some d) (hd : (match d with | .struct _ | .array _ _ => true | _ => false) = true) (hi : (P.info? ty).map (·.size) = some cs.toArray.size) :
    (results fn tmps).run P w = .ok (.agg cs.toArray) w := results_cell_row h tmps w g t cs.toArray (0, 0) d hp hg hu hd hi
theorem results_cell2 {P : Program} {fn : Func} {p u : Tmp} {ty : TypeId} (h : fn.results = #[.cell p ty, .tmp u]) (tmps : Array Value) (w : World) (g : Nat) (t : TypeId) (cs : List Value) (d : TypeDesc)
    (hp : tmps.getD p undef = .pointer (some ⟨g, 0, none⟩)) (hg : Blk w g t cs) (hu : P.underlying ty = some d) (hd : (match d with | .struct _ | .array _ _ => true | _ => false) = true) (hi : (P.info? ty).map (·.size) = some cs.toArray.size) :
    (results fn tmps).run P w = .ok (.tuple #[.agg cs.toArray, tmps.getD u undef]) w := by
  rw [results_cell_tmp h, hp]
  simp [asAddr, run_loadVar_row w g t ty cs.toArray (0, 0) d hg hu hd hi, Result.andThen]
theorem results_cell3 {P : Program} {fn : Func} {p u v : Tmp} {ty : TypeId} (h : fn.results = #[.cell p ty, .tmp u, .tmp v]) (tmps : Array Value) (w : World) (g : Nat) (t : TypeId) (cs : List Value) (d : TypeDesc)
    (hp : tmps.getD p undef = .pointer (some ⟨g, 0, none⟩)) (hg : Blk w g t cs) (hu : P.underlying ty = some d) (hd : (match d with | .struct _ | .array _ _ => true | _ => false) = true) (hi : (P.info? ty).map (·.size) = some cs.toArray.size) :
    (results fn tmps).run P w = .ok (.tuple #[.agg cs.toArray, tmps.getD u undef, tmps.getD v undef]) w := by
  have hp' : tmps[p]?.getD undef = .pointer (some ⟨g, 0, none⟩) := by simpa using hp
  simp [results, h, hp', asAddr, run_loadVar_row w g t ty cs.toArray (0, 0) d hg hu hd hi]
end Go.Proofs.YticckfioggeaeaaGreatDoor
