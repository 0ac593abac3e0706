/-
  Words for memory, over no program: a block known whole ('Blk'), what a call leaves as it was ('Keep').
-/
import Derived.WalkKit
import Derived.Deep.Draws
import Derived.Deep.OwnRows
import Derived.Deep.AppendLies
import Derived.Deep.QuietTactic
import Derived.BigQuiet
namespace Go.Proofs.YticckfioggeaeaaGreatDoor
open Go.RowKit

/-- Block g is just the cells cs, of element type t; none is frozen. -/
def Blk (w : World) (g : Nat) (t : TypeId) (cs : List Value) : Prop := w.heap[g]? = some (.cells cs.toArray t (0, 0))

/-- Of the blocks that there were, only those in F may have turned. -/
structure Keep (F : List Nat) (w w' : World) : Prop where
  os : w'.os = w.os
  tape : w'.tape = w.tape
  output : w'.output = w.output
  size : w.heap.size ≤ w'.heap.size
  block : ∀ k, k < w.heap.size → k ∉ F → w'.heap[k]? = w.heap[k]?

section
variable {w w' w'' : World} {g h : Nat} {t u : TypeId} {cs ds : List Value} {F G : List Nat}

theorem Blk.lt (k : Blk w g t cs) : g < w.heap.size := by
  rcases Nat.lt_or_ge g w.heap.size with hlt | hge
  · exact hlt
  · unfold Blk at k; rw [Array.getElem?_eq_none hge] at k; cases k
theorem Blk.cell (k : Blk w g t cs) (i : Nat) : w.cell? ⟨g, i, none⟩ = cs[i]? := by
  unfold Blk at k; simp [World.cell?, k]
theorem Blk.cell_ {i : Nat} {v : Value} (k : Blk w g t cs) (e : cs[i]? = some v) : w.cell? ⟨g, i, none⟩ = some v := (k.cell i).trans e
theorem Blk.free (k : Blk w g t cs) (i : Nat) : w.frozen? ⟨g, i, none⟩ = false := by
  unfold Blk at k; simp [World.frozen?, k]
theorem Blk.new (w : World) (t : TypeId) (cs : List Value) : Blk (w.alloc (.cells cs.toArray t)) w.heap.size t cs := by
  unfold Blk; show (w.heap.push _)[w.heap.size]? = _; simp
theorem Blk.alloc (k : Blk w g t cs) (o : Obj) : Blk (w.alloc o) g t cs := (Below.heap_alloc w o g k.lt).trans k
theorem Blk.drew (k : Blk w g t cs) : Blk w.drew g t cs := k
theorem Blk.drewN (k : Blk w g t cs) (n : Nat) : Blk (w.drewN n) g t cs := k
theorem Blk.set (k : Blk w g t cs) (i : Nat) (v : Value) : Blk (w.setCell ⟨g, i, none⟩ v) g t (cs.set i v) := by
  unfold Blk at k ⊢
  simp [World.setCell, Array.getElem?_modify, k]
theorem Blk.far (k : Blk w g t cs) {p : Addr} (hp : g ≠ p.block) (v : Value) : Blk (w.setCell p v) g t cs := (Below.heap_setCell w p v g hp).trans k
theorem Blk.below {B : Nat} (k : Blk w g t cs) (hb : Below B w w') (hg : g < B) : Blk w' g t cs := (hb.block g hg).trans k
theorem Blk.keep (k : Blk w g t cs) (hk : Keep F w w') (hg : g ∉ F) : Blk w' g t cs := (hk.block g k.lt hg).trans k
theorem Blk.grown {row : Option Nat} (k : Blk w g t cs) (hb : w.grownBy w' row) (hg : some g ≠ row) : Blk w' g t cs := (hb.block g k.lt hg).trans k
theorem Blk.ne (k : Blk w g t cs) (k' : Blk w h u ds) (hn : t ≠ u) : g ≠ h := by
  rintro rfl
  unfold Blk at k k'
  rw [k] at k'
  injection k' with k'
  injection k' with _ ht
  exact hn ht
theorem Blk.uniq (k : Blk w g t cs) (k' : Blk w g u ds) : cs = ds := by
  unfold Blk at k k'
  rw [k] at k'
  injection k' with k'
  injection k' with ht _
  simpa using ht

theorem Keep.refl (F : List Nat) (w : World) : Keep F w w := ⟨rfl, rfl, rfl, Nat.le_refl _, fun _ _ _ => rfl⟩
theorem Keep.trans (a : Keep F w w') (b : Keep F w' w'') : Keep F w w'' :=
  ⟨b.os.trans a.os, b.tape.trans a.tape, b.output.trans a.output, Nat.le_trans a.size b.size, fun k hk hF => (b.block k (Nat.lt_of_lt_of_le hk a.size) hF).trans (a.block k hk hF)⟩
theorem Keep.mono (a : Keep F w w') (s : ∀ x ∈ F, x < w.heap.size → x ∈ G) : Keep G w w' :=
  ⟨a.os, a.tape, a.output, a.size, fun k hk hG => a.block k hk (fun hF => hG (s k hF hk))⟩
theorem Keep.alloc (a : Keep F w w') (o : Obj) : Keep F w (w'.alloc o) :=
  ⟨a.os, a.tape, a.output, Nat.le_trans a.size (by simp), fun k hk hF => (Below.heap_alloc w' o k (Nat.lt_of_lt_of_le hk a.size)).trans (a.block k hk hF)⟩
theorem Keep.drew (a : Keep F w w') : Keep F w w'.drew := ⟨a.os, a.tape, a.output, a.size, a.block⟩
theorem Keep.drewN (a : Keep F w w') (n : Nat) : Keep F w (w'.drewN n) := ⟨a.os, a.tape, a.output, a.size, a.block⟩
theorem Keep.set (a : Keep F w w') {p : Addr} (hp : p.block < w.heap.size → p.block ∈ F) (v : Value) : Keep F w (w'.setCell p v) :=
  ⟨a.os, a.tape, a.output, Nat.le_trans a.size (by simp), fun k hk hF => (Below.heap_setCell w' p v k (by rintro rfl; exact hF (hp hk))).trans (a.block k hk hF)⟩
theorem Keep.grown {row : Option Nat} (a : Keep F w w') (hg : w'.grownBy w'' row) (hr : ∀ k, row = some k → k < w.heap.size → k ∈ F) : Keep F w w'' :=
  ⟨hg.os.trans a.os, hg.tape.trans a.tape, hg.output.trans a.output, Nat.le_trans a.size hg.size,
    fun k hk hF => (hg.block k (Nat.lt_of_lt_of_le hk a.size) (fun e => hF (hr k e.symm hk))).trans (a.block k hk hF)⟩
theorem Keep.of_below {B : Nat} (hb : Below B w w') (hB : w.heap.size ≤ B) : Keep F w w' := ⟨hb.os, hb.tape, hb.output, hb.size, fun k hk _ => hb.block k (by omega)⟩
theorem Keep.below {B : Nat} (a : Keep F w w') (hB : B ≤ w.heap.size) (hF : ∀ x ∈ F, B ≤ x) : Below B w w' :=
  ⟨a.os, a.tape, a.output, a.size, fun k hk => a.block k (by omega) (fun h => by have := hF k h; omega)⟩
theorem Keep.cell (a : Keep F w w') {p : Addr} (hp : p.block < w.heap.size) (hF : p.block ∉ F) : w'.cell? p = w.cell? p := World.cell?_of_block (w := w) (a.block _ hp hF)
end

/-- A value that owns a row of other elements does not lie in block g. -/
theorem own_ne {w : World} {base g : Nat} {e t : TypeId} {size n : Nat} {v : Value} {xs cs : List Value} (h : w.ownsRow base e size v n xs) (hg : Blk w g t cs) (hne : e ≠ t) : some g ≠ v.ownBlock := by
  rcases h.2 with ⟨rfl, _⟩ | ⟨g', cap, cur, rfl, _, hh, _⟩
  · simp [Value.ownBlock]
  · intro he
    have : g = g' := by simpa [Value.ownBlock] using he
    subst this
    unfold Blk at hg
    rw [hg] at hh
    injection hh with hh
    injection hh with _ ht
    exact hne ht.symm

/-- What a value that owns something looks like: its block known. -/
theorem own_blk {w : World} {base : Nat} {e : TypeId} {n : Nat} {v : Value} {xs : List Value} (h : w.ownsRow base e 1 v n xs) (hn : 0 < n) :
    ∃ g cap cur, v = .slice (some ⟨g, 0, none⟩) n cap ∧ base ≤ g ∧ n ≤ cap ∧ Blk w g e cur ∧ ∀ (i : Nat) (x : Value), xs[i]? = some x → cur[i]? = some x := by
  obtain ⟨hl, ⟨_, h0⟩ | ⟨g, cap, cur, rfl, hb, hh, hc, _, _, ht⟩⟩ := h
  · omega
  · refine ⟨g, cap, cur.toList, rfl, hb, hc, by unfold Blk; simpa using hh, fun i x hx => ?_⟩
    have hi : i < xs.length := (List.getElem?_eq_some_iff.1 hx).1
    have h2 : (cur.toList.take (n * 1))[i]? = xs[i]? := by rw [ht]
    rw [List.getElem?_take_of_lt (by omega)] at h2
    rw [h2, hx]

theorem block_of_addr (a : Addr) (n : Nat) : (a.add n).block = a.block := by unfold Addr.add; split <;> rfl
theorem add_addr (b off n : Nat) : (⟨b, off, none⟩ : Addr).add n = ⟨b, off + n, none⟩ := by
  unfold Addr.add; split
  · rename_i h; simp_all
  · rfl

theorem madeCells_one (z : Value) (n : Nat) : madeCells #[z] n = (List.replicate n z).toArray := by
  apply Array.ext
  · simp [madeCells]
  · intro i h1 h2
    simp [madeCells, Nat.mod_one]

/-- 'make([]T, n)', T of one cell. -/
theorem run_make_blk {P : Program} (t e : TypeId) (z : Value) (bytes : Nat) (ht : P.underlying t = some (.slice e)) (hinfo : (P.info? e).map (fun i => (i.zero, i.size, i.bytes)) = some (some z, 1, bytes)) (hz1 : z.cells = #[z])
    (n : Nat) (hbytes : bytes * n ≤ 281474976710656) (h63 : n ≤ 9223372036854775807) (w : World) :
    (Instr.makeSlice t (.int .i64 (n : Int)) (.int .i64 (n : Int))).run P w = .ok (.slice (some ⟨w.heap.size, 0, none⟩) n n) (w.alloc (.cells (List.replicate n z).toArray e)) := by
  rw [run_make_row' t e z bytes ht hinfo hz1 .i64 .i64 n hbytes h63 w, madeCells_one]

/-- Only draws lie between. -/
theorem keep_heap {F : List Nat} {w w' : World} (h1 : w'.heap = w.heap) (h2 : w'.os = w.os) (h3 : w'.tape = w.tape) (h4 : w'.output = w.output) : Keep F w w' :=
  ⟨h2, h3, h4, by rw [h1]; exact Nat.le_refl _, fun _ _ _ => by rw [h1]⟩
/-- A contract that leaves the world alone, in a quiet region. -/
theorem quiet_eq {P : Program} {f : FuncId} {args : Array Value} {w : World} {n : Nat} {v : Value}
    (h : Calls P f args (w.drewN n) fun e w' => e = .returned v ∧ w.drewN n = w') : Calls P f args (w.drewN n) fun e w'' => e = .returned v ∧ ∃ m, w'' = w.drewN m :=
  h.mono fun _ _ ⟨he, hm⟩ => ⟨he, n, hm.symm⟩
/-- .. that draws. -/
theorem quiet_drew {P : Program} {f : FuncId} {args : Array Value} {w : World} {n : Nat} {v : Value}
    (h : Calls P f args (w.drewN n) fun e w' => e = .returned v ∧ ∃ q, w' = (w.drewN n).drewN q) : Calls P f args (w.drewN n) fun e w'' => e = .returned v ∧ ∃ m, w'' = w.drewN m :=
  Calls.quiet_of h

theorem still_eq {P : Program} {f : FuncId} {args : Array Value} {w : World} {v : Value}
    (h : Calls P f args w fun e w' => e = .returned v ∧ w = w') : Calls P f args w fun e w' => e = .returned v ∧ w' = w :=
  h.mono fun _ _ ⟨he, hm⟩ => ⟨he, hm.symm⟩

end Go.Proofs.YticckfioggeaeaaGreatDoor
