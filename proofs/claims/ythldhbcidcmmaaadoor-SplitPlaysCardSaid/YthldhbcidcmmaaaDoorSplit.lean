/-
  split: how a table lies in memory; core.Has, split.of, New, Depth, by their contracts.
-/
import Derived.Test.YthldhbcidcmmaaaDoorSplitLaw
import Derived.Test.YthldhbcidcmmaaaDoorSets
import Derived.Laws.BitsAllLaws
import Derived.Deep.QuietTactic
import Derived.BigQuiet
import Derived.BigRegion
import Derived.StillTailTactics
namespace Go.Proofs.YthldhbcidcmmaaaDoor
open Go.RowKit

theorem i64_and_nat (a b : Nat) (ha : a < 9223372036854775808) (hb : b < 9223372036854775808) : bits .and .i64 (a : Int) (b : Int) = ((a &&& b : Nat) : Int) := by
  have hx : a &&& b < 2 ^ 63 := Nat.and_lt_two_pow _ (by omega)
  show IntKind.i64.wrap ((BitVec.ofInt 64 (a : Int) &&& BitVec.ofInt 64 (b : Int)).toNat : Int) = _
  rw [BitVec.toNat_and, ofInt_u64 a (by omega), ofInt_u64 b (by omega), IntKind.wrap_i64]
  omega
theorem i64_xor_nat (a b : Nat) (ha : a < 9223372036854775808) (hb : b < 9223372036854775808) : bits .xor .i64 (a : Int) (b : Int) = ((a ^^^ b : Nat) : Int) := by
  have hx : a ^^^ b < 2 ^ 63 := Nat.xor_lt_two_pow (by omega) (by omega)
  show IntKind.i64.wrap ((BitVec.ofInt 64 (a : Int) ^^^ BitVec.ofInt 64 (b : Int)).toNat : Int) = _
  rw [BitVec.toNat_xor, ofInt_u64 a (by omega), ofInt_u64 b (by omega), IntKind.wrap_i64]
  omega
theorem pow_cast (e : Nat) : ((2 ^ e : Nat) : Int) = (2 : Int) ^ e := by simp
theorem mask_i64 (k e : Nat) (he : e ≤ 30) (hk : k < 9223372036854775808) : bits .and .i64 (k : Int) (((2 ^ e - 1 : Nat)) : Int) = ((k % 2 ^ e : Nat) : Int) := by
  have h1 : 2 ^ e ≤ 2 ^ 30 := Nat.pow_le_pow_right (by decide) he
  rw [i64_and_nat k _ hk (by omega), Nat.and_two_pow_sub_one_eq_mod]
theorem bit1_i64 (k : Nat) (hk : k < 9223372036854775808) : bits .and .i64 (k : Int) 1 = ((k % 2 : Nat) : Int) := by
  have := mask_i64 k 1 (by decide) hk
  simpa using this

/-- A thing is in a set. -/
theorem cHas_any (k e : Nat) (w : World) (hk : k ≤ 1000000) (he : e ≤ 30) :
    Calls Tryd.prog 56 #[.int .i64 k, .int .i64 e] w fun e' w' => e' = .returned (.bool (decide (k / 2 ^ e % 2 = 1))) ∧ w = w' := by
  have hb : bits .and .i64 ((k : Int) / 2 ^ e) 1 = ((k / 2 ^ e % 2 : Nat) : Int) := by
    have hd : k / 2 ^ e ≤ k := Nat.div_le_self _ _
    have := bit1_i64 (k / 2 ^ e) (by omega)
    rw [← this, Int.natCast_ediv, pow_cast]
  have hq : (((k / 2 ^ e % 2 : Nat) : Int) == 1) = decide (k / 2 ^ e % 2 = 1) := by
    by_cases h : k / 2 ^ e % 2 = 1
    · simp [h]
    · have : ¬ ((k / 2 ^ e % 2 : Nat) : Int) = 1 := by omega
      simp only [h, decide_false]
      exact beq_eq_false_iff_ne.2 this
  have HB := Lib.hid hb; have HQ := Lib.hid hq
  clear hb hq
  go_enter Tryd.func56, Tryd.ntmps56
  go_wp2
  go_ret
  exact ⟨ret_bool (by rw [HB.out]; exact HQ.out), rfl⟩

/-- What a table's doings may turn: blocks of O alone (all new ones are of O). -/
structure KeepP (O : Nat → Prop) (w w' : World) : Prop where
  os : w'.os = w.os
  tape : w'.tape = w.tape
  output : w'.output = w.output
  size : w.heap.size ≤ w'.heap.size
  block : ∀ k, k < w.heap.size → ¬ O k → w'.heap[k]? = w.heap[k]?
section
variable {O : Nat → Prop} {w w' w'' : World} {F : List Nat}
theorem KeepP.refl (O : Nat → Prop) (w : World) : KeepP O w w := ⟨rfl, rfl, rfl, Nat.le_refl _, fun _ _ _ => rfl⟩
theorem KeepP.trans (h : KeepP O w w') (k : KeepP O w' w'') : KeepP O w w'' :=
  ⟨k.os.trans h.os, k.tape.trans h.tape, k.output.trans h.output, Nat.le_trans h.size k.size, fun x hx hO => (k.block x (Nat.lt_of_lt_of_le hx h.size) hO).trans (h.block x hx hO)⟩
theorem Keep.toP (h : Keep F w w') (hF : ∀ x ∈ F, O x) : KeepP O w w' := ⟨h.os, h.tape, h.output, h.size, fun x hx hO => h.block x hx (fun hm => hO (hF x hm))⟩
theorem KeepP.toBelow {B : Nat} (h : KeepP O w w') (hB : B ≤ w.heap.size) (hO : ∀ x, x < B → ¬ O x) : Below B w w' := ⟨h.os, h.tape, h.output, h.size, fun x hx => h.block x (by omega) (hO x hx)⟩
end

def ptrs (pg : Nat → Nat) (n : Nat) : List Value := (List.range n).map fun i => .pointer (some ⟨pg i, 0, none⟩)
theorem ptrs_len (pg : Nat → Nat) (n : Nat) : (ptrs pg n).length = n := by simp [ptrs]
theorem ptrs_get (pg : Nat → Nat) {n i : Nat} (h : i < n) : (ptrs pg n)[i]? = some (.pointer (some ⟨pg i, 0, none⟩)) := by simp [ptrs, h]

/-- How a table lies: its block t, the directory's block g, of each place its page and the page's keys. -/
structure TAt (O : Nat → Prop) (w : World) (t g cap D : Nat) (pg deep : Nat → Nat) (kv : Nat → Value) (S : List Int) : Prop where
  top : Blk w t 65 [.int .i64 D, .slice (some ⟨g, 0, none⟩) (2 ^ D) cap]
  arr : ∃ rest, Blk w g 60 (ptrs pg (2 ^ D) ++ rest) ∧ (ptrs pg (2 ^ D) ++ rest).length = cap
  capm : cap ≤ maxLen
  d6 : D ≤ 6
  pgs : ∀ i, Blk w (pg i) 62 [.int .i64 (deep i), kv i]
  key : ∀ i : Nat, OwnInts w 0 (kv i) (cls S i (deep i))
  one : ∀ i j : Nat, pg i = pg j ↔ (i : Int) % 2 ^ deep j = (j : Int) % 2 ^ deep j
  sep : ∀ i j x, (kv i).ownBlock = some x → (kv j).ownBlock = some x → pg i = pg j
  ot : O t
  og : O g
  op : ∀ i, O (pg i)
  ok : ∀ i x, (kv i).ownBlock = some x → O x
  on : ∀ x, w.heap.size ≤ x → O x
section
variable {O : Nat → Prop} {w w' : World} {t g cap D : Nat} {pg deep : Nat → Nat} {kv : Nat → Value} {S : List Int}
theorem TAt.keep0 (h : TAt O w t g cap D pg deep kv S) (hk : Keep [] w w') : TAt O w' t g cap D pg deep kv S := by
  obtain ⟨rest, h1, h2⟩ := h.arr
  exact { h with top := h.top.keep hk (by simp), arr := ⟨rest, h1.keep hk (by simp), h2⟩, pgs := fun i => (h.pgs i).keep hk (by simp), key := fun i => (h.key i).keep fun x hx => hk.block x (World.ownsRow.lt (h.key i) x hx).2 (by simp), on := fun x hx => h.on x (Nat.le_trans hk.size hx) }
/-- Another table's doings. -/
theorem TAt.keepP {O' : Nat → Prop} (h : TAt O w t g cap D pg deep kv S) (hk : KeepP O' w w') (hd : ∀ x, x < w.heap.size → O x → ¬ O' x) : TAt O w' t g cap D pg deep kv S := by
  obtain ⟨rest, h1, h2⟩ := h.arr
  exact { h with
    top := (hk.block t h.top.lt (hd t h.top.lt h.ot)).trans h.top
    arr := ⟨rest, (hk.block g h1.lt (hd g h1.lt h.og)).trans h1, h2⟩
    pgs := fun i => (hk.block _ (h.pgs i).lt (hd _ (h.pgs i).lt (h.op i))).trans (h.pgs i)
    key := fun i => (h.key i).keep fun x hx => hk.block x (World.ownsRow.lt (h.key i) x hx).2 (hd x (World.ownsRow.lt (h.key i) x hx).2 (h.ok i x hx))
    on := fun x hx => h.on x (Nat.le_trans hk.size hx) }
theorem TAt.pow (h : TAt O w t g cap D pg deep kv S) : 2 ^ D ≤ 64 := by
  have := Nat.pow_le_pow_right (show 0 < 2 by decide) h.d6
  simpa using this
theorem TAt.cell (h : TAt O w t g cap D pg deep kv S) {i : Nat} (hi : i < 2 ^ D) : w.cell? ⟨g, i, none⟩ = some (.pointer (some ⟨pg i, 0, none⟩)) := by
  obtain ⟨rest, h1, h2⟩ := h.arr
  refine h1.cell_ ?_
  rw [List.getElem?_append_left (by rw [ptrs_len]; exact hi)]
  exact ptrs_get pg hi
end

/-- The page that a key would be on. -/
theorem of_any {O : Nat → Prop} {w : World} {t g cap D : Nat} {pg deep : Nat → Nat} {kv : Nat → Value} {S : List Int} (k : Nat) (h : TAt O w t g cap D pg deep kv S) (hd : ∀ i, deep i ≤ D) (hk : k < 9223372036854775808) :
    Calls Tryd.prog 34 #[.pointer (some ⟨t, 0, none⟩), .int .i64 k] w fun e w' => e = .returned (.pointer (some ⟨pg k, 0, none⟩)) ∧ Keep [] w w' := by
  have hp := h.pow
  have hm := mask_i64 k D (by have := h.d6; omega) (by omega)
  have hlt : k % 2 ^ D < 2 ^ D := Nat.mod_lt _ (Nat.pow_pos (by decide))
  obtain ⟨i, hi⟩ : ∃ i, i = k % 2 ^ D := ⟨_, rfl⟩
  have hpg : pg i = pg k := by
    rw [h.one]
    rw [hi]
    push_cast
    exact Int.emod_emod_of_dvd _ (by
      obtain ⟨q, hq⟩ := Nat.exists_eq_add_of_le (hd k)
      rw [hq, Int.pow_add]
      exact ⟨_, rfl⟩)
  have hc := h.cell (i := i) (by omega)
  rw [hpg] at hc
  have x0 := h.top.cell_ (i := 0) rfl
  have x1 := h.top.cell_ (i := 1) rfl
  rw [← hi] at hm hlt
  obtain ⟨n, hn⟩ : ∃ n, n = 2 ^ D := ⟨_, rfl⟩
  obtain ⟨m, hmm⟩ : ∃ m, m = 2 ^ D - 1 := ⟨_, rfl⟩
  rw [← hmm] at hm
  have hd6 := h.d6
  have hsh : IntKind.i64.wrap ((2 : Int) ^ D) = (n : Int) := by
    rw [← pow_cast, ← hn]
    exact IntWalk.i64_in _ (by omega)
  have hs1 : IntKind.i64.wrap ((n : Int) - 1) = (m : Int) := by
    have : 0 < n := by rw [hn]; exact Nat.pow_pos (by decide)
    rw [show (n : Int) - 1 = (m : Int) by omega]
    exact IntWalk.i64_in _ (by omega)
  rw [← hn] at hlt x1 hp
  have hi0 : (0 : Int) ≤ (i : Int) := by omega
  have hin : (i : Int) < (n : Int) := by omega
  clear h hd hpg hn hmm hi
  go_enter Tryd.func34, Tryd.ntmps34
  go_wp2
  go_quiet (fail)
  go_wp2
  go_ret
  exact ⟨rfl, (Keep.refl _ _).drewN _⟩

theorem depth_any {O : Nat → Prop} {w : World} {t g cap D : Nat} {pg deep : Nat → Nat} {kv : Nat → Value} {S : List Int} (h : TAt O w t g cap D pg deep kv S) :
    Calls Tryd.prog 17 #[.pointer (some ⟨t, 0, none⟩)] w fun e w' => e = .returned (.int .i64 D) ∧ w = w' := by
  have x0 := h.top.cell_ (i := 0) rfl
  clear h
  go_enter Tryd.func17, Tryd.ntmps17
  go_wp2
  go_ret
  exact ⟨rfl, rfl⟩

/-- A new table. -/
theorem sNew_any (w : World) :
    Calls Tryd.prog 7 #[] w fun e w' => e = .returned (.pointer (some ⟨w.heap.size + 2, 0, none⟩)) ∧ TAt (fun x => w.heap.size ≤ x) w' (w.heap.size + 2) (w.heap.size + 1) 1 0 (fun _ => w.heap.size) (fun _ => 0) (fun _ => .slice none 0 0) [] ∧ Below w.heap.size w w' := by
  go_enter Tryd.func7, Tryd.ntmps7
  go_wp2
  go_ret
  have b1 := Blk.new w 62 [.int .i64 0, .slice none 0 0]
  have b2 := Blk.new (w.alloc (.cells #[.int .i64 0, .slice none 0 0] 62)) 60 [.pointer (some ⟨w.heap.size, 0, none⟩)]
  have b3 := Blk.new ((w.alloc (.cells #[.int .i64 0, .slice none 0 0] 62)).alloc (.cells #[.pointer (some ⟨w.heap.size, 0, none⟩)] 60)) 65 [.int .i64 0, .slice (some ⟨w.heap.size + 1, 0, none⟩) 1 1]
  rw [World.size_alloc] at b2
  rw [World.size_alloc, World.size_alloc] at b3
  refine ⟨rfl, ⟨b3, ⟨[], (b2.alloc _), by simp [ptrs]⟩, by unfold maxLen; omega, by omega, fun i => (b1.alloc _).alloc _, fun i => ?_, fun i j => ?_, fun i j x h => by simp [Value.ownBlock] at h, by omega, by omega, fun i => Nat.le_refl _, fun i x h => by simp [Value.ownBlock] at h, fun x hx => by simp at hx; omega⟩, (((Below.refl _ w).alloc (Nat.le_refl _) _).alloc (by simp) _).alloc (by simp; omega) _⟩
  · exact OwnInts.nil _ _
  · simp
end Go.Proofs.YthldhbcidcmmaaaDoor
