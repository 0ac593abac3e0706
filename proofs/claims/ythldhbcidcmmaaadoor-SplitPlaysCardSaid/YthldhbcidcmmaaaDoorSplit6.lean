/-
  split.Add, by its contract.
-/
import Derived.Test.YthldhbcidcmmaaaDoorSplit5
import Derived.Test.YthldhbcidcmmaaaDoorSplitLaw3
import Derived.Test.YthldhbcidcmmaaaDoorInsAt
import Derived.Test.YthldhbcidcmmaaaDoorErrW
namespace Go.Proofs.YthldhbcidcmmaaaDoor
open Go.RowKit

section
variable {O : Nat → Prop} {w w2 : World} {t g cap D k : Nat} {pg deep : Nat → Nat} {kv : Nat → Value} {S : List Int} {v' : Value} {o : Obj} {F : List Nat}
theorem TAt.deepq (h : TAt O w t g cap D pg deep kv S) {i j : Nat} (hp : pg i = pg j) : deep i = deep j ∧ kv i = kv j := by
  have h1 := h.pgs i
  rw [hp] at h1
  have := h1.uniq (h.pgs j)
  simp only [List.cons.injEq, Value.int.injEq, true_and, and_true] at this
  exact ⟨by omega, this.2⟩
theorem TAt.put (h : TAt O w t g cap D pg deep kv S) (hup : Up S) (hx : ¬ (k : Int) ∈ S) (hown : OwnInts w2 0 v' (insK (k : Int) (cls S k (deep k)))) (hk : Keep F (w.alloc o) w2) (hF : ∀ y ∈ F, some y = (kv k).ownBlock)
    (hat : v'.ownBlock = (kv k).ownBlock ∨ v'.ownBlock = some (w.alloc o).heap.size) :
    TAt O (w2.setCell ⟨pg k, 1, none⟩ v') t g cap D pg deep (fun q => if pg q = pg k then v' else kv q) (insK (k : Int) S) ∧ KeepP O w (w2.setCell ⟨pg k, 1, none⟩ v') := by
  have hsz : w.heap.size ≤ w2.heap.size := Nat.le_trans (by simp) hk.size
  have hold0 : ∀ y, y < w.heap.size → some y ≠ (kv k).ownBlock → w2.heap[y]? = w.heap[y]? := fun y hy hne =>
    (hk.block y (by simp; omega) (fun hm => hne (hF y hm))).trans (Below.heap_alloc w o y hy)
  have hold : ∀ y, y < w.heap.size → some y ≠ (kv k).ownBlock → y ≠ pg k → (w2.setCell ⟨pg k, 1, none⟩ v').heap[y]? = w.heap[y]? := fun y hy hne hp => (Below.heap_setCell w2 ⟨pg k, 1, none⟩ v' y hp).trans (hold0 y hy hne)
  obtain ⟨rest, ha, hal⟩ := h.arr
  have hpk : Blk w2 (pg k) 62 [.int .i64 (deep k), kv k] := (hold0 _ (h.pgs k).lt (fun e => h.kp k k _ e.symm rfl)).trans (h.pgs k)
  have hpk2 : Blk (w2.setCell ⟨pg k, 1, none⟩ v') (pg k) 62 [.int .i64 (deep k), v'] := by simpa using hpk.set 1 v'
  have hv : ∀ y, v'.ownBlock = some y → (kv k).ownBlock = some y ∨ w.heap.size < y := fun y hy => by
    rcases hat with e | e
    · exact .inl (by rw [← e]; exact hy)
    · rw [e] at hy
      simp only [Option.some.injEq] at hy
      have : w.heap.size < (w.alloc o).heap.size := by simp
      exact .inr (by omega)
  refine ⟨{ top := (hold t h.top.lt (fun e => h.kt k t e.symm rfl) (h.tp k)).trans h.top, arr := ⟨rest, (hold g ha.lt (fun e => h.kg k g e.symm rfl) (Ne.symm (h.pgg k))).trans ha, hal⟩, capm := h.capm, d6 := h.d6, pgs := fun q => ?_, key := fun q => ?_, one := h.one, sep := fun i j y hi hj => ?_, ot := h.ot, og := h.og, op := h.op, ok := fun q y hy => ?_, on := fun y hy => h.on y (by simp at hy; omega) }, ?_⟩
  · by_cases e : pg q = pg k
    · rw [if_pos e, e, (h.deepq e).1]; exact hpk2
    · rw [if_neg e]; exact (hold _ (h.pgs q).lt (fun e2 => h.kp k q _ e2.symm rfl) e).trans (h.pgs q)
  · have hc := h.one k q
    by_cases e : pg q = pg k
    · rw [if_pos e, cls_ins hup hx, if_pos (hc.1 e.symm)]
      have e2 : cls S q (deep q) = cls S k (deep k) := by rw [cls_congr (hc.1 e.symm).symm, (h.deepq e).1]
      rw [e2]
      exact hown.keep fun y hy => Below.heap_setCell w2 ⟨pg k, 1, none⟩ v' y (fun e3 => own_ne hown hpk (by decide) (by rw [hy, e3]))
    · rw [if_neg e, cls_ins hup hx, if_neg (fun h2 => e (hc.2 h2).symm)]
      exact (h.key q).keep fun y hy => hold y (h.kl q y hy) (fun e2 => e (h.sep q k y hy e2.symm)) (h.kp q k y hy)
  · by_cases ei : pg i = pg k <;> by_cases ej : pg j = pg k
    · rw [ei, ej]
    · rw [if_pos ei] at hi
      rw [if_neg ej] at hj
      rcases hv y hi with h1 | h1
      · exact absurd (h.sep j k y hj h1) ej
      · have := h.kl j y hj; omega
    · rw [if_neg ei] at hi
      rw [if_pos ej] at hj
      rcases hv y hj with h1 | h1
      · exact absurd (h.sep i k y hi h1) ei
      · have := h.kl i y hi; omega
    · rw [if_neg ei] at hi
      rw [if_neg ej] at hj
      exact h.sep i j y hi hj
  · by_cases e : pg q = pg k
    · rw [if_pos e] at hy
      rcases hv y hy with h1 | h1
      · exact h.ok k y h1
      · exact h.on y (by omega)
    · rw [if_neg e] at hy; exact h.ok q y hy
  · exact ⟨hk.os, hk.tape, hk.output, by simpa using hsz, fun y hy hO => hold y hy (fun e => hO (h.ok k y e.symm)) (fun e => hO (e ▸ h.op k))⟩
end

/-- A table in memory that holds the keys S. -/
def Tab (O : Nat → Prop) (w : World) (t : Nat) (S : List Int) : Prop := ∃ g cap D pg deep kv, TAt O w t g cap D pg deep kv S ∧ Dir S S D deep ∧ ∀ x ∈ S, x ≤ 1000000
def AddTab (O : Nat → Prop) (w : World) (t : Nat) (S : List Int) (x : Int) (e : Ending) (w' : World) : Prop := e = .returned (errw (addE S x)) ∧ Tab O w' t (addS S x) ∧ KeepP O w w'
def SplRel (O : Nat → Prop) (w : World) (t k : Nat) (S : List Int) (d : Nat) (wr : World) : Prop := ∃ g cap D pg deep kv, TAt O wr t g cap D pg deep kv S ∧ Dir S (insK (k : Int) S) D deep ∧ KeepP O w wr ∧ d = 6 - deep k

theorem tHas_is {O : Nat → Prop} {w : World} {t g cap D : Nat} {pg deep : Nat → Nat} {kv : Nat → Value} {S S' : List Int} (x : Int) (b : Bool) (h : TAt O w t g cap D pg deep kv S) (hd : Dir S S' D deep) (hx : x < 9223372036854775808) (hb : decide (x ∈ S) = b) :
    Calls Tryd.prog 13 #[.pointer (some ⟨t, 0, none⟩), .int .i64 x] w fun e w' => e = .returned (.bool b) ∧ Keep [] w w' := by
  subst hb; exact tHas_any x h hd hx
theorem same_is (a : Option Addr) (n c : Nat) (l : List Nat) (d : Nat) (b : Bool) (w : World) (hl : l.length = n) (h : IntsIn w w.heap.size a (natI l)) (h0 : 0 < n) (hn : n ≤ 1000) (hb : ∀ x ∈ l, x ≤ 1000000) (hd : d ≤ 30) (he : decide (allSame l d) = b) :
    Calls Tryd.prog 35 #[.slice a n c, .int .i64 d] w (SamePost w b) := by
  subst he; exact same_any a n c l d w hl h h0 hn hb hd

set_option maxHeartbeats 2000000 in
set_option maxRecDepth 100000 in
/-- The key's page has room: the end of Add. -/
theorem add_no (t : Nat) (x : Int) (w : World) (h : x < 0 ∨ 1000000 < x) : Calls Tryd.prog 9 #[.pointer (some ⟨t, 0, none⟩), .int .i64 x] w fun e w' => e = .returned (errv 1) ∧ w = w' := by
  go_enter Tryd.func9, Tryd.ntmps9
  go_wp2_with (go_at_call 32; refine (within_no _ _ _ _ h).mono ?_; rintro e w' ⟨rfl, rfl⟩)
  go_ret
  exact ⟨rfl, rfl⟩
theorem add_was {O : Nat → Prop} {w : World} {t g cap D : Nat} {pg deep : Nat → Nat} {kv : Nat → Value} {S S' : List Int} (x : Int) (h : TAt O w t g cap D pg deep kv S) (hd : Dir S S' D deep) (h0 : 0 ≤ x) (h1 : x ≤ 1000000) (hm : x ∈ S) :
    Calls Tryd.prog 9 #[.pointer (some ⟨t, 0, none⟩), .int .i64 x] w fun e w' => e = .returned (errv 6) ∧ Keep [] w w' := by
  have H := Lib.hid h; have HD := Lib.hid hd
  have HB : Hid (decide (x ∈ S) = true) := Lib.hid (by simpa using hm)
  clear h hd hm
  go_enter Tryd.func9, Tryd.ntmps9
  go_wp2_with fail
  refine (within_yes _ _ _ _ h0 h1).mono ?_
  rintro e w' ⟨rfl, rfl⟩
  go_wp2_with fail
  refine (tHas_is x true H.out HD.out (by omega) HB.out).mono ?_
  rintro e w1 ⟨rfl, hk⟩
  have HK := Lib.hid hk; clear hk
  go_wp2
  go_ret
  exact ⟨rfl, HK.out⟩
end Go.Proofs.YthldhbcidcmmaaaDoor
