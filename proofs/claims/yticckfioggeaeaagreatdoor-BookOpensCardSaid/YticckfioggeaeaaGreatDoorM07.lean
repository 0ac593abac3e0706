/-
  Several texts in one (merged by wip/merge.py): Append, ResCell, BookRef1.
-/
import Derived.Test.YticckfioggeaeaaGreatDoorM00
import Derived.Laws.AppendOwnNone
import Derived.Laws.ResultCell
import Derived.Laws.Rows
set_option linter.unusedVariables false
/-
  append of a whole list onto a row of the call's own, the list nil, empty or not.
-/
namespace Go.Proofs.YticckfioggeaeaaGreatDoor
open Go.RowKit

/-- What may be appended: nil, or numbers at an address. -/
def Src (w : World) (a : Option Addr) (m c : Nat) (news : List Value) : Prop :=
  news.length = m ∧ ((a = none ∧ m = 0 ∧ c = 0) ∨ ∃ ad, a = some ad ∧ ∀ (j : Nat) (u : Value), news[j]? = some u → w.cell? (ad.add j) = some u)

theorem src_ints {w : World} {B : Nat} {a : Option Addr} {xs : List Int} {m c : Nat} (hl : xs.length = m) (h : IntsIn w B a xs) (hz : a = none → c = 0) : Src w a m c (ints xs) := by
  refine ⟨by rw [ints_len, hl], ?_⟩
  cases a with
  | none =>
    refine .inl ⟨rfl, ?_, hz rfl⟩
    rcases Nat.eq_zero_or_pos xs.length with h0 | h0
    · omega
    · obtain ⟨b, off, e, _⟩ := h h0
      cases e
  | some ad =>
    refine .inr ⟨ad, rfl, fun j u hu => ?_⟩
    have hj : j < xs.length := by have := (List.getElem?_eq_some_iff.1 hu).1; rwa [ints_len] at this
    obtain ⟨b, off, e, _, hc⟩ := h (by omega)
    simp only [Option.some.injEq] at e
    subst e
    simp only [ints, List.getElem?_map, Option.map_eq_some_iff] at hu
    obtain ⟨x, hx, rfl⟩ := hu
    rw [add_addr]
    exact hc j x hx

theorem grownBy_refl (w : World) (r : Option Nat) : w.grownBy w r := ⟨rfl, rfl, rfl, Nat.le_refl _, fun _ _ _ => rfl⟩

theorem wpList_append_src {P : Program} {w : World} {ops : Array Oper} {rest : List Oper} {o : Oper} {a : Act} {Q : Exit → Act → World → Prop} (hgd : o.guard = none) (s x : Operand) (t : TypeId)
    (ho : o.op = .call { callee := .builtin .append, args := #[s, x], argTypes := #[t, t] })
    (base : Nat) (e : TypeId) (i : TypeInfo) (z : Value) (bytes : Nat) (ht : P.underlying t = some (.slice e)) (hi : P.info? e = some i) (hz : i.zero = some z)
    (hsize : i.size = 1) (hby : i.bytes = bytes) (hzs : z.cells.size = 1)
    (v : Value) (n : Nat) (xs : List Value) (hs : a.eval s = v) (hown : w.ownsRow base e 1 v n xs)
    (ad : Option Addr) (m c : Nat) (news : List Value) (hx : a.eval x = .slice ad m c) (hsrc : Src w ad m c news) (h1 : ∀ u ∈ news, u.oneCell' = true)
    (h63 : n + m ≤ maxLen) (hbytes : (n + m) * bytes ≤ 140737488355328) (hbase : base ≤ w.heap.size)
    (h : ∀ v' w', w'.ownsRow base e 1 v' (n + m) (xs ++ news) → w.grownBy w' v.ownBlock → wpList P ops Q rest (a.put o.dst v') w') : wpList P ops Q (o :: rest) a w := by
  obtain ⟨hl, ⟨rfl, rfl, rfl⟩ | ⟨ad, rfl, hc⟩⟩ := hsrc
  · have : news = [] := List.length_eq_zero_iff.1 hl
    subst this
    exact wpList_append_own_none hgd s x t ho base e i 1 ht hi v n xs hs hown hx (h v w (by simpa using hown) (grownBy_refl _ _))
  · exact wpList_append_own w hgd s x t ho base e i z 1 bytes ht hi hz hsize hby hzs (by decide) v n xs hs hown ad m c news hx (by rw [hl]; simp) hc h1 h63 hbytes hbase (fun v' w' a b _ => h v' w' a b)
theorem ints_one (l : List Int) : ∀ u ∈ ints l, u.oneCell' = true := by
  intro u hu
  simp only [ints, List.mem_map] at hu
  obtain ⟨x, _, rfl⟩ := hu
  rfl
end Go.Proofs.YticckfioggeaeaaGreatDoor

/-
  A struct result that lies in a block.
-/
namespace Go.Proofs.YticckfioggeaeaaGreatDoor
open Go.RowKit

/-- A struct result that lies in a block. -/
theorem results_cell1 {P : Program} {fn : Func} {p : Tmp} {ty : TypeId} (h : fn.results = #[.cell p ty]) (tmps : Array Value) (w : World) (g : Nat) (t : TypeId) (cs : List Value) (d : TypeDesc)
    (hp : tmps.getD p undef = .pointer (some ⟨g, 0, none⟩)) (hg : Blk w g t cs) (hu : P.underlying ty = some d) (hd : (match d with | .struct _ | .array _ _ => true | _ => false) = true) (hi : (P.info? ty).map (·.size) = some cs.toArray.size) :
    (results fn tmps).run P w = .ok (.agg cs.toArray) w := results_cell_row h tmps w g t cs.toArray (0, 0) d hp hg hu hd hi
theorem results_cell2 {P : Program} {fn : Func} {p u : Tmp} {ty : TypeId} (h : fn.results = #[.cell p ty, .tmp u]) (tmps : Array Value) (w : World) (g : Nat) (t : TypeId) (cs : List Value) (d : TypeDesc)
    (hp : tmps.getD p undef = .pointer (some ⟨g, 0, none⟩)) (hg : Blk w g t cs) (hu : P.underlying ty = some d) (hd : (match d with | .struct _ | .array _ _ => true | _ => false) = true) (hi : (P.info? ty).map (·.size) = some cs.toArray.size) :
    (results fn tmps).run P w = .ok (.tuple #[.agg cs.toArray, tmps.getD u undef]) w := by
  rw [results_cell_tmp h, hp]
  simp [asAddr, run_loadVar_row w g t ty cs.toArray (0, 0) d hg hu hd hi, Result.andThen]
theorem results_cell3 {P : Program} {fn : Func} {p u v : Tmp} {ty : TypeId} (h : fn.results = #[.cell p ty, .tmp u, .tmp v]) (tmps : Array Value) (w : World) (g : Nat) (t : TypeId) (cs : List Value) (d : TypeDesc)
    (hp : tmps.getD p undef = .pointer (some ⟨g, 0, none⟩)) (hg : Blk w g t cs) (hu : P.underlying ty = some d) (hd : (match d with | .struct _ | .array _ _ => true | _ => false) = true) (hi : (P.info? ty).map (·.size) = some cs.toArray.size) :
    (results fn tmps).run P w = .ok (.tuple #[.agg cs.toArray, tmps.getD u undef, tmps.getD v undef]) w := by
  have hp' : tmps[p]?.getD undef = .pointer (some ⟨g, 0, none⟩) := by simpa using hp
  simp [results, h, hp', asAddr, run_loadVar_row w g t ty cs.toArray (0, 0) d hg hu hd hi]
end Go.Proofs.YticckfioggeaeaaGreatDoor

/-
  The reference's Place, Put (at the head), less: over lists that are never written again; by their contracts.
-/
namespace Go.Proofs.YticckfioggeaeaaGreatDoor
open Go.RowKit

def plOf (l : List Int) (x : Int) : Int := if l.findIdx (· == x) < l.length then (l.findIdx (· == x) : Nat) else -1
theorem plOf_hit {l : List Int} {x : Int} {i : Nat} (hi : i < l.length) (h1 : l[i] = x) (h2 : ∀ j (hj : j < l.length), j < i → l[j] ≠ x) : plOf l x = i := by
  have e : l.findIdx (· == x) = i := by
    rw [List.findIdx_eq hi]
    exact ⟨by simp [h1], fun j hj => by simpa using h2 j (by omega) hj⟩
  unfold plOf; rw [e, if_pos hi]
theorem plOf_none {l : List Int} {x : Int} (h : ∀ y ∈ l, y ≠ x) : plOf l x = -1 := by
  have e : l.findIdx (· == x) = l.length := by
    rw [List.findIdx_eq_length]
    exact fun y hy => by simpa using h y hy
  unfold plOf; rw [e, if_neg (Nat.lt_irrefl _)]

theorem rPlace (a : Option Addr) (n c B : Nat) (l : List Int) (x : Int) (w : World) (hl : l.length = n) (h : IntsIn w B a l) (hn : n ≤ 100000000000) :
    Calls Tryz.prog 82 #[.slice a n c, .int .i64 x] w fun e w' => e = .returned (.int .i64 (plOf l x)) ∧ w = w' := by
  have HL := Lib.hid hl; clear hl
  have hn2 : (n : Int) ≤ 20000000000000 := by omega
  go_enter Tryz.func82, Tryz.ntmps82
  go_wp2
  go_loop [5] (fun i => ∃ k : Nat, k ≤ n ∧ i = .int .i64 k ∧ ∀ j (hj : j < l.length), j < k → l[j] ≠ x) (fun i => n - (intOf i).toNat)
  case atStart => exact ⟨0, Nat.zero_le _, rfl, fun j hj h => by omega⟩
  case round =>
    obtain ⟨k, hk, rfl, hbef⟩ := hrel
    have HB := Lib.hid hbef; clear hbef
    by_cases hlt : k < n
    · have hkL : k < l.length := by rw [HL.out]; exact hlt
      obtain ⟨b, off, rfl, _, hc⟩ := h.at_ hkL
      obtain ⟨y, hy⟩ : ∃ y, y = l[k] := ⟨_, rfl⟩
      rw [← hy] at hc
      have HY := Lib.hid hy
      clear hy
      have hki : (k : Int) < (n : Int) := by omega
      have hk0 : (0 : Int) ≤ (k : Int) := by omega
      by_cases e : y = x
      · have HP : Hid (plOf l x = k) := Lib.hid (plOf_hit hkL (by rw [← HY.out]; exact e) HB.out)
        have e' : (y == x) = true := by rw [e]; simp
        clear e
        go_wp2
        go_ret
        exact ⟨ret_int HP.out.symm, rfl⟩
      · have e' : (y == x) = false := beq_eq_false_iff_ne.2 e
        go_wp2
        go_round
        case rel => exact ⟨k + 1, hlt, by go_num, fun j hj hjk => by
          by_cases ej : j = k
          · subst ej; rw [← HY.out]; exact e
          · exact HB.out j hj (by omega)⟩
        case measure => simp [intOf]; omega
    · obtain rfl : k = n := by omega
      have HP : Hid (plOf l x = -1) := Lib.hid (plOf_none fun y hy => by
        obtain ⟨j, hj, rfl⟩ := List.getElem_of_mem hy
        exact HB.out j hj (by rw [← HL.out]; exact hj))
      go_wp2
      go_ret
      exact ⟨ret_int HP.out.symm, rfl⟩

/-- A value of a list that is never written again. -/
theorem own_src {w : World} {base : Nat} {g cap : Nat} {l : List Int} {n : Nat} (h : OwnInts w base (.slice (some ⟨g, 0, none⟩) n cap) l) : n = l.length ∧ n ≤ cap ∧ cap ≤ maxLen ∧ base ≤ g ∧ g < w.heap.size ∧
    (∀ i, i ≤ n → Src w (some ⟨g, 0, none⟩) i cap (ints (l.take i))) ∧
    (∀ i, i ≤ n → Src w (if cap = i then some ⟨g, 0, none⟩ else some ⟨g, i, none⟩) (n - i) (cap - i) (ints (l.drop i))) := by
  obtain ⟨hl, ⟨e, hn⟩ | ⟨g', cap', cur, e, hb, hh, hc, hm, hs, ht⟩⟩ := h
  · cases e
  · injection e with e1 e2 e3
    injection e1 with e1
    injection e1 with e1
    subst e1 e2 e3
    have hlt : g < w.heap.size := by
      rcases Nat.lt_or_ge g w.heap.size with h | h
      · exact h
      · rw [Array.getElem?_eq_none h] at hh; cases hh
    have hget : ∀ (i : Nat) (x : Int), l[i]? = some x → w.cell? ⟨g, i, none⟩ = some (.int .i64 x) := fun i x hx => by
      have hi : i < l.length := (List.getElem?_eq_some_iff.1 hx).1
      have h2 : (cur.toList.take (l.length * 1))[i]? = (ints l)[i]? := by rw [ht]
      rw [List.getElem?_take_of_lt (by omega), ints_get hx] at h2
      have hb : Blk w g 3 cur.toList := by unfold Blk; simpa using hh
      exact hb.cell_ h2
    refine ⟨rfl, hc, hm, hb, hlt, fun i hi => ⟨by simp [ints]; omega, .inr ⟨_, rfl, fun j u hu => ?_⟩⟩, fun i hi => ⟨by simp [ints], ?_⟩⟩
    · simp only [ints, List.getElem?_map, Option.map_eq_some_iff] at hu
      obtain ⟨x, hx, rfl⟩ := hu
      rw [add_addr, Nat.zero_add]
      have hj := (List.getElem?_eq_some_iff.1 hx).1
      rw [List.length_take] at hj
      rw [List.getElem?_take_of_lt (by omega)] at hx
      exact hget j x hx
    · by_cases e : cap = i
      · refine .inr ⟨⟨g, 0, none⟩, by rw [if_pos e], fun j u hu => ?_⟩
        have hj := (List.getElem?_eq_some_iff.1 hu).1
        rw [ints_len, List.length_drop] at hj
        omega
      · refine .inr ⟨⟨g, i, none⟩, by rw [if_neg e], fun j u hu => ?_⟩
        simp only [ints, List.getElem?_map, Option.map_eq_some_iff] at hu
        obtain ⟨x, hx, rfl⟩ := hu
        rw [add_addr]
        rw [List.getElem?_drop] at hx
        exact hget _ x hx
theorem Src.on {w w' : World} {a : Option Addr} {m c : Nat} {news : List Value} (h : Src w a m c news) (hk : ∀ b, b < w.heap.size → w'.heap[b]? = w.heap[b]?) : Src w' a m c news := by
  obtain ⟨hl, h | ⟨ad, e, hc⟩⟩ := h
  · exact ⟨hl, .inl h⟩
  · refine ⟨hl, .inr ⟨ad, e, fun j u hu => ?_⟩⟩
    have h1 := hc j u hu
    have h2 := World.block_lt_of_cell? w _ h1
    exact (World.cell?_of_block (w := w) (hk _ h2)).trans h1
def OutPost (w : World) (l : List Int) (e : Ending) (w' : World) : Prop := ∃ v, e = .returned v ∧ OwnInts w' w.heap.size v l ∧ Below w.heap.size w w'

set_option maxRecDepth 100000 in
theorem rLess (v : Value) (base i : Nat) (l : List Int) (w : World) (h : OwnInts w base v l) (hi : i < l.length) (hn : l.length ≤ 1000) :
    Calls Tryz.prog 79 #[v, .int .i64 i] w (OutPost w (l.eraseIdx i)) := by
  obtain ⟨i0, hi0, hz0, hz1, hz2⟩ := info_parts info_int
  obtain ⟨g, cap, rfl⟩ : ∃ g cap, v = .slice (some ⟨g, 0, none⟩) l.length cap := by
    obtain ⟨hl, ⟨rfl, hn⟩ | ⟨g', cap', cur, rfl, _⟩⟩ := h
    · omega
    · exact ⟨g', cap', rfl⟩
  obtain ⟨n, hn0⟩ : ∃ n, n = l.length := ⟨_, rfl⟩
  rw [← hn0] at h hi hn ⊢
  obtain ⟨-, hnc, hcm, -, hg, h1, h2⟩ := own_src h
  have HT := Lib.hid (h1 i (by omega)); have HD := Lib.hid (h2 (i + 1) (by omega))
  have HN := Lib.hid hn0
  have hcm2 : (cap : Int) ≤ 9223372036854775807 := by unfold maxLen at hcm; omega
  clear h1 h2 h hn0
  go_enter Tryz.func79, Tryz.ntmps79
  go_wp2_with (first
    | (at_builtin; refine wpList_append_src rfl (.tmp 6) (.tmp 9) 22 rfl w.heap.size 3 i0 (.int .i64 0) 8 Tryz.underlying22 hi0 hz0 hz1 hz2 rfl (.slice none 0 0) 0 [] rfl (World.ownsRow_nil _ _ _ _) (some ⟨g, 0, none⟩) i cap (ints (l.take i)) rfl HT.out (ints_one _) (by unfold maxLen; omega) (by omega) (Nat.le_refl _) ?_; intro v1 w1 hown1 hgrow1; have HB1 := Lib.hid ((Below.refl w.heap.size w).grown hgrow1 (Nat.le_refl _) (by simp [Value.ownBlock])); have HO1 := Lib.hid hown1; clear hown1 hgrow1)
    | (at_builtin; refine wpList_append_src rfl (.tmp 11) (.tmp 15) 22 rfl w.heap.size 3 i0 (.int .i64 0) 8 Tryz.underlying22 hi0 hz0 hz1 hz2 rfl v1 (0 + i) ([] ++ ints (l.take i)) rfl HO1.out (if cap = i + 1 then some ⟨g, 0, none⟩ else some ⟨g, i + 1, none⟩) (n - (i + 1)) (cap - (i + 1)) (ints (l.drop (i + 1))) rfl (HD.out.on HB1.out.block) (ints_one _) (by unfold maxLen; omega) (by omega) HB1.out.size ?_; intro v2 w2 hown2 hgrow2; have HB2 := Lib.hid (HB1.out.grown hgrow2 HB1.out.size (fun z hz => (World.ownsRow.lt HO1.out z hz).1)); have HO2 := Lib.hid hown2; clear hown2 hgrow2))
  all_goals
    go_ret
    refine ⟨_, rfl, ?_, HB2.out⟩
    have := HO2.out
    unfold OwnInts
    rw [List.eraseIdx_eq_take_drop_succ, List.length_append, List.length_take, List.length_drop, ← HN.out]
    rw [show min i n + (n - (i + 1)) = 0 + i + (n - (i + 1)) by omega, show ints (l.take i ++ l.drop (i + 1)) = [] ++ ints (l.take i) ++ ints (l.drop (i + 1)) by simp [ints]]
    exact this

theorem zero_src {w : World} {base : Nat} {v : Value} {l : List Int} (h : OwnInts w base v l) : ∃ a c, v = .slice a l.length c ∧ (a = none → c = 0) ∧ l.length ≤ c ∧ c ≤ maxLen ∧ (∀ g, v.ownBlock = some g → base ≤ g ∧ g < w.heap.size) ∧ Src w a 0 c [] ∧ Src w a l.length c (ints l) ∧ (a = none ∨ ∃ g, a = some ⟨g, 0, none⟩) := by
  obtain ⟨hl, ⟨rfl, hn⟩ | ⟨g, cap, cur, rfl, hb, hh, hc, hm, hs, ht⟩⟩ := h
  · have : l = [] := List.length_eq_zero_iff.1 hn
    subst this
    exact ⟨none, 0, rfl, fun _ => rfl, Nat.le_refl _, by unfold maxLen; omega, by simp [Value.ownBlock], ⟨rfl, .inl ⟨rfl, rfl, rfl⟩⟩, ⟨rfl, .inl ⟨rfl, rfl, rfl⟩⟩, .inl rfl⟩
  · have h : OwnInts w base (.slice (some ⟨g, 0, none⟩) l.length cap) l := ⟨hl, .inr ⟨g, cap, cur, rfl, hb, hh, hc, hm, hs, ht⟩⟩
    obtain ⟨_, _, _, h1, h2, h3, _⟩ := own_src h
    have h0 := h3 0 (Nat.zero_le _)
    have h4 := h3 l.length (Nat.le_refl _)
    rw [List.take_length] at h4
    exact ⟨_, cap, rfl, by simp, hc, hm, fun g' e => by simp [Value.ownBlock] at e; subst e; exact ⟨h1, h2⟩, h0, h4, .inr ⟨g, rfl⟩⟩

set_option maxRecDepth 100000 in
theorem rPut0 (v : Value) (base : Nat) (x : Int) (l : List Int) (w : World) (h : OwnInts w base v l) (hn : l.length ≤ 1000) :
    Calls Tryz.prog 98 #[v, .int .i64 0, .int .i64 x] w (OutPost w (x :: l)) := by
  obtain ⟨i0, hi0, hz0, hz1, hz2⟩ := info_parts info_int
  obtain ⟨a, c, rfl, hac, hnc, hcm, _, hs0, hsn, ha⟩ := zero_src h
  obtain ⟨n, hn0⟩ : ∃ n, n = l.length := ⟨_, rfl⟩
  rw [← hn0] at hn hnc hsn ⊢
  have HS0 := Lib.hid hs0; have HSN := Lib.hid hsn; have HN := Lib.hid hn0
  have hcm2 : (c : Int) ≤ 9223372036854775807 := by unfold maxLen at hcm; omega
  clear hs0 hsn hn0 h
  have HC := Lib.hid hac
  clear hac
  rcases ha with rfl | ⟨g, rfl⟩
  · obtain rfl := HC.out rfl
    obtain rfl : n = 0 := by omega
    go_enter Tryz.func98, Tryz.ntmps98
    go_wp2_with (first
      | (at_builtin; refine wpList_append_src rfl (.tmp 17) (.tmp 20) 22 rfl w.heap.size 3 i0 (.int .i64 0) 8 Tryz.underlying22 hi0 hz0 hz1 hz2 rfl v2 1 [.int .i64 x] rfl HO2.out none 0 0 (ints l) rfl (HSN.out.on HB2.out.block) (ints_one _) (by unfold maxLen; omega) (by omega) HB2.out.size ?_; intro v3 w3 hown3 hgrow3; have HB3 := Lib.hid (HB2.out.grown hgrow3 HB2.out.size (fun z hz => (World.ownsRow.lt HO2.out z hz).1)); have HO3 := Lib.hid hown3; clear hown3 hgrow3)
      | (at_builtin; refine wpList_append_src rfl (.tmp 13) (.tmp 15) 22 rfl w.heap.size 3 i0 (.int .i64 0) 8 Tryz.underlying22 hi0 hz0 hz1 hz2 rfl v1 0 [] rfl (HO1.out.alloc _) (some ⟨w1.heap.size, 0, none⟩) 1 1 [.int .i64 x] rfl ⟨rfl, .inr ⟨_, rfl, by intro p u hp; match p, hp with | 0, hp => simp at hp; subst hp; simp [Addr.add]⟩⟩ (by intro u hu; simp at hu; subst hu; rfl) (by unfold maxLen; omega) (by omega) (by simp; omega) ?_; intro v2 w2 hown2 hgrow2; have HB2 := Lib.hid ((HB1.out.alloc hsz1 _).grown hgrow2 (by simp; omega) (fun z hz => (World.ownsRow.lt HO1.out z hz).1)); have HO2 := Lib.hid (by simpa using hown2 : w2.ownsRow w.heap.size 3 1 v2 1 [.int .i64 x]); clear hown2 hgrow2)
      | (at_builtin; refine wpList_append_src rfl (.tmp 8) (.tmp 11) 22 rfl w.heap.size 3 i0 (.int .i64 0) 8 Tryz.underlying22 hi0 hz0 hz1 hz2 rfl (.slice none 0 0) 0 [] rfl (World.ownsRow_nil _ _ _ _) none 0 0 [] rfl HS0.out (by simp) (by unfold maxLen; omega) (by omega) (Nat.le_refl _) ?_; intro v1 w1 hown1 hgrow1; have HB1 := Lib.hid ((Below.refl w.heap.size w).grown hgrow1 (Nat.le_refl _) (by simp [Value.ownBlock])); have HO1 := Lib.hid (by simpa using hown1 : w1.ownsRow w.heap.size 3 1 v1 0 []); have hsz1 := HB1.out.size; clear hown1 hgrow1))
    go_ret
    refine ⟨_, rfl, ?_, HB3.out⟩
    have := HO3.out
    unfold OwnInts
    rw [List.length_cons, ← HN.out, Nat.add_comm]
    simpa [ints] using this
  · by_cases e : c = 0
    · subst e
      obtain rfl : n = 0 := by omega
      go_enter Tryz.func98, Tryz.ntmps98
      go_wp2_with (first
        | (at_builtin; refine wpList_append_src rfl (.tmp 17) (.tmp 20) 22 rfl w.heap.size 3 i0 (.int .i64 0) 8 Tryz.underlying22 hi0 hz0 hz1 hz2 rfl v2 1 [.int .i64 x] rfl HO2.out (some ⟨g, 0, none⟩) 0 0 (ints l) rfl (HSN.out.on HB2.out.block) (ints_one _) (by unfold maxLen; omega) (by omega) HB2.out.size ?_; intro v3 w3 hown3 hgrow3; have HB3 := Lib.hid (HB2.out.grown hgrow3 HB2.out.size (fun z hz => (World.ownsRow.lt HO2.out z hz).1)); have HO3 := Lib.hid hown3; clear hown3 hgrow3)
        | (at_builtin; refine wpList_append_src rfl (.tmp 13) (.tmp 15) 22 rfl w.heap.size 3 i0 (.int .i64 0) 8 Tryz.underlying22 hi0 hz0 hz1 hz2 rfl v1 0 [] rfl (HO1.out.alloc _) (some ⟨w1.heap.size, 0, none⟩) 1 1 [.int .i64 x] rfl ⟨rfl, .inr ⟨_, rfl, by intro p u hp; match p, hp with | 0, hp => simp at hp; subst hp; simp [Addr.add]⟩⟩ (by intro u hu; simp at hu; subst hu; rfl) (by unfold maxLen; omega) (by omega) (by simp; omega) ?_; intro v2 w2 hown2 hgrow2; have HB2 := Lib.hid ((HB1.out.alloc hsz1 _).grown hgrow2 (by simp; omega) (fun z hz => (World.ownsRow.lt HO1.out z hz).1)); have HO2 := Lib.hid (by simpa using hown2 : w2.ownsRow w.heap.size 3 1 v2 1 [.int .i64 x]); clear hown2 hgrow2)
        | (at_builtin; refine wpList_append_src rfl (.tmp 8) (.tmp 11) 22 rfl w.heap.size 3 i0 (.int .i64 0) 8 Tryz.underlying22 hi0 hz0 hz1 hz2 rfl (.slice none 0 0) 0 [] rfl (World.ownsRow_nil _ _ _ _) (some ⟨g, 0, none⟩) 0 0 [] rfl HS0.out (by simp) (by unfold maxLen; omega) (by omega) (Nat.le_refl _) ?_; intro v1 w1 hown1 hgrow1; have HB1 := Lib.hid ((Below.refl w.heap.size w).grown hgrow1 (Nat.le_refl _) (by simp [Value.ownBlock])); have HO1 := Lib.hid (by simpa using hown1 : w1.ownsRow w.heap.size 3 1 v1 0 []); have hsz1 := HB1.out.size; clear hown1 hgrow1))
      go_ret
      refine ⟨_, rfl, ?_, HB3.out⟩
      have := HO3.out
      unfold OwnInts
      rw [List.length_cons, ← HN.out, Nat.add_comm]
      simpa [ints] using this
    · go_enter Tryz.func98, Tryz.ntmps98
      go_wp2_with (first
        | (at_builtin; refine wpList_append_src rfl (.tmp 17) (.tmp 20) 22 rfl w.heap.size 3 i0 (.int .i64 0) 8 Tryz.underlying22 hi0 hz0 hz1 hz2 rfl v2 1 [.int .i64 x] rfl HO2.out (some ⟨g, 0, none⟩) n c (ints l) rfl (HSN.out.on HB2.out.block) (ints_one _) (by unfold maxLen; omega) (by omega) HB2.out.size ?_; intro v3 w3 hown3 hgrow3; have HB3 := Lib.hid (HB2.out.grown hgrow3 HB2.out.size (fun z hz => (World.ownsRow.lt HO2.out z hz).1)); have HO3 := Lib.hid hown3; clear hown3 hgrow3)
        | (at_builtin; refine wpList_append_src rfl (.tmp 13) (.tmp 15) 22 rfl w.heap.size 3 i0 (.int .i64 0) 8 Tryz.underlying22 hi0 hz0 hz1 hz2 rfl v1 0 [] rfl (HO1.out.alloc _) (some ⟨w1.heap.size, 0, none⟩) 1 1 [.int .i64 x] rfl ⟨rfl, .inr ⟨_, rfl, by intro p u hp; match p, hp with | 0, hp => simp at hp; subst hp; simp [Addr.add]⟩⟩ (by intro u hu; simp at hu; subst hu; rfl) (by unfold maxLen; omega) (by omega) (by simp; omega) ?_; intro v2 w2 hown2 hgrow2; have HB2 := Lib.hid ((HB1.out.alloc hsz1 _).grown hgrow2 (by simp; omega) (fun z hz => (World.ownsRow.lt HO1.out z hz).1)); have HO2 := Lib.hid (by simpa using hown2 : w2.ownsRow w.heap.size 3 1 v2 1 [.int .i64 x]); clear hown2 hgrow2)
        | (at_builtin; refine wpList_append_src rfl (.tmp 8) (.tmp 11) 22 rfl w.heap.size 3 i0 (.int .i64 0) 8 Tryz.underlying22 hi0 hz0 hz1 hz2 rfl (.slice none 0 0) 0 [] rfl (World.ownsRow_nil _ _ _ _) (some ⟨g, 0, none⟩) 0 c [] rfl HS0.out (by simp) (by unfold maxLen; omega) (by omega) (Nat.le_refl _) ?_; intro v1 w1 hown1 hgrow1; have HB1 := Lib.hid ((Below.refl w.heap.size w).grown hgrow1 (Nat.le_refl _) (by simp [Value.ownBlock])); have HO1 := Lib.hid (by simpa using hown1 : w1.ownsRow w.heap.size 3 1 v1 0 []); have hsz1 := HB1.out.size; clear hown1 hgrow1))
      go_ret
      refine ⟨_, rfl, ?_, HB3.out⟩
      have := HO3.out
      unfold OwnInts
      rw [List.length_cons, ← HN.out, Nat.add_comm]
      simpa [ints] using this
end Go.Proofs.YticckfioggeaeaaGreatDoor
