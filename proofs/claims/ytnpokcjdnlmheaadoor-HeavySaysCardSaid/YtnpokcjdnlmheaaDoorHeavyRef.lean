/-
  The reference's find, Keys, Keep, by their contracts (printed by wip/gen_heavyref.py).
-/
import Derived.Test.YtnpokcjdnlmheaaDoorHeavyKeepX
import Derived.Laws.AppendOwnNone
import Derived.Deep.AppendLies
import Derived.Deep.RegionLaw
namespace Go.Proofs.YtnpokcjdnlmheaaDoor
open Go.RowKit

theorem keepOf_mg {keep : Nat} (l : List Int) : ∃ D, MG keep l (keepOf keep l) D := by
  refine snoc_ind (P := fun l => ∃ D, MG keep l (keepOf keep l) D) ⟨0, mg_nil keep⟩ (fun l x ih => ?_) l
  obtain ⟨D, ih⟩ := ih
  rw [keepOf_snoc]
  obtain ⟨L, hL⟩ : ∃ L, L = keepOf keep l := ⟨_, rfl⟩
  rw [← hL] at ih ⊢
  by_cases h : ∃ y ∈ L, (y.1 == x) = true
  · have hlt : L.findIdx (fun y => y.1 == x) < L.length := List.findIdx_lt_length.2 h
    have h1 : (L[L.findIdx (fun y => y.1 == x)].1 == x) = true := List.findIdx_getElem (w := hlt)
    have := ih.hit (List.getElem?_eq_getElem hlt)
    have hx : L[L.findIdx (fun y => y.1 == x)].1 = x := by simpa using h1
    unfold keepStep
    rw [if_pos hlt]
    rw [hx] at this
    exact ⟨D, by simpa [List.getD, List.getElem?_eq_getElem hlt] using this⟩
  · have hno : ∀ y ∈ L, (y.1 == x) = false := fun y hy => by
      cases g : (y.1 == x) with
      | false => rfl
      | true => exact absurd ⟨y, hy, g⟩ h
    have hno2 : ∀ y ∈ L, y.1 ≠ x := fun y hy => by simpa using hno y hy
    rw [keepStep_none hno]
    by_cases hl : L.length < keep
    · rw [if_pos hl]; exact ⟨D, ih.add hno2 hl⟩
    · rw [if_neg hl]; exact ⟨D + 1, ih.dec hno2 (by omega)⟩

/-- Both ways to keep. -/
def kOf (sp : Bool) (keep : Nat) (l : List Int) : List (Int × Int) := if sp = true then spaceOf keep l else keepOf keep l
def kStep (sp : Bool) (keep : Nat) (L : List (Int × Int)) (x : Int) : List (Int × Int) := if sp = true then spaceStep keep L x else keepStep keep L x
theorem kOf_snoc (sp : Bool) (keep : Nat) (l : List Int) (x : Int) : kOf sp keep (l ++ [x]) = kStep sp keep (kOf sp keep l) x := by
  cases sp
  · exact keepOf_snoc keep l x
  · exact spaceOf_snoc keep l x
theorem kOf_bd {sp : Bool} {keep : Nat} (hk : 1 ≤ keep) (l : List Int) : (kOf sp keep l).length ≤ keep ∧ ∀ x ∈ kOf sp keep l, 1 ≤ x.2 ∧ x.2 ≤ l.length := by
  cases sp
  · obtain ⟨D, h⟩ := keepOf_mg (keep := keep) l
    exact ⟨h.len, fun x hx => h.bd hx⟩
  · have h := spaceOf_ss hk l
    exact ⟨h.len, fun x hx => h.bd hx⟩
theorem kStep_hit {sp : Bool} {keep : Nat} {L : List (Int × Int)} {k : Int} {i : Nat} (hi : i < L.length) (h1 : (L[i].1 == k) = true) (h2 : ∀ j (hj : j < L.length), j < i → (L[j].1 == k) = false) : kStep sp keep L k = L.set i (k, L[i].2 + 1) := by
  cases sp
  · exact keepStep_hit hi h1 h2
  · exact step_hit hi h1 h2
theorem kStep_room {sp : Bool} {keep : Nat} {L : List (Int × Int)} {k : Int} (h : ∀ x ∈ L, (x.1 == k) = false) (hl : L.length < keep) : kStep sp keep L k = L ++ [(k, 1)] := by
  cases sp
  · exact (keepStep_none h).trans (if_pos hl)
  · exact (step_none h).trans (if_pos hl)

def KFPost (x : Int) (L : List (Int × Int)) (w : World) (e : Ending) (w' : World) : Prop :=
  ((∃ (i : Nat) (hi : i < L.length), (L[i].1 == x) = true ∧ (∀ j (hj : j < L.length), j < i → (L[j].1 == x) = false) ∧ e = .returned (.int .i64 i)) ∨ ((∀ y ∈ L, (y.1 == x) = false) ∧ e = .returned (.int .i64 (-1)))) ∧ w = w'
theorem kfind (n c g : Nat) (a : Option Addr) (x : Int) (L : List (Int × Int)) (w : World) (hl : L.length = n) (ha : 0 < n → a = some ⟨g, 0, none⟩) (hk : KIn w g L) (hn : n ≤ 1000) :
    Calls Tryd.prog 42 #[.slice a n c, .int .i64 x] w (KFPost x L w) := by
  have HL := Lib.hid hl; have HK := Lib.hid hk; have HA := Lib.hid ha; clear hl hk ha
  have hn2 : (n : Int) ≤ 1000 := by omega
  go_enter Tryd.func42, Tryd.ntmps42
  go_wp2
  go_loop [5] (fun i => ∃ k : Nat, k ≤ n ∧ i = .int .i64 k ∧ ∀ j (hj : j < L.length), j < k → (L[j].1 == x) = false) (fun i => n - (intOf i).toNat)
  case atStart => exact ⟨0, Nat.zero_le _, rfl, fun j hj h => by omega⟩
  case round =>
    obtain ⟨k, hk, rfl, hbef⟩ := hrel
    have HB := Lib.hid hbef; clear hbef
    by_cases hlt : k < n
    · have hkL : k < L.length := by rw [HL.out]; exact hlt
      obtain ⟨p0, p1⟩ := HK.out k _ (List.getElem?_eq_getElem hkL)
      obtain rfl := HA.out (by omega)
      obtain ⟨y, hy⟩ : ∃ y, y = L[k] := ⟨_, rfl⟩
      rw [← hy] at p0 p1
      have HY := Lib.hid hy
      clear hy
      have hki : (k : Int) < (n : Int) := by omega
      have hk0 : (0 : Int) ≤ (k : Int) := by omega
      by_cases e : y.1 = x
      · have e' : (y.1 == x) = true := by rw [e]; simp
        go_wp2
        go_ret
        exact ⟨.inl ⟨k, hkL, by rw [← HY.out]; exact e', HB.out, rfl⟩, rfl⟩
      · have e' : (y.1 == x) = false := beq_eq_false_iff_ne.2 e
        go_wp2
        go_round
        case rel => exact ⟨k + 1, hlt, by go_num, fun j hj hjk => by
          by_cases ej : j = k
          · subst ej; rw [← HY.out]; exact e'
          · exact HB.out j hj (by omega)⟩
        case measure => simp [intOf]; omega
    · obtain rfl : k = n := by omega
      go_wp2
      go_ret
      refine ⟨.inr ⟨fun y hy => ?_, rfl⟩, rfl⟩
      obtain ⟨j, hj, rfl⟩ := List.getElem_of_mem hy
      exact HB.out j hj (by rw [← HL.out]; exact hj)

theorem below_drewN {B : Nat} {a w : World} (h : Below B a w) (n : Nat) : Below B a (w.drewN n) := ⟨h.os, h.tape, h.output, h.size, h.block⟩
def N3Rel (W0 : World) (T : List (Int × Int)) (n : Nat) (v i : Value) (wy : World) : Prop :=
  ∃ (j : Nat) (xv : Value), j ≤ n ∧ i = .int .i64 j ∧ xv = v ∧ KAt wy W0.heap.size xv (T.take j) ∧ Below W0.heap.size W0 wy
def decN (L : List (Int × Int)) (j : Nat) : List (Int × Int) := nonz ((L.take j).map fun x => (x.1, x.2 - 1))
theorem decN_le (L : List (Int × Int)) (j : Nat) : (decN L j).length ≤ L.length := by
  have := nonz_le ((L.take j).map fun x => (x.1, x.2 - 1))
  rw [List.length_map, List.length_take] at this
  unfold decN; omega
theorem decN_all {L : List (Int × Int)} {j : Nat} (h : L.length ≤ j) : decN L j = nonz (L.map fun x => (x.1, x.2 - 1)) := by unfold decN; rw [List.take_of_length_le h]
theorem decN_succ {L : List (Int × Int)} {j : Nat} (h : j < L.length) : decN L (j + 1) = if (L[j].2 - 1 == 0) = true then decN L j else decN L j ++ [(L[j].1, L[j].2 - 1)] := by
  unfold decN nonz
  rw [List.take_succ_eq_append_getElem h, List.map_append, List.filter_append]
  cases e : (L[j].2 - 1 == 0) <;> simp [e]
def NDRel (W0 : World) (L : List (Int × Int)) (n : Nat) (v i : Value) (wy : World) : Prop :=
  ∃ (j : Nat) (xv : Value), j ≤ n ∧ i = .int .i64 j ∧ xv = v ∧ KAt wy W0.heap.size xv (decN L j) ∧ Below W0.heap.size W0 wy
theorem KAt.snoc {w : World} {base n : Nat} {v : Value} {L : List (Int × Int)} {a b : Int} (hl : L.length = n) (h : w.ownsRow base 60 2 v (n + 1) (ints (flat L) ++ [.int .i64 a, .int .i64 b])) : KAt w base v (L ++ [(a, b)]) := by
  subst hl
  refine ⟨?_⟩
  rw [flat_append]
  simpa [ints, flat] using h
theorem KAt.lower {w : World} {b b' : Nat} {v : Value} {L : List (Int × Int)} (h : KAt w b v L) (hb : b' ≤ b) : KAt w b' v L := by
  obtain ⟨hl, h2⟩ := h.row
  refine ⟨hl, ?_⟩
  rcases h2 with h2 | ⟨g, cap, cur, e, hbb, r⟩
  · exact .inl h2
  · exact .inr ⟨g, cap, cur, e, Nat.le_trans hb hbb, r⟩
theorem flat_one (L : List (Int × Int)) : ∀ u ∈ ints (flat L), u.oneCell' = true := by
  intro u hu
  obtain ⟨x, _, rfl⟩ := List.mem_map.1 hu
  rfl
theorem wpList_append_srcK {P : Program} {w : World} {ops : Array Oper} {rest : List Oper} {o : Oper} {a : Act} {Q : Exit → Act → World → Prop} (hgd : o.guard = none) (s x : Operand) (t : TypeId)
    (ho : o.op = .call { callee := .builtin .append, args := #[s, x], argTypes := #[t, t] })
    (base : Nat) (e : TypeId) (i : TypeInfo) (z : Value) (bytes : Nat) (ht : P.underlying t = some (.slice e)) (hi : P.info? e = some i) (hz : i.zero = some z)
    (hsize : i.size = 2) (hby : i.bytes = bytes) (hzs : z.cells.size = 2)
    (v : Value) (n : Nat) (xs : List Value) (hs : a.eval s = v) (hown : w.ownsRow base e 2 v n xs)
    (ad : Option Addr) (m c : Nat) (news : List Value) (hx : a.eval x = .slice ad m c) (hsrc : (ad = none ∧ m = 0 ∧ c = 0 ∧ news = []) ∨ ∃ b, ad = some b ∧ news.length = m * 2 ∧ ∀ (j : Nat) (u : Value), news[j]? = some u → w.cell? (b.add j) = some u) (h1 : ∀ u ∈ news, u.oneCell' = true)
    (h63 : n + m ≤ maxLen) (hbytes : (n + m) * bytes ≤ 140737488355328) (hbase : base ≤ w.heap.size)
    (h : ∀ v' w', w'.ownsRow base e 2 v' (n + m) (xs ++ news) → w.grownBy w' v.ownBlock → wpList P ops Q rest (a.put o.dst v') w') : wpList P ops Q (o :: rest) a w := by
  obtain ⟨rfl, rfl, rfl, rfl⟩ | ⟨b, rfl, hl, hc⟩ := hsrc
  · exact wpList_append_own_none hgd s x t ho base e i 2 ht hi v n xs hs hown hx (h v w (by simpa using hown) ⟨rfl, rfl, rfl, Nat.le_refl _, fun _ _ _ => rfl⟩)
  · exact wpList_append_own w hgd s x t ho base e i z 2 bytes ht hi hz hsize hby hzs (by decide) v n xs hs hown b m c news hx hl hc h1 h63 hbytes hbase (fun v' w' a b _ => h v' w' a b)

def RKRel (w : World) (sp : Bool) (keep n : Nat) (l : List Int) (v i : Value) (wr : World) : Prop :=
  ∃ (k : Nat) (xv : Value), k ≤ n ∧ i = .int .i64 k ∧ xv = v ∧ KAt wr w.heap.size xv (kOf sp keep (l.take k)) ∧ Below w.heap.size w wr
def RKPost (w : World) (sp : Bool) (keep : Nat) (l : List Int) (e : Ending) (w' : World) : Prop := ∃ v, e = .returned v ∧ KAt w' w.heap.size v (kOf sp keep l) ∧ Below w.heap.size w w'

set_option maxHeartbeats 4000000 in
set_option maxRecDepth 100000 in
theorem rkeep (a : Option Addr) (n c keep : Nat) (l : List Int) (sp : Bool) (w : World) (hl : l.length = n) (h : IntsIn w w.heap.size a l) (hn : n ≤ 40) (h1 : 1 ≤ (keep : Int)) (h2 : (keep : Int) ≤ 8) :
    Calls Tryd.prog 26 #[.slice a n c, .int .i64 keep, .bool sp] w (RKPost w sp keep l) := by
  have H := Lib.hid h; have HL := Lib.hid hl; clear h hl
  obtain ⟨i0, hi, hz0, hz1, hz2⟩ := info_parts info_kept
  have hn2 : (n : Int) ≤ 40 := by omega
  go_enter Tryd.func26, Tryd.ntmps26
  go_wp2
  go_loopw [7, 8] (fun v i wr => RKRel w sp keep n l v i wr) (fun _ i _ => n - (intOf i).toNat)
  case atStart => exact ⟨0, _, Nat.zero_le _, rfl, rfl, by cases sp <;> exact KAt.nil _ _, Below.refl _ _⟩
  case round =>
    obtain ⟨k, vL, hk, rfl, rfl, hkat, hbel⟩ := hrel
    obtain ⟨hbl, hbd⟩ := kOf_bd (sp := sp) (keep := keep) (by omega) (l.take k)
    obtain ⟨L, hLL⟩ : ∃ L, L = kOf sp keep (l.take k) := ⟨_, rfl⟩
    rw [← hLL] at hkat hbl hbd
    have HKAT := Lib.hid hkat; have HB := Lib.hid hbel; have HLO := Lib.hid hLL
    have HBD : Hid (∀ x ∈ L, 1 ≤ x.2 ∧ x.2 ≤ 40) := Lib.hid fun x hx => by have := hbd x hx; rw [List.length_take] at this; omega
    have HW0 : Hid (w.heap.size ≤ wr.heap.size) := Lib.hid hbel.size
    clear hkat hbel hLL hbd
    by_cases hlt : k < n
    · have hkl : k < l.length := by rw [HL.out]; exact hlt
      obtain ⟨b, off, rfl, hb, hc⟩ := H.out.at_ hkl
      have hcw := (HB.out.cell (p := ⟨b, off + k, none⟩) hb).trans hc
      have hbw : b < wr.heap.size := Nat.lt_of_lt_of_le hb HW0.out
      have HT : Hid (kOf sp keep (l.take (k + 1)) = kStep sp keep L l[k]) := Lib.hid (by rw [List.take_succ_eq_append_getElem hkl, kOf_snoc, ← HLO.out])
      obtain ⟨x, hx⟩ : ∃ x, x = l[k] := ⟨_, rfl⟩
      rw [← hx] at hcw HT
      clear hx hc
      obtain ⟨W0, rfl⟩ : ∃ W0 : World, W0 = wr := ⟨_, rfl⟩
      have HB0 : Hid (Below W0.heap.size W0 W0) := Lib.hid (Below.refl _ _)
      have HCX : Hid (∀ w' : World, Below W0.heap.size W0 w' → w'.cell? ⟨b, off + k, none⟩ = some (.int .i64 x)) := Lib.hid fun w' hb' => (hb'.cell (p := ⟨b, off + k, none⟩) hbw).trans hcw
      have hki : (k : Int) < (n : Int) := by omega
      have hk0 : (0 : Int) ≤ (k : Int) := by omega
      obtain ⟨ll, hll⟩ : ∃ ll, ll = L.length := ⟨_, rfl⟩
      obtain ⟨av, g, cap, hvv, hag, hg, hkin, hmore⟩ := HKAT.out.view b hbw
      subst hvv
      have hsrc : (av = none ∧ L.length = 0 ∧ cap = 0 ∧ ints (flat L) = []) ∨ ∃ b, av = some b ∧ (ints (flat L)).length = L.length * 2 ∧ ∀ (j : Nat) (u : Value), (ints (flat L))[j]? = some u → W0.cell? (b.add j) = some u := by
        obtain ⟨a', g', cap', hv', _, ⟨q1, q2, q3⟩ | ⟨q1, q2, q3, q4, rest, q5, q6⟩⟩ := HKAT.out.shape
        · injection hv' with e1 e2 e3
          exact .inl ⟨by rw [e1, q1], by rw [q3]; rfl, by rw [e3, q2], by rw [q3]; rfl⟩
        · injection hv' with e1 e2 e3
          refine .inr ⟨⟨g', 0, none⟩, by rw [e1, q1], by rw [ints_len, flat_len], fun j u hu => ?_⟩
          rw [add_addr, Nat.zero_add]
          refine q5.cell_ ?_
          have hj := (List.getElem?_eq_some_iff.1 hu).1
          rw [List.getElem?_append_left hj]
          exact hu
      rw [← hll] at hag hmore hsrc ⊢
      have HLL := Lib.hid hll; have HAG := Lib.hid hag; have HKIN := Lib.hid hkin; have HMORE := Lib.hid hmore; have HGL := Lib.hid hg; have HSRC := Lib.hid hsrc
      have hll8 : ll ≤ 8 := by omega
      have hlki : (ll : Int) ≤ 8 := by omega
      have hll0 : (0 : Int) ≤ (ll : Int) := by omega
      have hlkp : ll ≤ keep := by omega
      clear hll hag hkin hmore hg hsrc hbl
      go_wp2_with fail
      refine (kfind ll cap g av x L _ HLL.out.symm HAG.out HKIN.out (by omega)).mono ?_
      rintro e w2 ⟨⟨i, hiL, hpi, hbef, rfl⟩ | ⟨hno, rfl⟩, rfl⟩
      · obtain ⟨cnt, hcnt⟩ : ∃ cnt, cnt = L[i].2 := ⟨_, rfl⟩
        have HST := Lib.hid (kStep_hit (sp := sp) (keep := keep) hiL hpi hbef)
        rw [← hcnt] at HST
        have HCN : Hid (∀ (q : Nat) (hq : q < L.length), q = i → L[q].2 = cnt) := Lib.hid fun q hq e => by subst e; exact hcnt.symm
        have hii : (0 : Int) ≤ (i : Int) := by omega
        clear hcnt hpi hbef
        cases sp
        all_goals
          go_wp2
          go_loopw [10, 12] (fun v iv wy => N3Rel W0 (L.set i (x, cnt + 1)) ll v iv wy) (fun _ iv _ => ll - (intOf iv).toNat)
          case atStart => exact ⟨0, _, Nat.zero_le _, rfl, rfl, by rw [List.take_zero]; exact KAt.nil _ _, HB0.out⟩
          case round =>
            obtain ⟨j, vN, hj, rfl, rfl, hkn, hbn⟩ := hrel
            have HTL : Hid ((L.set i (x, cnt + 1)).length = ll) := Lib.hid (by rw [List.length_set]; exact HLL.out.symm)
            have HKN := Lib.hid hkn; have HBN := Lib.hid hbn
            have hszn := hbn.size
            clear hkn hbn
            by_cases hlt2 : j < ll
            · have hjL : j < L.length := by have := HLL.out; omega
              have hjT : j < (L.set i (x, cnt + 1)).length := by have := HTL.out; omega
              have HTK := Lib.hid (List.take_succ_eq_append_getElem hjT)
              have hnl : ((L.set i (x, cnt + 1)).take j).length = j := by rw [List.length_take]; omega
              have HNL := Lib.hid hnl
              obtain ⟨p0, p1⟩ := (HKIN.out.keep (Keep.of_below HBN.out (Nat.le_refl _) : Keep [] W0 wr) HGL.out (by simp)) j _ (List.getElem?_eq_getElem hjL)
              have hjb := HBD.out _ (List.getElem_mem hjL)
              have HCN2 := Lib.hid (HCN.out j hjL)
              obtain ⟨y, hy⟩ : ∃ y, y = L[j] := ⟨_, rfl⟩
              have HY : Hid ((L.set i (x, cnt + 1))[j] = if i = j then (x, cnt + 1) else y) := Lib.hid (by rw [List.getElem_set, hy])
              rw [← hy] at p0 p1 hjb HCN2
              obtain ⟨hjb1, hjb2⟩ := hjb
              have hji : (j : Int) < (ll : Int) := by omega
              have hj0 : (0 : Int) ≤ (j : Int) := by omega
              have hll8n : ll ≤ 8 := by omega
              first | (obtain rfl := HAG.out (by omega)) | skip
              have hrow := HKN.out.row
              rw [hnl] at hrow
              have HROW := Lib.hid hrow
              have hcx := HCX.out wr HBN.out
              clear hrow hy hnl
              by_cases e : j = i
              · have hei : ((j : Int) == (i : Int)) = true := by rw [e]; simp
                have HYC : Hid (y.2 = cnt) := Lib.hid (HCN2.out e)
                have HE := Lib.hid e
                clear e
                have hinc : IntKind.i64.wrap (y.2 + 1) = y.2 + 1 := IntWalk.i64_in _ (by omega)
                have HROW2 : Hid (wr.drew.ownsRow W0.heap.size 60 2 vN j (ints (flat ((L.set i (x, cnt + 1)).take j)))) := Lib.hid HROW.out
                go_wp2
                go_region_law (refine step_append_lies _ rfl (.tmp 76) (.tmp 88) 54 rfl W0.heap.size 60 i0 (.agg #[.int .i64 0, .int .i64 0]) 2 16 Tryd.underlying54 hi hz0 hz1 hz2 rfl (by decide) vN j (ints (flat ((L.set i (x, cnt + 1)).take j))) rfl (HROW2.out.alloc _) _ 1 1 [.int .i64 x, .int .i64 (y.2 + 1)] rfl rfl (by intro p u hp; match p, hp with | 0, hp => (simp at hp; subst hp; simp [Addr.add]) | 1, hp => (simp at hp; subst hp; simp [Addr.add])) (by intro u hu; simp at hu; rcases hu with rfl | rfl <;> rfl) (by decide) (by unfold maxLen; omega) (by omega) (Nat.le_trans hszn (((Keep.refl [] wr).drew).alloc _).size) _ rfl ?_; intro gA cA w3 hown' hgrow _ _; have HOWN := Lib.hid hown'; have HGROW := Lib.hid hgrow; clear hown' hgrow)
                all_goals
                  go_wp2
                  go_roundw
                  case rel =>
                    have hnl := HNL.out
                    have hk' := KAt.snoc (a := x) (b := (y.2 + 1)) hnl HOWN.out
                    have hb' := ((HBN.out.drew).alloc (by first | omega | (simp; omega)) _).grown HGROW.out (by simp; omega) (fun z hz => (HROW.out.lt z hz).1)
                    refine ⟨j + 1, _, hlt2, by simp, rfl, ?_, hb'⟩
                    rw [HYC.out] at hk'
                    rw [HTK.out, HY.out, if_pos HE.out.symm]
                    exact hk'
                  case measure => simp [intOf]; omega
              · have hei : ((j : Int) == (i : Int)) = false := beq_eq_false_iff_ne.2 (by omega)
                go_wp2_with (at_builtin; refine wpList_append_own _ rfl _ _ 54 rfl W0.heap.size 60 i0 (.agg #[.int .i64 0, .int .i64 0]) 2 16 Tryd.underlying54 hi hz0 hz1 hz2 rfl (by decide) _ _ _ rfl (HROW.out.alloc _) ⟨wr.heap.size, 0, none⟩ 1 1 [.int .i64 y.1, .int .i64 y.2] rfl rfl (by intro p u hp; match p, hp with | 0, hp => (simp at hp; subst hp; simp [Addr.add]) | 1, hp => (simp at hp; subst hp; simp [Addr.add])) (by intro u hu; simp at hu; rcases hu with rfl | rfl <;> rfl) (by unfold maxLen; omega) (by omega) (by simp; omega) ?_; intro v' w3 hown' hgrow _; have HOWN := Lib.hid hown'; have HGROW := Lib.hid hgrow; clear hown' hgrow)
                go_roundw
                case rel =>
                  have hnl := HNL.out
                  have hk' := KAt.snoc (a := y.1) (b := y.2) hnl HOWN.out
                  have hb' := ((HBN.out).alloc (by first | omega | (simp; omega)) _).grown HGROW.out (by simp; omega) (fun z hz => (HROW.out.lt z hz).1)
                  refine ⟨j + 1, _, hlt2, by simp, rfl, ?_, hb'⟩
                  rw [HTK.out, HY.out, if_neg (fun h => e h.symm)]
                  exact hk'
                case measure => simp [intOf]; omega
            · obtain rfl : j = ll := by omega
              have e2 : (L.set i (x, cnt + 1)).take j = L.set i (x, cnt + 1) := List.take_of_length_le (by have := HTL.out; omega)
              rw [e2] at HKN
              have HKN2 := Lib.hid (HKN.out.lower HW0.out)
              clear e2
              go_wp2
              go_roundw
              case rel => exact ⟨k + 1, _, hlt, by simp, rfl, by rw [HT.out, HST.out]; exact HKN2.out, HB.out.trans (HBN.out.mono HW0.out)⟩
              case measure => simp [intOf]; omega

      · have HNO := Lib.hid hno
        clear hno
        by_cases hfull : ll < keep
        · have hfi : (ll : Int) < (keep : Int) := by omega
          have HST := Lib.hid (kStep_room (sp := sp) (keep := keep) HNO.out (by have := HLL.out; omega))
          go_wp2_with (first
            | (at_builtin; refine wpList_append_srcK rfl (.tmp 33) (.tmp 34) 54 rfl W0.heap.size 60 i0 (.agg #[.int .i64 0, .int .i64 0]) 16 Tryd.underlying54 hi hz0 hz1 hz2 rfl (.slice none 0 0) 0 [] rfl (World.ownsRow_nil _ _ _ _) av ll cap (ints (flat L)) rfl HSRC.out (flat_one L) (by unfold maxLen; omega) (by omega) (Nat.le_refl _) ?_; intro v2 w3 hown2 hgrow2; have HOWN2 := Lib.hid (by simpa using hown2 : w3.ownsRow W0.heap.size 60 2 v2 ll (ints (flat L))); have HB3 := Lib.hid (HB0.out.grown hgrow2 (Nat.le_refl _) (by simp [Value.ownBlock])); have hcx3 := HCX.out w3 HB3.out; have hsz3 := HB3.out.size; clear hown2 hgrow2)
            | (at_builtin; refine wpList_append_own _ rfl _ _ 54 rfl W0.heap.size 60 i0 (.agg #[.int .i64 0, .int .i64 0]) 2 16 Tryd.underlying54 hi hz0 hz1 hz2 rfl (by decide) _ _ _ rfl (HOWN2.out.alloc _) ⟨w3.heap.size, 0, none⟩ 1 1 [.int .i64 x, .int .i64 1] rfl rfl (by intro p u hp; match p, hp with | 0, hp => (simp at hp; subst hp; simp [Addr.add]) | 1, hp => (simp at hp; subst hp; simp [Addr.add])) (by intro u hu; simp at hu; rcases hu with rfl | rfl <;> rfl) (by unfold maxLen; omega) (by omega) (by simp; omega) ?_; intro v' w3 hown' hgrow _; have HOWN := Lib.hid hown'; have HGROW := Lib.hid hgrow; clear hown' hgrow))
          go_roundw
          case rel =>
            have hk' := KAt.snoc (a := x) (b := 1) HLL.out.symm HOWN.out
            have hb' := (HB3.out.alloc hsz3 _).grown HGROW.out (by simp; omega) (fun z hz => (HOWN2.out.lt z hz).1)
            exact ⟨k + 1, _, hlt, by simp, rfl, by rw [HT.out, HST.out]; exact hk'.lower HW0.out, HB.out.trans (hb'.mono HW0.out)⟩
          case measure => simp [intOf]; omega
        · have hfi : ¬ (ll : Int) < (keep : Int) := by omega
          have hkpos : 0 < ll := by omega
          cases sp
          · have HST : Hid (kStep false keep L x = nonz (L.map fun x => (x.1, x.2 - 1))) := Lib.hid ((keepStep_none HNO.out).trans (if_neg (by have := HLL.out; omega)))
            go_wp2
            go_loopw [10, 12] (fun v i wy => NDRel W0 L ll v i wy) (fun _ i _ => ll - (intOf i).toNat)
            case atStart => exact ⟨0, _, Nat.zero_le _, rfl, rfl, KAt.nil _ _, HB0.out⟩
            case round =>
              obtain ⟨j, vN, hj, rfl, rfl, hkn, hbn⟩ := hrel
              have HKN := Lib.hid hkn; have HBN := Lib.hid hbn
              have hszn := hbn.size
              clear hkn hbn
              by_cases hlt2 : j < ll
              · have hjL : j < L.length := by have := HLL.out; omega
                have HTK := Lib.hid (decN_succ hjL)
                obtain ⟨m, hm⟩ : ∃ m, m = (decN L j).length := ⟨_, rfl⟩
                have hm8 : m ≤ 8 := by rw [hm]; have := decN_le L j; have := HLL.out; omega
                have HNL := Lib.hid hm.symm
                obtain ⟨p0, p1⟩ := (HKIN.out.keep (Keep.of_below HBN.out (Nat.le_refl _) : Keep [] W0 wr) HGL.out (by simp)) j _ (List.getElem?_eq_getElem hjL)
                have hjb := HBD.out _ (List.getElem_mem hjL)
                obtain ⟨y, hy⟩ : ∃ y, y = L[j] := ⟨_, rfl⟩
                rw [← hy] at p0 p1 hjb HTK
                obtain ⟨hjb1, hjb2⟩ := hjb
                have hji : (j : Int) < (ll : Int) := by omega
                have hj0 : (0 : Int) ≤ (j : Int) := by omega
                first | (obtain rfl := HAG.out (by omega)) | skip
                have hrow := HKN.out.row
                rw [← hm] at hrow
                have HROW := Lib.hid hrow
                clear hrow hy hm
                have hei : ((j : Int) == (-1 : Int)) = false := beq_eq_false_iff_ne.2 (by omega)
                by_cases e : 1 < y.2
                · have hinc : IntKind.i64.wrap (y.2 - 1) = y.2 - 1 := IntWalk.i64_in _ (by omega)
                  have HROW2 : Hid (wr.drew.ownsRow W0.heap.size 60 2 vN m (ints (flat (decN L j)))) := Lib.hid HROW.out
                  go_wp2
                  go_region_law (refine step_append_lies _ rfl (.tmp 105) (.tmp 118) 54 rfl W0.heap.size 60 i0 (.agg #[.int .i64 0, .int .i64 0]) 2 16 Tryd.underlying54 hi hz0 hz1 hz2 rfl (by decide) vN m (ints (flat (decN L j))) rfl (HROW2.out.alloc _) _ 1 1 [.int .i64 y.1, .int .i64 (y.2 - 1)] rfl rfl (by intro p u hp; match p, hp with | 0, hp => (simp at hp; subst hp; simp [Addr.add]) | 1, hp => (simp at hp; subst hp; simp [Addr.add])) (by intro u hu; simp at hu; rcases hu with rfl | rfl <;> rfl) (by decide) (by unfold maxLen; omega) (by omega) (Nat.le_trans hszn (((Keep.refl [] wr).drew).alloc _).size) _ rfl ?_; intro gA cA w3 hown' hgrow _ _; have HOWN := Lib.hid hown'; have HGROW := Lib.hid hgrow; clear hown' hgrow)
                  all_goals
                    go_wp2
                    go_roundw
                    case rel =>
                      have hnl := HNL.out
                      have hk' := KAt.snoc (a := y.1) (b := (y.2 - 1)) hnl HOWN.out
                      have hb' := ((HBN.out.drew).alloc (by first | omega | (simp; omega)) _).grown HGROW.out (by simp; omega) (fun z hz => (HROW.out.lt z hz).1)
                      refine ⟨j + 1, _, hlt2, by simp, rfl, ?_, hb'⟩
                      rw [HTK.out, if_neg (by simp; omega)]
                      exact hk'
                    case measure => simp [intOf]; omega
                · go_wp2
                  go_roundw
                  case rel => exact ⟨j + 1, _, hlt2, by simp, rfl, by rw [HTK.out, if_pos (by simp; omega)]; exact HKN.out, HBN.out⟩
                  case measure => simp [intOf]; omega
              · obtain rfl : j = ll := by omega
                have e2 : decN L j = nonz (L.map fun x => (x.1, x.2 - 1)) := decN_all (by have := HLL.out; omega)
                rw [e2] at HKN
                have HKN2 := Lib.hid (HKN.out.lower HW0.out)
                clear e2
                go_wp2
                go_roundw
                case rel => exact ⟨k + 1, _, hlt, by simp, rfl, by rw [HT.out, HST.out]; exact HKN2.out, HB.out.trans (HBN.out.mono HW0.out)⟩
                case measure => simp [intOf]; omega

          · go_wp2
            go_loopw [9, 11] (fun m i wy => ∃ j : Nat, j ≤ L.length ∧ i = .int .i64 j ∧ m = .int .i64 (leastTo L j : Nat) ∧ Below W0.heap.size W0 wy) (fun _ i _ => ll - (intOf i).toNat)
            case atStart => exact ⟨0, Nat.zero_le _, rfl, rfl, HB0.out⟩
            case round =>
              obtain ⟨j, hj, rfl, rfl, hbj⟩ := hrel
              have HBJ := Lib.hid hbj; clear hbj
              have hjl : j ≤ ll := by have := HLL.out; omega
              have hkin2 := HKIN.out.keep (Keep.of_below HBJ.out (Nat.le_refl _) : Keep [] W0 wr) HGL.out (by simp)
              have hcell : ∀ i, i < ll → wr.cell? ⟨g, i * 2 + 1, none⟩ = some (.int .i64 (L.getD i (0, 0)).2) := fun i hi => by
                have hiL : i < L.length := by have := HLL.out; omega
                obtain ⟨q0, q1⟩ := hkin2 i _ (List.getElem?_eq_getElem hiL)
                rw [q1]; simp [List.getD, List.getElem?_eq_getElem hiL]
              have HCELL := Lib.hid hcell; clear hcell hkin2
              obtain rfl := HAG.out hkpos
              obtain ⟨p, hp⟩ : ∃ p, p = leastTo L j := ⟨_, rfl⟩
              have hpl : p < ll := by
                rw [hp]
                rcases Nat.eq_zero_or_pos j with rfl | h
                · simpa [leastTo] using hkpos
                · have := leastTo_lt L j h; omega
              have hpi : (p : Int) < (ll : Int) := by omega
              have hp0 : (0 : Int) ≤ (p : Int) := by omega
              rw [← hp]
              have hcp := HCELL.out p hpl
              by_cases hlt2 : j < ll
              · have hcj := HCELL.out j hlt2
                have hs : leastTo L (j + 1) = if (L.getD j (0, 0)).2 < (L.getD p (0, 0)).2 then j else p := by rw [hp]; rfl
                obtain ⟨yj, hyj⟩ : ∃ y, y = (L.getD j (0, 0)).2 := ⟨_, rfl⟩
                obtain ⟨yp, hyp⟩ : ∃ y, y = (L.getD p (0, 0)).2 := ⟨_, rfl⟩
                rw [← hyj, ← hyp] at hs
                rw [← hyj] at hcj
                rw [← hyp] at hcp
                have HS := Lib.hid hs
                have hjL : j < L.length := by have := HLL.out; omega
                clear hs hyj hyp hp
                have hji : (j : Int) < (ll : Int) := by omega
                have hj0 : (0 : Int) ≤ (j : Int) := by omega
                by_cases hless : yj < yp
                · go_wp2
                  go_quiet (fail)
                  go_wp2
                  go_roundw
                  case rel => exact ⟨j + 1, hjL, by simp, by rw [HS.out, if_pos hless], below_drewN HBJ.out _⟩
                  case measure => simp [intOf]; omega
                · go_wp2
                  go_quiet (fail)
                  go_wp2
                  go_roundw
                  case rel => exact ⟨j + 1, hjL, by simp, by rw [HS.out, if_neg (by omega)], below_drewN HBJ.out _⟩
                  case measure => simp [intOf]; omega
              · obtain rfl : ll = j := by omega
                have hpL : p < L.length := by have := HLL.out; omega
                obtain ⟨i, rfl⟩ : ∃ i, i = p := ⟨_, rfl⟩
                obtain ⟨cnt, hcnt⟩ : ∃ cnt, cnt = (L[i]'hpL).2 := ⟨_, rfl⟩
                have HCN : Hid (∀ (q : Nat) (hq : q < L.length), q = i → L[q].2 = cnt) := Lib.hid fun q hq e => by subst e; exact hcnt.symm
                have HB0 : Hid (Below W0.heap.size W0 wr) := Lib.hid HBJ.out
                have HST : Hid (kStep true keep L x = L.set i (x, cnt + 1)) := Lib.hid (by
                  show spaceStep keep L x = _
                  rw [step_none HNO.out, if_neg (by have := HLL.out; omega), ← HLL.out, ← hp, hcnt]
                  simp [List.getD, List.getElem?_eq_getElem hpL])
                clear hcnt hp hcp HCELL HBJ
                go_wp2
                go_loopw [10, 12] (fun v iv wy => N3Rel W0 (L.set i (x, cnt + 1)) ll v iv wy) (fun _ iv _ => ll - (intOf iv).toNat)
                case atStart => exact ⟨0, _, Nat.zero_le _, rfl, rfl, by rw [List.take_zero]; exact KAt.nil _ _, HB0.out⟩
                case round =>
                  obtain ⟨j, vN, hj, rfl, rfl, hkn, hbn⟩ := hrel
                  have HTL : Hid ((L.set i (x, cnt + 1)).length = ll) := Lib.hid (by rw [List.length_set]; exact HLL.out.symm)
                  have HKN := Lib.hid hkn; have HBN := Lib.hid hbn
                  have hszn := hbn.size
                  clear hkn hbn
                  by_cases hlt2 : j < ll
                  · have hjL : j < L.length := by have := HLL.out; omega
                    have hjT : j < (L.set i (x, cnt + 1)).length := by have := HTL.out; omega
                    have HTK := Lib.hid (List.take_succ_eq_append_getElem hjT)
                    have hnl : ((L.set i (x, cnt + 1)).take j).length = j := by rw [List.length_take]; omega
                    have HNL := Lib.hid hnl
                    obtain ⟨p0, p1⟩ := (HKIN.out.keep (Keep.of_below HBN.out (Nat.le_refl _) : Keep [] W0 wr) HGL.out (by simp)) j _ (List.getElem?_eq_getElem hjL)
                    have hjb := HBD.out _ (List.getElem_mem hjL)
                    have HCN2 := Lib.hid (HCN.out j hjL)
                    obtain ⟨y, hy⟩ : ∃ y, y = L[j] := ⟨_, rfl⟩
                    have HY : Hid ((L.set i (x, cnt + 1))[j] = if i = j then (x, cnt + 1) else y) := Lib.hid (by rw [List.getElem_set, hy])
                    rw [← hy] at p0 p1 hjb HCN2
                    obtain ⟨hjb1, hjb2⟩ := hjb
                    have hji : (j : Int) < (ll : Int) := by omega
                    have hj0 : (0 : Int) ≤ (j : Int) := by omega
                    have hll8n : ll ≤ 8 := by omega
                    first | (obtain rfl := HAG.out (by omega)) | skip
                    have hrow := HKN.out.row
                    rw [hnl] at hrow
                    have HROW := Lib.hid hrow
                    have hcx := HCX.out wr HBN.out
                    clear hrow hy hnl
                    by_cases e : j = i
                    · have hei : ((j : Int) == (i : Int)) = true := by rw [e]; simp
                      have HYC : Hid (y.2 = cnt) := Lib.hid (HCN2.out e)
                      have HE := Lib.hid e
                      clear e
                      have hinc : IntKind.i64.wrap (y.2 + 1) = y.2 + 1 := IntWalk.i64_in _ (by omega)
                      have HROW2 : Hid (wr.drew.ownsRow W0.heap.size 60 2 vN j (ints (flat ((L.set i (x, cnt + 1)).take j)))) := Lib.hid HROW.out
                      go_wp2
                      go_region_law (refine step_append_lies _ rfl (.tmp 76) (.tmp 88) 54 rfl W0.heap.size 60 i0 (.agg #[.int .i64 0, .int .i64 0]) 2 16 Tryd.underlying54 hi hz0 hz1 hz2 rfl (by decide) vN j (ints (flat ((L.set i (x, cnt + 1)).take j))) rfl (HROW2.out.alloc _) _ 1 1 [.int .i64 x, .int .i64 (y.2 + 1)] rfl rfl (by intro p u hp; match p, hp with | 0, hp => (simp at hp; subst hp; simp [Addr.add]) | 1, hp => (simp at hp; subst hp; simp [Addr.add])) (by intro u hu; simp at hu; rcases hu with rfl | rfl <;> rfl) (by decide) (by unfold maxLen; omega) (by omega) (Nat.le_trans hszn (((Keep.refl [] wr).drew).alloc _).size) _ rfl ?_; intro gA cA w3 hown' hgrow _ _; have HOWN := Lib.hid hown'; have HGROW := Lib.hid hgrow; clear hown' hgrow)
                      all_goals
                        go_wp2
                        go_roundw
                        case rel =>
                          have hnl := HNL.out
                          have hk' := KAt.snoc (a := x) (b := (y.2 + 1)) hnl HOWN.out
                          have hb' := ((HBN.out.drew).alloc (by first | omega | (simp; omega)) _).grown HGROW.out (by simp; omega) (fun z hz => (HROW.out.lt z hz).1)
                          refine ⟨j + 1, _, hlt2, by simp, rfl, ?_, hb'⟩
                          rw [HYC.out] at hk'
                          rw [HTK.out, HY.out, if_pos HE.out.symm]
                          exact hk'
                        case measure => simp [intOf]; omega
                    · have hei : ((j : Int) == (i : Int)) = false := beq_eq_false_iff_ne.2 (by omega)
                      go_wp2_with (at_builtin; refine wpList_append_own _ rfl _ _ 54 rfl W0.heap.size 60 i0 (.agg #[.int .i64 0, .int .i64 0]) 2 16 Tryd.underlying54 hi hz0 hz1 hz2 rfl (by decide) _ _ _ rfl (HROW.out.alloc _) ⟨wr.heap.size, 0, none⟩ 1 1 [.int .i64 y.1, .int .i64 y.2] rfl rfl (by intro p u hp; match p, hp with | 0, hp => (simp at hp; subst hp; simp [Addr.add]) | 1, hp => (simp at hp; subst hp; simp [Addr.add])) (by intro u hu; simp at hu; rcases hu with rfl | rfl <;> rfl) (by unfold maxLen; omega) (by omega) (by simp; omega) ?_; intro v' w3 hown' hgrow _; have HOWN := Lib.hid hown'; have HGROW := Lib.hid hgrow; clear hown' hgrow)
                      go_roundw
                      case rel =>
                        have hnl := HNL.out
                        have hk' := KAt.snoc (a := y.1) (b := y.2) hnl HOWN.out
                        have hb' := ((HBN.out).alloc (by first | omega | (simp; omega)) _).grown HGROW.out (by simp; omega) (fun z hz => (HROW.out.lt z hz).1)
                        refine ⟨j + 1, _, hlt2, by simp, rfl, ?_, hb'⟩
                        rw [HTK.out, HY.out, if_neg (fun h => e h.symm)]
                        exact hk'
                      case measure => simp [intOf]; omega
                  · obtain rfl : j = ll := by omega
                    have e2 : (L.set i (x, cnt + 1)).take j = L.set i (x, cnt + 1) := List.take_of_length_le (by have := HTL.out; omega)
                    rw [e2] at HKN
                    have HKN2 := Lib.hid (HKN.out.lower HW0.out)
                    clear e2
                    go_wp2
                    go_roundw
                    case rel => exact ⟨k + 1, _, hlt, by simp, rfl, by rw [HT.out, HST.out]; exact HKN2.out, HB.out.trans (HBN.out.mono HW0.out)⟩
                    case measure => simp [intOf]; omega

    · obtain rfl : k = n := by omega
      have e : l.take k = l := List.take_of_length_le (by rw [HL.out]; exact Nat.le_refl _)
      have HLO2 : Hid (L = kOf sp keep l) := Lib.hid (by rw [HLO.out, e])
      clear e
      go_wp2
      go_ret
      exact ⟨_, rfl, by rw [← HLO2.out]; exact HKAT.out, HB.out⟩
end Go.Proofs.YtnpokcjdnlmheaaDoor
