/-
  The reference's Spot, Weight, Owner, Rank, Place, by their contracts.
-/
import Derived.Test.YthldhbcidcmmaaaDoorCircChk
namespace Go.Proofs.YthldhbcidcmmaaaDoor
open Go.RowKit

theorem rSpot_any (n : Int) (w : World) (h0 : 0 ≤ n) (h1 : n ≤ 1000000) : Calls Tryd.prog 24 #[.int .i64 n] w fun e w' => e = .returned (.int .i64 (plc n)) ∧ w = w' := by
  have H : Hid ((7 * n + 3 * (n / 1000)) % 1000 = plc n) := Lib.hid (by unfold plc; omega)
  go_enter Tryd.func24, Tryd.ntmps24
  go_wp2
  go_ret
  exact ⟨ret_int H.out, rfl⟩
theorem rSpot_is (n q : Int) (w : World) (hq : plc n = q) (h0 : 0 ≤ n) (h1 : n ≤ 1000000) : Calls Tryd.prog 24 #[.int .i64 n] w fun e w' => e = .returned (.int .i64 q) ∧ w = w' := by
  rw [← hq]; exact rSpot_any n w h0 h1

theorem rWeight_any (n k : Int) (w : World) (h0 : 0 ≤ n) (h1 : n ≤ 1000000) (h2 : 0 ≤ k) (h3 : k ≤ 1000000) :
    Calls Tryd.prog 49 #[.int .i64 n, .int .i64 k] w fun e w' => e = .returned (.int .i64 (wt n k)) ∧ w = w' := by
  obtain ⟨a, ha⟩ : ∃ a, a = n % 97 := ⟨_, rfl⟩
  obtain ⟨b, hb⟩ : ∃ b, b = k % 89 := ⟨_, rfl⟩
  have ha0 : 0 ≤ a := by omega
  have ha1 : a < 97 := by omega
  have hb0 : 0 ≤ b := by omega
  have hb1 : b < 89 := by omega
  have hab0 : 0 ≤ a * b := Int.mul_nonneg ha0 hb0
  have hab1 : a * b ≤ 96 * 88 := Int.mul_le_mul (by omega) (by omega) hb0 (by omega)
  obtain ⟨p, hp⟩ : ∃ p, a * b = p := ⟨_, rfl⟩
  rw [hp] at hab0 hab1
  have hwp : IntKind.i64.wrap (a * b) = p := by rw [hp]; exact IntWalk.i64_in _ (by omega)
  have hwp2 : wrap64 p = p := by unfold wrap64; omega
  obtain ⟨x, hx⟩ : ∃ x, x = (31 * n + 17 * k + p) % 9973 := ⟨_, rfl⟩
  have hx0 : 0 ≤ x := by omega
  have hx1 : x < 9973 := by omega
  have hxx0 : 0 ≤ x * x := Int.mul_nonneg hx0 hx0
  have hxx1 : x * x ≤ 9972 * 9972 := Int.mul_le_mul (by omega) (by omega) hx0 (by omega)
  obtain ⟨q, hq⟩ : ∃ q, x * x = q := ⟨_, rfl⟩
  rw [hq] at hxx0 hxx1
  have hwq : IntKind.i64.wrap (x * x) = q := by rw [hq]; exact IntWalk.i64_in _ (by omega)
  have hwq2 : wrap64 q = q := by unfold wrap64; omega
  have hw : wt n k = q % 9973 := by
    have e : n * 31 + k * 17 + p = 31 * n + 17 * k + p := by omega
    unfold wt wt0; rw [← ha, ← hb, hp, e, ← hx, hq]
  have hna : n % 97 = a := ha.symm
  have hkb : k % 89 = b := hb.symm
  have hxe : (31 * n + 17 * k + p) % 9973 = x := hx.symm
  have HW := Lib.hid hw
  clear ha hb hx hw
  go_enter Tryd.func49, Tryd.ntmps49
  go_wp2
  go_ret
  exact ⟨ret_int HW.out.symm, rfl⟩
theorem rWeight_is (n k q : Int) (w : World) (hq : wt n k = q) (h0 : 0 ≤ n) (h1 : n ≤ 1000000) (h2 : 0 ≤ k) (h3 : k ≤ 1000000) :
    Calls Tryd.prog 49 #[.int .i64 n, .int .i64 k] w fun e w' => e = .returned (.int .i64 q) ∧ w = w' := by
  rw [← hq]; exact rWeight_any n k w h0 h1 h2 h3

/-- Where a number stands that is there. -/
theorem rPlace_at (a : Option Addr) (n c B : Nat) (l : List Int) (x : Int) (p : Nat) (w : World) (hl : l.length = n) (h : IntsIn w B a l) (hn : n ≤ 1000) (hm : x ∈ l) (hp : idxI l x = p) :
    Calls Tryd.prog 26 #[.slice a n c, .int .i64 x] w fun e w' => e = .returned (.int .i64 p) ∧ w = w' := by
  have HL := Lib.hid hl; have HP := Lib.hid hp; have HM := Lib.hid hm; clear hl hp hm
  have hn2 : (n : Int) ≤ 1000 := by omega
  go_enter Tryd.func26, Tryd.ntmps26
  go_wp2
  go_loop [5] (fun i => ∃ k : Nat, k ≤ n ∧ i = .int .i64 k ∧ ∀ j (hj : j < l.length), j < k → (x == l[j]) = false) (fun i => n - (intOf i).toNat)
  case atStart => exact ⟨0, by omega, rfl, fun j hj h => by omega⟩
  case round =>
    obtain ⟨k, hk, rfl, hno⟩ := hrel
    have HNO := Lib.hid hno; clear hno
    by_cases hlt : k < n
    · have hkl : k < l.length := by rw [HL.out]; exact hlt
      obtain ⟨b, off, rfl, hb, hc⟩ := h.at_ hkl
      obtain ⟨y, hy⟩ : ∃ y, y = l[k] := ⟨_, rfl⟩
      rw [← hy] at hc
      have HY := Lib.hid hy
      clear hy
      have hki : (k : Int) < (n : Int) := by omega
      have hk0 : (0 : Int) ≤ (k : Int) := by omega
      by_cases e : y = x
      · subst e
        have hv : (k : Int) = (p : Int) := by
          have hfi : l.findIdx (fun z => y == z) = k := by
            rw [List.findIdx_eq hkl]
            exact ⟨by rw [← HY.out]; simp, fun j hj => by simpa using HNO.out j (by omega) hj⟩
          rw [← HP.out]
          unfold idxI
          rw [if_pos HM.out, hfi]
        have HV := Lib.hid hv; clear hv
        go_wp2
        go_ret
        exact ⟨ret_int HV.out, rfl⟩
      · go_wp2
        go_round
        case rel =>
          refine ⟨k + 1, hlt, by simp, fun j hj h => ?_⟩
          rcases Nat.lt_or_ge j k with g | g
          · exact HNO.out j hj g
          · obtain rfl : j = k := by omega
            rw [← HY.out]; simpa using fun h => e h.symm
        case measure => simp [intOf]; omega
    · exfalso
      obtain ⟨j, hj, e⟩ := List.getElem_of_mem HM.out
      have := HNO.out j hj (by have := HL.out; omega)
      rw [e] at this
      simp at this

def ROwnRel (p : Int) (l : List Int) (i : Value) : Prop := ∃ d : Nat, d ≤ 1000 ∧ i = .int .i64 d ∧ ∀ x ∈ l, (d : Int) ≤ far p x
def ROwnIn (t : Int) (l : List Int) (b i : Value) : Prop := ∃ k : Nat, k ≤ l.length ∧ i = .int .i64 k ∧ b = .int .i64 (bestAt t (l.take k))

set_option maxHeartbeats 4000000 in
set_option maxRecDepth 100000 in
theorem rOwner_any (a : Option Addr) (n c B : Nat) (l : List Int) (p : Int) (w : World) (hl : l.length = n) (h : IntsIn w B a l) (hb : InB l) (h0 : 0 < n) (hn : n ≤ 12) (hp0 : 0 ≤ p) (hp1 : p < 1000) :
    Calls Tryd.prog 27 #[.slice a n c, .int .i64 p] w fun e w' => e = .returned (.int .i64 (ownO p l)) ∧ w = w' := by
  have HL := Lib.hid hl; have HB := Lib.hid hb; have H := Lib.hid h; clear hl hb h
  have hn2 : (n : Int) ≤ 12 := by omega
  have HNN : Hid (∀ x ∈ l, 0 ≤ x) := Lib.hid fun x hx => (HB.out x hx).1
  go_enter Tryd.func27, Tryd.ntmps27
  go_wp2
  go_loop [5, 6, 7] (fun d _ _ => ROwnRel p l d) (fun d _ _ => 1000 - (intOf d).toNat)
  case atStart => exact ⟨0, by omega, rfl, fun x _ => by have := far_bd p x; simp; omega⟩
  case round =>
    obtain ⟨d, hd, rfl, hfar⟩ := hrel
    have HF := Lib.hid hfar; clear hfar
    by_cases hlt : d < 1000
    · have hdi : (d : Int) < 1000 := by omega
      have hd0 : (0 : Int) ≤ (d : Int) := by omega
      obtain ⟨t, ht⟩ : ∃ t, (p + (d : Int)) % 1000 = t := ⟨_, rfl⟩
      have HH := Lib.hid fun h => own_here hp0 hp1 hlt HNN.out HF.out h
      have HO := Lib.hid fun h => own_on hp0 hp1 hlt HNN.out HF.out h
      rw [ht] at HH HO
      go_wp2
      go_loop [6, 7] (fun b i => ROwnIn t l b i) (fun _ i => n - (intOf i).toNat)
      case atStart => exact ⟨0, by omega, rfl, rfl⟩
      case round =>
        obtain ⟨k, hk, rfl, rfl⟩ := hrel
        have hkn : k ≤ n := by have := HL.out; omega
        by_cases hkl : k < n
        · have hkL : k < l.length := by rw [HL.out]; exact hkl
          have HBT := Lib.hid (bestAt_take (t := t) hkL)
          obtain ⟨b, off, rfl, _, hc⟩ := H.out.at_ hkL
          have hxb := HB.out _ (List.getElem_mem hkL)
          obtain ⟨x, hx⟩ : ∃ x, x = l[k] := ⟨_, rfl⟩
          obtain ⟨m, hm⟩ : ∃ m, m = bestAt t (l.take k) := ⟨_, rfl⟩
          rw [← hx] at hc hxb HBT
          rw [← hm] at HBT ⊢
          obtain ⟨s, hs⟩ : ∃ s, plc x = s := ⟨_, rfl⟩
          have HS := Lib.hid hs
          obtain ⟨hx0, hx1⟩ := hxb
          have hki : (k : Int) < (n : Int) := by omega
          have hk0 : (0 : Int) ≤ (k : Int) := by omega
          clear hx hm hs
          by_cases e : s = t
          · have he : (s == t) = true := by simpa using e
            by_cases g : m < 0
            · have hgd : decide (m < 0) = true := by simpa using g
              have HX : Hid (bestAt t (l.take (k + 1)) = x) := Lib.hid (by rw [HBT.out]; unfold stepB; rw [if_pos ⟨HS.out.trans e, .inl g⟩])
              clear e
              go_wp2_with (go_at_call 24; refine (rSpot_is _ s _ HS.out hx0 hx1).mono ?_; rintro e w' ⟨rfl, rfl⟩)
              go_round
              case rel => exact ⟨k + 1, hkL, by simp, by rw [HX.out]⟩
              case measure => simp [intOf]; omega
            · have hgd : decide (m < 0) = false := by simpa using g
              by_cases g2 : x < m
              · have HX : Hid (bestAt t (l.take (k + 1)) = x) := Lib.hid (by rw [HBT.out]; unfold stepB; rw [if_pos ⟨HS.out.trans e, .inr g2⟩])
                clear e
                go_wp2_with (go_at_call 24; refine (rSpot_is _ s _ HS.out hx0 hx1).mono ?_; rintro e w' ⟨rfl, rfl⟩)
                go_round
                case rel => exact ⟨k + 1, hkL, by simp, by rw [HX.out]⟩
                case measure => simp [intOf]; omega
              · have HX : Hid (bestAt t (l.take (k + 1)) = m) := Lib.hid (by rw [HBT.out]; unfold stepB; rw [if_neg (fun h => h.2.elim g g2)])
                clear e
                go_wp2_with (go_at_call 24; refine (rSpot_is _ s _ HS.out hx0 hx1).mono ?_; rintro e w' ⟨rfl, rfl⟩)
                go_round
                case rel => exact ⟨k + 1, hkL, by simp, by rw [HX.out]⟩
                case measure => simp [intOf]; omega
          · have he : (s == t) = false := by simpa using e
            have HX : Hid (bestAt t (l.take (k + 1)) = m) := Lib.hid (by rw [HBT.out]; unfold stepB; rw [if_neg (fun h => e (HS.out.symm.trans h.1))])
            clear e
            go_wp2_with (go_at_call 24; refine (rSpot_is _ s _ HS.out hx0 hx1).mono ?_; rintro e w' ⟨rfl, rfl⟩)
            go_round
            case rel => exact ⟨k + 1, hkL, by simp, by rw [HX.out]⟩
            case measure => simp [intOf]; omega
        · obtain rfl : k = n := by omega
          have e : l.take k = l := List.take_of_length_le (by rw [HL.out]; exact Nat.le_refl _)
          rw [e]
          obtain ⟨m, hm⟩ : ∃ m, m = bestAt t l := ⟨_, rfl⟩
          rw [← hm] at HH HO ⊢
          clear e hm
          by_cases g : 0 ≤ m
          · have HV := Lib.hid (HH.out g)
            go_wp2
            go_ret
            exact ⟨ret_int HV.out, rfl⟩
          · have HV := Lib.hid (HO.out (by omega))
            go_wp2
            go_round
            case rel => exact ⟨d + 1, hlt, by simp, HV.out⟩
            case measure => simp [intOf]; omega
    · exfalso
      have hl0 : 0 < l.length := by rw [HL.out]; exact h0
      have := HF.out l[0] (List.getElem_mem hl0)
      have := far_bd p l[0]
      omega
theorem rOwner_is (a : Option Addr) (n c B : Nat) (l : List Int) (p o : Int) (w : World) (ho : ownO p l = o) (hl : l.length = n) (h : IntsIn w B a l) (hb : InB l) (h0 : 0 < n) (hn : n ≤ 12) (hp0 : 0 ≤ p) (hp1 : p < 1000) :
    Calls Tryd.prog 27 #[.slice a n c, .int .i64 p] w fun e w' => e = .returned (.int .i64 o) ∧ w = w' := by
  rw [← ho]; exact rOwner_any a n c B l p w hl h hb h0 hn hp0 hp1

theorem IntsIn.far {w w' : World} {B : Nat} {a : Option Addr} {xs : List Int} (h : IntsIn w B a xs) (hk : ∀ b off, a = some ⟨b, off, none⟩ → b < B → w'.heap[b]? = w.heap[b]?) : IntsIn w' B a xs := fun hn => by
  obtain ⟨b, off, e, hb, hc⟩ := h hn
  exact ⟨b, off, e, hb, fun i x hx => (World.cell?_of_block (w := w) (hk b off e hb)).trans (hc i x hx)⟩

def RRankRel (w : World) (k : Int) (l : List Int) (nodes out : Value) (wr : World) : Prop :=
  ∃ a c rest done, nodes = .slice a rest.length c ∧ IntsIn wr wr.heap.size a rest ∧ OwnInts wr w.heap.size out done ∧ RankInv k l done rest ∧ Below w.heap.size w wr ∧ ∀ b off, a = some ⟨b, off, none⟩ → b < wr.heap.size → some b ≠ out.ownBlock
def RRankIn (k m0 : Int) (rest : List Int) (b i : Value) : Prop := ∃ j : Nat, j ≤ rest.length ∧ i = .int .i64 j ∧ b = .int .i64 (bestR k m0 (rest.take j))
def RRankPost (k : Int) (l : List Int) (w : World) (e : Ending) (w' : World) : Prop := ∃ v done, e = .returned v ∧ OwnInts w' w.heap.size v done ∧ RankInv k l done [] ∧ Below w.heap.size w w'

def lenOfV : Value → Nat
  | .slice _ n _ => n
  | _ => 0

/-- One round's out, and nodes, behind the append and 'Without'. -/
theorem rrank_next {w wr w2 w3 : World} {k : Int} {l rest done : List Int} {out v' v3 : Value} {bv : Int} {o : Obj}
    (hbel : Below w.heap.size w wr) (hown : OwnInts wr w.heap.size out done) (hown' : OwnInts w2 w.heap.size v' (done ++ [bv])) (hgrow : (wr.alloc o).grownBy w2 out.ownBlock)
    (h3 : OwnInts w3 w2.heap.size v3 (rest.erase bv)) (hb3 : Below w2.heap.size w2 w3) (hinv : RankInv k l (done ++ [bv]) (rest.erase bv)) : RRankRel w k l v3 v' w3 := by
  have hs2 : wr.heap.size ≤ w2.heap.size := Nat.le_trans (by simp) hgrow.size
  obtain ⟨a3, c3, e3, hi3⟩ := h3.shape
  have hlt := fun x (hx : v'.ownBlock = some x) => (World.ownsRow.lt hown' x hx).2
  refine ⟨a3, c3, rest.erase bv, done ++ [bv], e3, hi3, hown'.keep (fun g hg => hb3.block g (hlt g hg)), hinv, ?_, fun b off ha hb hbo => ?_⟩
  · exact ((hbel.alloc hbel.size _).grown hgrow (Nat.le_trans hbel.size (by simp)) (fun x hx => (World.ownsRow.lt hown x hx).1)).trans (hb3.mono (Nat.le_trans hbel.size hs2))
  · have h4 := hlt b hbo.symm
    obtain ⟨_, ⟨rfl, _⟩ | ⟨g, cap, cur, e, hbg, _⟩⟩ := h3
    · simp only [Value.slice.injEq] at e3
      rw [← e3.1] at ha
      cases ha
    · rw [e] at e3
      simp only [Value.slice.injEq] at e3
      rw [← e3.1] at ha
      simp only [Option.some.injEq, Addr.mk.injEq] at ha
      omega

set_option maxHeartbeats 4000000 in
set_option maxRecDepth 100000 in
theorem rRank_any (a : Option Addr) (n c : Nat) (l : List Int) (k : Int) (w : World) (hl : l.length = n) (h : IntsIn w w.heap.size a l) (hb : InB l) (hnd : l.Nodup) (hn : n ≤ 12) (hk0 : 0 ≤ k) (hk1 : k ≤ 1000000) :
    Calls Tryd.prog 29 #[.slice a n c, .int .i64 k] w (RRankPost k l w) := by
  have HL := Lib.hid hl; have HB := Lib.hid hb; have H := Lib.hid h
  have HST := Lib.hid (rankInv_start k hnd)
  clear hl hb h hnd
  have hn2 : (n : Int) ≤ 12 := by omega
  obtain ⟨i0, hi, hz0, hz1, hz2⟩ := info_parts info_int
  go_enter Tryd.func29, Tryd.ntmps29
  go_wp2
  go_loopw [0, 5, 6, 7, 8, 9] (fun nodes out _ _ _ _ wr => RRankRel w k l nodes out wr) (fun nodes _ _ _ _ _ _ => lenOfV nodes)
  case atStart => exact ⟨a, c, l, [], by rw [HL.out], H.out, OwnInts.nil _ _, HST.out, Below.refl _ _, fun _ _ _ _ h => by simp [Value.ownBlock] at h⟩
  case round =>
    obtain ⟨a', c', rest, done, rfl, hin, hown, hinv, hbel, hsep⟩ := hrel
    have hlen : done.length + rest.length ≤ 12 := by
      have := hinv.1.length_eq
      rw [List.length_append] at this
      have := HL.out
      omega
    have hsub : ∀ x ∈ rest, 0 ≤ x ∧ x ≤ 1000000 := fun x hx => HB.out x (hinv.1.mem_iff.1 (by simp [hx]))
    have HSUB := Lib.hid hsub
    have hsz := hbel.size
    obtain ⟨m, hm⟩ : ∃ m, m = rest.length := ⟨_, rfl⟩
    rw [← hm] at hlen ⊢
    have HM := Lib.hid hm.symm
    have HIN := Lib.hid hin; have HOWN := Lib.hid hown; have HINV := Lib.hid hinv; have HBE := Lib.hid hbel; have HSEP := Lib.hid hsep
    clear hin hown hinv hbel hsub hsep
    by_cases hpos : 0 < m
    · have hposi : (0 : Int) < (m : Int) := by omega
      have hmi : (m : Int) ≤ 12 := by omega
      have hm0 : 0 < rest.length := by rw [HM.out]; exact hpos
      obtain ⟨b, off, rfl, hbb, hc0⟩ := HIN.out.at_ hm0
      obtain ⟨m0, hm0e⟩ : ∃ m0, m0 = rest[0] := ⟨_, rfl⟩
      rw [← hm0e] at hc0
      rw [Nat.add_zero] at hc0
      have HM0 := Lib.hid hm0e
      clear hm0e hm
      obtain ⟨wo, rfl⟩ : ∃ wo : World, wo = wr := ⟨_, rfl⟩
      go_wp2
      go_loop [6, 7, 8, 9] (fun b i _ _ => RRankIn k m0 rest b i) (fun _ i _ _ => m - (intOf i).toNat)
      case atStart => exact ⟨0, by omega, rfl, rfl⟩
      case round =>
        obtain ⟨j, hj, rfl, rfl⟩ := hrel
        obtain ⟨bv, hbv⟩ : ∃ bv, bv = bestR k m0 (rest.take j) := ⟨_, rfl⟩
        have hbm : bv ∈ rest := by
          rcases bestR_mem k (rest.take j) m0 with h | h
          · rw [hbv, h, HM0.out]; exact List.getElem_mem hm0
          · rw [hbv]; exact List.mem_of_mem_take h
        have hbr := HSUB.out bv hbm
        rw [← hbv]
        by_cases hlt : j < m
        · have hjl : j < rest.length := by rw [HM.out]; exact hlt
          have HBT := Lib.hid (bestR_take (k := k) (m := m0) hjl)
          rw [← hbv] at HBT
          obtain ⟨b2, off2, e2, _, hcx⟩ := HIN.out.at_ hjl
          simp only [Option.some.injEq, Addr.mk.injEq] at e2
          obtain ⟨rfl, rfl, _⟩ := e2
          have hxb := HSUB.out _ (List.getElem_mem hjl)
          obtain ⟨x, hx⟩ : ∃ x, x = rest[j] := ⟨_, rfl⟩
          rw [← hx] at hcx hxb HBT
          obtain ⟨hx0, hx1⟩ := hxb
          obtain ⟨hb0, hb1⟩ := hbr
          have hji : (j : Int) < (m : Int) := by omega
          have hj0 : (0 : Int) ≤ (j : Int) := by omega
          clear hx hbv hbm
          have hcase : (Hid (stepR k bv x = x) ∧ (wt bv k < wt x k ∨ (¬ wt bv k < wt x k ∧ (wt x k = wt bv k ∧ x < bv)))) ∨ (Hid (stepR k bv x = bv) ∧ (¬ wt bv k < wt x k ∧ (¬ wt x k = wt bv k ∨ (wt x k = wt bv k ∧ ¬ x < bv)))) := by
            unfold stepR
            by_cases e : leR k bv x
            · refine .inr ⟨Lib.hid (if_pos e), ?_⟩
              unfold leR at e
              omega
            · refine .inl ⟨Lib.hid (if_neg e), ?_⟩
              unfold leR at e
              omega
          rcases hcase with ⟨hst, g | ⟨g, g2, g3⟩⟩ | ⟨hst, g, g2 | ⟨g2, g3⟩⟩
          · have gd : decide (wt bv k < wt x k) = true := by simpa using g
            go_wp2_with (go_at_call 49; refine (rWeight_any _ _ _ (by omega) (by omega) hk0 hk1).mono ?_; rintro e w' ⟨rfl, rfl⟩)
            go_round
            case rel => exact ⟨j + 1, hjl, by simp, by rw [HBT.out, hst.out]⟩
            case measure => simp [intOf]; omega
          · have gd : decide (wt bv k < wt x k) = false := by simpa using g
            have gd2 : (wt x k == wt bv k) = true := by simpa using g2
            have G2 := Lib.hid g2; clear g2
            go_wp2_with (go_at_call 49; refine (rWeight_any _ _ _ (by omega) (by omega) hk0 hk1).mono ?_; rintro e w' ⟨rfl, rfl⟩)
            go_round
            case rel => exact ⟨j + 1, hjl, by simp, by rw [HBT.out, hst.out]⟩
            case measure => simp [intOf]; omega
          · have gd : decide (wt bv k < wt x k) = false := by simpa using g
            have gd2 : (wt x k == wt bv k) = false := by simpa using g2
            go_wp2_with (go_at_call 49; refine (rWeight_any _ _ _ (by omega) (by omega) hk0 hk1).mono ?_; rintro e w' ⟨rfl, rfl⟩)
            go_round
            case rel => exact ⟨j + 1, hjl, by simp, by rw [HBT.out, hst.out]⟩
            case measure => simp [intOf]; omega
          · have gd : decide (wt bv k < wt x k) = false := by simpa using g
            have gd2 : (wt x k == wt bv k) = true := by simpa using g2
            have G2 := Lib.hid g2; clear g2
            go_wp2_with (go_at_call 49; refine (rWeight_any _ _ _ (by omega) (by omega) hk0 hk1).mono ?_; rintro e w' ⟨rfl, rfl⟩)
            go_round
            case rel => exact ⟨j + 1, hjl, by simp, by rw [HBT.out, hst.out]⟩
            case measure => simp [intOf]; omega
        · obtain rfl : j = m := by have := HM.out; omega
          have e : rest.take j = rest := List.take_of_length_le (by rw [HM.out]; exact Nat.le_refl _)
          have hle : ∀ y ∈ rest, leR k bv y := fun y hy => by
            have := bestR_le k rest m0 y (by simp [hy])
            rw [hbv, e]; exact this
          have HNEW := Lib.hid (rankInv_step HINV.out hbm hle)
          have hel : (rest.erase bv).length = j - 1 := by rw [List.length_erase_of_mem hbm, HM.out]
          have HEL := Lib.hid hel
          clear e hle hbv hbm hbr hel
          go_wp2_with (first
            | (at_builtin; refine wpList_append_own _ rfl _ _ 22 rfl w.heap.size 3 i0 (.int .i64 0) 1 8 Tryd.underlying22 hi hz0 hz1 hz2 rfl (by decide) _ _ _ rfl (HOWN.out.alloc _) ⟨wo.heap.size, 0, none⟩ 1 1 [.int .i64 bv] rfl rfl (by intro p u hp; match p, hp with | 0, hp => simp at hp; subst hp; simp [Addr.add]) (by intro u hu; simp at hu; subst hu; rfl) (by unfold maxLen; omega) (by omega) (by simp; omega) ?_; intro v' w2 hown' hgrow _; have HO2 : Hid (OwnInts w2 w.heap.size v' (done ++ [bv])) := Lib.hid (by unfold OwnInts; simpa [ints] using hown'); have hs2 : wo.heap.size ≤ w2.heap.size := Nat.le_trans (by simp) hgrow.size; have HIN2 : Hid (IntsIn w2 w2.heap.size (some ⟨b, off, none⟩) rest) := Lib.hid ((HIN.out.far (w' := w2) (fun b' off' e hb' => (hgrow.block b' (by simp; omega) (HSEP.out b' off' e hb')).trans (Below.heap_alloc wo _ b' hb'))).more hs2); have HG := Lib.hid hgrow; clear hown' hgrow)
            | (go_at_call 50; refine (rWithout _ j c' w2.heap.size rest bv _ HM.out HIN2.out (Nat.le_refl _) (by omega)).mono ?_; rintro e w3 ⟨v3, rfl, hown3, hb3⟩; have HOWN3 := Lib.hid hown3; have HB3 := Lib.hid hb3; clear hown3 hb3))
          have HREL := Lib.hid (rrank_next (k := k) (l := l) HBE.out HOWN.out HO2.out HG.out HOWN3.out HB3.out HNEW.out)
          have hlv : lenOfV v3 = j - 1 := by
            obtain ⟨a3, c3, e3, _⟩ := HOWN3.out.shape
            rw [e3]; exact HEL.out
          have HLV := Lib.hid hlv
          clear hlv
          go_roundw
          case rel => exact HREL.out
          case measure => rw [HLV.out]; show j - 1 < j; omega
    · have hz : m = 0 := by omega
      subst hz
      have he : rest = [] := List.length_eq_zero_iff.1 HM.out
      have HE : Hid (RankInv k l done []) := Lib.hid (by rw [← he]; exact HINV.out)
      clear he hm
      go_wp2
      go_ret
      exact ⟨_, done, rfl, HOWN.out, HE.out, HBE.out⟩
end Go.Proofs.YthldhbcidcmmaaaDoor
