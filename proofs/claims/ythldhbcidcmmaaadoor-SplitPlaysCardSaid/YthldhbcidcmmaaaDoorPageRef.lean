/-
  The reference's pages: pow2, Rising, rows of rows of the call's own, by their contracts.
-/
import Derived.Test.YthldhbcidcmmaaaDoorSplitOps
import Derived.Test.YthldhbcidcmmaaaDoorRefPut0
import Derived.Test.YthldhbcidcmmaaaDoorRef3In
namespace Go.Proofs.YthldhbcidcmmaaaDoor
open Go.RowKit

def Pow2Rel (m : Nat) (p i : Value) : Prop := ∃ k : Nat, k ≤ m ∧ i = .int .i64 k ∧ p = .int .i64 ((2 ^ k : Nat) : Int)
theorem pow2_any (m : Nat) (w : World) (hm : m ≤ 7) : Calls Tryd.prog 42 #[.int .i64 m] w fun e w' => e = .returned (.int .i64 ((2 ^ m : Nat) : Int)) ∧ w = w' := by
  go_enter Tryd.func42, Tryd.ntmps42
  go_wp2
  go_loop [3, 4] (fun p i => Pow2Rel m p i) (fun _ i => m - (intOf i).toNat)
  case atStart => exact ⟨0, by omega, rfl, rfl⟩
  case round =>
    obtain ⟨k, hk, rfl, rfl⟩ := hrel
    have hp : 2 ^ k ≤ 2 ^ 7 := Nat.pow_le_pow_right (by decide) (by omega)
    have hs : 2 ^ (k + 1) = 2 ^ k * 2 := Nat.pow_succ ..
    obtain ⟨q, hq⟩ : ∃ q, q = 2 ^ k := ⟨_, rfl⟩
    rw [← hq] at hs hp ⊢
    have HQ := Lib.hid hq; have HS := Lib.hid hs
    clear hq hs
    by_cases hlt : k < m
    · have hki : (k : Int) < (m : Int) := by omega
      go_wp2
      go_round
      case rel => exact ⟨k + 1, hlt, by simp, by rw [HS.out]; go_num⟩
      case measure => simp [intOf]; omega
    · obtain rfl : k = m := by omega
      go_wp2
      go_ret
      exact ⟨ret_int (by rw [HQ.out]; simp), rfl⟩
theorem pow2_is (m q : Nat) (w : World) (hm : m ≤ 7) (hq : 2 ^ m = q) : Calls Tryd.prog 42 #[.int .i64 m] w fun e w' => e = .returned (.int .i64 q) ∧ w = w' := by
  subst hq; exact pow2_any m w hm

/-! ### Rising -/
def leastI (m : Int) (l : List Int) : Int := l.foldl (fun b x => if x < b then x else b) m
theorem leastI_take {m : Int} {l : List Int} {j : Nat} (h : j < l.length) : leastI m (l.take (j + 1)) = if l[j] < leastI m (l.take j) then l[j] else leastI m (l.take j) := by
  unfold leastI
  rw [List.take_succ_eq_append_getElem h, List.foldl_append]; rfl
theorem leastI_mem : ∀ (l : List Int) (m : Int), leastI m l = m ∨ leastI m l ∈ l
  | [], m => .inl rfl
  | x :: l, m => by
    unfold leastI
    simp only [List.foldl_cons]
    rcases leastI_mem l (if x < m then x else m) with h | h
    · unfold leastI at h
      rw [h]
      split
      · exact .inr (by simp)
      · exact .inl rfl
    · unfold leastI at h
      exact .inr (by simp [h])
theorem leastI_le : ∀ (l : List Int) (m : Int), ∀ x ∈ m :: l, leastI m l ≤ x
  | [], m, x, hx => by
    obtain rfl : x = m := by simpa using hx
    exact Int.le_refl _
  | y :: l, m, x, hx => by
    unfold leastI
    simp only [List.foldl_cons]
    have ih := leastI_le l (if y < m then y else m)
    have h0 := ih (if y < m then y else m) (by simp)
    unfold leastI at ih h0
    rw [List.mem_cons, List.mem_cons] at hx
    rcases hx with rfl | rfl | hx
    · split at h0 <;> split <;> omega
    · split at h0 <;> split <;> omega
    · exact ih x (by simp [hx])
/-- What has been taken out rises, and is below all that is left. -/
def RiseInv (l done rest : List Int) : Prop := (done ++ rest).Perm l ∧ (done ++ rest).Nodup ∧ Up done ∧ ∀ x ∈ done, ∀ y ∈ rest, x < y
theorem riseInv_start {l : List Int} (h : l.Nodup) : RiseInv l [] l := ⟨by simp, by simpa using h, by simp [Up], by simp⟩
theorem riseInv_step {l done rest : List Int} (h : RiseInv l done rest) {b : Int} (hb : b ∈ rest) (hle : ∀ y ∈ rest, b ≤ y) : RiseInv l (done ++ [b]) (rest.erase b) := by
  obtain ⟨h1, h2, h3, h4⟩ := h
  have hp : (done ++ [b] ++ rest.erase b).Perm (done ++ rest) := by
    rw [List.append_assoc]
    exact (List.Perm.refl done).append (List.perm_cons_erase hb).symm
  have hnd := hp.nodup_iff.2 h2
  refine ⟨hp.trans h1, hnd, ?_, fun x hx y hy => ?_⟩
  · unfold Up at h3 ⊢
    rw [List.pairwise_append]
    exact ⟨h3, by simp, fun x hx y hy => by obtain rfl : y = b := by simpa using hy
                                            exact h4 x hx y hb⟩
  · rw [List.mem_append, List.mem_singleton] at hx
    have hy' := List.mem_of_mem_erase hy
    rcases hx with hx | rfl
    · exact h4 x hx y hy'
    · have h5 := hle y hy'
      have h6 : x ≠ y := fun e => by
        subst e
        rw [List.nodup_append] at hnd
        exact hnd.2.2 x (by simp) x hy rfl
      omega

theorem IntsIn.far {w w' : World} {B : Nat} {a : Option Addr} {xs : List Int} (h : IntsIn w B a xs) (hk : ∀ b off, a = some ⟨b, off, none⟩ → b < B → w'.heap[b]? = w.heap[b]?) : IntsIn w' B a xs := fun hn => by
  obtain ⟨b, off, e, hb, hc⟩ := h hn
  exact ⟨b, off, e, hb, fun i x hx => (World.cell?_of_block (w := w) (hk b off e hb)).trans (hc i x hx)⟩
def lenOfV : Value → Nat
  | .slice _ n _ => n
  | _ => 0
def RiseRel (w : World) (l : List Int) (nodes out : Value) (wr : World) : Prop :=
  ∃ a c rest done, nodes = .slice a rest.length c ∧ IntsIn wr wr.heap.size a rest ∧ OwnInts wr w.heap.size out done ∧ RiseInv l done rest ∧ Below w.heap.size w wr ∧ ∀ b off, a = some ⟨b, off, none⟩ → b < wr.heap.size → some b ≠ out.ownBlock
def RiseIn (m0 : Int) (rest : List Int) (b i : Value) : Prop := ∃ j : Nat, j ≤ rest.length ∧ i = .int .i64 j ∧ b = .int .i64 (leastI m0 (rest.take j))
theorem rise_next {w wr w2 w3 : World} {l rest done : List Int} {out v' v3 : Value} {bv : Int} {o : Obj}
    (hbel : Below w.heap.size w wr) (hown : OwnInts wr w.heap.size out done) (hown' : OwnInts w2 w.heap.size v' (done ++ [bv])) (hgrow : (wr.alloc o).grownBy w2 out.ownBlock)
    (h3 : OwnInts w3 w2.heap.size v3 (rest.erase bv)) (hb3 : Below w2.heap.size w2 w3) (hinv : RiseInv l (done ++ [bv]) (rest.erase bv)) : RiseRel w l v3 v' w3 := by
  have hs2 : wr.heap.size ≤ w2.heap.size := Nat.le_trans (by simp) hgrow.size
  obtain ⟨a3, c3, e3, hi3⟩ := h3.shape
  have hlt := fun x (hx : v'.ownBlock = some x) => (World.ownsRow.lt hown' x hx).2
  refine ⟨a3, c3, rest.erase bv, done ++ [bv], e3, hi3, hown'.keep (fun g hg => hb3.block g (hlt g hg)), hinv, ?_, fun b off ha hb hbo => ?_⟩
  · exact ((hbel.alloc hbel.size _).grown hgrow (Nat.le_trans hbel.size (by simp)) (fun x hx => (World.ownsRow.lt hown x hx).1)).trans (hb3.mono (Nat.le_trans hbel.size hs2))
  · have h4 := hlt b hbo.symm
    obtain ⟨_, ⟨rfl, _⟩ | ⟨g, cap, cur, e, hbg, _⟩⟩ := h3
    · simp only [Value.slice.injEq] at e3
      rw [← e3.1] at ha
      cases ha
    · rw [e] at e3
      simp only [Value.slice.injEq] at e3
      rw [← e3.1] at ha
      simp only [Option.some.injEq, Addr.mk.injEq] at ha
      omega
def RisePost (w : World) (l : List Int) (e : Ending) (w' : World) : Prop := ∃ v r, e = .returned v ∧ OwnInts w' w.heap.size v r ∧ r.Perm l ∧ Up r ∧ Below w.heap.size w w'

set_option maxHeartbeats 4000000 in
set_option maxRecDepth 100000 in
theorem rising_any (a : Option Addr) (n c : Nat) (l : List Int) (w : World) (hl : l.length = n) (h : IntsIn w w.heap.size a l) (hnd : l.Nodup) (hn : n ≤ 12) :
    Calls Tryd.prog 43 #[.slice a n c] w (RisePost w l) := by
  have HL := Lib.hid hl; have H := Lib.hid h
  have HST := Lib.hid (riseInv_start hnd)
  clear hl h hnd
  have hn2 : (n : Int) ≤ 12 := by omega
  obtain ⟨i0, hi, hz0, hz1, hz2⟩ := info_parts info_int
  go_enter Tryd.func43, Tryd.ntmps43
  go_wp2
  go_loopw [0, 3, 4, 5] (fun nodes out _ _ wr => RiseRel w l nodes out wr) (fun nodes _ _ _ _ => lenOfV nodes)
  case atStart => exact ⟨a, c, l, [], by rw [HL.out], H.out, OwnInts.nil _ _, HST.out, Below.refl _ _, fun _ _ _ _ h => by simp [Value.ownBlock] at h⟩
  case round =>
    obtain ⟨a', c', rest, done, rfl, hin, hown, hinv, hbel, hsep⟩ := hrel
    have hlen : done.length + rest.length ≤ 12 := by
      have := hinv.1.length_eq
      rw [List.length_append] at this
      have := HL.out
      omega
    have hsz := hbel.size
    obtain ⟨m, hm⟩ : ∃ m, m = rest.length := ⟨_, rfl⟩
    rw [← hm] at hlen ⊢
    have HM := Lib.hid hm.symm
    have HIN := Lib.hid hin; have HOWN := Lib.hid hown; have HINV := Lib.hid hinv; have HBE := Lib.hid hbel; have HSEP := Lib.hid hsep
    clear hin hown hinv hbel hsep
    by_cases hpos : 0 < m
    · have hposi : (0 : Int) < (m : Int) := by omega
      have hmi : (m : Int) ≤ 12 := by omega
      have hm0 : 0 < rest.length := by rw [HM.out]; exact hpos
      obtain ⟨b, off, rfl, hbb, hc0⟩ := HIN.out.at_ hm0
      obtain ⟨m0, hm0e⟩ : ∃ m0, m0 = rest[0] := ⟨_, rfl⟩
      rw [← hm0e] at hc0
      rw [Nat.add_zero] at hc0
      have HM0 := Lib.hid hm0e
      clear hm0e hm
      obtain ⟨wo, rfl⟩ : ∃ wo : World, wo = wr := ⟨_, rfl⟩
      go_wp2
      go_loop [4, 5] (fun b i => RiseIn m0 rest b i) (fun _ i => m - (intOf i).toNat)
      case atStart => exact ⟨0, by omega, rfl, rfl⟩
      case round =>
        obtain ⟨j, hj, rfl, rfl⟩ := hrel
        obtain ⟨bv, hbv⟩ : ∃ bv, bv = leastI m0 (rest.take j) := ⟨_, rfl⟩
        have hbm : bv ∈ rest := by
          rcases leastI_mem (rest.take j) m0 with h | h
          · rw [hbv, h, HM0.out]; exact List.getElem_mem hm0
          · rw [hbv]; exact List.mem_of_mem_take h
        rw [← hbv]
        by_cases hlt : j < m
        · have hjl : j < rest.length := by rw [HM.out]; exact hlt
          have HBT := Lib.hid (leastI_take (m := m0) hjl)
          rw [← hbv] at HBT
          obtain ⟨b2, off2, e2, _, hcx⟩ := HIN.out.at_ hjl
          simp only [Option.some.injEq, Addr.mk.injEq] at e2
          obtain ⟨rfl, rfl, _⟩ := e2
          obtain ⟨x, hx⟩ : ∃ x, x = rest[j] := ⟨_, rfl⟩
          rw [← hx] at hcx HBT
          have hji : (j : Int) < (m : Int) := by omega
          have hj0 : (0 : Int) ≤ (j : Int) := by omega
          clear hx hbv hbm
          by_cases g : x < bv
          · have HG : Hid (leastI m0 (rest.take (j + 1)) = x) := Lib.hid (by rw [HBT.out, if_pos g])
            go_wp2
            go_round
            case rel => exact ⟨j + 1, hjl, by simp, by rw [HG.out]⟩
            case measure => simp [intOf]; omega
          · have HG : Hid (leastI m0 (rest.take (j + 1)) = bv) := Lib.hid (by rw [HBT.out, if_neg g])
            go_wp2
            go_round
            case rel => exact ⟨j + 1, hjl, by simp, by rw [HG.out]⟩
            case measure => simp [intOf]; omega
        · obtain rfl : j = m := by have := HM.out; omega
          have e : rest.take j = rest := List.take_of_length_le (by rw [HM.out]; exact Nat.le_refl _)
          have hle : ∀ y ∈ rest, bv ≤ y := fun y hy => by
            have := leastI_le rest m0 y (by simp [hy])
            rw [hbv, e]; exact this
          have HNEW := Lib.hid (riseInv_step HINV.out hbm hle)
          have hel : (rest.erase bv).length = j - 1 := by rw [List.length_erase_of_mem hbm, HM.out]
          have HEL := Lib.hid hel
          clear e hle hbv hbm hel
          go_wp2_with (first
            | (at_builtin; refine wpList_append_own _ rfl _ _ 22 rfl w.heap.size 3 i0 (.int .i64 0) 1 8 Tryd.underlying22 hi hz0 hz1 hz2 rfl (by decide) _ _ _ rfl (HOWN.out.alloc _) ⟨wo.heap.size, 0, none⟩ 1 1 [.int .i64 bv] rfl rfl (by intro p u hp; match p, hp with | 0, hp => simp at hp; subst hp; simp [Addr.add]) (by intro u hu; simp at hu; subst hu; rfl) (by unfold maxLen; omega) (by omega) (by simp; omega) ?_; intro v' w2 hown' hgrow _; have HO2 : Hid (OwnInts w2 w.heap.size v' (done ++ [bv])) := Lib.hid (by unfold OwnInts; simpa [ints] using hown'); have hs2 : wo.heap.size ≤ w2.heap.size := Nat.le_trans (by simp) hgrow.size; have HIN2 : Hid (IntsIn w2 w2.heap.size (some ⟨b, off, none⟩) rest) := Lib.hid ((HIN.out.far (w' := w2) (fun b' off' e hb' => (hgrow.block b' (by simp; omega) (HSEP.out b' off' e hb')).trans (Below.heap_alloc wo _ b' hb'))).more hs2); have HG := Lib.hid hgrow; clear hown' hgrow)
            | (go_at_call 50; refine (rWithout _ j c' w2.heap.size rest bv _ HM.out HIN2.out (Nat.le_refl _) (by omega)).mono ?_; rintro e w3 ⟨v3, rfl, hown3, hb3⟩; have HOWN3 := Lib.hid hown3; have HB3 := Lib.hid hb3; clear hown3 hb3))
          have HREL := Lib.hid (rise_next (l := l) HBE.out HOWN.out HO2.out HG.out HOWN3.out HB3.out HNEW.out)
          have hlv : lenOfV v3 = j - 1 := by
            obtain ⟨a3, c3, e3, _⟩ := HOWN3.out.shape
            rw [e3]; exact HEL.out
          have HLV := Lib.hid hlv
          clear hlv
          go_roundw
          case rel => exact HREL.out
          case measure => rw [HLV.out]; show j - 1 < j; omega
    · have hz : m = 0 := by omega
      subst hz
      have he : rest = [] := List.length_eq_zero_iff.1 HM.out
      have HE : Hid (done.Perm l ∧ Up done) := Lib.hid (by
        obtain ⟨h1, _, h3, _⟩ := HINV.out
        rw [he, List.append_nil] at h1
        exact ⟨h1, h3⟩)
      clear he hm
      go_wp2
      go_ret
      exact ⟨_, done, rfl, HOWN.out, HE.out.1, HE.out.2, HBE.out⟩
theorem up_eq : ∀ {xs ys : List Int}, Up xs → Up ys → xs.Perm ys → xs = ys
  | [], ys, _, _, h => (List.nil_perm.1 h).symm
  | x :: xs, [], _, _, h => absurd h.length_eq (by simp)
  | x :: xs, y :: ys, h1, h2, h => by
    unfold Up at h1 h2
    rw [List.pairwise_cons] at h1 h2
    have hx : x ∈ y :: ys := h.mem_iff.1 (by simp)
    have hy : y ∈ x :: xs := h.mem_iff.2 (by simp)
    have e : x = y := by
      rcases List.mem_cons.1 hx with e | hx
      · exact e
      · rcases List.mem_cons.1 hy with e | hy
        · exact e.symm
        · have := h1.1 y hy
          have := h2.1 x hx
          omega
    subst e
    rw [up_eq (xs := xs) (ys := ys) h1.2 h2.2 ((List.perm_cons x).1 h)]
/-- A key put at the head, and risen: it came in at its place. -/
theorem rise_ins {L r : List Int} {x : Int} (hL : Up L) (hx : ¬ x ∈ L) (hp : r.Perm (x :: L)) (hr : Up r) : r = insK x L := up_eq hr (hL.ins hx) (hp.trans (insK_perm x L).symm)

/-! ### rows of rows of the call's own -/
def OwnV (w : World) (base : Nat) (v : Value) (vals : List Value) : Prop := w.ownsRow base 22 1 v vals.length vals
/-- Values of rows that hold the lists. -/
def ValsOf (w : World) (vals : List Value) (xss : List (List Int)) : Prop := vals.length = xss.length ∧ ∀ (i : Nat) (xs : List Int), xss[i]? = some xs → ∃ v, vals[i]? = some v ∧ OwnInts w 0 v xs
theorem ValsOf.bel {w w' : World} {vals : List Value} {xss : List (List Int)} (h : ValsOf w vals xss) (hb : Below w.heap.size w w') : ValsOf w' vals xss :=
  ⟨h.1, fun i xs hx => by obtain ⟨v, h1, h2⟩ := h.2 i xs hx; exact ⟨v, h1, h2.keep fun g hg => hb.block g (World.ownsRow.lt h2 g hg).2⟩⟩
theorem ValsOf.keepG {w w' : World} {vals : List Value} {xss : List (List Int)} (h : ValsOf w vals xss) (hk : ∀ g, g < w.heap.size → (∀ v ∈ vals, v.ownBlock = some g → w'.heap[g]? = w.heap[g]?)) : ValsOf w' vals xss :=
  ⟨h.1, fun i xs hx => by obtain ⟨v, h1, h2⟩ := h.2 i xs hx; exact ⟨v, h1, h2.keep fun g hg => hk g (World.ownsRow.lt h2 g hg).2 v (List.mem_of_getElem? h1) hg⟩⟩
theorem ValsOf.nil (w : World) : ValsOf w [] [] := ⟨rfl, fun i xs h => by simp at h⟩
theorem ValsOf.snoc {w : World} {vals : List Value} {xss : List (List Int)} {v : Value} {xs : List Int} (h : ValsOf w vals xss) (hv : OwnInts w 0 v xs) : ValsOf w (vals ++ [v]) (xss ++ [xs]) := by
  refine ⟨by simp [h.1], fun i ys hy => ?_⟩
  rcases Nat.lt_or_ge i xss.length with g | g
  · rw [List.getElem?_append_left g] at hy
    rw [List.getElem?_append_left (by rw [h.1]; exact g)]
    exact h.2 i ys hy
  · rw [List.getElem?_append_right g] at hy
    rw [List.getElem?_append_right (by rw [h.1]; exact g), h.1]
    have hi : i - xss.length = 0 := by
      have := (List.getElem?_eq_some_iff.1 hy).1
      simpa using this
    rw [hi] at hy ⊢
    simp at hy
    subst hy
    exact ⟨v, rfl, hv⟩
theorem ValsOf.app {w : World} {vals vals' : List Value} {xss xss' : List (List Int)} (h : ValsOf w vals xss) (h' : ValsOf w vals' xss') : ValsOf w (vals ++ vals') (xss ++ xss') := by
  refine ⟨by simp [h.1, h'.1], fun i ys hy => ?_⟩
  rcases Nat.lt_or_ge i xss.length with g | g
  · rw [List.getElem?_append_left g] at hy
    rw [List.getElem?_append_left (by rw [h.1]; exact g)]
    exact h.2 i ys hy
  · rw [List.getElem?_append_right g] at hy
    rw [List.getElem?_append_right (by rw [h.1]; exact g), h.1]
    exact h'.2 _ ys hy
theorem ValsOf.one {w : World} {vals : List Value} {xss : List (List Int)} (h : ValsOf w vals xss) : ∀ u ∈ vals, u.oneCell' = true := fun u hu => by
  obtain ⟨i, hi, rfl⟩ := List.getElem_of_mem hu
  obtain ⟨v, h1, h2⟩ := h.2 i _ (List.getElem?_eq_getElem (by rw [← h.1]; exact hi))
  rw [List.getElem?_eq_getElem hi] at h1
  obtain ⟨a, c, e, _⟩ := h2.shape
  rw [Option.some.inj h1, e]; rfl
theorem ValsOf.at_ {w : World} {vals : List Value} {xss : List (List Int)} {i : Nat} (h : ValsOf w vals xss) (hi : i < xss.length) : ∃ a c, vals[i]? = some (.slice a xss[i].length c) ∧ OwnInts w 0 (.slice a xss[i].length c) xss[i] := by
  obtain ⟨v, h1, h2⟩ := h.2 i _ (List.getElem?_eq_getElem hi)
  obtain ⟨a, c, e, _⟩ := h2.shape
  subst e
  exact ⟨a, c, h1, h2⟩
end Go.Proofs.YthldhbcidcmmaaaDoor
