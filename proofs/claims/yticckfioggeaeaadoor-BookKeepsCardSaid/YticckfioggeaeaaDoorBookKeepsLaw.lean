/-
  BookKeeps: the keys are the last unlike ones that were asked for; plain.
-/
import Derived.Test.YticckfioggeaeaaDoorBookLaw
set_option linter.unusedVariables false
set_option linter.unusedSimpArgs false
set_option linter.unnecessarySimpa false
namespace Go.Proofs.YticckfioggeaeaaDoor

def addU (l : List Int) (x : Int) : List Int := if x ∈ l then l else l ++ [x]
def uniq (r : List Int) : List Int := r.foldl addU []
theorem uniq_snoc (r : List Int) (x : Int) : uniq (r ++ [x]) = addU (uniq r) x := by simp [uniq]
theorem addU_nodup {l : List Int} (h : l.Nodup) (x : Int) : (addU l x).Nodup := by
  unfold addU
  split
  · exact h
  · rename_i hx
    rw [List.nodup_append]
    exact ⟨h, by simp, fun a ha b hb e => by simp at hb; subst hb; subst e; exact hx ha⟩
theorem foldl_addU_prefix : ∀ (r l : List Int), ∃ t, r.foldl addU l = l ++ t
  | [], l => ⟨[], by simp⟩
  | x :: r, l => by
    obtain ⟨t, ht⟩ := foldl_addU_prefix r (addU l x)
    rw [List.foldl_cons, ht]
    unfold addU
    split
    · exact ⟨t, rfl⟩
    · exact ⟨x :: t, by simp⟩
theorem uniq_prefix (r t : List Int) : ∃ u, uniq (r ++ t) = uniq r ++ u := by
  unfold uniq
  rw [List.foldl_append]
  exact foldl_addU_prefix t _
theorem uniq_nodup (r : List Int) : (uniq r).Nodup := by
  have : ∀ (r l : List Int), l.Nodup → (r.foldl addU l).Nodup := by
    intro r
    induction r with
    | nil => intro l h; exact h
    | cons x r ih => intro l h; exact ih _ (addU_nodup h x)
  exact this r [] (by simp)
theorem foldl_cons_gen (x : Int) : ∀ (r l : List Int), r.foldl addU (x :: l.filter (fun y => y != x)) = x :: (r.foldl addU l).filter (fun y => y != x)
  | [], l => rfl
  | y :: r, l => by
    rw [List.foldl_cons, List.foldl_cons, ← foldl_cons_gen x r (addU l y)]
    congr 1
    unfold addU
    by_cases e : y = x
    · subst e
      rw [if_pos (by simp)]
      split
      · rfl
      · rw [List.filter_append]; simp
    · by_cases hm : y ∈ l
      · rw [if_pos hm, if_pos (by simp [hm, e])]
      · rw [if_neg hm, if_neg (by simp [hm, e]), List.filter_append]
        simp [e]
theorem uniq_cons (x : Int) (r : List Int) : uniq (x :: r) = x :: (uniq r).filter (fun y => y != x) := by
  have := foldl_cons_gen x r []
  simpa [uniq, addU] using this
/-- The first so many of the unlike ones, with one more ahead. -/
theorem take_hit {U : List Int} {x : Int} {n : Nat} (hn : 1 ≤ n) (hx : x ∈ U.take n) (hu : U.Nodup) : (x :: U.filter (fun y => y != x)).take n = x :: (U.take n).filter (fun y => y != x) := by
  obtain ⟨A, B, hAB⟩ := List.append_of_mem hx
  obtain ⟨k, rfl⟩ : ∃ k, n = k + 1 := ⟨n - 1, by omega⟩
  rw [List.take_succ_cons]
  congr 1
  have hU : U = A ++ x :: (B ++ U.drop (k + 1)) := by
    conv => lhs; rw [← List.take_append_drop (k + 1) U, hAB]
    simp
  have hl : A.length + 1 + B.length ≤ k + 1 := by
    have := congrArg List.length hAB
    rw [List.length_take, List.length_append, List.length_cons] at this
    omega
  rw [hU] at hu
  rw [List.nodup_append, List.nodup_cons] at hu
  have hA : A.filter (fun y => y != x) = A := List.filter_eq_self.2 fun y hy => by simpa using hu.2.2 y hy x (by simp)
  have hB : B.filter (fun y => y != x) = B := List.filter_eq_self.2 fun y hy => by
    have : y ≠ x := fun e => hu.2.1.1 (by rw [← e]; simp [hy])
    simpa using this
  have hD : (U.drop (k + 1)).filter (fun y => y != x) = U.drop (k + 1) := List.filter_eq_self.2 fun y hy => by
    have : y ≠ x := fun e => hu.2.1.1 (by rw [← e]; simp [hy])
    simpa using this
  rw [hAB]
  conv => lhs; rw [hU]
  rw [List.filter_append, List.filter_append, List.filter_cons, List.filter_cons, if_neg (by simp), if_neg (by simp), List.filter_append, hA, hB, hD]
  rw [List.take_append, List.take_of_length_le (by omega)]
  congr 1
  by_cases hk : U.length ≤ k + 1
  · rw [List.drop_of_length_le hk, List.append_nil, List.take_of_length_le (by omega)]
  · have hl2 : A.length + 1 + B.length = k + 1 := by
      have := congrArg List.length hAB
      rw [List.length_take, List.length_append, List.length_cons] at this
      omega
    rw [List.take_append_of_le_length (by omega), List.take_of_length_le (by omega)]
theorem take_room {U : List Int} {x : Int} {n : Nat} (hx : x ∉ U.take n) (hl : (U.take n).length < n) : (x :: U.filter (fun y => y != x)).take n = x :: (U.take n).filter (fun y => y != x) := by
  have hU : U.length < n := by rw [List.length_take] at hl; omega
  rw [List.take_of_length_le (l := U) (by omega)] at hx ⊢
  have hf : U.filter (fun y => y != x) = U := List.filter_eq_self.2 fun y hy => by
    have : y ≠ x := fun e => hx (by rw [← e]; exact hy)
    simpa using this
  rw [hf, List.take_of_length_le (by simp; omega)]
theorem take_full {U : List Int} {x : Int} {n : Nat} (hn : 1 ≤ n) (hx : x ∉ U.take n) (hl : (U.take n).length = n) : (x :: U.filter (fun y => y != x)).take n = x :: ((U.take n).dropLast).filter (fun y => y != x) := by
  obtain ⟨k, rfl⟩ : ∃ k, n = k + 1 := ⟨n - 1, by omega⟩
  rw [List.take_succ_cons]
  congr 1
  have hf : (U.take (k + 1)).filter (fun y => y != x) = U.take (k + 1) := List.filter_eq_self.2 fun y hy => by
    have : y ≠ x := fun e => hx (by rw [← e]; exact hy)
    simpa using this
  have hd : ((U.take (k + 1)).dropLast).filter (fun y => y != x) = (U.take (k + 1)).dropLast := List.filter_eq_self.2 fun y hy => by
    have : y ≠ x := fun e => hx (by rw [← e]; exact (List.dropLast_sublist _).subset hy)
    simpa using this
  rw [hd]
  conv => lhs; rw [← List.take_append_drop (k + 1) U]
  rw [List.filter_append, hf, List.take_append_of_le_length (by omega), List.dropLast_eq_take, hl]
  rfl

/-- The last value of a key among the first so many. -/
def lastTo (ks vs : List Int) (x : Int) : Nat → Int
  | 0 => -1
  | k + 1 => if ks.getD k 0 = x then vs.getD k 0 else lastTo ks vs x k
theorem lastTo_app (ks vs ks' vs' : List Int) (x : Int) : ∀ k, k ≤ ks.length → k ≤ vs.length → lastTo (ks ++ ks') (vs ++ vs') x k = lastTo ks vs x k
  | 0, _, _ => rfl
  | k + 1, h, h' => by
    rw [lastTo, lastTo, lastTo_app ks vs ks' vs' x k (by omega) (by omega)]
    simp only [List.getD_eq_getElem?_getD]
    rw [List.getElem?_append_left (by omega), List.getElem?_append_left (by omega)]
structure KT where
  s : Bk
  asked : List Int
  ks : List Int
  vs : List Int
def kt0 : KT := ⟨bk0, [], [], []⟩
def kStep (slots : Nat) (t : KT) (l : List Int) : KT := match l with
  | [k, v] => if putE t.s k v = 0 then ⟨putB slots t.s k v, t.asked ++ [k], t.ks ++ [k], t.vs ++ [v]⟩ else t
  | [k] => if getE t.s k = 0 then ⟨getB t.s k, t.asked ++ [k], t.ks, t.vs⟩ else t
  | _ => t
structure KI (slots : Nat) (t : KT) : Prop where
  ok : BkOk slots t.s
  key : t.s.keys = (uniq t.asked.reverse).take slots
  len : t.ks.length = t.vs.length
  lenA : t.ks.length ≤ t.asked.length
  val : ∀ p ∈ t.s.M, lastTo t.ks t.vs p.1 t.ks.length = p.2
theorem ki0 (slots : Nat) : KI slots kt0 := ⟨bk0_ok slots, by simp [kt0, bk0, Bk.keys, uniq], rfl, Nat.le_refl _, by simp [kt0, bk0]⟩
theorem keys_len (s : Bk) : s.keys.length = s.M.length := by unfold Bk.keys; rw [List.length_map]
theorem filter_keysB (M : List (Int × Int)) (x : Int) : (M.filter fun p => p.1 != x).map (·.1) = (M.map (·.1)).filter (fun y => y != x) := filter_keys M x
theorem KI.put {slots : Nat} {t : KT} (h : KI slots t) (h1 : 1 ≤ slots) {k v : Int} (he : putE t.s k v = 0) : KI slots ⟨putB slots t.s k v, t.asked ++ [k], t.ks ++ [k], t.vs ++ [v]⟩ where
  ok := h.ok.put h1 he
  key := by
    show ((k, v) :: (outM slots t.s k).filter fun p => p.1 != k).map (·.1) = (uniq (t.asked ++ [k]).reverse).take slots
    rw [List.reverse_append, List.reverse_singleton, List.singleton_append, uniq_cons, List.map_cons, filter_keysB]
    by_cases hf : fullFor slots t.s k
    · have hm := hf.1
      have hl := hf.2
      rw [h.key] at hm
      rw [take_full h1 hm (by rw [← h.key, keys_len]; exact hl)]
      unfold outM
      rw [if_pos hf, List.map_dropLast]
      show k :: (t.s.keys.dropLast).filter _ = _
      rw [h.key]
    · unfold outM
      rw [if_neg hf]
      show k :: (t.s.keys).filter _ = _
      by_cases hm : k ∈ t.s.keys
      · rw [h.key] at hm
        rw [take_hit h1 hm (uniq_nodup _), h.key]
      · have hl : t.s.M.length ≠ slots := fun e => hf ⟨hm, e⟩
        have hle := h.ok.len
        rw [h.key] at hm
        rw [take_room hm (by rw [← h.key, keys_len]; omega), h.key]
  len := by simp [h.len]
  lenA := by have := h.lenA; simp; omega
  val := by
    intro p hp
    show lastTo (t.ks ++ [k]) (t.vs ++ [v]) p.1 (t.ks ++ [k]).length = p.2
    rw [List.length_append, List.length_singleton, lastTo]
    simp only [List.getD_eq_getElem?_getD]
    rw [List.getElem?_append_right (by omega), List.getElem?_append_right (by have := h.len; omega), Nat.sub_self, h.len, Nat.sub_self]
    rcases List.mem_cons.1 hp with rfl | hp
    · simp
    · have h2 := List.mem_filter.1 hp
      have hne : p.1 ≠ k := by simpa using h2.2
      rw [if_neg (by simpa using Ne.symm hne), ← h.len, lastTo_app _ _ _ _ _ _ (Nat.le_refl _) (by rw [h.len]; exact Nat.le_refl _)]
      refine h.val p ?_
      have := h2.1
      unfold outM at this
      split at this
      · exact (List.dropLast_sublist _).subset this
      · exact this
theorem KI.get {slots : Nat} {t : KT} (h : KI slots t) (h1 : 1 ≤ slots) {k : Int} (he : getE t.s k = 0) : KI slots ⟨getB t.s k, t.asked ++ [k], t.ks, t.vs⟩ ∧ lastTo t.ks t.vs k t.ks.length = valOf t.s k := by
  have hk : k ∈ t.s.keys := by
    unfold getE at he
    split at he
    · cases he
    · rename_i hk; simpa using hk
  have hv : lastTo t.ks t.vs k t.ks.length = valOf t.s k := h.val _ (valOf_mem hk)
  refine ⟨⟨h.ok.get he, ?_, h.len, ?_, ?_⟩, hv⟩
  · show ((k, valOf t.s k) :: t.s.M.filter fun p => p.1 != k).map (·.1) = (uniq (t.asked ++ [k]).reverse).take slots
    rw [List.reverse_append, List.reverse_singleton, List.singleton_append, uniq_cons, List.map_cons, filter_keysB]
    have hk2 := hk
    rw [h.key] at hk2
    rw [take_hit h1 hk2 (uniq_nodup _)]
    show k :: (t.s.keys).filter _ = _
    rw [h.key]
  · have := h.lenA; simp; omega
  · intro p hp
    rcases List.mem_cons.1 hp with rfl | hp
    · exact hv
    · exact h.val p (List.mem_filter.1 hp).1
/-- What has been collected, going back. -/
theorem want_end {slots : Nat} {asked : List Int} {i : Nat} (hi : i ≤ asked.length) (hl : (uniq (asked.reverse.take i)).length ≤ slots) (he : i = asked.length ∨ (uniq (asked.reverse.take i)).length = slots) : uniq (asked.reverse.take i) = (uniq asked.reverse).take slots := by
  rcases he with e | e
  · rw [List.take_of_length_le (l := asked.reverse) (by simp; omega)] at hl ⊢
    rw [List.take_of_length_le hl]
  · obtain ⟨u, hu⟩ := uniq_prefix (asked.reverse.take i) (asked.reverse.drop i)
    rw [List.take_append_drop] at hu
    rw [hu, ← e, List.take_left]
end Go.Proofs.YticckfioggeaeaaDoor
