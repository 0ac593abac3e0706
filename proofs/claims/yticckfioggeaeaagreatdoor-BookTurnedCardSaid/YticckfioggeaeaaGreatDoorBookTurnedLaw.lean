/-
  BookTurned: plain. A byte of a line that was put down is another one: what is wrong is told.
-/
import Derived.Test.YticckfioggeaeaaGreatDoorGB
set_option linter.unusedVariables false
set_option linter.unusedSimpArgs false
set_option linter.unnecessarySimpa false
namespace Go.Proofs.YticckfioggeaeaaGreatDoor

theorem wsum_le2 (b : Nat) : ∀ (l : List UInt8) (i : Nat), (∀ c ∈ l, c.toNat ≤ b) → 2 * wsum i l ≤ b * (l.length * (2 * i + l.length + 1))
  | [], i, _ => by simp [wsum]
  | c :: l, i, h => by
    have h1 := h c (by simp)
    have h2 := wsum_le2 b l (i + 1) (fun x hx => h x (by simp [hx]))
    rw [wsum, List.length_cons]
    have h3 : (i + 1) * c.toNat ≤ (i + 1) * b := Nat.mul_le_mul_left _ h1
    have h5 : b * ((l.length + 1) * (2 * i + (l.length + 1) + 1)) = b * (l.length * (2 * (i + 1) + l.length + 1)) + 2 * ((i + 1) * b) := by
      have : (l.length + 1) * (2 * i + (l.length + 1) + 1) = l.length * (2 * (i + 1) + l.length + 1) + 2 * (i + 1) := by
        have h6 : ∀ m : Nat, (m + 1) * (2 * i + (m + 1) + 1) = m * (2 * (i + 1) + m + 1) + 2 * (i + 1) := by
          intro m
          simp only [Nat.add_mul, Nat.mul_add]
          omega
        exact h6 _
      rw [this, Nat.mul_add, Nat.mul_comm b (2 * (i + 1)), Nat.mul_assoc]
    omega
theorem wsum_set : ∀ (l : List UInt8) (i j : Nat) (c : UInt8) (hj : j < l.length), wsum i (l.set j c) + (i + j + 1) * l[j].toNat = wsum i l + (i + j + 1) * c.toNat
  | x :: l, i, 0, c, _ => by
    rw [List.set_cons_zero, wsum, wsum]
    show (i + 1) * c.toNat + wsum (i + 1) l + (i + 1) * x.toNat = _
    show _ = (i + 1) * x.toNat + wsum (i + 1) l + (i + 1) * c.toNat
    omega
  | x :: l, i, j + 1, c, hj => by
    have hj' : j < l.length := by simpa using hj
    have := wsum_set l (i + 1) j c hj'
    rw [List.set_cons_succ, wsum, wsum, List.getElem_cons_succ]
    rw [show i + 1 + j + 1 = i + (j + 1) + 1 by omega] at this
    omega
/-- A word that is put down: a letter, a space, and numbers. -/
structure Word (W : List UInt8) : Prop where
  len : W.length ≤ 14
  sum0 : 100 ≤ wsum 0 W
  sum1 : wsum 0 W ≤ 5990
  cut : ∃ A B, W = A ++ 32 :: B ∧ digs B ∧ B ≠ []
theorem Word.mk2 {x : UInt8} {D : List UInt8} (h1 : 100 ≤ x.toNat) (h2 : x.toNat ≤ 112) (hD : D.length ≤ 12) (hb : ∀ c ∈ D, c.toNat ≤ 57) (hc : ∃ A B, x :: 32 :: D = A ++ 32 :: B ∧ digs B ∧ B ≠ []) : Word (x :: 32 :: D) := by
  have h := wsum_le2 57 D 2 hb
  have h3 : D.length * (2 * 2 + D.length + 1) ≤ 12 * 17 := Nat.mul_le_mul hD (by omega)
  have e : wsum 0 (x :: 32 :: D) = x.toNat + 64 + wsum 2 D := by
    rw [wsum, wsum]
    have : (32 : UInt8).toNat = 32 := rfl
    rw [this]
    show (0 + 1) * x.toNat + ((0 + 1 + 1) * 32 + wsum 2 D) = _
    omega
  refine ⟨by simp; omega, by omega, by omega, hc⟩
theorem digs_le {l : List UInt8} (h : digs l) : ∀ c ∈ l, c.toNat ≤ 57 := fun c hc => (h c hc).2
theorem itoa_ne {n : Int} (h : 0 ≤ n) : Lib.itoa n ≠ [] := by
  obtain ⟨u, rfl⟩ := Int.eq_ofNat_of_zero_le h
  rw [itoa_nat]
  exact dec_ne u
theorem word_P {k v : Int} (h : okPut k v) : Word (wordP k v) := by
  have h1 := itoa_len (n := k) (k := 7) h.1.1 (by decide) (by have := h.1.2; omega)
  have h2 := itoa_len (n := v) (k := 4) h.2.1 (by decide) (by have := h.2.2; omega)
  refine Word.mk2 (by decide) (by decide) (by simp only [List.length_append, List.length_cons]; omega) ?_ ⟨112 :: 32 :: Lib.itoa k, Lib.itoa v, rfl, itoa_dig h.2.1, itoa_ne h.2.1⟩
  intro c hc
  rw [List.mem_append, List.mem_cons] at hc
  rcases hc with hc | rfl | hc
  · exact digs_le (itoa_dig h.1.1) c hc
  · decide
  · exact digs_le (itoa_dig h.2.1) c hc
theorem word_G {k : Int} (h : 0 ≤ k ∧ k ≤ 1000000) : Word (wordG k) := by
  have h1 := itoa_len (n := k) (k := 7) h.1 (by decide) (by have := h.2; omega)
  exact Word.mk2 (by decide) (by decide) (by omega) (digs_le (itoa_dig h.1)) ⟨[103], Lib.itoa k, rfl, itoa_dig h.1, itoa_ne h.1⟩

theorem cut_other (slots : Nat) (s : Bk) {l a b : List UInt8} (h : lastCut l = some (a, b)) (hn : ∀ n : Nat, numberM b = some (n : Int) → n ≠ sumB a) : (lineM slots s l).2 = 2 ∨ (lineM slots s l).2 = 6 := by
  unfold lineM
  rw [h]
  simp only
  cases hb : numberM b with
  | none => exact Or.inl rfl
  | some n =>
    obtain ⟨u, rfl, _, _⟩ := numberM_some hb
    simp only
    rw [if_pos (by have := hn u hb; omega)]
    exact Or.inr rfl
theorem valD_acc : ∀ (l : List UInt8) (a b : Nat), a ≤ b → valD a l ≤ valD b l
  | [], _, _, h => h
  | c :: l, a, b, h => by rw [valD_cons, valD_cons]; exact valD_acc l _ _ (by omega)
theorem mod_other1 {a d m : Nat} (h1 : 1 ≤ d) (h2 : d < m) : (a + d) % m ≠ a % m := by
  intro e
  have h3 : (a + d) % m = (a % m + d) % m := by simp
  have h4 := Nat.mod_lt a (show 0 < m by omega)
  rw [h3] at e
  rcases Nat.lt_or_ge (a % m + d) m with h5 | h5
  · rw [Nat.mod_eq_of_lt h5] at e; omega
  · rw [Nat.mod_eq_sub_mod h5, Nat.mod_eq_of_lt (by omega)] at e; omega
theorem mod_other {a b d m : Nat} (h : a + d = b ∨ b + d = a) (h1 : 1 ≤ d) (h2 : d < m) : a % m ≠ b % m := by
  rcases h with rfl | rfl
  · exact fun e => mod_other1 h1 h2 e.symm
  · exact fun e => mod_other1 h1 h2 e
theorem sum_set_other {W : List UInt8} (hW : W.length ≤ 14) {j : Nat} (hj : j < W.length) {c : UInt8} (hc : c ≠ W[j]) : sumB (W.set j c) ≠ sumB W := by
  have h := wsum_set W 0 j c hj
  have hc1 := UInt8.toNat_lt c
  have hc2 := UInt8.toNat_lt W[j]
  have hcn : c.toNat ≠ W[j].toNat := fun e => hc (UInt8.toNat_inj.1 e)
  rw [show 0 + j + 1 = j + 1 by omega] at h
  unfold sumB
  rcases Nat.lt_or_ge c.toNat W[j].toNat with hl | hg
  · obtain ⟨d, hd⟩ : ∃ d, W[j].toNat = c.toNat + d := ⟨W[j].toNat - c.toNat, by omega⟩
    rw [hd, Nat.mul_add] at h
    have hm1 : 1 * 1 ≤ (j + 1) * d := Nat.mul_le_mul (by omega) (by omega)
    have hm2 : (j + 1) * d ≤ 14 * 255 := Nat.mul_le_mul (by omega) (by omega)
    exact mod_other (d := (j + 1) * d) (Or.inl (by omega)) (by omega) (by omega)
  · obtain ⟨d, hd⟩ : ∃ d, c.toNat = W[j].toNat + d := ⟨c.toNat - W[j].toNat, by omega⟩
    rw [hd, Nat.mul_add] at h
    have hm1 : 1 * 1 ≤ (j + 1) * d := Nat.mul_le_mul (by omega) (by omega)
    have hm2 : (j + 1) * d ≤ 14 * 255 := Nat.mul_le_mul (by omega) (by omega)
    exact mod_other (d := (j + 1) * d) (Or.inr (by omega)) (by omega) (by omega)
theorem dec_ge {k u : Nat} (h : k + 1 ≤ (Lib.decDigits u).length) (hk : 1 ≤ k) : 10 ^ k ≤ u := by
  rcases Nat.lt_or_ge u (10 ^ k) with h1 | h1
  · have := dec_len_le hk h1; omega
  · exact h1
/-- A line in which one byte is another one is none. -/
theorem line_turned (slots : Nat) (s : Bk) {W : List UInt8} (hW : Word W) {j : Nat} {c : UInt8} (hj : j < (W ++ 32 :: Lib.itoa (sumB W : Nat)).length) (hc : c ≠ (W ++ 32 :: Lib.itoa (sumB W : Nat))[j]) :
    (lineM slots s ((W ++ 32 :: Lib.itoa (sumB W : Nat)).set j c)).2 = 2 ∨ (lineM slots s ((W ++ 32 :: Lib.itoa (sumB W : Nat)).set j c)).2 = 6 := by
  have hlen := hW.len
  have hS : sumB W = wsum 0 W := Nat.mod_eq_of_lt (by have := hW.sum1; omega)
  have hdig : digs (Lib.itoa (sumB W : Nat)) := itoa_dig (by omega)
  have hno : 32 ∉ Lib.itoa (sumB W : Nat) := digs_no hdig 32 (by decide)
  have hnum : numberM (Lib.itoa (sumB W : Nat)) = some (sumB W : Nat) := by rw [itoa_nat]; exact numberM_dec (by have := sumB_lt W; omega)
  rw [List.length_append, List.length_cons] at hj
  rcases Nat.lt_or_ge j W.length with h1 | h1
  · -- in the word
    rw [List.getElem_append_left h1] at hc
    rw [List.set_append_left _ _ h1]
    refine cut_other slots s (lastCut_mk _ _ hno) fun n hn e => ?_
    rw [hnum] at hn
    have : sumB W = n := by have := Option.some.inj hn; omega
    exact sum_set_other hlen h1 hc (by rw [this, ← e])
  · rw [List.getElem_append_right h1] at hc
    rw [List.set_append_right _ _ h1]
    rcases Nat.eq_or_lt_of_le h1 with h2 | h2
    · -- the space ahead of the sum
      subst h2
      simp only [Nat.sub_self, List.getElem_cons_zero] at hc
      rw [Nat.sub_self, List.set_cons_zero]
      obtain ⟨A, B, hAB, hdB, hB⟩ := hW.cut
      have h32B : 32 ∉ B := digs_no hdB 32 (by decide)
      have hcut : lastCut (W ++ c :: Lib.itoa (sumB W : Nat)) = some (A, B ++ c :: Lib.itoa (sumB W : Nat)) := by
        rw [hAB, List.append_assoc, List.cons_append]
        refine lastCut_mk _ _ ?_
        rw [List.mem_append, List.mem_cons]
        rintro (h | h | h)
        · exact h32B h
        · exact hc h.symm
        · rw [← hAB] at h; exact hno h
      refine cut_other slots s hcut fun n hn e => ?_
      obtain ⟨u, hu, _, hd⟩ := numberM_some hn
      obtain rfl : n = u := by omega
      have hl : (B ++ c :: Lib.itoa (sumB W : Nat)).length = (Lib.decDigits n).length := by rw [hd]
      have h3 : 3 ≤ (Lib.itoa (sumB W : Nat)).length := by
        rw [itoa_nat]
        exact dec_len_gt (k := 2) (by have := hW.sum0; omega)
      have hBl : 1 ≤ B.length := List.length_pos_iff.2 hB
      rw [List.length_append, List.length_cons] at hl
      have h4 := dec_ge (k := 4) (u := n) (by omega) (by decide)
      have := sumB_lt A
      omega
    · -- in the sum
      obtain ⟨q, hq⟩ : ∃ q, j - W.length = q + 1 := ⟨j - W.length - 1, by omega⟩
      simp only [hq] at hc ⊢
      rw [List.getElem_cons_succ] at hc
      rw [List.set_cons_succ]
      obtain ⟨T, hT⟩ : ∃ T, T = Lib.itoa (sumB W : Nat) := ⟨_, rfl⟩
      have hql : q < T.length := by rw [hT]; omega
      simp only [← hT] at hc hno hnum hdig ⊢
      by_cases h32 : c = 32
      · subst h32
        obtain ⟨P, hP⟩ : ∃ P, P = T.take q := ⟨_, rfl⟩
        obtain ⟨R, hR⟩ : ∃ R, R = T.drop (q + 1) := ⟨_, rfl⟩
        have hset : T.set q 32 = P ++ 32 :: R := by rw [List.set_eq_take_append_cons_drop, if_pos hql, hP, hR]
        have hTe : T = P ++ T[q] :: R := by rw [hP, hR, List.getElem_cons_drop, List.take_append_drop]
        have hR32 : 32 ∉ R := fun h => hno (by rw [hR] at h; exact List.mem_of_mem_drop h)
        have hcut : lastCut (W ++ 32 :: T.set q 32) = some (W ++ 32 :: P, R) := by
          rw [hset, show W ++ 32 :: (P ++ 32 :: R) = (W ++ 32 :: P) ++ 32 :: R by simp]
          exact lastCut_mk _ _ hR32
        refine cut_other slots s hcut fun n hn e => ?_
        obtain ⟨u, hu, _, hd⟩ := numberM_some hn
        obtain rfl : n = u := by omega
        have hnv : valD 0 R = n := by rw [hd, valD_dec]
        have hTv : valD 0 T = sumB W := by rw [hT, itoa_nat, valD_dec]
        have hTl : T.length ≤ 4 := by rw [hT]; exact itoa_len (by omega) (by decide) (by have := sumB_lt W; omega)
        have hPl : P.length ≤ 3 := by rw [hP, List.length_take]; omega
        have hPd : ∀ x ∈ P, x.toNat ≤ 57 := fun x hx => (hdig x (by rw [hP] at hx; exact List.mem_of_mem_take hx)).2
        have hle : n ≤ sumB W := by
          rw [← hnv, ← hTv, hTe, valD_append, valD_cons]
          exact valD_acc R _ _ (Nat.zero_le _)
        have hp2 := wsum_le2 57 P (W.length + 1) hPd
        have hp3 : P.length * (2 * (W.length + 1) + P.length + 1) ≤ 3 * 34 := Nat.mul_le_mul hPl (by omega)
        have hw : wsum 0 (W ++ 32 :: P) = wsum 0 W + ((W.length + 1) * 32 + wsum (W.length + 1) P) := by
          rw [wsum_append, wsum]
          have : (32 : UInt8).toNat = 32 := rfl
          rw [this]; simp
        have hs1 := hW.sum1
        have hsum : sumB (W ++ 32 :: P) = wsum 0 (W ++ 32 :: P) := Nat.mod_eq_of_lt (by omega)
        omega
      · refine cut_other slots s (lastCut_mk W (T.set q c) ?_) fun n hn e => ?_
        · intro h
          rcases List.mem_or_eq_of_mem_set h with h | h
          · exact hno h
          · exact h32 h.symm
        · obtain ⟨u, hu, _, hd⟩ := numberM_some hn
          obtain rfl : n = u := by omega
          have h6 : T.set q c = T := by rw [hd, hT, itoa_nat, e]
          have h7 : (T.set q c)[q]'(by simpa using hql) = T[q] := by simp only [h6]
          rw [List.getElem_set_self] at h7
          exact hc h7
theorem step_turned {slots : Nat} {s : Bk} (hok : BkOk slots s) {l : List Int} (h : errStep s l = 0) (s' : Bk) {j : Nat} {c : UInt8} (hj : j < (stepLine l).length) (hc : c ≠ (stepLine l)[j]) :
    (lineM slots s' ((stepLine l).set j c)).2 = 2 ∨ (lineM slots s' ((stepLine l).set j c)).2 = 6 := by
  match l, h with
  | [k, v], h =>
    have h' : putE s k v = 0 := h
    have hk : okPut k v := by
      unfold putE at h'
      split at h'
      · cases h'
      · rename_i h2; simpa using h2
    exact line_turned slots s' (word_P hk) hj hc
  | [k], h =>
    have h' : getE s k = 0 := h
    have hk : 0 ≤ k ∧ k ≤ 1000000 := by
      unfold getE at h'
      split at h'
      · cases h'
      · rename_i h2
        have h3 : k ∈ s.keys := by simpa using h2
        obtain ⟨p, hp, rfl⟩ := List.mem_map.1 h3
        exact (hok.rng p hp).1
    exact line_turned slots s' (word_G hk) hj hc
  | [], h => simp [errStep] at h
  | a :: b :: c :: r, h => simp [errStep] at h
theorem good_turned {slots : Nat} (h1 : 1 ≤ slots) : ∀ (r : List (List Int)) (s : Bk), BkOk slots s → good slots s r → ∀ (i : Nat) (c : UInt8) (hi : i < ((r.map fun l => stepLine l ++ [10]).flatten).length), ((r.map fun l => stepLine l ++ [10]).flatten)[i] ≠ 10 → c ≠ 10 → c ≠ ((r.map fun l => stepLine l ++ [10]).flatten)[i] →
    ∃ x e, openL slots s (lns (((r.map fun l => stepLine l ++ [10]).flatten).set i c)) = (x, ((s.many + ((((r.map fun l => stepLine l ++ [10]).flatten).take i).count 10) + 1 : Nat) : Int), e) ∧ (e = 2 ∨ e = 6)
  | [], s, _, _, i, c, hi, _, _, _ => by simp at hi
  | l :: r, s, hok, hg, i, c, hi, hn, h10, hc => by
    obtain ⟨a1, a2, a3, a4⟩ := step_ok hok hg.1
    obtain ⟨T, hT⟩ : ∃ T, T = (r.map fun l => stepLine l ++ [10]).flatten := ⟨_, rfl⟩
    have hX : ((l :: r).map fun l => stepLine l ++ [10]).flatten = stepLine l ++ 10 :: T := by rw [List.map_cons, List.flatten_cons, List.append_assoc, List.singleton_append, hT]
    simp only [hX] at hi hn hc ⊢
    rw [List.length_append, List.length_cons] at hi
    rcases Nat.lt_or_ge i (stepLine l).length with h2 | h2
    · rw [List.getElem_append_left h2] at hn hc
      have h3 := step_turned hok hg.1 s h2 hc
      refine ⟨s, (lineM slots s ((stepLine l).set i c)).2, ?_, h3⟩
      have h4 : 10 ∉ (stepLine l).set i c := fun h => by
        rcases List.mem_or_eq_of_mem_set h with h | h
        · exact a4 h
        · exact h10 h.symm
      rw [List.set_append_left _ _ h2, lns_line h4, openL, if_pos (by rcases h3 with h | h <;> rw [h] <;> decide), List.take_append_of_le_length (by omega), List.count_eq_zero.2 (fun h => a4 (List.mem_of_mem_take h))]
      rfl
    · rw [List.getElem_append_right h2] at hn hc
      rcases Nat.eq_or_lt_of_le h2 with h3 | h3
      · exfalso
        apply hn
        simp only [← h3, Nat.sub_self, List.getElem_cons_zero]
      · obtain ⟨q, hq⟩ : ∃ q, i - (stepLine l).length = q + 1 := ⟨i - (stepLine l).length - 1, by omega⟩
        simp only [hq, List.getElem_cons_succ] at hn hc
        have hql : q < T.length := by omega
        obtain ⟨x, e, h4, h5⟩ := good_turned h1 r (stepB slots s l) (stepB_ok hok h1 l) hg.2 q c (by rw [← hT]; exact hql) (by simpa only [← hT] using hn) h10 (by simpa only [← hT] using hc)
        refine ⟨x, e, ?_, h5⟩
        rw [← hT] at h4
        rw [List.set_append_right _ _ h2, hq, List.set_cons_succ, lns_line a4, openL, a3]
        simp only
        rw [if_neg (by simp), h4, a2, List.take_append, List.take_of_length_le (l := stepLine l) (by omega), hq, List.take_succ_cons, List.count_append, List.count_eq_zero.2 a4, List.count_cons_self]
        rw [show s.many + 1 + List.count 10 (List.take q T) + 1 = s.many + (0 + (List.count 10 (List.take q T) + 1)) + 1 by omega]
/-- Of what was put down, and one byte of it turned, it is told in which line. -/
theorem open_turned {slots : Nat} (h1 : 1 ≤ slots) (steps : List (List Int)) (i : Nat) (c : UInt8) (hi : i < (runB slots steps).text.length) (hn : (runB slots steps).text[i] ≠ 10) (h10 : c ≠ 10) (hc : c ≠ (runB slots steps).text[i]) :
    ∃ x e, openL slots bk0 (lns ((runB slots steps).text.set i c)) = (x, ((((runB slots steps).text.take i).count 10 + 1 : Nat) : Int), e) ∧ (e = 2 ∨ e = 6) := by
  obtain ⟨e1, hg⟩ := log_fold slots steps bk0
  obtain ⟨t1, t2, t3, t4⟩ := good_text h1 _ bk0 (bk0_ok slots) hg
  have ht : (runB slots steps).text = ((logB slots bk0 steps).map fun l => stepLine l ++ [10]).flatten := by
    have : runB slots steps = foldB slots bk0 steps := rfl
    rw [this, ← e1, t1]; rfl
  simp only [ht] at hi hn hc ⊢
  obtain ⟨x, e, h2, h3⟩ := good_turned h1 _ bk0 (bk0_ok slots) hg i c hi hn h10 hc
  refine ⟨x, e, ?_, h3⟩
  rw [h2]
  simp [bk0]
end Go.Proofs.YticckfioggeaeaaGreatDoor
