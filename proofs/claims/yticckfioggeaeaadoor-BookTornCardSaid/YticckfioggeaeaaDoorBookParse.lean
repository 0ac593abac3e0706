/-
  What was put down, read again: plain.
-/
import Derived.Test.YticckfioggeaeaaDoorBookLaw
set_option linter.unusedVariables false
set_option linter.unusedSimpArgs false
set_option linter.unnecessarySimpa false
namespace Go.Proofs.YticckfioggeaeaaDoor

def lastCut : List UInt8 → Option (List UInt8 × List UInt8)
  | [] => none
  | c :: r => match lastCut r with
    | some p => some (c :: p.1, p.2)
    | none => if c = 32 then some ([], r) else none
theorem lastCut_no : ∀ {l : List UInt8}, 32 ∉ l → lastCut l = none
  | [], _ => rfl
  | c :: l, h => by
    have h1 := lastCut_no (l := l) (fun hm => h (by simp [hm]))
    rw [lastCut, h1]
    simp only
    rw [if_neg (fun e => h (by simp [e]))]
theorem lastCut_mk : ∀ (a b : List UInt8), 32 ∉ b → lastCut (a ++ 32 :: b) = some (a, b)
  | [], b, h => by rw [List.nil_append, lastCut, lastCut_no h]; simp
  | c :: a, b, h => by rw [List.cons_append, lastCut, lastCut_mk a b h]
theorem lastCut_some : ∀ {l a b : List UInt8}, lastCut l = some (a, b) → l = a ++ 32 :: b ∧ 32 ∉ b
  | [], a, b, h => by simp [lastCut] at h
  | c :: l, a, b, h => by
    rw [lastCut] at h
    cases hl : lastCut l with
    | some p =>
      rw [hl] at h
      simp only [Option.some.injEq, Prod.mk.injEq] at h
      obtain ⟨rfl, rfl⟩ := h
      obtain ⟨e, hn⟩ := lastCut_some (l := l) (a := p.1) (b := p.2) hl
      exact ⟨by rw [List.cons_append, ← e], hn⟩
    | none =>
      rw [hl] at h
      simp only at h
      split at h
      · rename_i hc
        simp only [Option.some.injEq, Prod.mk.injEq] at h
        obtain ⟨rfl, rfl⟩ := h
        refine ⟨by rw [hc]; rfl, fun hm => ?_⟩
        obtain ⟨a, b, e⟩ := List.append_of_mem hm
        have : ∀ (b : List UInt8) (a : List UInt8), ∃ p, lastCut (a ++ 32 :: b) = some p := by
          intro b a
          induction a with
          | nil =>
            rw [List.nil_append, lastCut]
            cases lastCut b with
            | some p => exact ⟨_, rfl⟩
            | none => exact ⟨([], b), by simp⟩
          | cons x a ih =>
            obtain ⟨p, hp⟩ := ih
            exact ⟨(x :: p.1, p.2), by rw [List.cons_append, lastCut, hp]⟩
        obtain ⟨p, hp⟩ := this b a
        rw [← e, hl] at hp
        cases hp
      · cases h
theorem lastCut_none {l : List UInt8} (h : lastCut l = none) : 32 ∉ l := fun hm => by
  have key : ∀ l : List UInt8, 32 ∈ l → ∃ p, lastCut l = some p := by
    intro l
    induction l with
    | nil => intro h; simp at h
    | cons x l ih =>
      intro h
      rw [lastCut]
      cases hl : lastCut l with
      | some p => exact ⟨_, rfl⟩
      | none =>
        simp only
        by_cases e : x = 32
        · exact ⟨_, by rw [if_pos e]⟩
        · obtain ⟨p, hp⟩ := ih (by simpa [show ¬ 32 = x from fun h => e h.symm] using h)
          rw [hl] at hp; cases hp
  obtain ⟨p, hp⟩ := key l hm
  rw [h] at hp; cases hp

def cutAt (c : UInt8) : List UInt8 → List (List UInt8)
  | [] => [[]]
  | x :: r => if x = c then [] :: cutAt c r else (x :: (cutAt c r).headD []) :: (cutAt c r).tail
theorem cutAt_ne (c : UInt8) (l : List UInt8) : cutAt c l ≠ [] := by
  cases l with
  | nil => simp [cutAt]
  | cons x r => rw [cutAt]; split <;> simp
theorem cutAt_parts (c : UInt8) (l : List UInt8) : ∃ w ws, cutAt c l = w :: ws := List.exists_cons_of_ne_nil (cutAt_ne c l)
theorem cutAt_no {c : UInt8} : ∀ {l : List UInt8}, c ∉ l → cutAt c l = [l]
  | [], _ => rfl
  | x :: l, h => by
    have h1 := cutAt_no (c := c) (l := l) (fun hm => h (by simp [hm]))
    rw [cutAt, if_neg (fun e => h (by simp [e])), h1]
    rfl
theorem cutAt_app {c : UInt8} : ∀ {l : List UInt8} (r : List UInt8), c ∉ l → cutAt c (l ++ c :: r) = l :: cutAt c r
  | [], r, _ => by rw [List.nil_append, cutAt, if_pos rfl]
  | x :: l, r, h => by
    have h1 := cutAt_app (c := c) (l := l) r (fun hm => h (by simp [hm]))
    rw [List.cons_append, cutAt, if_neg (fun e => h (by simp [e])), h1]
    rfl
theorem dropLast_snoc {α : Type} (l : List α) (x : α) : (l ++ [x]).dropLast = l := by simp
theorem cutAt_append (c : UInt8) : ∀ (a b : List UInt8), ∃ x y t, cutAt c a = (cutAt c a).dropLast ++ [x] ∧ cutAt c b = y :: t ∧ cutAt c (a ++ b) = (cutAt c a).dropLast ++ ((x ++ y) :: t)
  | [], b => by
    obtain ⟨w, ws, h⟩ := cutAt_parts c b
    exact ⟨[], w, ws, rfl, h, by simp [cutAt, h]⟩
  | z :: a, b => by
    obtain ⟨x, y, t, h1, h2, h3⟩ := cutAt_append c a b
    obtain ⟨D, hD⟩ : ∃ D, D = (cutAt c a).dropLast := ⟨_, rfl⟩
    rw [← hD] at h1 h3
    by_cases e : z = c
    · have h4 : cutAt c (z :: a) = ([] :: D) ++ [x] := by rw [cutAt, if_pos e, h1]; rfl
      have h5 : cutAt c (z :: (a ++ b)) = ([] :: D) ++ ((x ++ y) :: t) := by rw [cutAt, if_pos e, h3]; rfl
      refine ⟨x, y, t, ?_, h2, ?_⟩
      · rw [h4, dropLast_snoc]
      · rw [List.cons_append, h5, h4, dropLast_snoc]
    · cases D with
      | nil =>
        have h4 : cutAt c (z :: a) = [] ++ [z :: x] := by rw [cutAt, if_neg e, h1]; rfl
        have h5 : cutAt c (z :: (a ++ b)) = [] ++ ((z :: x ++ y) :: t) := by rw [cutAt, if_neg e, h3]; rfl
        refine ⟨z :: x, y, t, ?_, h2, ?_⟩
        · rw [h4, dropLast_snoc]
        · rw [List.cons_append, h5, h4, dropLast_snoc]
      | cons d ds =>
        have h4 : cutAt c (z :: a) = ((z :: d) :: ds) ++ [x] := by rw [cutAt, if_neg e, h1]; rfl
        have h5 : cutAt c (z :: (a ++ b)) = ((z :: d) :: ds) ++ ((x ++ y) :: t) := by rw [cutAt, if_neg e, h3]; rfl
        refine ⟨x, y, t, ?_, h2, ?_⟩
        · rw [h4, dropLast_snoc]
        · rw [List.cons_append, h5, h4, dropLast_snoc]
theorem cutAt_len (c : UInt8) : ∀ l : List UInt8, (cutAt c l).length = l.count c + 1
  | [] => by simp [cutAt]
  | x :: l => by
    have := cutAt_len c l
    rw [cutAt]
    by_cases e : x = c
    · subst e; rw [if_pos rfl, List.length_cons, this, List.count_cons_self]
    · rw [if_neg e, List.length_cons, List.length_tail, this, List.count_cons_of_ne (fun h => e h)]
      omega
/-- The whole lines of a text. -/
def lns (l : List UInt8) : List (List UInt8) := (cutAt 10 l).dropLast
theorem lns_prefix (a b : List UInt8) : ∃ r, lns (a ++ b) = lns a ++ r := by
  obtain ⟨x, y, t, h1, h2, h3⟩ := cutAt_append 10 a b
  refine ⟨((x ++ y) :: t).dropLast, ?_⟩
  unfold lns
  rw [h3, List.dropLast_append_of_ne_nil (by simp)]
theorem lns_len (l : List UInt8) : (lns l).length = l.count 10 := by
  unfold lns; rw [List.length_dropLast, cutAt_len]; omega
theorem lns_take (l : List UInt8) (n : Nat) : lns (l.take n) = (lns l).take ((l.take n).count 10) := by
  obtain ⟨r, hr⟩ := lns_prefix (l.take n) (l.drop n)
  rw [List.take_append_drop] at hr
  rw [hr, ← lns_len, List.take_left]
theorem lns_line {l : List UInt8} (h : 10 ∉ l) (r : List UInt8) : lns (l ++ 10 :: r) = l :: lns r := by
  unfold lns
  rw [cutAt_app r h]
  obtain ⟨w, ws, e⟩ := cutAt_parts 10 r
  rw [e]
  rfl

/-! ### A line read -/
def numsM : List (List UInt8) → Option (List Int)
  | [] => some []
  | w :: r => match numberM w with
    | none => none
    | some n => match numsM r with
      | none => none
      | some ns => some (n :: ns)
def opM (slots : Nat) (s : Bk) (w : List UInt8) (nums : List Int) : Bk × Int :=
  if w = [112] ∧ nums.length = 2 then (putS slots s (nums.getD 0 0) (nums.getD 1 0), putE s (nums.getD 0 0) (nums.getD 1 0))
  else if w = [103] ∧ nums.length = 1 then (getS s (nums.getD 0 0), getE s (nums.getD 0 0)) else (s, 2)
def lineM (slots : Nat) (s : Bk) (l : List UInt8) : Bk × Int :=
  match lastCut l with
  | none => (s, 2)
  | some p => match numberM p.2 with
    | none => (s, 2)
    | some n => if n ≠ (sumB p.1 : Nat) then (s, 6) else
      match numsM (cutAt 32 p.1).tail with
      | none => (s, 2)
      | some nums => opM slots s ((cutAt 32 p.1).headD []) nums
/-- The store behind some lines; how many lines, or in which one something is wrong; what is wrong. -/
def openL (slots : Nat) : Bk → List (List UInt8) → Bk × Int × Int
  | s, [] => (s, (s.many : Nat), 0)
  | s, l :: r => if (lineM slots s l).2 ≠ 0 then (s, (s.many : Nat) + 1, (lineM slots s l).2) else openL slots (lineM slots s l).1 r

theorem digs_no {l : List UInt8} (h : digs l) (c : UInt8) (hc : c.toNat < 48) : c ∉ l := fun hm => by have := h c hm; omega
def putLine (k v : Int) : List UInt8 := wordP k v ++ (32 :: Lib.itoa (sumB (wordP k v) : Nat))
def getLine (k : Int) : List UInt8 := wordG k ++ (32 :: Lib.itoa (sumB (wordG k) : Nat))
theorem lineOf_nl (w : List UInt8) : lineOf w = (w ++ (32 :: Lib.itoa (sumB w : Nat))) ++ [10] := by simp [lineOf]
theorem lineM_word (slots : Nat) (s : Bk) (w : List UInt8) (nums : List Int) (h : numsM (cutAt 32 w).tail = some nums) : lineM slots s (w ++ (32 :: Lib.itoa (sumB w : Nat))) = opM slots s ((cutAt 32 w).headD []) nums := by
  have h1 := lastCut_mk w (Lib.itoa (sumB w : Nat)) (digs_no (itoa_dig (by omega)) 32 (by decide))
  have h2 : numberM (Lib.itoa (sumB w : Nat)) = some (sumB w : Nat) := by rw [itoa_nat]; exact numberM_dec (by have := sumB_lt w; omega)
  unfold lineM
  rw [h1]
  show (match numberM (Lib.itoa ↑(sumB w)) with
    | none => (s, 2)
    | some n => if n ≠ (sumB w : Nat) then (s, 6) else
      match numsM (cutAt 32 w).tail with
      | none => (s, 2)
      | some nums => opM slots s ((cutAt 32 w).headD []) nums) = _
  rw [h2]
  show (if ((sumB w : Nat) : Int) ≠ (sumB w : Nat) then (s, 6) else
      match numsM (cutAt 32 w).tail with
      | none => (s, 2)
      | some nums => opM slots s ((cutAt 32 w).headD []) nums) = _
  rw [if_neg (by simp), h]
theorem numberM_itoa {n : Int} (h0 : 0 ≤ n) (h : n < 9223372036854775808) : numberM (Lib.itoa n) = some n := by
  obtain ⟨u, rfl⟩ := Int.eq_ofNat_of_zero_le h0
  rw [itoa_nat]
  exact numberM_dec (by omega)
theorem cut_wordP {k v : Int} (hk : 0 ≤ k) (hv : 0 ≤ v) : cutAt 32 (wordP k v) = [[112], Lib.itoa k, Lib.itoa v] := by
  have h1 := cutAt_app (c := 32) (l := [112]) (Lib.itoa k ++ (32 :: Lib.itoa v)) (by decide)
  have h2 := cutAt_app (c := 32) (l := Lib.itoa k) (Lib.itoa v) (digs_no (itoa_dig hk) 32 (by decide))
  have h3 := cutAt_no (c := 32) (l := Lib.itoa v) (digs_no (itoa_dig hv) 32 (by decide))
  unfold wordP
  rw [show (112 :: 32 :: (Lib.itoa k ++ (32 :: Lib.itoa v)) : List UInt8) = [112] ++ 32 :: (Lib.itoa k ++ (32 :: Lib.itoa v)) from rfl, h1, h2, h3]
theorem cut_wordG {k : Int} (hk : 0 ≤ k) : cutAt 32 (wordG k) = [[103], Lib.itoa k] := by
  have h1 := cutAt_app (c := 32) (l := [103]) (Lib.itoa k) (by decide)
  have h3 := cutAt_no (c := 32) (l := Lib.itoa k) (digs_no (itoa_dig hk) 32 (by decide))
  unfold wordG
  rw [show (103 :: 32 :: Lib.itoa k : List UInt8) = [103] ++ 32 :: Lib.itoa k from rfl, h1, h3]
theorem line_put (slots : Nat) (s : Bk) {k v : Int} (h : okPut k v) : lineM slots s (putLine k v) = (putS slots s k v, putE s k v) := by
  have hn : numsM (cutAt 32 (wordP k v)).tail = some [k, v] := by
    rw [cut_wordP h.1.1 h.2.1]
    simp only [List.tail_cons, numsM, numberM_itoa h.1.1 (by have := h.1.2; omega), numberM_itoa h.2.1 (by have := h.2.2; omega)]
  unfold putLine
  rw [lineM_word slots s _ _ hn, cut_wordP h.1.1 h.2.1]
  simp [opM]
theorem line_get (slots : Nat) (s : Bk) {k : Int} (h : 0 ≤ k ∧ k ≤ 1000000) : lineM slots s (getLine k) = (getS s k, getE s k) := by
  have hn : numsM (cutAt 32 (wordG k)).tail = some [k] := by
    rw [cut_wordG h.1]
    simp only [List.tail_cons, numsM, numberM_itoa h.1 (by have := h.2; omega)]
  unfold getLine
  rw [lineM_word slots s _ _ hn, cut_wordG h.1]
  simp [opM]

/-! ### What was done, as a list of what succeeded -/
def errStep (s : Bk) (l : List Int) : Int := match l with
  | [k, v] => putE s k v
  | [k] => getE s k
  | _ => 1
def stepLine (l : List Int) : List UInt8 := match l with
  | [k, v] => putLine k v
  | [k] => getLine k
  | _ => []
theorem errStep_none {slots : Nat} {s : Bk} {l : List Int} (h : errStep s l ≠ 0) : stepB slots s l = s := by
  unfold stepB
  split
  · simp only [errStep] at h; unfold putS; rw [if_neg h]
  · simp only [errStep] at h; unfold getS; rw [if_neg h]
  · rfl
theorem line_nl {l : List UInt8} {w : List UInt8} (e : l = w ++ (32 :: Lib.itoa (sumB w : Nat))) (hw : 10 ∉ w) : 10 ∉ l := by
  rw [e, List.mem_append, List.mem_cons]
  rintro (h | h | h)
  · exact hw h
  · exact absurd h (by decide)
  · exact digs_no (itoa_dig (by omega)) 10 (by decide) h
theorem wordP_nl {k v : Int} (hk : 0 ≤ k) (hv : 0 ≤ v) : 10 ∉ wordP k v := by
  have h1 := digs_no (itoa_dig hk) 10 (by decide)
  have h2 := digs_no (itoa_dig hv) 10 (by decide)
  unfold wordP
  simp [h1, h2]
theorem wordG_nl {k : Int} (hk : 0 ≤ k) : 10 ∉ wordG k := by
  have h1 := digs_no (itoa_dig hk) 10 (by decide)
  unfold wordG
  simp [h1]
theorem step_ok {slots : Nat} {s : Bk} (hok : BkOk slots s) {l : List Int} (h : errStep s l = 0) :
    (stepB slots s l).text = s.text ++ (stepLine l ++ [10]) ∧ (stepB slots s l).many = s.many + 1 ∧ lineM slots s (stepLine l) = (stepB slots s l, 0) ∧ 10 ∉ stepLine l := by
  match l, h with
  | [k, v], h =>
    have h' : putE s k v = 0 := h
    have hk : okPut k v := by
      unfold putE at h'
      split at h'
      · cases h'
      · rename_i h2; simpa using h2
    refine ⟨?_, ?_, ?_, line_nl rfl (wordP_nl hk.1.1 hk.2.1)⟩
    · show (putS slots s k v).text = _
      unfold putS
      rw [if_pos h']
      show s.text ++ lineOf (wordP k v) = _
      rw [lineOf_nl]; rfl
    · show (putS slots s k v).many = _
      unfold putS
      rw [if_pos h']; rfl
    · show lineM slots s (putLine k v) = _
      rw [line_put slots s hk, h']; rfl
  | [k], h =>
    have h' : getE s k = 0 := h
    have hk : 0 ≤ k ∧ k ≤ 1000000 := by
      unfold getE at h'
      split at h'
      · cases h'
      · rename_i h2
        have h3 : k ∈ s.keys := by simpa using h2
        obtain ⟨p, hp, rfl⟩ := List.mem_map.1 h3
        exact (hok.rng p hp).1
    refine ⟨?_, ?_, ?_, line_nl rfl (wordG_nl hk.1)⟩
    · show (getS s k).text = _
      unfold getS
      rw [if_pos h']
      show s.text ++ lineOf (wordG k) = _
      rw [lineOf_nl]; rfl
    · show (getS s k).many = _
      unfold getS
      rw [if_pos h']; rfl
    · show lineM slots s (getLine k) = _
      rw [line_get slots s hk, h']; rfl
  | [], h => simp [errStep] at h
  | a :: b :: c :: r, h => simp [errStep] at h
def foldB (slots : Nat) (s : Bk) (steps : List (List Int)) : Bk := steps.foldl (stepB slots) s
theorem foldB_cons (slots : Nat) (s : Bk) (l : List Int) (r : List (List Int)) : foldB slots s (l :: r) = foldB slots (stepB slots s l) r := rfl
def logB (slots : Nat) (s : Bk) : List (List Int) → List (List Int)
  | [] => []
  | l :: r => if errStep s l = 0 then l :: logB slots (stepB slots s l) r else logB slots s r
def good (slots : Nat) (s : Bk) : List (List Int) → Prop
  | [] => True
  | l :: r => errStep s l = 0 ∧ good slots (stepB slots s l) r
theorem log_fold (slots : Nat) : ∀ (r : List (List Int)) (s : Bk), foldB slots s (logB slots s r) = foldB slots s r ∧ good slots s (logB slots s r)
  | [], s => ⟨rfl, trivial⟩
  | l :: r, s => by
    rw [logB]
    by_cases h : errStep s l = 0
    · rw [if_pos h]
      obtain ⟨h1, h2⟩ := log_fold slots r (stepB slots s l)
      exact ⟨by rw [foldB_cons, foldB_cons, h1], h, h2⟩
    · rw [if_neg h]
      obtain ⟨h1, h2⟩ := log_fold slots r s
      exact ⟨by rw [foldB_cons, errStep_none h, h1], h2⟩
theorem good_take {slots : Nat} : ∀ (r : List (List Int)) (s : Bk) (n : Nat), good slots s r → good slots s (r.take n)
  | [], s, n, _ => by simp [good]
  | l :: r, s, 0, _ => by simp [good]
  | l :: r, s, n + 1, h => ⟨h.1, good_take r _ n h.2⟩
theorem good_text {slots : Nat} (h1 : 1 ≤ slots) : ∀ (r : List (List Int)) (s : Bk), BkOk slots s → good slots s r →
    (foldB slots s r).text = s.text ++ (r.map fun l => stepLine l ++ [10]).flatten ∧ (foldB slots s r).many = s.many + r.length ∧ openL slots s (r.map stepLine) = (foldB slots s r, ((s.many + r.length : Nat) : Int), 0) ∧ ∀ l ∈ r, 10 ∉ stepLine l
  | [], s, _, _ => by simp [foldB, openL]
  | l :: r, s, hok, h => by
    obtain ⟨a1, a2, a3, a4⟩ := step_ok hok h.1
    obtain ⟨b1, b2, b3, b4⟩ := good_text h1 r (stepB slots s l) (stepB_ok hok h1 l) h.2
    refine ⟨?_, ?_, ?_, ?_⟩
    · rw [foldB_cons, b1, a1]; simp
    · rw [foldB_cons, b2, a2, List.length_cons]; omega
    · rw [List.map_cons, openL, a3]
      simp only
      rw [if_neg (by simp), b3, foldB_cons, a2, List.length_cons, show s.many + 1 + r.length = s.many + (r.length + 1) by omega]
    · intro x hx
      rcases List.mem_cons.1 hx with rfl | hx
      · exact a4
      · exact b4 x hx
theorem lns_lines : ∀ (r : List (List Int)), (∀ l ∈ r, 10 ∉ stepLine l) → lns ((r.map fun l => stepLine l ++ [10]).flatten) = r.map stepLine
  | [], _ => rfl
  | l :: r, h => by
    rw [List.map_cons, List.flatten_cons, List.append_assoc, List.singleton_append, lns_line (h l (by simp)), lns_lines r (fun x hx => h x (by simp [hx])), List.map_cons]
/-- Of any beginning of what was put down just the whole lines are done. -/
theorem open_torn {slots : Nat} (h1 : 1 ≤ slots) (steps : List (List Int)) (n : Nat) :
    openL slots bk0 (lns ((runB slots steps).text.take n)) = (foldB slots bk0 ((logB slots bk0 steps).take (((runB slots steps).text.take n).count 10)), ((((runB slots steps).text.take n).count 10 : Nat) : Int), 0) ∧ ((runB slots steps).text.take n).count 10 ≤ (logB slots bk0 steps).length := by
  obtain ⟨e1, hg⟩ := log_fold slots steps bk0
  obtain ⟨t1, t2, t3, t4⟩ := good_text h1 _ bk0 (bk0_ok slots) hg
  have ht : (runB slots steps).text = ((logB slots bk0 steps).map fun l => stepLine l ++ [10]).flatten := by
    have : runB slots steps = foldB slots bk0 steps := rfl
    rw [this, ← e1, t1]; rfl
  have hl := lns_lines _ t4
  rw [← ht] at hl
  have hlen : ((runB slots steps).text.take n).count 10 ≤ (logB slots bk0 steps).length := by
    have h2 := (List.take_sublist n (runB slots steps).text).count_le 10
    have h3 := lns_len (runB slots steps).text
    rw [hl, List.length_map] at h3
    omega
  refine ⟨?_, hlen⟩
  rw [lns_take, hl, ← List.map_take]
  obtain ⟨_, _, u3, _⟩ := good_text h1 _ bk0 (bk0_ok slots) (good_take _ _ (((runB slots steps).text.take n).count 10) hg)
  rw [u3, List.length_take, Nat.min_eq_left hlen]
  simp [bk0]
theorem open_again {slots : Nat} (h1 : 1 ≤ slots) (steps : List (List Int)) : openL slots bk0 (lns (runB slots steps).text) = (runB slots steps, (((runB slots steps).many : Nat) : Int), 0) := by
  obtain ⟨e1, hg⟩ := log_fold slots steps bk0
  obtain ⟨t1, t2, t3, t4⟩ := good_text h1 _ bk0 (bk0_ok slots) hg
  have hr : runB slots steps = foldB slots bk0 (logB slots bk0 steps) := by rw [e1]; rfl
  have ht : (runB slots steps).text = ((logB slots bk0 steps).map fun l => stepLine l ++ [10]).flatten := by rw [hr, t1]; rfl
  rw [ht, lns_lines _ t4, t3, hr, t2]
end Go.Proofs.YticckfioggeaeaaDoor
