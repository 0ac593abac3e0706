/-
  desk.Run, by its contract.
-/
import Derived.Test.YticckfioggeaeaaGreatDoorDeskLine
import Derived.Test.YticckfioggeaeaaGreatDoorDeskStr
import Derived.Test.YticckfioggeaeaaGreatDoorBookRange
import Derived.Sort.CutIn
set_option linter.unusedVariables false
set_option linter.unusedSimpArgs false
set_option linter.unnecessarySimpa false
set_option linter.unusedVariables false
namespace Go.Proofs.YticckfioggeaeaaGreatDoor
open Go.RowKit Go.Shelf
attribute [local go_sem] Oper.semAt_some

theorem DkS.away {w0 W W' : World} {O O2 : Nat → Prop} {d : Nat} {s : Bk} (h : DkS w0 W O d s) (hk : KeepP O2 W W') (hd : ∀ x, x < W.heap.size → O x → ¬ O2 x) (hnd : ¬ O2 d) (hlo : ∀ x, x < w0.heap.size → ¬ O2 x) :
    DkS w0 W' (fun x => O x ∧ (x < W.heap.size ∨ W'.heap.size ≤ x)) d s := by
  obtain ⟨b, h1, h2⟩ := h.at_
  exact { h with at_ := ⟨b, (hk.block d h1.lt hnd).trans h1, h2.away hk hd⟩, nd := fun ho => h.nd ho.1, lo := fun x hx ho => h.lo x hx ho.1, bel := h.bel.trans (hk.toBelow h.bel.size hlo) }
structure RS (w0 W : World) (O : Nat → Prop) (d o c B : Nat) (s : Bk) (p bv : Value) (out cur : List UInt8) : Prop where
  dk : DkS w0 W O d s
  no : ¬ O o
  nc : ¬ O c
  nB : ∀ x, Two B x → ¬ O x
  nv : ∀ x, bv.ownBlock = some x → ¬ O x ∧ x ≠ d ∧ x ≠ c ∧ x ≠ o ∧ ¬ Two B x ∧ w0.heap.size ≤ x
  bo : Blk W o 70 [p, bv]
  hp : p = .pointer none ∨ p = .pointer (some ⟨o, 0, none⟩)
  ov : OwnU W bv out
  bz : out = [] → bv = .slice none 0 0
  bc : Blk W c 9 [strV cur]
  hd : d < o
  ho : o < c
  hc : c < B
  hB : B + 1 < W.heap.size
section
variable {w0 W W' : World} {O : Nat → Prop} {d o c B : Nat} {s s' : Bk} {p bv bv' : Value} {out out' cur cur' : List UInt8}
theorem RS.two (r : RS w0 W O d o c B s p bv out cur) (hk : KeepP (Two B) W W') : RS w0 W' (fun x => O x ∧ (x < W.heap.size ∨ W'.heap.size ≤ x)) d o c B s p bv out cur := by
  have h1 := r.hd; have h2 := r.ho; have h3 := r.hc; have h4 := r.dk.dlo
  exact
  { r with
    dk := r.dk.away hk (fun x _ h1 h2 => r.nB x h2 h1) (by unfold Two; omega) (fun x hx => by unfold Two; omega)
    no := fun h => r.no h.1
    nc := fun h => r.nc h.1
    nB := fun x hx h => r.nB x hx h.1
    nv := fun x hx => ⟨fun h => (r.nv x hx).1 h.1, (r.nv x hx).2⟩
    bo := (hk.block o r.bo.lt (by unfold Two; omega)).trans r.bo
    ov := r.ov.keep fun g hg => hk.block g (r.ov.lt g hg) (r.nv g hg).2.2.2.2.1
    bc := (hk.block c r.bc.lt (by unfold Two; omega)).trans r.bc
    hB := Nat.lt_of_lt_of_le r.hB hk.size }
theorem RS.line (r : RS w0 W O d o c B s p bv out cur) (hk : Keep [c] W W') (hb : Blk W' c 9 [strV cur']) : RS w0 W' (fun x => O x ∧ (x < W.heap.size ∨ W'.heap.size ≤ x)) d o c B s p bv out cur' := by
  have h1 := r.hd; have h2 := r.ho; have h3 := r.hc; have h4 := r.dk.dlo
  have hp := hk.toP (O := fun x => x = c) (by simp)
  exact
  { r with
    dk := r.dk.away hp (fun x _ h1 h2 => r.nc (h2 ▸ h1)) (by omega) (fun x hx => by omega)
    no := fun h => r.no h.1
    nc := fun h => r.nc h.1
    nB := fun x hx h => r.nB x hx h.1
    nv := fun x hx => ⟨fun h => (r.nv x hx).1 h.1, (r.nv x hx).2⟩
    bo := (hp.block o r.bo.lt (by omega)).trans r.bo
    ov := r.ov.keep fun g hg => hp.block g (r.ov.lt g hg) (r.nv g hg).2.2.1
    bc := hb
    hB := Nat.lt_of_lt_of_le r.hB hk.size }
/-- The desk has answered. -/
theorem RS.desk (r : RS w0 W O d o c B s p bv out cur) (h : DkS w0 W' O d s') (hk : KeepP (OD O d) W W') : RS w0 W' O d o c B s' p bv out cur := by
  have h1 := r.hd; have h2 := r.ho
  exact
  { r with
    dk := h
    bo := (hk.block o r.bo.lt (fun hx => hx.elim r.no (by omega))).trans r.bo
    ov := r.ov.keep fun g hg => hk.block g (r.ov.lt g hg) (fun hx => hx.elim (r.nv g hg).1 (r.nv g hg).2.1)
    bc := (hk.block c r.bc.lt (fun hx => hx.elim r.nc (by omega))).trans r.bc
    hB := Nat.lt_of_lt_of_le r.hB hk.size }
/-- The builder has grown. -/
theorem RS.wrote (r : RS w0 W O d o c B s p bv out cur) (hk : Keep (o :: bv.ownBlock.toList) W W') (hb : Blk W' o 70 [.pointer (some ⟨o, 0, none⟩), bv']) (hv : OwnU W' bv' out') (hl : ∀ x, bv'.ownBlock = some x → bv.ownBlock = some x ∨ W.heap.size ≤ x) (hz : out' = [] → bv' = .slice none 0 0) :
    RS w0 W' (fun x => O x ∧ (x < W.heap.size ∨ W'.heap.size ≤ x)) d o c B s (.pointer (some ⟨o, 0, none⟩)) bv' out' cur := by
  have h1 := r.hd; have h2 := r.ho; have h3 := r.hc; have h4 := r.dk.dlo; have h5 := r.hB
  have hp := hk.toP (O := fun x => x = o ∨ bv.ownBlock = some x) (by
    intro x hx
    rcases List.mem_cons.1 hx with rfl | hx
    · exact .inl rfl
    · right
      cases e : bv.ownBlock with
      | none => rw [e] at hx; simp at hx
      | some y => rw [e] at hx; simp at hx; rw [hx])
  exact
  { dk := r.dk.away hp (fun x _ h1 h2 => h2.elim (fun e => r.no (e ▸ h1)) (fun e => (r.nv x e).1 h1)) (fun h => h.elim (by omega) (fun e => (r.nv d e).2.1 rfl)) (fun x hx h => h.elim (by omega) (fun e => by have := (r.nv x e).2.2.2.2.2; omega))
    no := fun h => r.no h.1
    nc := fun h => r.nc h.1
    nB := fun x hx h => r.nB x hx h.1
    nv := fun x hx => by
      rcases hl x hx with e | e
      · exact ⟨fun h => (r.nv x e).1 h.1, (r.nv x e).2⟩
      · have hlt := hv.lt x hx
        have h6 := r.bo.lt; have h7 := r.bc.lt
        refine ⟨fun h => by rcases h.2 with h | h <;> omega, by omega, by omega, by omega, by unfold Two; omega, by omega⟩
    bo := hb
    hp := .inr rfl
    ov := hv
    bz := hz
    bc := (hp.block c r.bc.lt (fun h => h.elim (by omega) (fun e => (r.nv c e).2.2.1 rfl))).trans r.bc
    hd := h1
    ho := h2
    hc := h3
    hB := Nat.lt_of_lt_of_le h5 hk.size }
end
def RI (w0 : World) (d o c B : Nat) (text rest : List UInt8) (W : World) : Prop :=
  ∃ s O p bv out, RS w0 W O d o c B s p bv out rest ∧ rest.length ≤ 3000 ∧ Come s ∧ playM (lnA text) = (lnA rest).foldl ansS (s, out) ∧ out.length + 61 * (lnA rest).length ≤ 200000
def RJ (w0 : World) (d o c B : Nat) (text x rest : List UInt8) (W : World) : Prop :=
  ∃ s O p bv out a, RS w0 W O d o c B s p bv out rest ∧ rest.length ≤ 3000 ∧ Come s ∧ (x = a ++ [10] ∨ x = a) ∧ 10 ∉ a ∧ a.length ≤ 3000 ∧ playM (lnA text) = (lnA rest).foldl ansS (ansS (s, out) a) ∧ out.length + 61 * ((lnA rest).length + 1) ≤ 200000
theorem RI.line {w0 W W1 : World} {d o c B : Nat} {text rest : List UInt8} (r : RI w0 d o c B text rest W) (hne : rest ≠ []) (hk : Keep [c] W W1) (hb : Blk W1 c 9 [strV (nextLine rest).2]) : RJ w0 d o c B text (nextLine rest).1 (nextLine rest).2 W1 := by
  obtain ⟨s, O, p, bv, out, hr, hl, hc, he, hn⟩ := r
  rcases idx_split 10 rest with ⟨_, h2⟩ | ⟨a, q, rfl, h2, _⟩
  · rw [next_miss h2] at hb ⊢
    rw [lnA_one h2 hne] at he hn
    exact ⟨s, _, p, bv, out, rest, hr.line hk hb, by simp, hc, .inr rfl, h2, hl, by rw [lnA_nil]; exact he, by rw [lnA_nil]; simpa using hn⟩
  · rw [next_hit q h2] at hb ⊢
    rw [lnA_line h2] at he hn
    simp only [List.length_append, List.length_cons] at hl hn
    exact ⟨s, _, p, bv, out, a, hr.line hk hb, by show q.length ≤ 3000; omega, hc, .inl rfl, h2, by omega, he, by show out.length + 61 * ((lnA q).length + 1) ≤ 200000; omega⟩
theorem trim_is (a x : List UInt8) (h : x = a ++ [10] ∨ x = a) (h2 : 10 ∉ a) (ha : a.length ≤ 3000) (w : World) {n : Nat} : CallsIn Fence.wide n Tryz.prog 41 #[strV x, .string ⟨#[10]⟩] w fun e w' => e = .returned (strV a) ∧ w' = w := by
  refine callsIn_wide.2 ?_
  have hd : (⟨x.toArray⟩ : ByteArray).data.toList = x := by simp
  have h10 : (⟨#[10]⟩ : ByteArray).data.toList = [10] := rfl
  have ht : Lib.trimSuffix x [10] = a := by
    rcases h with rfl | rfl
    · exact (cut_suf a).2
    · have hcs := cut_suf_no h2
      unfold Lib.trimSuffix; rw [hcs]; rfl
  have c := Tryz.strings_TrimSuffix ⟨x.toArray⟩ ⟨#[10]⟩ w (by rcases h with rfl | rfl <;> simp [ByteArray.size] <;> omega)
  rw [hd, h10, ht] at c
  exact c
def RunPost2 (w : World) (text : List UInt8) (e : Ending) (w' : World) : Prop := e = .returned (.string ⟨(runM text).toArray⟩) ∧ Below w.heap.size w w'
theorem keep_two {w w1 w2 : World} {o : Nat} {bv bv1 : Value} (h1 : Keep (o :: bv.ownBlock.toList) w w1) (h2 : Keep (o :: bv1.ownBlock.toList) w1 w2) (hl : ∀ x, bv1.ownBlock = some x → bv.ownBlock = some x ∨ w.heap.size ≤ x) : Keep (o :: bv.ownBlock.toList) w w2 := by
  refine ⟨h2.os.trans h1.os, h2.tape.trans h1.tape, h2.output.trans h1.output, Nat.le_trans h1.size h2.size, fun x hx hn => (h2.block x (Nat.lt_of_lt_of_le hx h1.size) ?_).trans (h1.block x hx hn)⟩
  intro hm
  rcases List.mem_cons.1 hm with e | e
  · exact hn (by rw [e]; exact List.mem_cons_self)
  · cases e2 : bv1.ownBlock with
    | none => rw [e2] at e; simp at e
    | some y =>
      rw [e2] at e
      simp at e
      subst e
      rcases hl x e2 with h | h
      · exact hn (by rw [h]; simp)
      · omega
theorem RS.start {w0 w1 : World} {O : Nat → Prop} {b : Nat} (hb : BookAt O w1 b 3 bk0) (hlo : ∀ x, x < w0.heap.size → ¬ O x) (h1 : Below w0.heap.size w0 w1) (ht : Tab w0) (he : Errs w0) (hg : Handle w0) (text : List UInt8) (o1 o2 : Obj) :
    ∃ O', RS w0 (((((w1.alloc (.cells #[.pointer (some ⟨b, 0, none⟩)] 78)).alloc (.cells #[.pointer none, .slice none 0 0] 70)).alloc (.cells #[strV text] 9)).alloc o1).alloc o2) O' w1.heap.size (w1.heap.size + 1) (w1.heap.size + 1 + 1) (w1.heap.size + 1 + 1 + 1) bk0 (.pointer none) (.slice none 0 0) [] text := by
  have hk := (((((Keep.refl [] w1).alloc (.cells #[.pointer (some ⟨b, 0, none⟩)] 78)).alloc (.cells #[.pointer none, .slice none 0 0] 70)).alloc (.cells #[strV text] 9)).alloc o1).alloc o2
  have b1 := ((((Blk.new w1 78 [.pointer (some ⟨b, 0, none⟩)]).alloc (.cells #[.pointer none, .slice none 0 0] 70)).alloc (.cells #[strV text] 9)).alloc o1).alloc o2
  have b2 := (((Blk.new (w1.alloc (.cells #[.pointer (some ⟨b, 0, none⟩)] 78)) 70 [.pointer none, .slice none 0 0]).alloc (.cells #[strV text] 9)).alloc o1).alloc o2
  have b3 := ((Blk.new ((w1.alloc (.cells #[.pointer (some ⟨b, 0, none⟩)] 78)).alloc (.cells #[.pointer none, .slice none 0 0] 70)) 9 [strV text]).alloc o1).alloc o2
  rw [World.size_alloc] at b2
  rw [World.size_alloc, World.size_alloc] at b3
  have hsz : (((((w1.alloc (.cells #[.pointer (some ⟨b, 0, none⟩)] 78)).alloc (.cells #[.pointer none, .slice none 0 0] 70)).alloc (.cells #[strV text] 9)).alloc o1).alloc o2).heap.size = w1.heap.size + 5 := by simp
  have hf : KeepP (fun _ => False) w1 _ := hk.toP (by simp)
  have h0 := h1.size
  refine ⟨fun x => O x ∧ (x < w1.heap.size ∨ (((((w1.alloc (.cells #[.pointer (some ⟨b, 0, none⟩)] 78)).alloc (.cells #[.pointer none, .slice none 0 0] 70)).alloc (.cells #[strV text] 9)).alloc o1).alloc o2).heap.size ≤ x), ?_⟩
  rw [hsz]
  exact
  { dk :=
      { at_ := ⟨b, b1, by have := hb.away hf (fun _ _ _ hf => hf); rw [hsz] at this; exact this⟩
        nd := fun h => by have := h.2; omega
        lo := fun x hx h => hlo x hx h.1
        dlo := h0
        bel := h1.trans (hk.below h0 (by simp))
        tab0 := ht
        err0 := he
        hnd0 := hg }
    no := fun h => by have := h.2; omega
    nc := fun h => by have := h.2; omega
    nB := fun x hx h => by have := h.2; unfold Two at hx; omega
    nv := fun x hx => by simp [Value.ownBlock] at hx
    bo := b2
    hp := .inl rfl
    ov := OwnU.nil _
    bz := fun _ => rfl
    bc := b3
    hd := by omega
    ho := by omega
    hc := by omega
    hB := by rw [hsz]; omega }
set_option maxHeartbeats 4000000 in
set_option maxRecDepth 100000 in
theorem run_short (text : List UInt8) (hlen : text.length ≤ 3000) (w : World) (ht : Tab w) (he : Errs w) (hg : Handle w) :
    Calls Tryz.prog 19 #[.string ⟨text.toArray⟩] w (RunPost2 w text) := by
  have HT := Lib.hid ht; have HE := Lib.hid he; have HG := Lib.hid hg
  clear ht he hg
  refine (callsIn_wide (n := 8)).1 ?_
  refine callsIn_of_wp_marks Tryz.func19 rfl trivial ?_ rfl
  simp only [Tryz.ntmps19, List.size_toArray, List.length_cons, List.length_nil, Nat.reduceAdd, Nat.reduceSub, Array.replicate_succ, Array.replicate_zero, List.push_toArray, List.append_toArray, List.nil_append, List.cons_append]
  have hsz : (⟨text.toArray⟩ : ByteArray).size = text.length := by simp [ByteArray.size]
  have hli : ¬ (3000 : Int) < (text.length : Int) := by omega
  gi_wp2_with fail
  refine ⟨trivial, ?_⟩
  refine (callsIn_wide.2 (new_yes 3 _ (by decide) (by decide))).mono ?_
  rintro e w1 ⟨b, rfl, hB1, hbw, hb1⟩
  have HB1 := Lib.hid hB1; have HW1 := Lib.hid hb1
  clear hB1 hb1 hbw
  gi_wp2_with fail
  refine ⟨trivial, ?_⟩
  have HST := Lib.hid fun o1 o2 => RS.start HB1.out (fun x hx ho => by omega) HW1.out HT.out HE.out HG.out text o1 o2
  obtain ⟨w2, hw2⟩ : ∃ w2, w2 = (w1.alloc (.cells #[.pointer (some ⟨b, 0, none⟩)] 78)).alloc (.cells #[.pointer none, .slice none 0 0] 70) := ⟨_, rfl⟩
  have hs2 : w2.heap.size = w1.heap.size + 1 + 1 := by rw [hw2]; simp
  rw [← hw2] at HST ⊢
  have HS2 := Lib.hid hs2
  clear hw2 hs2 HB1 HW1
  refine (lines_in text 7 (by omega) _).mono ?_
  rintro e w4 ⟨rfl, rfl⟩
  gi_wp2
  obtain ⟨d, hd⟩ : ∃ d, d = w1.heap.size := ⟨_, rfl⟩
  rw [← hd] at HST HS2 ⊢
  have hsz3 : (w2.alloc (.cells #[strV text] 9)).heap.size = d + 1 + 1 + 1 := by rw [World.size_alloc, HS2.out]
  have HI : Hid (∀ o1 o2, RI w d (d + 1) (d + 1 + 1) (d + 1 + 1 + 1) text text (((w2.alloc (.cells #[strV text] 9)).alloc o1).alloc o2)) := Lib.hid fun o1 o2 => by
    obtain ⟨O, hr⟩ := HST.out o1 o2
    refine ⟨bk0, O, _, _, [], hr, hlen, come0, rfl, ?_⟩
    have := lnA_len text
    simp only [List.length_nil]
    omega
  have HSZ3 := Lib.hid hsz3
  have hc2 : w2.heap.size = d + 1 + 1 := HS2.out
  rw [← hsz3] at HI
  rw [← hc2] at HI
  clear hd hsz3 hc2 HST
  refine range_lines (c := w2.heap.size) (by omega) rfl rfl (by simp) (RI w d (d + 1) w2.heap.size (w2.alloc (.cells #[strV text] 9)).heap.size text) (RJ w d (d + 1) w2.heap.size (w2.alloc (.cells #[strV text] 9)).heap.size text) (fun _ _ => False)
    (fun rest W ⟨s, O, p, bv, out, hr, hl, _⟩ => ⟨hr.bc, hl⟩)
    (fun rest W W' ⟨s, O, p, bv, out, hr, h⟩ hk => ⟨s, _, p, bv, out, hr.two hk, h⟩)
    (fun x rest W W' ⟨s, O, p, bv, out, a, hr, h⟩ hk => ⟨s, _, p, bv, out, a, hr.two hk, h⟩)
    (fun j W W' hx hk => hx)
    (fun rest W W1 hi hne hk hb => hi.line hne hk hb) text HI.out ?a1 ?assign ?body ?done ?stop
  case assign =>
    intro l x W K hK
    gi_wp2
    exact hK
  case body =>
    rintro l x rest W ⟨s, O, p, bv, out, a, hr, hl, hc, hx, h10, ha, he, hn⟩
    have HR := Lib.hid hr; have HC := Lib.hid hc; have HX := Lib.hid hx; have H10 := Lib.hid h10; have HEQ := Lib.hid he
    have HAO := Lib.hid (answer_ok hc a)
    have hd1 : 1 ≤ 8 - 1 - 1 := by omega
    have hal := (answer_ok hc a).2.2
    obtain ⟨s2, hs2⟩ : ∃ s2, s2 = (answerM s a).1 := ⟨_, rfl⟩
    obtain ⟨ans, hans⟩ : ∃ ans, ans = (answerM s a).2 := ⟨_, rfl⟩
    have HS2 := Lib.hid hs2; have HANS := Lib.hid hans
    rw [← hans] at hal
    clear hr hc hx h10 he hs2 hans
    gi_wp2_with fail
    refine ⟨trivial, (CallsIn.inRound l (trim_is a x HX.out H10.out ha _)).mono ?_⟩
    rintro e w' ⟨rfl, rfl⟩
    gi_wp2_with fail
    refine ⟨trivial, (CallsIn.inRound l (callsIn_wide.2 (dk_line w _ O d s a ha HR.out.dk HC.out))).mono ?_⟩
    rw [← HS2.out, ← HANS.out]
    rintro e w5 ⟨rfl, hs5, hk5⟩
    have HR5 := Lib.hid (HR.out.desk hs5 hk5)
    have HK5 := Lib.hid hk5
    clear hs5 hk5
    gi_wp2_with fail
    refine ⟨trivial, (CallsIn.inRound l (callsIn_wide.2 (d_writeString_any (d + 1) p bv out ⟨ans.toArray⟩ _ HR5.out.bo HR5.out.hp HR5.out.ov (by simp [ByteArray.size]; omega)))).mono ?_⟩
    rintro e w6 ⟨bv6, rfl, hb6, hv6, hk6, hl6⟩
    rw [show (⟨ans.toArray⟩ : ByteArray).data.toList = ans by simp] at hv6
    have HB6 := Lib.hid hb6; have HV6 := Lib.hid hv6; have HK6 := Lib.hid hk6; have HL6 := Lib.hid hl6
    clear hb6 hv6 hk6 hl6
    gi_wp2_with fail
    refine ⟨trivial, (CallsIn.inRound l (callsIn_wide.2 (d_writeByte_any (d + 1) _ bv6 (out ++ ans) 10 _ HB6.out (.inr rfl) HV6.out (by rw [List.length_append]; omega)))).mono ?_⟩
    rintro e w7 ⟨bv7, rfl, hb7, hv7, hk7, hl7⟩
    have hkk : Keep ((d + 1) :: bv.ownBlock.toList) w5 w7 := keep_two HK6.out hk7 HL6.out
    have hr7 := HR5.out.wrote hkk hb7 hv7 (fun y hy => by
      rcases hl7 y hy with e1 | e1
      · exact HL6.out y e1
      · exact .inr (Nat.le_trans HK6.out.size e1)) (fun h0 => by simp at h0)
    have HR7 := Lib.hid hr7; have HKK := Lib.hid hkk
    clear hb7 hv7 hk7 hl7 hr7 hkk
    gi_wp2
    refine ⟨fun kk hkk => ?_, s2, _, _, bv7, out ++ ans ++ [10], HR7.out, hl, by rw [HS2.out]; exact HAO.out.1, ?_, ?_⟩
    · have h1 := HR.out.hd; have h2 := HR.out.ho; have h3 := HR.out.hc; have h4 := HR.out.hB
      have hk7 : kk = (w2.alloc (.cells #[strV text] 9)).heap.size ∨ kk = (w2.alloc (.cells #[strV text] 9)).heap.size + 1 := hkk
      have hlt : kk < w'.heap.size := by omega
      refine (HKK.out.block kk (by have := HK5.out.size; omega) ?_).trans (HK5.out.block kk hlt ?_)
      · intro hm
        rcases List.mem_cons.1 hm with e1 | e1
        · omega
        · cases e : bv.ownBlock with
          | none => rw [e] at e1; simp at e1
          | some y => rw [e] at e1; simp at e1; subst e1; exact (HR.out.nv _ e).2.2.2.2.1 hkk
      · rintro (ho | rfl)
        · exact HR.out.nB kk hkk ho
        · omega
    · rw [HEQ.out]
      show List.foldl ansS ((answerM s a).1, out ++ ((answerM s a).2 ++ [10])) (lnA rest) = _
      rw [← HS2.out, ← HANS.out, List.append_assoc]
    · simp only [List.length_append, List.length_cons, List.length_nil]
      omega
  case done =>
    rintro W ⟨s, O, p, bv, out, hr, hl, hc, he, hn⟩ hK
    have HR := Lib.hid hr; have HKD := Lib.hid hK
    have HEQ : Hid (runM text = out) := Lib.hid (by unfold runM; rw [if_neg (by omega), he, lnA_nil]; rfl)
    clear hr he hK
    gi_wp2_with fail
    refine ⟨trivial, (callsIn_wide.2 (d_string_any (d + 1) p bv out _ HR.out.bo HR.out.ov.toB HR.out.bz)).mono ?_⟩
    rintro e w5 ⟨rfl, hb5, ho5, hk5⟩
    have HK5 := Lib.hid hk5
    clear hb5 ho5 hk5
    gi_wp2
    have hbB : (w2.alloc (.cells #[strV text] 9)).heap.size ∉ bv.ownBlock.toList := by
      intro hm
      cases e : bv.ownBlock with
      | none => rw [e] at hm; simp at hm
      | some y => rw [e] at hm; simp at hm; subst hm; exact (HR.out.nv _ e).2.2.2.2.1 (.inl (by simp))
    have hK' := (HK5.out.block (w2.alloc (.cells #[strV text] 9)).heap.size (by have := HR.out.hB; omega) hbB).trans HKD.out
    rw [World.size_alloc] at hK'
    have hbl5 : Below w.heap.size w w5 := HR.out.dk.bel.trans (HK5.out.below HR.out.dk.bel.size (fun x hx => by
      cases e : bv.ownBlock with
      | none => rw [e] at hx; simp at hx
      | some y => rw [e] at hx; simp at hx; subst hx; exact (HR.out.nv _ e).2.2.2.2.2))
    have hq : w.heap.size ≤ w2.heap.size := by have h1 := HR.out.dk.dlo; have h2 := HR.out.hd; have h3 := HR.out.ho; omega
    have hbl6 := hbl5.trans ((two_put (B := w2.heap.size + 1) (W := w5) (.deferred none) (.inl rfl)).toBelow hbl5.size (fun x hx h => by unfold Two at h; omega))
    refine ⟨by simp, .inl ⟨_, _, rfl, run_takeDeferred hK', ?_⟩⟩
    refine ⟨_, results_tmp rfl _ _ _, ?_⟩
    exact ⟨ret_eq (by rw [HEQ.out]; rfl), hbl6⟩
  case stop =>
    intro j W hx
    exact hx.elim
theorem run_long (text : List UInt8) (hlen : 3000 < text.length) (w : World) : Calls Tryz.prog 19 #[.string ⟨text.toArray⟩] w (RunPost2 w text) := by
  have HEQ : Hid (runM text = sLong) := Lib.hid (by unfold runM; rw [if_pos hlen])
  refine (callsIn_wide (n := 8)).1 ?_
  refine callsIn_of_wp_marks Tryz.func19 rfl trivial ?_ rfl
  simp only [Tryz.ntmps19, List.size_toArray, List.length_cons, List.length_nil, Nat.reduceAdd, Nat.reduceSub, Array.replicate_succ, Array.replicate_zero, List.push_toArray, List.append_toArray, List.nil_append, List.cons_append]
  have hsz : (⟨text.toArray⟩ : ByteArray).size = text.length := by simp [ByteArray.size]
  have hli : (3000 : Int) < (text.length : Int) := by omega
  gi_wp2
  refine ⟨_, results_tmp rfl _ _ _, ?_⟩
  exact ⟨ret_eq (by rw [HEQ.out]; rfl), Below.refl _ _⟩
theorem run_any (text : List UInt8) (w : World) (ht : Tab w) (he : Errs w) (hg : Handle w) : Calls Tryz.prog 19 #[.string ⟨text.toArray⟩] w (RunPost2 w text) := by
  by_cases h : text.length ≤ 3000
  · exact run_short text h w ht he hg
  · exact run_long text (by omega) w
end Go.Proofs.YticckfioggeaeaaGreatDoor
