/-
  SketchPlays: the state, and the plain law (what is told at each counter).
-/
import Derived.Test.YtnpokcjdnlmheaaDoorSketchRef
import Derived.Test.YtnpokcjdnlmheaaDoorErrIs
import Derived.Deep.AppendLies
namespace Go.Proofs.YtnpokcjdnlmheaaDoor
open Go.RowKit

theorem entry_add_eq {width : Nat} {rows : List (List Int)} {sum key n : Int} (hi : SkInv width rows sum) (hw : 0 < width) (k h : Nat) (hk : k < rows.length) :
    entry (skAdd key n width rows) k h = entry rows k h + if hashN key k width = h then n else 0 := by
  obtain ⟨h1, _, _⟩ := hi.1 _ (List.getElem_mem hk)
  have hh := hashN_lt key k width hw
  simp only [entry, skAdd, List.getD, List.getElem?_mapIdx, List.getElem?_eq_getElem hk, Option.map_some, Option.getD_some, List.getElem?_modify]
  by_cases e : hashN key k width = h
  · subst e
    simp [List.getElem?_eq_getElem (show hashN key k width < rows[k].length by omega)]
  · rw [if_neg e]
    simp [e]

/-- What goes with what was added. -/
structure SPI (depth width : Nat) (rows : List (List Int)) (sum : Int) (keys many : List Int) (j : Nat) : Prop where
  inv : SkInv width rows sum
  rl : rows.length = depth
  kl : keys.length = many.length
  kb : keys.length ≤ j
  kr : ∀ x ∈ keys, 0 ≤ x ∧ x ≤ 1000000
  mr : ∀ y ∈ many, 0 ≤ y ∧ y ≤ 1000
  sb : sum ≤ 1000 * j
  ent : ∀ r h, r < depth → entry rows r h = cntd keys many r width h
theorem spi0 (depth width : Nat) : SPI depth width (sk0 depth width) 0 [] [] 0 where
  inv := skInv_zero depth width
  rl := by simp [sk0]
  kl := rfl
  kb := Nat.le_refl _
  kr := by simp
  mr := by simp
  sb := by simp
  ent := fun r h hr => by
    simp only [entry, sk0, List.getD, List.getElem?_replicate, hr, if_true, Option.getD_some, cntd]
    split <;> simp
theorem SPI.mono {depth width : Nat} {rows : List (List Int)} {sum : Int} {keys many : List Int} {j : Nat} (h : SPI depth width rows sum keys many j) : SPI depth width rows sum keys many (j + 1) :=
  { h with kb := by have := h.kb; omega, sb := by have := h.sb; omega }
theorem SPI.add {depth width : Nat} {rows : List (List Int)} {sum : Int} {keys many : List Int} {j : Nat} (h : SPI depth width rows sum keys many j) (hw : 0 < width) {key n : Int} (h1 : 0 ≤ key) (h2 : key ≤ 1000000) (h3 : 0 ≤ n) (h4 : n ≤ 1000) :
    SPI depth width (skAdd key n width rows) (sum + n) (keys ++ [key]) (many ++ [n]) (j + 1) where
  inv := skInv_add h.inv h3 hw
  rl := by rw [skAdd_len]; exact h.rl
  kl := by simp [h.kl]
  kb := by have := h.kb; simp; omega
  kr := fun x hx => by
    rcases List.mem_append.1 hx with hx | hx
    · exact h.kr x hx
    · simp at hx; subst hx; exact ⟨h1, h2⟩
  mr := fun x hx => by
    rcases List.mem_append.1 hx with hx | hx
    · exact h.mr x hx
    · simp at hx; subst hx; exact ⟨h3, h4⟩
  sb := by have := h.sb; omega
  ent := fun r q hr => by rw [entry_add_eq h.inv hw r q (by rw [h.rl]; exact hr), cntd_snoc _ _ _ _ _ _ _ h.kl, h.ent r q hr]

/-- The sketch, and the two lists of what was added. -/
structure SPS (w0 wr : World) (b g cap : Nat) (L : List Nat) (width : Nat) (rows : List (List Int)) (sum : Int) (vK vM : Value) (keys many : List Int) : Prop where
  sk : SketchAt wr b g cap L width rows sum
  K : OwnInts wr w0.heap.size vK keys
  M : OwnInts wr w0.heap.size vM many
  kd : ∀ x, vK.ownBlock = some x → x ∉ b :: g :: L
  md : ∀ x, vM.ownBlock = some x → x ∉ b :: g :: L
  km : ∀ x, vK.ownBlock = some x → vM.ownBlock = some x → False
  bel : Below w0.heap.size w0 wr
  lo : ∀ x ∈ b :: g :: L, w0.heap.size ≤ x
theorem mem3 {x b g : Nat} {L : List Nat} (h : x ∈ b :: L) : x ∈ b :: g :: L := by
  rcases List.mem_cons.1 h with rfl | h
  · simp
  · simp [h]
theorem sk_lt {w : World} {b g cap : Nat} {L : List Nat} {width : Nat} {rows : List (List Int)} {sum : Int} (hs : SketchAt w b g cap L width rows sum) : ∀ x ∈ b :: g :: L, x < w.heap.size := by
  intro x hx
  obtain ⟨cur, hc, _⟩ := hs.lead
  rcases List.mem_cons.1 hx with rfl | hx
  · exact hs.top.lt
  rcases List.mem_cons.1 hx with rfl | hx
  · exact hc.lt
  obtain ⟨k, hk, rfl⟩ := List.mem_iff_getElem.1 hx
  have hk' : k < rows.length := by rw [hs.len]; exact hk
  exact (hs.row k L[k] rows[k] (List.getElem?_eq_getElem hk) (List.getElem?_eq_getElem hk')).2.lt
section
variable {w0 wr w' : World} {b g cap : Nat} {L : List Nat} {width : Nat} {rows rows' : List (List Int)} {sum sum' : Int} {vK vM v' : Value} {keys many keys' many' : List Int}
theorem SPS.keep0 (h : SPS w0 wr b g cap L width rows sum vK vM keys many) (hk : Keep [] wr w') : SPS w0 w' b g cap L width rows sum vK vM keys many :=
  { h with sk := h.sk.keep hk (by simp), K := h.K.keep fun x hx => hk.block x (World.ownsRow.lt h.K x hx).2 (by simp), M := h.M.keep fun x hx => hk.block x (World.ownsRow.lt h.M x hx).2 (by simp), bel := h.bel.trans (hk.below h.bel.size (by simp)) }
theorem SPS.below (h : SPS w0 wr b g cap L width rows sum vK vM keys many) (hb : Below wr.heap.size wr w') : SPS w0 w' b g cap L width rows sum vK vM keys many := h.keep0 (Keep.of_below hb (Nat.le_refl _))
theorem SPS.put (h : SPS w0 wr b g cap L width rows sum vK vM keys many) (hk : Keep (b :: L) wr w') (hs : SketchAt w' b g cap L width rows' sum') : SPS w0 w' b g cap L width rows' sum' vK vM keys many :=
  { h with
    sk := hs
    K := h.K.keep fun x hx => hk.block x (World.ownsRow.lt h.K x hx).2 (fun hm => h.kd x hx (mem3 hm))
    M := h.M.keep fun x hx => hk.block x (World.ownsRow.lt h.M x hx).2 (fun hm => h.md x hx (mem3 hm))
    bel := h.bel.trans (hk.below h.bel.size (fun x hx => h.lo x (mem3 hx))) }
theorem SPS.appK (h : SPS w0 wr b g cap L width rows sum vK vM keys many) (ho : OwnInts w' w0.heap.size v' keys') (hg : wr.grownBy w' vK.ownBlock) (hat : v'.ownBlock = vK.ownBlock ∨ v'.ownBlock = some wr.heap.size) : SPS w0 w' b g cap L width rows sum v' vM keys' many := by
  have hk : Keep vK.ownBlock.toList wr w' := (Keep.refl _ wr).grown hg (fun g h _ => by rw [h]; simp)
  have hn : ∀ x, x ∈ vK.ownBlock.toList → vK.ownBlock = some x := fun x hm => by
    cases e : vK.ownBlock with
    | none => rw [e] at hm; cases hm
    | some y => rw [e] at hm; simp at hm; rw [hm]
  refine ⟨h.sk.keep hk (fun x hx hm => h.kd x (hn x hm) hx), ho, h.M.keep fun x hx => hk.block x (World.ownsRow.lt h.M x hx).2 (fun hm => h.km x (hn x hm) hx), fun x hx => ?_, h.md, fun x hx hx2 => ?_, h.bel.trans (hk.below h.bel.size (fun x hx => (World.ownsRow.lt h.K x (hn x hx)).1)), h.lo⟩
  · rcases hat with e | e
    · exact h.kd x (by rw [← e]; exact hx)
    · rw [e] at hx; injection hx with hx
      intro hm
      have := sk_lt h.sk x hm
      omega
  · rcases hat with e | e
    · exact h.km x (by rw [← e]; exact hx) hx2
    · rw [e] at hx; injection hx with hx
      have := (World.ownsRow.lt h.M x hx2).2
      omega
theorem SPS.appM (h : SPS w0 wr b g cap L width rows sum vK vM keys many) (ho : OwnInts w' w0.heap.size v' many') (hg : wr.grownBy w' vM.ownBlock) (hat : v'.ownBlock = vM.ownBlock ∨ v'.ownBlock = some wr.heap.size) : SPS w0 w' b g cap L width rows sum vK v' keys many' := by
  have hk : Keep vM.ownBlock.toList wr w' := (Keep.refl _ wr).grown hg (fun g h _ => by rw [h]; simp)
  have hn : ∀ x, x ∈ vM.ownBlock.toList → vM.ownBlock = some x := fun x hm => by
    cases e : vM.ownBlock with
    | none => rw [e] at hm; cases hm
    | some y => rw [e] at hm; simp at hm; rw [hm]
  refine ⟨h.sk.keep hk (fun x hx hm => h.md x (hn x hm) hx), h.K.keep fun x hx => hk.block x (World.ownsRow.lt h.K x hx).2 (fun hm => h.km x hx (hn x hm)), ho, h.kd, fun x hx => ?_, fun x hx hx2 => ?_, h.bel.trans (hk.below h.bel.size (fun x hx => (World.ownsRow.lt h.M x (hn x hx)).1)), h.lo⟩
  · rcases hat with e | e
    · exact h.md x (by rw [← e]; exact hx)
    · rw [e] at hx; injection hx with hx
      intro hm
      have := sk_lt h.sk x hm
      omega
  · rcases hat with e | e
    · exact h.km x hx (by rw [← e]; exact hx2)
    · rw [e] at hx2; injection hx2 with hx2
      have := (World.ownsRow.lt h.K x hx).2
      omega
end

theorem row_no (b g cap : Nat) (L : List Nat) (width : Nat) (rows : List (List Int)) (sum i : Int) (w : World) (hs : SketchAt w b g cap L width rows sum) (hL : L.length ≤ 4) (hi : i < 0 ∨ (L.length : Int) - 1 < i) :
    Calls Tryd.prog 11 #[.pointer (some ⟨b, 0, none⟩), .int .i64 i] w fun e w' => e = .returned (.slice none 0 0) ∧ w = w' := by
  have hc0 := hs.top.cell_ (i := 0) rfl
  obtain ⟨n, hn⟩ : ∃ n, n = L.length := ⟨_, rfl⟩
  rw [← hn] at hc0 hL hi
  have hq : IntKind.i64.wrap ((n : Int) - 1) = (n : Int) - 1 := IntWalk.i64_in _ (by omega)
  clear hn hs
  go_enter Tryd.func11, Tryd.ntmps11
  go_wp2_with (go_at_call 32; refine (within_no _ _ _ _ (by omega)).mono ?_; rintro e w' ⟨rfl, rfl⟩)
  go_ret
  exact ⟨rfl, rfl⟩

/-- The least counter of a key that is asked for; of none: 1000000. -/
def wantTo (ask : Int) (width : Nat) (rows : List (List Int)) (r : Nat) : Int := if 0 ≤ ask ∧ ask ≤ 1000000 then cntTo ask width rows r else 1000000
def wantIn (ask : Int) (width : Nat) (rows : List (List Int)) (r k : Nat) : Int := if hashN ask r width < k then wantTo ask width rows (r + 1) else wantTo ask width rows r
theorem wantIn_zero (ask : Int) (width : Nat) (rows : List (List Int)) (r : Nat) : wantIn ask width rows r 0 = wantTo ask width rows r := by unfold wantIn; rw [if_neg (Nat.not_lt_zero _)]
theorem wantIn_end (ask : Int) (width : Nat) (rows : List (List Int)) (r : Nat) (hw : 0 < width) : wantIn ask width rows r width = wantTo ask width rows (r + 1) := by unfold wantIn; rw [if_pos (hashN_lt ask r width hw)]
theorem wantTo_out {ask : Int} (h : ¬ (0 ≤ ask ∧ ask ≤ 1000000)) (width : Nat) (rows : List (List Int)) (r : Nat) : wantTo ask width rows r = 1000000 := by unfold wantTo; rw [if_neg h]
theorem wantIn_out {ask : Int} (h : ¬ (0 ≤ ask ∧ ask ≤ 1000000)) (width : Nat) (rows : List (List Int)) (r k : Nat) : wantIn ask width rows r k = 1000000 := by unfold wantIn; rw [wantTo_out h, wantTo_out h]; split <;> rfl
theorem wantIn_other {ask : Int} {width : Nat} {rows : List (List Int)} {r k : Nat} (h : hashN ask r width ≠ k) : wantIn ask width rows r (k + 1) = wantIn ask width rows r k := by
  unfold wantIn
  by_cases e : hashN ask r width < k
  · rw [if_pos (by omega), if_pos e]
  · rw [if_neg (by omega), if_neg e]
theorem wantIn_at {ask : Int} {width : Nat} {rows : List (List Int)} {r k : Nat} (ha : 0 ≤ ask ∧ ask ≤ 1000000) (h : hashN ask r width = k) : wantIn ask width rows r (k + 1) = if entry rows r k < wantIn ask width rows r k then entry rows r k else wantIn ask width rows r k := by
  have e1 : wantIn ask width rows r (k + 1) = cntTo ask width rows (r + 1) := by unfold wantIn wantTo; rw [if_pos (by omega), if_pos ha]
  have e2 : wantIn ask width rows r k = cntTo ask width rows r := by unfold wantIn wantTo; rw [if_neg (by omega), if_pos ha]
  rw [e1, e2, cntTo_succ, h]
end Go.Proofs.YtnpokcjdnlmheaaDoor
