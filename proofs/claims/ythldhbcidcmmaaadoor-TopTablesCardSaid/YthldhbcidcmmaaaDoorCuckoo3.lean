/-
  Nests: Add that goes on, by its contract.
-/
import Derived.Test.YthldhbcidcmmaaaDoorCuckoo2
import Derived.Test.YthldhbcidcmmaaaDoorSets
import Derived.Deep.WholeRow
namespace Go.Proofs.YthldhbcidcmmaaaDoor
open Go.RowKit

theorem info_rows : (Tryd.prog.info? 57).map (·.size) = some 22 := by kernel_rfl

theorem NAt.back {w : World} {b : Nat} {c d : List Int} {m : Int} (h : NAt w b c m) (hd : d.length = 22) : NAt (w.setCells b 0 (ints d)) b d m := by
  refine ⟨?_, hd⟩
  have := h.top.setCells (ints d) 0
  rwa [sets_all _ _ _ (by rw [ints_len, ints_len, h.len, hd])] at this

theorem NAt.range {w : World} {b : Nat} {c : List Int} {m : Int} (h : NAt w b c m) : w.rangeAt b 0 (ints c) := fun j v hv => by
  have hj : j < c.length := by have := (List.getElem?_eq_some_iff.1 hv).1; rwa [ints_len] at this
  refine h.top.cell_ ?_
  rw [Nat.zero_add, List.getElem?_append_left (by rw [ints_len]; exact hj)]
  exact hv
theorem NAt.there {w : World} {b : Nat} {c : List Int} {m : Int} (h : NAt w b c m) : w.there b 0 22 := fun j hj => by
  have := h.cell_ hj
  rw [Nat.zero_add, this.1, this.2]
  exact ⟨rfl, rfl⟩

theorem Fine.set {c : List Int} (h : Fine c) (p : Nat) (k : Nat) (hk : k ≤ 1000000) : Fine (c.set p ((k : Int) + 1)) := fun i hi => by
  by_cases e : p = i
  · subst e
    by_cases g : p < c.length
    · simp [List.getD, g]; omega
    · simp [List.getD, g]
  · have := h i hi
    simpa [List.getD, List.getElem?_set_ne e] using this

/-- What Add does to the nests. -/
def AddPost (w : World) (b : Nat) (c : List Int) (m : Int) (k : Nat) (e : Ending) (w' : World) : Prop :=
  (∃ c', drive 0 16 k c = some c' ∧ e = .returned .nilIface ∧ NAt w' b c' (m + 1) ∧ Keep [b] w w') ∨ (drive 0 16 k c = none ∧ e = .returned (errv 7) ∧ NAt w' b c m ∧ Keep [b] w w')

def AddRel (w1 : World) (b : Nat) (c : List Int) (m : Int) (k : Nat) (key i : Value) (wr : World) : Prop :=
  ∃ (j k' : Nat) (c' : List Int), j ≤ 16 ∧ k' ≤ 1000000 ∧ i = .int .i64 j ∧ key = .int .i64 k' ∧ Fine c' ∧ drive j (16 - j) k' c' = drive 0 16 k c ∧ NAt wr b c' m ∧ Keep [b] w1 wr

theorem drive_step {j k : Nat} {c : List Int} (h : j < 16) : drive j (16 - j) k c = if c.getD (spot k (j % 2)) 0 < 1 then some (c.set (spot k (j % 2)) (k + 1)) else drive (j + 1) (16 - (j + 1)) (c.getD (spot k (j % 2)) 0 - 1).toNat (c.set (spot k (j % 2)) (k + 1)) := by
  rw [show 16 - j = (16 - (j + 1)) + 1 by omega]
  rfl

set_option maxHeartbeats 1000000 in
set_option maxRecDepth 100000 in
theorem nAdd_go (b : Nat) (c : List Int) (m : Int) (k : Nat) (w : World) (hs : NAt w b c m) (hf : Fine c) (h2 : (k : Int) ≤ 1000000) (h : hasI c k = false) (hm0 : 0 ≤ m) (hm : m < 16) :
    Calls Tryd.prog 8 #[.pointer (some ⟨b, 0, none⟩), .int .i64 k] w (AddPost w b c m k) := by
  have H := Lib.hid h; clear h
  have h1 : (0 : Int) ≤ (k : Int) := by omega
  have HF := Lib.hid hf; clear hf
  have HLEN := Lib.hid hs.len
  go_enter Tryd.func8, Tryd.ntmps8
  go_wp2_with (go_at_call 32; refine (within_yes _ _ _ _ h1 h2).mono ?_; rintro e w' ⟨rfl, rfl⟩)
  refine (nHas_any _ c m k _ hs HF.out (by omega)).mono ?_
  rintro e w' ⟨rfl, q, rfl⟩
  rw [H.out]
  have hc := (hs.drewN q).many_.1
  obtain ⟨wd, hwd⟩ : ∃ wd : World, wd = w.drewN q := ⟨_, rfl⟩
  have hsd : NAt wd b c m := by rw [hwd]; exact hs.drewN q
  have hkd : Keep [b] w wd := by rw [hwd]; exact (Keep.refl _ _).drewN q
  rw [← hwd] at hc ⊢
  have HKD := Lib.hid hkd; have HS := Lib.hid hsd
  clear hwd hkd hsd hs
  have hm16 : (m == 16) = false := by simp; omega
  have hinf : (Tryd.prog.info? 57).map (·.size) = some (ints c).length := by rw [ints_len, HLEN.out]; exact info_rows
  have HI := Lib.hid hinf; clear hinf
  have hinf2 : (Tryd.prog.info? 57).map (·.size) = some (ints c).toArray.size := by simp only [List.size_toArray]; exact HI.out
  have HI2 := Lib.hid hinf2; clear hinf2
  have hone : (ints c).toArray.all (·.oneCell') = true := all_oneCell_toArray (fun v hv => by simp only [ints, List.mem_map] at hv; obtain ⟨x, _, rfl⟩ := hv; rfl)
  have HO := Lib.hid hone; clear hone
  go_wp2_with (first
    | (with_reducible refine wpList_load_mid rfl 57 (.tmp 25) rfl b 0 rfl (ints c) _ HS.out.range Tryd.underlying57 rfl HI.out ?_)
    | (with_reducible refine wpList_store_mid rfl 57 (.tmp 5) (.tmp 26) rfl wd.heap.size 0 (ints c).toArray rfl rfl ?_ HI2.out HO.out ?_))
  · intro j hj
    have hb : Blk _ _ _ _ := Blk.new wd 57 (ints (List.replicate 22 0))
    have hj2 : j < 22 := by have := HLEN.out; simp only [List.size_toArray, ints_len] at hj; omega
    rw [Nat.zero_add]
    refine ⟨?_, hb.free j⟩
    have : (ints (List.replicate 22 0))[j]? = some (.int .i64 0) := ints_get (List.getElem?_replicate_of_lt hj2)
    exact (congrArg Option.isSome (hb.cell_ this)).trans rfl
  obtain ⟨w1, hw1⟩ : ∃ w1 : World, w1 = (wd.alloc (.cells (ints (List.replicate 22 0)).toArray 57)).setCells wd.heap.size 0 (ints c) := ⟨_, rfl⟩
  have hb0 := HS.out.top.lt
  have hwas : Blk w1 wd.heap.size 57 (ints c) := by
    rw [hw1]
    have := (Blk.new wd 57 (ints (List.replicate 22 0))).setCells (ints c) 0
    have e := sets_all (ints c) (ints (List.replicate 22 0)) [] (by rw [ints_len, ints_len, HLEN.out]; simp)
    simp only [List.append_nil] at e
    rwa [e] at this
  have hk1 : Keep [] wd w1 := by
    rw [hw1]
    exact Keep.setCells (fun h => absurd h (Nat.lt_irrefl _)) _ _ _ ((Keep.refl _ _).alloc _)
  have hs1 : NAt w1 b c m := HS.out.keep hk1 (by simp)
  have hkw : Keep [b] w w1 := HKD.out.trans (hk1.mono (by simp))
  have hne : b ≠ wd.heap.size := by omega
  have HW := Lib.hid hwas; have HS1 := Lib.hid hs1; have HK1 := Lib.hid hkw
  clear hwas hs1 hkw hk1 hc
  show Code.wp _ _ _ _ ((wd.alloc (.cells (ints (List.replicate 22 0)).toArray 57)).setCells wd.heap.size 0 (ints c))
  rw [← hw1]
  clear hw1
  obtain ⟨bw, hbw⟩ : ∃ bw, bw = wd.heap.size := ⟨_, rfl⟩
  rw [← hbw] at HW hne ⊢
  clear hbw HS HKD
  go_loopw [1, 6, 7, 8, 27] (fun key _ _ _ i wr => AddRel w1 b c m k key i wr) (fun _ _ _ _ i _ => 16 - (intOf i).toNat)
  case atStart => exact ⟨0, k, c, by omega, by omega, rfl, rfl, HF.out, rfl, HS1.out, Keep.refl _ _⟩
  case round =>
    obtain ⟨j, k', c', hj, hk', rfl, rfl, hf', hdr, hs', hkr⟩ := hrel
    have HF' := Lib.hid hf'; have HD := Lib.hid hdr; have HS' := Lib.hid hs'; have HKR := Lib.hid hkr
    clear hf' hdr hs' hkr
    by_cases hlt : j < 16
    · have hlt' : (j : Int) < 16 := by omega
      have hj0 : (0 : Int) ≤ (j : Int) := by omega
      obtain ⟨r, hr⟩ : ∃ r, r = j % 2 := ⟨_, rfl⟩
      have hr2 : r < 2 := by omega
      have hr2' : (r : Int) < 2 := by omega
      have hr0 : (0 : Int) ≤ (r : Int) := by omega
      have hri : (j : Int) % 2 = (r : Int) := by omega
      have hrt : (j : Int).tmod 2 = (r : Int) := by rw [Int.tmod_eq_emod_of_nonneg hj0]; exact hri
      obtain ⟨p, hp⟩ : ∃ p, p = nst k' r := ⟨_, rfl⟩
      have hp11 : p < 11 := by rw [hp]; exact nst_lt _ _
      have hpi : (p : Int) < 11 := by omega
      have hp0 : (0 : Int) ≤ (p : Int) := by omega
      have hcell := HS'.out.cell_ (i := r * 11 + p) (by omega)
      have hfine := HF'.out (r * 11 + p) (by omega)
      have hst := drive_step (k := k') (c := c') hlt
      rw [HD.out, ← hr, show spot k' r = r * 11 + p by rw [hp]; rfl] at hst
      obtain ⟨x, hx⟩ : ∃ x, x = c'.getD (r * 11 + p) 0 := ⟨_, rfl⟩
      rw [← hx] at hcell hfine hst
      obtain ⟨hcell, hfree⟩ := hcell
      have HR := Lib.hid hr; have HP := Lib.hid hp; have HST := Lib.hid hst; have HX := Lib.hid hx
      clear hr hp hst hx
      have hk'0 : (0 : Int) ≤ (k' : Int) := by omega
      have hk'1 : (k' : Int) ≤ 1000000 := by omega
      obtain ⟨hx0, hx1⟩ := hfine
      go_wp2
      go_quiet ((go_at_call 33; exact quiet_eq (nest_eq k' r hr2 (by omega) HP.out _)))
      by_cases hx2 : x < 1
      · have hx3 : x - 1 < 0 := by omega
        obtain ⟨hmc, hmf⟩ := HS'.out.many_
        have hne22 : ¬ r * 11 + p = 22 := by omega
        have hne23 : ¬ 22 = r * 11 + p := by omega
        go_wp2
        go_ret
        exact .inl ⟨_, by rw [HST.out, if_pos hx2], rfl, (((HS'.out.drewN _).set (by omega) _).setM _), HK1.out.trans (((HKR.out.drewN _).set (fun _ => by simp) _).set (fun _ => by simp) _)⟩
      · have hx3 : ¬ x - 1 < 0 := by omega
        go_wp2
        go_roundw
        case rel =>
          exact ⟨j + 1, (x - 1).toNat, _, hlt, by omega, by simp, by rw [show ((x - 1).toNat : Int) = x - 1 by omega], HF'.out.set _ _ hk', by rw [HST.out, if_neg hx2], (HS'.out.drewN _).set (by omega) _, (HKR.out.drewN _).set (fun _ => by simp) _⟩
        case measure => simp [intOf]; omega
    · have hlt' : ¬ (j : Int) < 16 := by omega
      obtain rfl : j = 16 := by omega
      have HR : Hid (wr.rangeAt bw 0 (ints c)) := Lib.hid (fun j v hv => by rw [Nat.zero_add]; exact (HW.out.keep HKR.out (by simp; omega)).cell_ hv)
      have HT : Hid (wr.there b 0 (ints c).toArray.size) := Lib.hid (by rw [List.size_toArray, ints_len, HLEN.out]; exact HS'.out.there)
      have hdn : drive 0 16 k c = none := by rw [← HD.out]; rfl
      have HDN := Lib.hid hdn; clear hdn
      go_wp2_with (first
        | (with_reducible refine wpList_load_mid rfl 57 (.tmp 5) rfl bw 0 rfl (ints c) _ HR.out Tryd.underlying57 rfl HI.out ?_)
        | (with_reducible refine wpList_store_mid rfl 57 (.tmp 63) (.tmp 61) rfl b 0 (ints c).toArray rfl rfl HT.out HI2.out HO.out ?_))
      go_ret
      exact .inr ⟨HDN.out, rfl, HS'.out.back HLEN.out, HK1.out.trans (Keep.setCells (fun _ => by simp) _ _ _ HKR.out)⟩
end Go.Proofs.YthldhbcidcmmaaaDoor
