/-
  back: Flush, by its contract.
-/
import Derived.Test.YtgbccaplckiilaaDoorBackUse
namespace Go.Proofs.YtgbccaplckiilaaDoor
open Go.RowKit

theorem flushTo_at {s : BSt} {k : Nat} {x : Fr} (h : s.fr[k]? = some x) :
    (flushTo s k).fr[k]? = some x ∧ flushTo s (k + 1) = { disk := cleanD (flushTo s k).disk x, fr := (flushTo s k).fr.set k (unD x), reads := s.reads, writes := (flushTo s k).writes + cleanW x } := by
  obtain ⟨hk, rfl⟩ := List.getElem?_eq_some_iff.1 h
  have hl : ((s.fr.take k).map unD).length = k := by simp; omega
  have ht : s.fr.take (k + 1) = s.fr.take k ++ [s.fr[k]] := by rw [List.take_add_one, h]; rfl
  have hd : s.fr.drop k = s.fr[k] :: s.fr.drop (k + 1) := List.drop_eq_getElem_cons hk
  constructor
  · show ((s.fr.take k).map unD ++ s.fr.drop k)[k]? = _
    rw [List.getElem?_append_right (by omega), hl, hd]; simp
  · unfold flushTo
    simp only [ht, List.foldl_append, List.foldl_cons, List.foldl_nil, List.map_append, List.map_cons, List.map_nil, List.countP_append, BSt.mk.injEq, true_and]
    refine ⟨?_, ?_⟩
    · rw [List.set_append_right _ _ (by omega), hl, hd, Nat.sub_self, List.set_cons_zero]; simp
    · unfold cleanW
      rw [List.countP_singleton]
      by_cases e : (s.fr[k]).2.2 = true
      · rw [if_pos e, if_pos e]; omega
      · rw [if_neg e, if_neg e]; omega
theorem flushTo_len (s : BSt) (k : Nat) : (flushTo s k).fr.length = s.fr.length := by
  unfold flushTo; simp; omega
theorem flushTo_zero (s : BSt) : flushTo s 0 = s := by unfold flushTo; simp
theorem flushTo_wr (s : BSt) (k : Nat) : s.writes ≤ (flushTo s k).writes ∧ (flushTo s k).writes ≤ s.writes + s.fr.length := by
  unfold flushTo
  have := List.countP_le_length (p := fun x : Fr => x.2.2) (l := s.fr.take k)
  have h2 := List.length_take_le k s.fr
  have h3 : (s.fr.take k).length ≤ s.fr.length := by simp; omega
  simp only
  omega

def FlRel (w : World) (b slots : Nat) (v : Value) (s : BSt) (i : Value) (wr : World) : Prop :=
  ∃ k : Nat, k ≤ s.fr.length ∧ i = .int .i64 k ∧ BAt wr b v slots (flushTo s k) ∧ KeepO b v w wr
def FlPost (w : World) (b slots : Nat) (v : Value) (s : BSt) (e : Ending) (w' : World) : Prop :=
  e = .returned (.tuple #[]) ∧ BAt w' b v slots (flushB s) ∧ KeepO b v w w'

set_option maxHeartbeats 1000000 in
set_option maxRecDepth 100000 in
theorem bFlush_any (b slots : Nat) (v : Value) (s : BSt) (w : World) (h : BAt w b v slots s) (hle : s.fr.length ≤ 8) (hrng : ∀ x ∈ s.fr, 0 ≤ x.1 ∧ x.1 ≤ 7) (hw0 : 0 ≤ s.writes) (hw1 : s.writes ≤ 900000) :
    Calls Tryd.prog 11 #[.pointer (some ⟨b, 0, none⟩)] w (FlPost w b slots v s) := by
  obtain ⟨a, g, cap, hv, hag, hg, hkin, hmore⟩ := h.fr.view b h.top.lt
  obtain ⟨n, hn⟩ : ∃ n, n = s.fr.length := ⟨_, rfl⟩
  rw [← hn] at hv hag hmore hle
  subst hv
  have hx8 := h.top.cell_ (ctop_rest h.dl).1
  have H := Lib.hid h; have HN := Lib.hid hn; have HAG := Lib.hid hag; have HRNG := Lib.hid hrng
  clear h hn hag hkin hmore hrng hg
  go_enter Tryd.func11, Tryd.ntmps11
  go_wp2
  go_loopw [2, 8] (fun _ i wr => FlRel w b slots (.slice a n cap) s i wr) (fun _ i _ => n - (intOf i).toNat)
  case atStart => exact ⟨0, Nat.zero_le _, rfl, by rw [flushTo_zero]; exact H.out, [], Keep.refl _ _, by simp⟩
  case round =>
    obtain ⟨k, hk, rfl, hb, hko⟩ := hrel
    rw [← HN.out] at hk
    by_cases hlt : k < n
    · obtain rfl := HAG.out (by omega)
      have hkl : k < s.fr.length := by rw [← HN.out]; exact hlt
      obtain ⟨x, hx⟩ : ∃ x, x = s.fr[k] := ⟨_, rfl⟩
      have hxg : s.fr[k]? = some x := by rw [hx]; exact List.getElem?_eq_getElem hkl
      obtain ⟨hx0, hx7⟩ := HRNG.out x (List.mem_of_getElem? hxg)
      obtain ⟨hat, hsucc⟩ := flushTo_at hxg
      have hwr := flushTo_wr s k
      have hlen := flushTo_len s k
      obtain ⟨t, ht⟩ : ∃ t, t = flushTo s k := ⟨_, rfl⟩
      rw [← ht] at hb hat hsucc hwr hlen
      obtain ⟨g4, cap4, rest4, e4, hbase4, hcap4, hcm4, hblk4, hlen4⟩ := (hb.fr.shape).resolve_left (by simp)
      have e5 : g = g4 ∧ cap = cap4 := by injection e4 with e6 e7 e8; injection e6 with e9; injection e9 with e10; exact ⟨e10, e8⟩
      obtain ⟨rfl, rfl⟩ := e5
      have hx8r := hb.top.cell_ (ctop_rest hb.dl).1
      have hki : (k : Int) < (n : Int) := by omega
      have hk0 : (0 : Int) ≤ (k : Int) := by omega
      have hww0 : 0 ≤ t.writes := by omega
      have hww1 : t.writes ≤ 1000000 := by have := HN.out; omega
      have HB := Lib.hid hb; have HKO := Lib.hid hko; have HAT := Lib.hid hat; have HSUCC := Lib.hid hsucc; have HBLK4 := Lib.hid hblk4; have HLEN4 := Lib.hid hlen4; have HCAP4 := Lib.hid hcap4; have HCM4 := Lib.hid hcm4; have HBASE4 := Lib.hid hbase4; have HLEN := Lib.hid hlen; have HT := Lib.hid ht
      clear hb hko hat hsucc hblk4 hlen4 hcap4 hcm4 hbase4 hlen ht hx hxg hwr e4 hx8
      go_wp2_with fail
      refine (clean_any b g k slots t.disk (.slice (some ⟨g, 0, none⟩) n cap) t.reads t.writes t.fr rest4 x _ HB.out.top HB.out.dl HBLK4.out HAT.out hx0 hx7 hww0 hww1).mono ?_
      rintro e w6 ⟨rfl, htop6, hblk6, hk6⟩
      have HTOP6 := Lib.hid htop6; have HBLK6 := Lib.hid hblk6; have HK6 := Lib.hid hk6
      clear htop6 hblk6 hk6 hx8r
      go_wp2
      go_roundw
      case rel =>
        refine ⟨k + 1, hkl, by simp, ?_, ?_⟩
        · rw [HSUCC.out]
          have hb := HB.out
          have hre : s.reads = t.reads := by rw [HT.out]; rfl
          have hln : (t.fr.set k (unD x)).length = n := by rw [List.length_set, HLEN.out, ← HN.out]
          refine ⟨by rw [hre]; exact HTOP6.out, by rw [cleanD_len]; exact hb.dl, ?_⟩
          show FAt w6 (b + 1) (.slice (some ⟨g, 0, none⟩) n cap) (t.fr.set k (unD x))
          rw [← hln]
          refine FAt.mk_ HBASE4.out (by rw [hln, HN.out, ← HLEN.out]; exact HCAP4.out) HCM4.out HBLK6.out ?_ ?_
          · rw [List.length_append, flat3_len, List.length_set, ← flat3_len, ← List.length_append]; exact HLEN4.out
          · rw [List.take_append_of_le_length (by rw [flat3_len]; exact Nat.le_refl _)]; exact List.take_of_length_le (by rw [flat3_len]; exact Nat.le_refl _)
        · obtain ⟨F, hF, hx⟩ := HKO.out
          refine ⟨b :: g :: F, (hF.mono (by intro z hz; simp [hz])).trans (HK6.out.mono (by intro z hz _; simp at hz; rcases hz with rfl | rfl <;> simp)), fun z hz => ?_⟩
          simp at hz
          rcases hz with rfl | rfl | hz
          · exact .inl rfl
          · exact .inr rfl
          · exact hx z hz
      case measure => simp [intOf]; omega
    · obtain rfl : k = n := by omega
      have HB := Lib.hid hb; have HKO := Lib.hid hko; clear hb hko
      go_wp2
      go_end0
      refine ⟨rfl, ?_, HKO.out⟩
      have := HB.out
      unfold flushB
      rw [← HN.out]
      exact this
end Go.Proofs.YtgbccaplckiilaaDoor
