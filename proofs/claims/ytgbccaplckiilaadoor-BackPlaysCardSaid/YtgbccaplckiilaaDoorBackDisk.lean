/-
  back: Crash, Disk, Moves, by their contracts.
-/
import Derived.Test.YtgbccaplckiilaaDoorBackFlush
import Derived.Test.YtgbccaplckiilaaDoorClone
import Derived.Deep.QuietTactic
import Derived.BigQuiet
namespace Go.Proofs.YtgbccaplckiilaaDoor
open Go.RowKit

theorem bCrash_any (b slots : Nat) (v : Value) (s : BSt) (w : World) (h : BAt w b v slots s) :
    Calls Tryd.prog 13 #[.pointer (some ⟨b, 0, none⟩)] w fun e w' => e = .returned (.tuple #[]) ∧ BAt w' b (.slice none 0 0) slots (crashB s) ∧ Keep [b] w w' := by
  have hx8 := h.top.cell_ (ctop_rest h.dl).1
  have hf8 := h.top.free 8
  have H := Lib.hid h; clear h
  go_enter Tryd.func13, Tryd.ntmps13
  go_wp2
  go_end0
  refine ⟨rfl, ⟨?_, H.out.dl, ⟨World.ownsRow_nil _ _ _ _⟩⟩, (Keep.refl _ w).set (fun _ => by simp) _⟩
  have := H.out.top.set 8 (.slice none 0 0)
  rw [ctop_set8 H.out.dl] at this
  exact this

theorem bMoves_any (b slots : Nat) (v : Value) (s : BSt) (w : World) (h : BAt w b v slots s) :
    Calls Tryd.prog 18 #[.pointer (some ⟨b, 0, none⟩)] w fun e w' => e = .returned (.tuple #[.int .i64 s.reads, .int .i64 s.writes]) ∧ ∃ q, w' = w.drewN q := by
  have hx10 := h.top.cell_ (ctop_rest h.dl).2.2.1
  have hx11 := h.top.cell_ (ctop_rest h.dl).2.2.2
  clear h
  go_enter Tryd.func18, Tryd.ntmps18
  go_wp2
  go_quiet (fail)
  go_wp2
  go_ret2
  exact ⟨rfl, nq, rfl⟩

def DiskPost (w : World) (s : BSt) (e : Ending) (w' : World) : Prop := ∃ a c, e = .returned (.slice a 8 c) ∧ NewInts w' w.heap.size a s.disk ∧ Below w.heap.size w w'
theorem bDisk_any (b slots : Nat) (v : Value) (s : BSt) (w : World) (h : BAt w b v slots s) :
    Calls Tryd.prog 17 #[.pointer (some ⟨b, 0, none⟩)] w (DiskPost w s) := by
  have hbl := h.top.lt
  have hin : IntsIn w w.heap.size (some ⟨b, 0, none⟩) s.disk := fun _ => ⟨b, 0, rfl, hbl, fun i x hx => by
    have hi := (List.getElem?_eq_some_iff.1 hx).1
    rw [Nat.zero_add]
    refine h.top.cell_ ?_
    unfold ctop
    rw [List.getElem?_append_left (by rw [ints_len]; exact hi)]
    exact ints_get hx⟩
  have HD := Lib.hid h.dl; have HI := Lib.hid hin; clear hin h
  go_enter Tryd.func17, Tryd.ntmps17
  go_wp2_with fail
  refine (clone_at (some ⟨b, 0, none⟩) 8 w.heap.size 8 s.disk _ HD.out HI.out (by decide) (by decide)).mono ?_
  rintro e w1 ⟨u, rfl, ho, hb1⟩
  obtain ⟨a, c, rfl, hn, _⟩ := ho.new
  rw [HD.out]
  go_wp2
  go_ret
  exact ⟨a, c, rfl, hn, hb1⟩
end Go.Proofs.YtgbccaplckiilaaDoor
