/- The walk of barquelaw03.MarksNobody: it answers true; nothing that was there has turned. -/
import Derived.Test.YtpegefcpanijhaaB6
namespace Go.Proofs.Ytpegefcpanijhaa
set_option linter.unusedVariables false
set_option linter.unusedSimpArgs false
open Go.RowKit Go.Maps

theorem zero72 : (Try.zeroCells63)[72]? = some (.bool false) := by kernel_rfl
theorem zero74 : (Try.zeroCells63)[74]? = some (.bool false) := by kernel_rfl

set_option maxHeartbeats 600000 in
theorem marksNobody_walk (w : World) (s mark : ByteArray) (hs : s.size ≤ 140737488351232) (hmk : mark.size ≤ 140737488351232) :
    Calls Try.prog 10 #[.string s, .string mark] w fun e w' => e = .returned (.bool true) ∧ Below w.heap.size w w' := by
  have hB : Below w.heap.size w (w.alloc (.cells Try.zeroCells63 63)) := (Below.refl _ _).alloc (Nat.le_refl _) _
  have hblk : (w.alloc (.cells Try.zeroCells63 63)).heap[w.heap.size]? = some (.cells Try.zeroCells63 63 (0, 0)) := heap_alloc_new w _
  have hr := (cell_of_row _ w.heap.size 72 _ _ _ hblk).trans zero72
  have hi := (cell_of_row _ w.heap.size 74 _ _ _ hblk).trans zero74
  clear hblk
  go_enter Try.func10, Try.ntmps10
  go_wp2_with fail
  refine (ready_nil _).mono ?_
  rintro e w1 ⟨rfl, rfl⟩
  go_wp2_with fail
  refine (ready_any _ w.heap.size false false hr hi).mono ?_
  rintro e w1 ⟨rfl, rfl⟩
  go_wp2_with fail
  refine (mark_nil _ s).mono ?_
  rintro e w1 ⟨rfl, rfl⟩
  go_wp2_with fail
  refine (mark_zero _ w.heap.size s hr hi).mono ?_
  rintro e w1 ⟨rfl, rfl⟩
  go_wp2_with fail
  refine (is_nil _ s mark).mono ?_
  rintro e w1 ⟨rfl, rfl⟩
  go_wp2_with fail
  refine (is_zero _ w.heap.size s _ hr hi).mono ?_
  rintro e w1 ⟨rfl, rfl⟩
  go_wp2_with fail
  refine (awake_to hB).mono ?_
  rintro e w6 ⟨rfl, hB6⟩
  go_wp2_with fail
  go_ret
  exact ⟨rfl, hB6⟩
end Go.Proofs.Ytpegefcpanijhaa
