/- The walk of msg.part: whether a message's part may be. -/
import Derived.Test.YtpegefcpanijhaaM1
import Derived.Outline
namespace Go.Proofs.Ytpegefcpanijhaa
set_option linter.unusedVariables false
set_option linter.unusedSimpArgs false
open Go.RowKit Go.Proofs.YtpegefcpanijhaaW.PrintWords PF

/-- A message's cells; as a value. -/
abbrev MsgD.cells (m : MsgD) (A : Option Addr) (c : Nat) : Array Value :=
  #[.int .i64 m.kind, .int .i64 m.frm, .int .i64 m.dst, .int .i64 m.ballot, .int .i64 m.gen, .int .i64 m.basis, .int .i64 m.floor, .int .i64 m.top, .int .i64 m.read, .string m.mark, .int .i64 m.pat, .int .i64 m.pof, .string m.ptext, .slice A m.list.length c]

theorem blk_later {w w2 : World} {cs : Array Value} {t : Nat} (hb : Below (w.alloc (.cells cs t)).heap.size (w.alloc (.cells cs t)) w2) : w2.heap[w.heap.size]? = some (.cells cs t (0, 0)) := (hb.block _ (by simp)).trans (heap_alloc_new w _)

theorem ret_bool {a b : Bool} (h : a = b) : Ending.returned (.bool a) = Ending.returned (.bool b) := by rw [h]
theorem toList_nil (s : ByteArray) : s.toList = [] ↔ s.size = 0 := by
  rw [ByteArray.toList_eq]
  constructor
  · intro h
    have := congrArg List.length h
    simpa using this
  · intro h
    exact List.eq_nil_of_length_eq_zero (by simpa using h)

/-- The part's copy, in whatever world comes later. -/
theorem part_cells {m : MsgD} {A : Option Addr} {c : Nat} {w w1 : World} (hb : Below ((w.alloc (.cells (m.cells A c) 44)).alloc (.cells #[.int .i64 m.pat, .int .i64 m.pof, .string m.ptext] 41)).heap.size ((w.alloc (.cells (m.cells A c) 44)).alloc (.cells #[.int .i64 m.pat, .int .i64 m.pof, .string m.ptext] 41)) w1) :
    Below w.heap.size w w1 ∧ w1.cell? ⟨w.heap.size + 1, 0, none⟩ = some (.int .i64 m.pat) ∧ w1.cell? ⟨w.heap.size + 1, 1, none⟩ = some (.int .i64 m.pof) ∧ w1.cell? ⟨w.heap.size + 1, 2, none⟩ = some (.string m.ptext) := by
  have h1 := blk_later hb
  have e1 : (w.alloc (.cells (m.cells A c) 44)).heap.size = w.heap.size + 1 := by simp
  rw [e1] at h1
  have hB : Below w.heap.size w ((w.alloc (.cells (m.cells A c) 44)).alloc (.cells #[.int .i64 m.pat, .int .i64 m.pof, .string m.ptext] 41)) := ((Below.refl _ _).alloc (Nat.le_refl _) _).alloc (by simp) _
  exact ⟨hB.trans (hb.mono hB.size), cell_of_row _ _ 0 _ _ _ h1, cell_of_row _ _ 1 _ _ _ h1, cell_of_row _ _ 2 _ _ _ h1⟩

set_option maxHeartbeats 1000000 in
theorem part_no (m : MsgD) (A : Option Addr) (c : Nat) (w : World) (hh : hasB m.kind .p = false) :
    Calls Try.prog 60 #[.agg (m.cells A c)] w fun e w' => e = .returned (.bool (partB m)) ∧ Below w.heap.size w w' := by
  have HH := Lib.hid hh
  clear hh
  go_enter Try.func60, Try.ntmps60
  go_wp2_with fail
  refine (has_calls m.kind .p _ rfl _).mono ?_
  rintro e w1 ⟨rfl, hb⟩
  obtain ⟨hB, c0, c1, c2⟩ := part_cells hb
  rw [HH.out]
  go_wp2_with fail
  all_goals
    go_ret
    refine ⟨ret_bool ?_, hB⟩
    unfold partB
    rw [HH.out]
    simp_all [toList_nil]

set_option maxHeartbeats 1000000 in
theorem part_yes (m : MsgD) (A : Option Addr) (c : Nat) (w : World) (hm : m.ptext.size ≤ maxLen) (hh : hasB m.kind .p = true) :
    Calls Try.prog 60 #[.agg (m.cells A c)] w fun e w' => e = .returned (.bool (partB m)) ∧ Below w.heap.size w w' := by
  unfold maxLen at hm
  have HH := Lib.hid hh
  clear hh
  go_enter Try.func60, Try.ntmps60
  go_wp2_with fail
  refine (has_calls m.kind .p _ rfl _).mono ?_
  rintro e w1 ⟨rfl, hb⟩
  obtain ⟨hB, c0, c1, c2⟩ := part_cells hb
  clear hb
  rw [HH.out]
  go_wp2_with fail
  all_goals
    go_ret
    refine ⟨ret_bool ?_, hB⟩
    unfold partB
    rw [HH.out, Bool.eq_iff_iff]
    simp
    try omega

theorem part_calls (m : MsgD) (A : Option Addr) (c : Nat) (w : World) (hm : m.ptext.size ≤ maxLen) :
    Calls Try.prog 60 #[.agg (m.cells A c)] w fun e w' => e = .returned (.bool (partB m)) ∧ Below w.heap.size w w' := by
  cases hh : hasB m.kind .p
  · exact part_no m A c w hh
  · exact part_yes m A c w hm hh
end Go.Proofs.Ytpegefcpanijhaa
