/- The walk of barquelaw03.MarksReals. -/
import Derived.Test.YtpegefcpanijhaaZI
import Derived.Test.YtpegefcpanijhaaZL
import Derived.Test.YtpegefcpanijhaaZS
import Derived.Test.YtpegefcpanijhaaZC
section
namespace Go.Proofs.Ytpegefcpanijhaa
set_option linter.unusedVariables false
set_option linter.unusedSimpArgs false
open Go.RowKit Go.Maps Go.Proofs.YtpegefcpanijhaaW.PrintWords Go.Proofs.YtpegefcpanijhaaW.PrintMore PF

/-- The text's bytes in either book. -/
def shaT (s : ByteArray) : ByteArray := bx (shaL Kc Hc s.data.toList)
/-- A real book and the document's beside it. -/
structure Reals (w : World) (b q : Nat) : Prop where
  book : w.heap[b]? = some (.cells (realRow Kc Hc) 63 (0, 0))
  ref : w.heap[q]? = some (.cells #[.bool true, .slice none 0 0] 33 (0, 0))
theorem Reals.below {w w' : World} {b q : Nat} (h : Reals w b q) (hb : Below w.heap.size w w') : Reals w' b q := ⟨blk_below h.book hb, blk_below h.ref hb⟩
theorem Reals.alloc {w : World} {b q : Nat} (h : Reals w b q) (o : Obj) : Reals (w.alloc o) b q := h.below ((Below.refl _ _).alloc (Nat.le_refl _) o)
theorem Reals.drew {w : World} {b q : Nat} (h : Reals w b q) : Reals w.drew b q := ⟨h.book, h.ref⟩
theorem Reals.drewN {w : World} {b q : Nat} (h : Reals w b q) (n : Nat) : Reals (w.drewN n) b q := ⟨h.book, h.ref⟩

set_option maxHeartbeats 400000 in
theorem refRMark {w : World} {b q : Nat} {s : ByteArray} (h : Reals w b q) (hs : s.size ≤ 100000000000000) :
    Calls Try.prog 44 #[.pointer (some ⟨q, 0, none⟩), .string s] w fun e w' => e = .returned (.string (shaT s)) ∧ Below w.heap.size w w' := by
  have c0 : w.cell? ⟨q, 0, none⟩ = some (.bool true) := cell_of_row _ _ 0 _ _ _ h.ref
  go_enter Try.func44, Try.ntmps44
  go_wp2_with fail
  refine (refsum_calls hs roots64 roots8).mono ?_
  rintro e w' ⟨rfl, hb⟩
  rw [show bx (shaL Kc Hc s.data.toList) = shaT s from rfl]
  go_wp2_with fail
  go_ret
  exact ⟨rfl, hb⟩
set_option maxHeartbeats 400000 in
theorem refRIs {w : World} {b q : Nat} {s mark : ByteArray} (h : Reals w b q) (hs : s.size ≤ 100000000000000) :
    Calls Try.prog 45 #[.pointer (some ⟨q, 0, none⟩), .string s, .string mark] w fun e w' => e = .returned (.bool (decide (shaT s = mark))) ∧ Below w.heap.size w w' := by
  have c0 : w.cell? ⟨q, 0, none⟩ = some (.bool true) := cell_of_row _ _ 0 _ _ _ h.ref
  go_enter Try.func45, Try.ntmps45
  go_wp2_with fail
  refine (refsum_calls hs roots64 roots8).mono ?_
  rintro e w' ⟨rfl, hb⟩
  rw [show bx (shaL Kc Hc s.data.toList) = shaT s from rfl]
  go_wp2_with fail
  go_ret
  exact ⟨congrArg (fun v => Ending.returned (.bool v)) (beq_toList (shaT s) mark), hb⟩

theorem r_mark1 {W w : World} {b q : Nat} {s : ByteArray} (h : Reals w b q) (hs : s.size ≤ 300) (hB : Below W.heap.size W w) :
    Calls Try.prog 20 #[.pointer (some ⟨b, 0, none⟩), .string s] w fun e w' => e = .returned (.string (shaT s)) ∧ Reals w' b q ∧ Below W.heap.size W w' :=
  (mark_of h.book (by omega)).mono fun e w' ⟨he, hb⟩ => ⟨he, h.below hb, hB.trans (hb.mono hB.size)⟩
theorem r_mark2 {W w : World} {b q : Nat} {s : ByteArray} (h : Reals w b q) (hs : s.size ≤ 300) (hB : Below W.heap.size W w) :
    Calls Try.prog 44 #[.pointer (some ⟨q, 0, none⟩), .string s] w fun e w' => e = .returned (.string (shaT s)) ∧ Reals w' b q ∧ Below W.heap.size W w' :=
  (refRMark h (by omega)).mono fun e w' ⟨he, hb⟩ => ⟨he, h.below hb, hB.trans (hb.mono hB.size)⟩
theorem r_is1' {W w : World} {b q : Nat} {s mark : ByteArray} (h : Reals w b q) (hs : s.size ≤ 300) (hB : Below W.heap.size W w) :
    Calls Try.prog 21 #[.pointer (some ⟨b, 0, none⟩), .string s, .string mark] w fun e w' => e = .returned (.bool (decide (shaT s = mark))) ∧ Reals w' b q ∧ Below W.heap.size W w' :=
  (is_of h.book (by omega)).mono fun e w' ⟨he, hb⟩ => ⟨he, h.below hb, hB.trans (hb.mono hB.size)⟩
theorem r_is2' {W w : World} {b q : Nat} {s mark : ByteArray} (h : Reals w b q) (hs : s.size ≤ 300) (hB : Below W.heap.size W w) :
    Calls Try.prog 45 #[.pointer (some ⟨q, 0, none⟩), .string s, .string mark] w fun e w' => e = .returned (.bool (decide (shaT s = mark))) ∧ Reals w' b q ∧ Below W.heap.size W w' :=
  (refRIs h (by omega)).mono fun e w' ⟨he, hb⟩ => ⟨he, h.below hb, hB.trans (hb.mono hB.size)⟩
theorem r_is1 {W w : World} {b q : Nat} {s mark : ByteArray} (h : Reals w b q) (hs : s.size ≤ 300) (hB : Below W.heap.size W w) {a1 : Addr} {v1 : Value} (c1 : w.cell? a1 = some v1) :
    Calls Try.prog 21 #[.pointer (some ⟨b, 0, none⟩), .string s, .string mark] w fun e w' => e = .returned (.bool (decide (shaT s = mark))) ∧ Reals w' b q ∧ Below W.heap.size W w' ∧ w'.cell? a1 = some v1 :=
  (is_of h.book (by omega)).mono fun e w' ⟨he, hb⟩ => ⟨he, h.below hb, hB.trans (hb.mono hB.size), (hb.cell (World.block_lt_of_cell? w _ c1)).trans c1⟩
theorem r_is2 {W w : World} {b q : Nat} {s mark : ByteArray} (h : Reals w b q) (hs : s.size ≤ 300) (hB : Below W.heap.size W w) {a1 : Addr} {v1 : Value} (c1 : w.cell? a1 = some v1) :
    Calls Try.prog 45 #[.pointer (some ⟨q, 0, none⟩), .string s, .string mark] w fun e w' => e = .returned (.bool (decide (shaT s = mark))) ∧ Reals w' b q ∧ Below W.heap.size W w' ∧ w'.cell? a1 = some v1 :=
  (refRIs h (by omega)).mono fun e w' ⟨he, hb⟩ => ⟨he, h.below hb, hB.trans (hb.mono hB.size), (hb.cell (World.block_lt_of_cell? w _ c1)).trans c1⟩

set_option maxHeartbeats 400000 in
theorem stepR0 {w : World} {b q : Nat} (h : Reals w b q) (n : Int) (text mark : ByteArray) :
    Calls Try.prog 23 #[.pointer (some ⟨b, 0, none⟩), .pointer (some ⟨q, 0, none⟩), .agg #[.int .i64 0, .int .i64 n, .string text, .string mark]] w fun e w' => e = .returned (.bool true) ∧ Reals w' b q ∧ Below w.heap.size w w' := by
  have hcs := cutB_size text 300
  have hB := (Below.refl w.heap.size w).alloc (Nat.le_refl _) (.cells #[.int .i64 0, .int .i64 n, .string text, .string mark] 36)
  have h1 := h.alloc (.cells #[.int .i64 0, .int .i64 n, .string text, .string mark] 36)
  go_enter Try.func23, Try.ntmps23
  go_wp2_with fail
  refine (cut_calls text 300 _ rfl _).mono ?_
  rintro e w2 ⟨rfl, hb2⟩
  obtain ⟨c0, c1, c2, c3⟩ := op_cells hb2
  have h2 := h1.below hb2
  have hB2 : Below w.heap.size w w2 := hB.trans (hb2.mono hB.size)
  clear hB hb2 h1
  go_wp2_with fail
  refine (r_mark1 (W := w) h2 hcs hB2).mono ?_
  rintro e w3 ⟨rfl, h3, hB3⟩
  go_wp2_with fail
  refine (r_mark2 (W := w) h3 hcs hB3).mono ?_
  rintro e w4 ⟨rfl, h4, hB4⟩
  go_wp2_with fail
  go_ret
  exact ⟨rfl, h4, hB4⟩
set_option maxHeartbeats 1000000 in
theorem stepR1 {w : World} {b q : Nat} (h : Reals w b q) (n : Int) (text mark : ByteArray) :
    Calls Try.prog 23 #[.pointer (some ⟨b, 0, none⟩), .pointer (some ⟨q, 0, none⟩), .agg #[.int .i64 1, .int .i64 n, .string text, .string mark]] w fun e w' => e = .returned (.bool true) ∧ Reals w' b q ∧ Below w.heap.size w w' := by
  have hcs := cutB_size text 300
  have hB := (Below.refl w.heap.size w).alloc (Nat.le_refl _) (.cells #[.int .i64 1, .int .i64 n, .string text, .string mark] 36)
  have h1 := h.alloc (.cells #[.int .i64 1, .int .i64 n, .string text, .string mark] 36)
  go_enter Try.func23, Try.ntmps23
  go_wp2_with fail
  refine (cut_calls text 300 _ rfl _).mono ?_
  rintro e w2 ⟨rfl, hb2⟩
  obtain ⟨c0, c1, c2, c3⟩ := op_cells hb2
  have h2 := h1.below hb2
  have hB2 : Below w.heap.size w w2 := hB.trans (hb2.mono hB.size)
  clear hB hb2 h1 c1 c2
  cases hq : decide (shaT (cutB text 300) = mark)
  all_goals
    have HQ := Lib.hid hq
    clear hq
    go_wp2_with fail
    go_region_held3 (fun w' => w'.cell? ⟨w.heap.size, 3, none⟩ = some (.string mark)) (go_keep)
      (first
        | (go_at_call 21; refine (r_is1 (W := w) (a1 := ⟨w.heap.size, 3, none⟩) (v1 := .string mark) (by first | exact h2 | exact h2.drewN _ | exact h2.drew) hcs (by first | exact hB2 | exact below_drewN hB2 _ | exact hB2.drew) (by assumption)).mono ?_; rintro e w5 ⟨rfl, h5, hB5, f5⟩; rw [HQ.out])
        | (go_at_call 45; refine (r_is2 (W := w) (a1 := ⟨w.heap.size, 3, none⟩) (v1 := .string mark) (by first | exact h5 | exact h5.drewN _ | exact h5.drew) hcs (by first | exact hB5 | exact below_drewN hB5 _ | exact hB5.drew) (by assumption)).mono ?_; rintro e w6 ⟨rfl, h6, hB6, f6⟩; rw [HQ.out]))
    go_wp2_with fail
    go_ret
    exact ⟨rfl, h6, hB6⟩
set_option maxHeartbeats 1000000 in
theorem stepR2 {w : World} {b q : Nat} (h : Reals w b q) (k n : Int) (h0 : k ≠ 0) (h1' : k ≠ 1) (text mark : ByteArray) :
    Calls Try.prog 23 #[.pointer (some ⟨b, 0, none⟩), .pointer (some ⟨q, 0, none⟩), .agg #[.int .i64 k, .int .i64 n, .string text, .string mark]] w fun e w' => e = .returned (.bool true) ∧ Reals w' b q ∧ Below w.heap.size w w' := by
  have hcs := cutB_size text 300
  have hB := (Below.refl w.heap.size w).alloc (Nat.le_refl _) (.cells #[.int .i64 k, .int .i64 n, .string text, .string mark] 36)
  have h1 := h.alloc (.cells #[.int .i64 k, .int .i64 n, .string text, .string mark] 36)
  have k0 : (k == 0) = false := beq_eq_false_iff_ne.2 h0
  have k1 : (k == 1) = false := beq_eq_false_iff_ne.2 h1'
  clear h0 h1'
  by_cases hn : n < 0
  all_goals
    go_enter Try.func23, Try.ntmps23
    go_wp2_with fail
    refine (cut_calls text 300 _ rfl _).mono ?_
    rintro e w2 ⟨rfl, hb2⟩
    obtain ⟨c0, c1, c2, c3⟩ := op_cells hb2
    have h2 := h1.below hb2
    have hB2 : Below w.heap.size w w2 := hB.trans (hb2.mono hB.size)
    clear hB hb2 h1 c2
    go_wp2_with fail
    refine (Number_calls_any n _).mono ?_
    rintro e w3 ⟨rfl, hb3⟩
    have d1 := (hb3.cell (World.block_lt_of_cell? w2 _ c1)).trans c1
    have d3 := (hb3.cell (World.block_lt_of_cell? w2 _ c3)).trans c3
    have h3 := h2.below hb3
    have hB3 : Below w.heap.size w w3 := hB2.trans (hb3.mono hB2.size)
    clear c0 c1 c3 hb3 hB2 h2
    go_wp2_with fail
    refine (r_is1' (W := w) h3 hcs hB3).mono ?_
    rintro e w4 ⟨rfl, h4, hB4⟩
    go_wp2_with fail
    refine (r_is2' (W := w) h4 hcs hB4).mono ?_
    rintro e w5 ⟨rfl, h5, hB5⟩
    go_wp2_with fail
    go_ret
    exact ⟨by simp, h5, hB5⟩
theorem stepR_any {w : World} {b q : Nat} (o : OpD) (h : Reals w b q) :
    Calls Try.prog 23 #[.pointer (some ⟨b, 0, none⟩), .pointer (some ⟨q, 0, none⟩), o.val] w fun e w' => e = .returned (.bool true) ∧ Reals w' b q ∧ Below w.heap.size w w' := by
  obtain ⟨k, n, text, mark⟩ := o
  unfold OpD.val
  by_cases k0 : k = 0
  · subst k0
    exact stepR0 h n text mark
  · by_cases k1 : k = 1
    · subst k1
      exact stepR1 h n text mark
    · exact stepR2 h k n k0 k1 text mark

set_option maxHeartbeats 1000000 in
theorem marksReals_walk (w : World) (A : Option Addr) (n c : Nat) (ops : List OpD) (h : OpsAt w A n c ops) :
    Calls Try.prog 12 #[.slice A n c] w fun e w' => e = .returned (.bool true) ∧ Below w.heap.size w w' := by
  have hn : (n : Int) ≤ 9223372036854775807 := by have := h.le; have := h.max; unfold maxLen at this; omega
  go_enter Try.func12, Try.ntmps12
  go_wp2_with fail
  refine (Real_calls w).mono ?_
  rintro e w1 ⟨b, rfl, hI, hB, hb0⟩
  go_wp2_with fail
  have hR : Reals (w1.alloc (.cells #[.bool true, .slice none 0 0] 33)) b w1.heap.size := ⟨blk_alloc hI _, heap_alloc_new w1 _⟩
  have hB1 : Below w.heap.size w (w1.alloc (.cells #[.bool true, .slice none 0 0] 33)) := hB.alloc hB.size _
  go_loopw [5] (fun i wr => ∃ (k : Nat), k ≤ n ∧ k ≤ 4 ∧ i = .int .i64 k ∧ Reals wr b w1.heap.size ∧ Below w.heap.size w wr) (fun i _ => 4 - (intOf i).toNat)
  case atStart => exact ⟨0, Nat.zero_le _, Nat.zero_le _, rfl, hR, hB1⟩
  case round =>
    clear hR hB1
    obtain ⟨k, hk1, hk2, rfl, h3, hB3⟩ := hrel
    by_cases hlt : k < n ∧ k < 4
    · obtain ⟨hlt, hlt2⟩ := hlt
      obtain ⟨a, o, rfl, hok, d0, d1, d2, d3⟩ := h.at_ hB3 hlt
      go_wp2_with fail
      refine (stepR_any o h3).mono ?_
      rintro e w4 ⟨rfl, h4, hb⟩
      have hB4 := hB3.trans (hb.mono hB3.size)
      go_wp2_with fail
      go_roundw
      case rel => exact ⟨k + 1, by omega, by omega, by go_num, h4, hB4⟩
      case measure => simp [intOf]; omega
    · have hend : ¬ k < n ∨ (k < n ∧ ¬ k < 4) := by omega
      clear hlt
      have c72 : wr.cell? ⟨b, 72, none⟩ = some (.bool true) := (blk_cell h3.book 72).trans (real72 Kc Hc)
      have c74 : wr.cell? ⟨b, 74, none⟩ = some (.bool false) := (blk_cell h3.book 74).trans (real74 Kc Hc)
      rcases hend with hlt | ⟨hlt, hlt2⟩
      all_goals
        go_wp2_with fail
        refine (ready_any _ b true false c72 c74).mono ?_
        rintro e w4 ⟨rfl, rfl⟩
        go_wp2_with fail
        refine (awake_to hB3).mono ?_
        rintro e w6 ⟨rfl, hB6⟩
        go_wp2_with fail
        go_ret
        exact ⟨rfl, hB6⟩
end Go.Proofs.Ytpegefcpanijhaa
end
