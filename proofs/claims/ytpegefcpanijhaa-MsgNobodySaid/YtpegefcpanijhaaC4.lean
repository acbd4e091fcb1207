/- The walk of barquelaw03's 'step', an ideal book beside the document's, whatever the call: the two answer alike. A slice of calls as it is read. -/
import Derived.Test.YtpegefcpanijhaaC3
namespace Go.Proofs.Ytpegefcpanijhaa
set_option linter.unusedVariables false
set_option linter.unusedSimpArgs false
open Go.RowKit Go.Maps

/-- Both books' answers to a question behind one another. -/
theorem both_is1' {W w : World} {b m base q : Nat} {v : Value} {l : List ByteArray} {s mark : ByteArray} (h : Both w b m base q v l) (hs : s.size ≤ maxLen) (hB : Below W.heap.size W w) :
    Calls Try.prog 21 #[.pointer (some ⟨b, 0, none⟩), .string s, .string mark] w fun e w' => e = .returned (.bool (isB l s mark)) ∧ Both w' b m base q v l ∧ Below W.heap.size W w' :=
  (is_ideal h.ideal hs).mono fun e w' ⟨he, hb⟩ => ⟨he, h.below hb, hB.trans (hb.mono hB.size)⟩
theorem both_is2' {W w : World} {b m base q : Nat} {v : Value} {l : List ByteArray} {s mark : ByteArray} (h : Both w b m base q v l) (hl : l.length ≤ 2000) (hB : Below W.heap.size W w) :
    Calls Try.prog 45 #[.pointer (some ⟨q, 0, none⟩), .string s, .string mark] w fun e w' => e = .returned (.bool (isB l s mark)) ∧ Both w' b m base q v l ∧ Below W.heap.size W w' :=
  (refIs h.ref hl).mono fun e w' ⟨he, hb⟩ => ⟨he, h.below hb, hB.trans (hb.mono hB.size)⟩

set_option maxHeartbeats 1000000 in
theorem step2 {w : World} {b m base q : Nat} {v : Value} {l : List ByteArray} (h : Both w b m base q v l) (hl : l.length ≤ 900) (k n : Int) (h0 : k ≠ 0) (h1' : k ≠ 1) (text mark : ByteArray) :
    Calls Try.prog 23 #[.pointer (some ⟨b, 0, none⟩), .pointer (some ⟨q, 0, none⟩), .agg #[.int .i64 k, .int .i64 n, .string text, .string mark]] w fun e w' => e = .returned (.bool true) ∧ Both w' b m base q v l ∧ Below w.heap.size w w' := by
  have hcs := cutB_size text 300
  have hcs' : (cutB text 300).size ≤ maxLen := by unfold maxLen; omega
  have hB := (Below.refl w.heap.size w).alloc (Nat.le_refl _) (.cells #[.int .i64 k, .int .i64 n, .string text, .string mark] 36)
  have h1 := h.alloc (.cells #[.int .i64 k, .int .i64 n, .string text, .string mark] 36)
  have k0 : (k == 0) = false := beq_eq_false_iff_ne.2 h0
  have k1 : (k == 1) = false := beq_eq_false_iff_ne.2 h1'
  clear h0 h1'
  by_cases hn : n < 0
  all_goals
    go_enter Try.func23, Try.ntmps23
    go_wp2_with fail
    refine (cut_calls text 300 _ rfl _).mono ?_
    rintro e w2 ⟨rfl, hb2⟩
    obtain ⟨c0, c1, c2, c3⟩ := op_cells hb2
    have h2 := h1.below hb2
    have hB2 : Below w.heap.size w w2 := hB.trans (hb2.mono hB.size)
    clear hB hb2 h1 c2
    go_wp2_with fail
    refine (Number_calls_any n _).mono ?_
    rintro e w3 ⟨rfl, hb3⟩
    have d1 := (hb3.cell (World.block_lt_of_cell? w2 _ c1)).trans c1
    have d3 := (hb3.cell (World.block_lt_of_cell? w2 _ c3)).trans c3
    have h3 := h2.below hb3
    have hB3 : Below w.heap.size w w3 := hB2.trans (hb3.mono hB2.size)
    clear c0 c1 c3 hb3 hB2 h2
    go_wp2_with fail
    refine (both_is1' (W := w) h3 hcs' hB3).mono ?_
    rintro e w4 ⟨rfl, h4, hB4⟩
    go_wp2_with fail
    refine (both_is2' (W := w) h4 (by omega) hB4).mono ?_
    rintro e w5 ⟨rfl, h5, hB5⟩
    go_wp2_with fail
    go_ret
    exact ⟨by simp, h5, hB5⟩

/-- The step, whatever the call. -/
theorem step_any {w : World} {b m base q : Nat} {v : Value} {l : List ByteArray} (o : OpD) (h : Both w b m base q v l) (hl : l.length ≤ 900) (hbase : base ≤ w.heap.size) :
    Calls Try.prog 23 #[.pointer (some ⟨b, 0, none⟩), .pointer (some ⟨q, 0, none⟩), o.val] w fun e w' => e = .returned (.bool true) ∧ After w b m base q v (o.seen l) w' := by
  obtain ⟨k, n, text, mark⟩ := o
  unfold OpD.val OpD.seen
  by_cases k0 : k = 0
  · subst k0
    rw [if_pos rfl]
    exact step0 h hl hbase n text mark
  · rw [if_neg k0]
    by_cases k1 : k = 1
    · subst k1
      exact (step1 h hl n text mark).mono fun e w' ⟨he, h', hb⟩ => ⟨he, v, h', Within.of_below hb _, .inl rfl⟩
    · exact (step2 h hl k n k0 k1 text mark).mono fun e w' ⟨he, h', hb⟩ => ⟨he, v, h', Within.of_below hb _, .inl rfl⟩

/-- A slice value that reads as the calls ops. -/
structure OpsAt (w : World) (A : Option Addr) (n c : Nat) (ops : List OpD) : Prop where
  len : ops.length = n
  le : n ≤ c
  max : c ≤ maxLen
  small : ∀ o ∈ ops, o.Ok
  cell : ∀ k (h : k < ops.length), ∃ a, A = some a ∧ w.cell? (a.add (k * 4)) = some (.int .i64 ops[k].kind) ∧ w.cell? ⟨(a.add (k * 4)).block, (a.add (k * 4)).off + 1, none⟩ = some (.int .i64 ops[k].n) ∧
    w.cell? ⟨(a.add (k * 4)).block, (a.add (k * 4)).off + 2, none⟩ = some (.string ops[k].text) ∧ w.cell? ⟨(a.add (k * 4)).block, (a.add (k * 4)).off + 3, none⟩ = some (.string ops[k].mark)
theorem OpsAt.at_ {w w' : World} {A : Option Addr} {n c : Nat} {ops : List OpD} (h : OpsAt w A n c ops) (hb : Below w.heap.size w w') {k : Nat} (hk : k < n) : ∃ (a : Addr) (o : OpD), A = some a ∧ o.Ok ∧ w'.cell? (a.add (k * 4)) = some (.int .i64 o.kind) ∧ w'.cell? ⟨(a.add (k * 4)).block, (a.add (k * 4)).off + 1, none⟩ = some (.int .i64 o.n) ∧
    w'.cell? ⟨(a.add (k * 4)).block, (a.add (k * 4)).off + 2, none⟩ = some (.string o.text) ∧ w'.cell? ⟨(a.add (k * 4)).block, (a.add (k * 4)).off + 3, none⟩ = some (.string o.mark) := by
  have hk' : k < ops.length := by rw [h.len]; exact hk
  obtain ⟨a, e, c0, c1, c2, c3⟩ := h.cell k hk'
  exact ⟨a, ops[k], e, h.small _ (List.getElem_mem hk'), (hb.cell (World.block_lt_of_cell? w _ c0)).trans c0, (hb.cell (World.block_lt_of_cell? w _ c1)).trans c1, (hb.cell (World.block_lt_of_cell? w _ c2)).trans c2, (hb.cell (World.block_lt_of_cell? w _ c3)).trans c3⟩
end Go.Proofs.Ytpegefcpanijhaa
