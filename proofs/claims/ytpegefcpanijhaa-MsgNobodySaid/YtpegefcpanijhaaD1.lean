/- The walk of barquelaw17.MsgRights. -/
import Derived.Test.YtpegefcpanijhaaK5
import Derived.Test.YtpegefcpanijhaaM6
import Derived.Test.YtpegefcpanijhaaR2
namespace Go.Proofs.Ytpegefcpanijhaa
set_option linter.unusedVariables false
set_option linter.unusedSimpArgs false
open Go.RowKit Go.Proofs.YtpegefcpanijhaaW.PrintWords PF

theorem few_calls {w : World} {m : MsgD} {A : Option Addr} {c : Nat} (h : MsgAt w A c m) :
    Calls Try.prog 25 #[.agg (m.cells A c)] w fun e w' => e = .returned (.agg ((cutM m).cells A c)) ∧ Below w.heap.size w w' := by
  rcases Nat.lt_or_ge 80 m.list.length with hl | hl
  · exact few_long h hl
  · have e : cutM m = m := by unfold cutM; rw [List.take_of_length_le hl]
    rw [e]
    exact few_short h hl
theorem cells_one (m : MsgD) (A : Option Addr) (c : Nat) : (m.cells A c).all (·.oneCell') = true := by
  simp [MsgD.cells, Value.oneCell']
theorem below_put {n b : Nat} {w0 w : World} (h : Below n w0 w) (hn : n ≤ b) (cs : Array Value) : Below n w0 (w.setRow b cs) :=
  ⟨h.os, h.tape, h.output, by rw [setRow_size]; exact h.size, fun k hk => (setRow_other w b k cs (by omega)).trans (h.block k hk)⟩
theorem store_msg {ops : Array Oper} {rest : List Oper} {o : Oper} {a : Act} {w : World} {Q : Exit → Act → World → Prop} {b : Nat} {m' : MsgD} {A' : Option Addr} {c' : Nat} {old : Array Value} {x y : Operand} (hgd : o.guard = none) (ho : o.op = .store 44 x y)
    (hx : a.eval x = .pointer (some ⟨b, 0, none⟩)) (hy : a.eval y = .agg (m'.cells A' c')) (hg : w.heap[b]? = some (.cells old 44 (0, 0))) (hold : old.size = 14)
    (hd : o.dst = none) (h : ∀ w2 : World, w2.heap[b]? = some (.cells (m'.cells A' c') 44 (0, 0)) → (∀ {n : Nat} {w0 : World}, Below n w0 w → n ≤ b → Below n w0 w2) → wpList Try.prog ops Q rest a w2) : wpList Try.prog ops Q (o :: rest) a w :=
  wpList_store_row hgd 44 x y ho b (m'.cells A' c') hx hy 44 old hg (by kernel_rfl) hold (cells_one _ _ _)
    (by rw [hd]; exact h _ (setRow_heap w b _ _ _ _ hg) (fun hb hn => below_put hb hn _))
theorem boxed {f : Nat} {args : Array Value} {W w : World} {b : Nat} {m : MsgD} {A : Option Addr} {c : Nat} {r : Ending} (hB : Below W.heap.size W w) (h : MsgBox w b m A c) (hc : Calls Try.prog f args w fun e w' => e = r ∧ Below w.heap.size w w') :
    Calls Try.prog f args w fun e w' => e = r ∧ Below W.heap.size W w' ∧ w'.cell? ⟨b, 0, none⟩ = some (.int .i64 m.kind) ∧ w'.cell? ⟨b, 1, none⟩ = some (.int .i64 m.frm) ∧ w'.cell? ⟨b, 2, none⟩ = some (.int .i64 m.dst) ∧ w'.cell? ⟨b, 3, none⟩ = some (.int .i64 m.ballot) ∧ w'.cell? ⟨b, 4, none⟩ = some (.int .i64 m.gen) ∧ w'.cell? ⟨b, 5, none⟩ = some (.int .i64 m.basis) ∧ w'.cell? ⟨b, 6, none⟩ = some (.int .i64 m.floor) ∧ w'.cell? ⟨b, 7, none⟩ = some (.int .i64 m.top) ∧ w'.cell? ⟨b, 8, none⟩ = some (.int .i64 m.read) ∧ w'.cell? ⟨b, 9, none⟩ = some (.string m.mark) ∧ w'.cell? ⟨b, 10, none⟩ = some (.int .i64 m.pat) ∧ w'.cell? ⟨b, 11, none⟩ = some (.int .i64 m.pof) ∧ w'.cell? ⟨b, 12, none⟩ = some (.string m.ptext) ∧ w'.cell? ⟨b, 13, none⟩ = some (.slice A m.list.length c) :=
  hc.mono fun e w' ⟨he, hb⟩ => ⟨he, hB.trans (hb.mono hB.size), (hb.cell (World.block_lt_of_cell? w _ h.c0)).trans h.c0, (hb.cell (World.block_lt_of_cell? w _ h.c1)).trans h.c1, (hb.cell (World.block_lt_of_cell? w _ h.c2)).trans h.c2, (hb.cell (World.block_lt_of_cell? w _ h.c3)).trans h.c3, (hb.cell (World.block_lt_of_cell? w _ h.c4)).trans h.c4, (hb.cell (World.block_lt_of_cell? w _ h.c5)).trans h.c5, (hb.cell (World.block_lt_of_cell? w _ h.c6)).trans h.c6, (hb.cell (World.block_lt_of_cell? w _ h.c7)).trans h.c7, (hb.cell (World.block_lt_of_cell? w _ h.c8)).trans h.c8, (hb.cell (World.block_lt_of_cell? w _ h.c9)).trans h.c9, (hb.cell (World.block_lt_of_cell? w _ h.c10)).trans h.c10, (hb.cell (World.block_lt_of_cell? w _ h.c11)).trans h.c11, (hb.cell (World.block_lt_of_cell? w _ h.c12)).trans h.c12, (hb.cell (World.block_lt_of_cell? w _ h.c13)).trans h.c13⟩
theorem few_to {W w : World} (hB : Below W.heap.size W w) {m : MsgD} {A : Option Addr} {c : Nat} (h : MsgAt w A c m) :
    Calls Try.prog 25 #[.agg (m.cells A c)] w fun e w' => e = .returned (.agg ((cutM m).cells A c)) ∧ Below W.heap.size W w' :=
  (few_calls h).mono fun e w' ⟨he, hb⟩ => ⟨he, hB.trans (hb.mono hB.size)⟩

set_option maxHeartbeats 1000000 in
theorem msgRights_walk (w : World) (m : MsgD) (A : Option Addr) (c : Nat) (h : MsgIn w A c m) :
    Calls Try.prog 13 #[.agg (m.cells A c)] w fun e w' => e = .returned (.bool true) ∧ Below w.heap.size w w' := by
  obtain ⟨-, h⟩ := h
  have hC := h.cut
  go_enter Try.func13, Try.ntmps13
  have hb0 : Below w.heap.size w (w.alloc (.cells (m.cells A c) 44)) := (Below.refl _ _).alloc (Nat.le_refl _) _
  obtain ⟨c0, c1, c2, c3, c4, c5, c6, c7, c8, c9, c10, c11, c12, c13⟩ := MsgBox.of (heap_alloc_new w (.cells (m.cells A c) 44))
  go_wp2_with fail
  refine (few_calls (h.below hb0)).mono ?_
  rintro e w1 ⟨rfl, hb⟩
  clear c0 c1 c2 c3 c4 c5 c6 c7 c8 c9 c10 c11 c12 c13
  simp only []
  go_at_K
  rename_i hK
  have hblk := blk_still (heap_alloc_new w (.cells (m.cells A c) 44)) hb
  have hB1 := hb0.trans (hb.mono hb0.size)
  refine hK _ _ ?_
  refine store_msg (m' := cutM m) (A' := A) (c' := c) (b := w.heap.size) (x := .tmp 1) (y := .tmp 4) ?_ ?_ ?_ ?_ hblk rfl ?_ ?_
  · rfl
  · rfl
  · rfl
  · rfl
  · rfl
  intro w2 hblk2 hst
  have hB2 := hst hB1 (Nat.le_refl _)
  clear hb0 hb hblk hB1 hst
  have HBLK := Lib.hid hblk2
  obtain ⟨c0, c1, c2, c3, c4, c5, c6, c7, c8, c9, c10, c11, c12, c13⟩ := MsgBox.of hblk2
  clear hblk2
  generalize cutM m = m' at hC HBLK c0 c1 c2 c3 c4 c5 c6 c7 c8 c9 c10 c11 c12 c13
  clear HBLK
  go_wp2_with fail
  go_region_held3 (fun w' => w'.cell? ⟨w.heap.size, 0, none⟩ = some (.int .i64 m'.kind) ∧ w'.cell? ⟨w.heap.size, 1, none⟩ = some (.int .i64 m'.frm) ∧ w'.cell? ⟨w.heap.size, 2, none⟩ = some (.int .i64 m'.dst) ∧ w'.cell? ⟨w.heap.size, 3, none⟩ = some (.int .i64 m'.ballot) ∧ w'.cell? ⟨w.heap.size, 4, none⟩ = some (.int .i64 m'.gen) ∧ w'.cell? ⟨w.heap.size, 5, none⟩ = some (.int .i64 m'.basis) ∧ w'.cell? ⟨w.heap.size, 6, none⟩ = some (.int .i64 m'.floor) ∧ w'.cell? ⟨w.heap.size, 7, none⟩ = some (.int .i64 m'.top) ∧ w'.cell? ⟨w.heap.size, 8, none⟩ = some (.int .i64 m'.read) ∧ w'.cell? ⟨w.heap.size, 9, none⟩ = some (.string m'.mark) ∧ w'.cell? ⟨w.heap.size, 10, none⟩ = some (.int .i64 m'.pat) ∧ w'.cell? ⟨w.heap.size, 11, none⟩ = some (.int .i64 m'.pof) ∧ w'.cell? ⟨w.heap.size, 12, none⟩ = some (.string m'.ptext) ∧ w'.cell? ⟨w.heap.size, 13, none⟩ = some (.slice A m'.list.length c)) (go_keep)
    (first
      | (go_at_call 36; refine (boxed (W := w) (b := w.heap.size) (m := m') (A := A) (c := c) (by first | exact hB2 | exact below_drewN hB2 _ | exact hB2.drew) ⟨by assumption, by assumption, by assumption, by assumption, by assumption, by assumption, by assumption, by assumption, by assumption, by assumption, by assumption, by assumption, by assumption, by assumption⟩ (Right_calls m' A c _ hC.ptext hC.mark (hC.list.below (by first | exact hB2 | exact below_drewN hB2 _ | exact hB2.drew)))).mono ?_; rintro e w3 ⟨rfl, hB3, f3_0, f3_1, f3_2, f3_3, f3_4, f3_5, f3_6, f3_7, f3_8, f3_9, f3_10, f3_11, f3_12, f3_13⟩)
      | (go_at_call 28; refine (boxed (W := w) (b := w.heap.size) (m := m') (A := A) (c := c) (by first | exact hB3 | exact below_drewN hB3 _ | exact hB3.drew) ⟨by assumption, by assumption, by assumption, by assumption, by assumption, by assumption, by assumption, by assumption, by assumption, by assumption, by assumption, by assumption, by assumption, by assumption⟩ (rRight_calls m' A c _ hC.ptext hC.mark (hC.list.below (by first | exact hB3 | exact below_drewN hB3 _ | exact hB3.drew)))).mono ?_; rintro e w4 ⟨rfl, hB4, f4_0, f4_1, f4_2, f4_3, f4_4, f4_5, f4_6, f4_7, f4_8, f4_9, f4_10, f4_11, f4_12, f4_13⟩)
      | (go_at_call 29; refine (boxed (W := w) (b := w.heap.size) (m := m') (A := A) (c := c) (by first | exact hB4 | exact below_drewN hB4 _ | exact hB4.drew) ⟨by assumption, by assumption, by assumption, by assumption, by assumption, by assumption, by assumption, by assumption, by assumption, by assumption, by assumption, by assumption, by assumption, by assumption⟩ (awake17_to (Below.refl _ _))).mono ?_; rintro e w5 ⟨rfl, hB5, f5_0, f5_1, f5_2, f5_3, f5_4, f5_5, f5_6, f5_7, f5_8, f5_9, f5_10, f5_11, f5_12, f5_13⟩))
  go_wp2_with fail
  go_ret
  exact ⟨rfl, hB5⟩
end Go.Proofs.Ytpegefcpanijhaa
