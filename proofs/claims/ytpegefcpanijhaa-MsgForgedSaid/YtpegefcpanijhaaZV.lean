/- The walk of barquelaw17.MsgBytes. -/
import Derived.Test.YtpegefcpanijhaaZG
import Derived.Test.YtpegefcpanijhaaZD
import Derived.Test.YtpegefcpanijhaaZB
section
namespace Go.Proofs.Ytpegefcpanijhaa
set_option linter.unusedVariables false
set_option linter.unusedSimpArgs false
open Go.RowKit Go.Proofs.YtpegefcpanijhaaW.PrintWords PF

theorem size_list (a : ByteArray) : a.data.toList.length = a.size := by rw [Array.length_toList]; rfl
theorem cut_left (a b : ByteArray) : (a ++ b).extract 0 a.size = a := by
  apply ByteArray.ext
  apply Array.toList_inj.1
  rw [ByteArray.data_extract, ByteArray.data_append, Array.toList_extract, Array.toList_append, List.extract_eq_take_drop, List.drop_zero, Nat.sub_zero]
  exact List.take_left' (size_list a)
theorem cut_right (a b : ByteArray) : (a ++ b).extract a.size (a ++ b).size = b := by
  apply ByteArray.ext
  apply Array.toList_inj.1
  rw [ByteArray.data_extract, ByteArray.data_append, Array.toList_extract, Array.toList_append, List.extract_eq_take_drop, List.drop_left' (size_list a), ByteArray.size_append]
  exact List.take_of_length_le (by rw [size_list]; omega)
theorem isB_first (t : ByteArray) : isB (seen [] t) t (mk 1) = true := by
  simp [isB, seen]

set_option maxHeartbeats 2000000 in
theorem msgBytes_walk (w : World) (m : MsgD) (A : Option Addr) (c : Nat) (h : MsgIn w A c m) :
    Calls Try.prog 15 #[.agg (m.cells A c)] w fun e w' => e = .returned (.bool true) ∧ Below w.heap.size w w' := by
  obtain ⟨-, h⟩ := h
  have hC := h.cut
  go_enter Try.func15, Try.ntmps15
  have hb0 : Below w.heap.size w (w.alloc (.cells (m.cells A c) 44)) := (Below.refl _ _).alloc (Nat.le_refl _) _
  obtain ⟨c0, c1, c2, c3, c4, c5, c6, c7, c8, c9, c10, c11, c12, c13⟩ := MsgBox.of (heap_alloc_new w (.cells (m.cells A c) 44))
  go_wp2_with fail
  refine (few_calls (h.below hb0)).mono ?_
  rintro e w1 ⟨rfl, hb⟩
  clear c0 c1 c2 c3 c4 c5 c6 c7 c8 c9 c10 c11 c12 c13
  simp only []
  go_at_K
  rename_i hK
  have hblk := blk_still (heap_alloc_new w (.cells (m.cells A c) 44)) hb
  have hB1 := hb0.trans (hb.mono hb0.size)
  refine hK _ _ ?_
  refine store_msg (m' := cutM m) (A' := A) (c' := c) (b := w.heap.size) (x := .tmp 1) (y := .tmp 8) ?_ ?_ ?_ ?_ hblk rfl ?_ ?_
  · rfl
  · rfl
  · rfl
  · rfl
  · rfl
  intro w2 hblk2 hst
  have hB2 := hst hB1 (Nat.le_refl _)
  clear hb0 hb hblk hB1 hst
  generalize cutM m = p at hC hblk2
  have HBLK := Lib.hid hblk2
  clear hblk2
  go_wp2_with fail
  refine (ideal_to (W := w2) (Below.refl _ _)).mono ?_
  rintro e w3 ⟨b, mm, rfl, hI3, hB3, hmm, -⟩
  have hC2 := hC.below hB2
  obtain ⟨c0, c1, c2, c3, c4, c5, c6, c7, c8, c9, c10, c11, c12, c13⟩ := MsgBox.of (blk_below HBLK.out hB3)
  go_wp2_with fail
  rcases (Bool.eq_false_or_eq_true (rightB p)).symm with hR | hR
  · have HR := Lib.hid hR
    refine (bytes_bad _ (hC2.below hB3) hR).mono ?_
    rintro e w4 ⟨rfl, hb⟩
    have hB4 := hB3.trans (hb.mono hB3.size)
    clear hR hb hB3 hI3 c0 c1 c2 c3 c4 c5 c6 c7 c8 c9 c10 c11 c12 c13
    obtain ⟨c0, c1, c2, c3, c4, c5, c6, c7, c8, c9, c10, c11, c12, c13⟩ := MsgBox.of (blk_below HBLK.out hB4)
    go_wp2_with fail
    refine (rRight_calls p A c _ (hC2.below hB4).ptext (hC2.below hB4).mark (hC2.below hB4).list).mono ?_
    rintro e w5 ⟨rfl, hb⟩
    rw [HR.out]
    have hB5 := hB4.trans (hb.mono hB4.size)
    clear hb hB4 c0 c1 c2 c3 c4 c5 c6 c7 c8 c9 c10 c11 c12 c13
    go_wp2_with fail
    refine (awake17_to (hB2.trans (hB5.mono hB2.size))).mono ?_
    rintro e w6 ⟨rfl, hB6⟩
    go_wp2_with fail
    go_ret
    exact ⟨rfl, hB6⟩
  · have HR := Lib.hid hR
    refine (bytes_ideal hI3 hB3 hmm (by decide) (hC2.below hB3) hR).mono ?_
    rintro e w4 ⟨rfl, hI4, hB4⟩
    clear hR hB3 hI3 c0 c1 c2 c3 c4 c5 c6 c7 c8 c9 c10 c11 c12 c13
    obtain ⟨c0, c1, c2, c3, c4, c5, c6, c7, c8, c9, c10, c11, c12, c13⟩ := MsgBox.of (blk_below HBLK.out hB4)
    go_wp2_with fail
    refine (rRight_calls p A c _ (hC2.below hB4).ptext (hC2.below hB4).mark (hC2.below hB4).list).mono ?_
    rintro e w5 ⟨rfl, hb⟩
    rw [HR.out]
    have hI5 := hI4.below hb
    have hB5 := hB4.trans (hb.mono hB4.size)
    clear hb hB4 hI4 c0 c1 c2 c3 c4 c5 c6 c7 c8 c9 c10 c11 c12 c13
    obtain ⟨c0, c1, c2, c3, c4, c5, c6, c7, c8, c9, c10, c11, c12, c13⟩ := MsgBox.of (blk_below HBLK.out hB5)
    go_wp2_with fail
    refine (Body_calls HR.out (hC2.below hB5).list).mono ?_
    rintro e w6 ⟨rfl, hb⟩
    have hI6 := hI5.below hb
    have hB6 := hB5.trans (hb.mono hB5.size)
    clear hb hB5 hI5 c0 c1 c2 c3 c4 c5 c6 c7 c8 c9 c10 c11 c12 c13
    have ht := txt_size HR.out
    have hmk := mk_size (1 : Int)
    have hIS := Lib.hid (isB_first (txt p))
    have x1 := cut_left (txt p) (mk 1)
    have x2 := cut_right (txt p) (mk 1)
    have x3 : ((txt p ++ mk 1).size : Int) = ((txt p).size : Int) + 32 := by rw [ByteArray.size_append, hmk]; omega
    generalize txt p = T at *
    generalize hst : T ++ mk 1 = st at *
    clear hst hmk
    have HT := Lib.hid ht
    have e1 : ((st.size : Int) == (T.size : Int) + 32) = true := by rw [x3]; exact beq_self_eq_true _
    have z1 : (T.size : Int) ≤ (st.size : Int) := by omega
    have hw : wrap64 ((T.size : Int) + 32) = (T.size : Int) + 32 := wr64 (by omega) (by omega)
    clear x3 ht
    go_wp2_with fail
    refine (is_to hI6 hB6 (by have := HT.out; unfold maxLen; omega)).mono ?_
    rintro e w7 ⟨rfl, -, hB7⟩
    rw [hIS.out]
    go_wp2_with fail
    refine (awake17_to (hB2.trans (hB7.mono hB2.size))).mono ?_
    rintro e w8 ⟨rfl, hB8⟩
    go_wp2_with fail
    go_ret
    exact ⟨rfl, hB8⟩
end Go.Proofs.Ytpegefcpanijhaa
end
