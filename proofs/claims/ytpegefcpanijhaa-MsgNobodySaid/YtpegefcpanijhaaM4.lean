/- The walk of msg.Right: which messages may be. -/
import Derived.Test.YtpegefcpanijhaaM3
namespace Go.Proofs.Ytpegefcpanijhaa
set_option linter.unusedVariables false
set_option linter.unusedSimpArgs false
open Go.RowKit Go.Proofs.YtpegefcpanijhaaW.PrintWords PF

theorem list_calls (m : MsgD) (A : Option Addr) (c : Nat) (w : World) (hL : ListAt w A c m.list) :
    Calls Try.prog 61 #[.agg (m.cells A c)] w fun e w' => e = .returned (.bool (listB m)) ∧ Below w.heap.size w w' := by
  have hm : m.list.length ≤ 9223372036854775807 := by have h1 := hL.le; have h2 := hL.max; unfold maxLen at h2; omega
  cases hh : hasB m.kind .l
  · exact list_no m A c w hh
  · by_cases hl : m.list.length ≤ 64
    · exact list_short m A c w hh hL hl
    · exact list_long m A c w hh hm (by omega)

theorem bytesLo_nil (l : List Fd) : (bytesLo l).toList = [] ↔ l = [] := by
  rw [toList_nil]
  cases l with
  | nil => exact ⟨fun _ => rfl, fun _ => rfl⟩
  | cons a l =>
    simp [bytesLo, ByteArray.size]

set_option maxHeartbeats 2000000 in
set_option maxRecDepth 100000 in
/-- A head that may not be. -/
theorem Right_no (m : MsgD) (A : Option Addr) (c : Nat) (w : World) (hh : headB m = false) :
    Calls Try.prog 36 #[.agg (m.cells A c)] w fun e w' => e = .returned (.bool (rightB m)) ∧ Below w.heap.size w w' := by
  have HR := Lib.hid (show rightB m = false by unfold rightB; rw [hh]; rfl)
  have HH := Lib.hid hh
  clear hh
  have HN := Lib.hid (bytesLo_nil (fieldsOf m.kind))
  by_cases hz : (bytesLo (fieldsOf m.kind)).toList = []
  · go_enter Try.func36, Try.ntmps36
    go_wp2_with fail
    refine (form_calls m.kind _).mono ?_
    rintro e w1 ⟨rfl, hb⟩
    obtain ⟨hB, hblk⟩ := msg_blk hb
    clear hb hblk
    go_wp2_with fail
    go_ret
    exact ⟨ret_bool HR.out.symm, hB⟩
  · by_cases g : m.frm < 0 ∨ 255 < m.frm
    · go_enter Try.func36, Try.ntmps36
      go_wp2_with fail
      refine (form_calls m.kind _).mono ?_
      rintro e w1 ⟨rfl, hb⟩
      obtain ⟨hB, hblk⟩ := msg_blk hb
      have c1 := cell_of_row _ _ 1 _ _ _ hblk
      clear hb hblk
      rcases g with g | g
      · go_wp2_with fail
        go_ret
        exact ⟨ret_bool HR.out.symm, hB⟩
      · have g0 : ¬ m.frm < 0 := by omega
        go_wp2_with fail
        go_ret
        exact ⟨ret_bool HR.out.symm, hB⟩
    · have g1 : ¬ m.frm < 0 := fun h => g (.inl h)
      have g2 : ¬ 255 < m.frm := fun h => g (.inr h)
      have g3 : m.dst < 0 ∨ 255 < m.dst := by
        have h1 := HH.out
        have h2 : fieldsOf m.kind ≠ [] := fun h => hz (HN.out.2 h)
        unfold headB at h1
        simp [h2] at h1
        omega
      clear g
      go_enter Try.func36, Try.ntmps36
      go_wp2_with fail
      refine (form_calls m.kind _).mono ?_
      rintro e w1 ⟨rfl, hb⟩
      obtain ⟨hB, hblk⟩ := msg_blk hb
      have c1 := cell_of_row _ _ 1 _ _ _ hblk
      have c2 := cell_of_row _ _ 2 _ _ _ hblk
      clear hb hblk
      rcases g3 with g | g
      · go_wp2_with fail
        go_ret
        exact ⟨ret_bool HR.out.symm, hB⟩
      · have g0 : ¬ m.dst < 0 := by omega
        go_wp2_with fail
        go_ret
        exact ⟨ret_bool HR.out.symm, hB⟩

/-- A message's box. -/
structure MsgBox (w : World) (b : Nat) (m : MsgD) (A : Option Addr) (c : Nat) : Prop where
  c0 : w.cell? ⟨b, 0, none⟩ = some (.int .i64 m.kind)
  c1 : w.cell? ⟨b, 1, none⟩ = some (.int .i64 m.frm)
  c2 : w.cell? ⟨b, 2, none⟩ = some (.int .i64 m.dst)
  c3 : w.cell? ⟨b, 3, none⟩ = some (.int .i64 m.ballot)
  c4 : w.cell? ⟨b, 4, none⟩ = some (.int .i64 m.gen)
  c5 : w.cell? ⟨b, 5, none⟩ = some (.int .i64 m.basis)
  c6 : w.cell? ⟨b, 6, none⟩ = some (.int .i64 m.floor)
  c7 : w.cell? ⟨b, 7, none⟩ = some (.int .i64 m.top)
  c8 : w.cell? ⟨b, 8, none⟩ = some (.int .i64 m.read)
  c9 : w.cell? ⟨b, 9, none⟩ = some (.string m.mark)
  c10 : w.cell? ⟨b, 10, none⟩ = some (.int .i64 m.pat)
  c11 : w.cell? ⟨b, 11, none⟩ = some (.int .i64 m.pof)
  c12 : w.cell? ⟨b, 12, none⟩ = some (.string m.ptext)
  c13 : w.cell? ⟨b, 13, none⟩ = some (.slice A m.list.length c)

theorem MsgBox.of {w : World} {b : Nat} {m : MsgD} {A : Option Addr} {c : Nat} (h : w.heap[b]? = some (.cells (m.cells A c) 44 (0, 0))) : MsgBox w b m A c :=
  ⟨cell_of_row _ _ 0 _ _ _ h, cell_of_row _ _ 1 _ _ _ h, cell_of_row _ _ 2 _ _ _ h, cell_of_row _ _ 3 _ _ _ h, cell_of_row _ _ 4 _ _ _ h, cell_of_row _ _ 5 _ _ _ h, cell_of_row _ _ 6 _ _ _ h, cell_of_row _ _ 7 _ _ _ h, cell_of_row _ _ 8 _ _ _ h, cell_of_row _ _ 9 _ _ _ h, cell_of_row _ _ 10 _ _ _ h, cell_of_row _ _ 11 _ _ _ h, cell_of_row _ _ 12 _ _ _ h, cell_of_row _ _ 13 _ _ _ h⟩

theorem blk_still {w w' : World} {b : Nat} {cs : Array Value} {t : Nat} (h : w.heap[b]? = some (.cells cs t (0, 0))) (hb : Below w.heap.size w w') : w'.heap[b]? = some (.cells cs t (0, 0)) := by
  have hl : b < w.heap.size := by
    rw [Array.getElem?_eq_some_iff] at h
    exact h.1
  exact (hb.block b hl).trans h

set_option maxHeartbeats 4000000 in
set_option maxRecDepth 100000 in
theorem Right_yes (m : MsgD) (A : Option Addr) (c : Nat) (w : World) (hm : m.ptext.size ≤ maxLen) (hm2 : m.mark.size ≤ maxLen) (hL : ListAt w A c m.list) (hh : headB m = true) :
    Calls Try.prog 36 #[.agg (m.cells A c)] w fun e w' => e = .returned (.bool (rightB m)) ∧ Below w.heap.size w w' := by
  have HR := Lib.hid (show rightB m = (numB m.kind .b m.ballot && numB m.kind .g m.gen && numB m.kind .s m.basis && numB m.kind .f m.floor && numB m.kind .t m.top && numB m.kind .r m.read && markB m && partB m && listB m) by unfold rightB; rw [hh]; rfl)
  have hz : ¬ (bytesLo (fieldsOf m.kind)).toList = [] := by
    rw [bytesLo_nil]
    intro h
    unfold headB at hh
    simp [h] at hh
  have HZ := Lib.hid hz
  obtain ⟨g1, g2, g3, g4⟩ : ¬ m.frm < 0 ∧ ¬ 255 < m.frm ∧ ¬ m.dst < 0 ∧ ¬ 255 < m.dst := by
    unfold headB at hh
    simp at hh
    omega
  clear hh hz
  go_enter Try.func36, Try.ntmps36
  go_wp2_with fail
  refine (form_calls m.kind _).mono ?_
  rintro e w1 ⟨rfl, hb⟩
  obtain ⟨hB, hblk⟩ := msg_blk hb
  have HBLK := Lib.hid hblk
  obtain ⟨c0, c1, c2, c3, c4, c5, c6, c7, c8, c9, -, -, -, -⟩ := MsgBox.of hblk
  clear hb hblk
  go_wp2_with fail
  · rename_i h
    exfalso
    rcases h with (((h | h) | h) | h) | h
    · exact HZ.out (List.isEmpty_iff.1 h)
    all_goals omega
  clear g1 g2 g3 g4 HZ
  have HB1 := Lib.hid hB
  clear hB
  refine (number1_calls m.kind .b _ _ rfl _ _ c0).mono ?_
  rintro e w2 ⟨rfl, hb⟩
  have hblk := blk_still HBLK.out hb
  have HBLK2 := Lib.hid hblk
  have HB2 := Lib.hid (HB1.out.trans (hb.mono HB1.out.size))
  clear hb HBLK HB1 c0 c1 c2 c3 c4 c5 c6 c7 c8 c9
  obtain ⟨c0, c1, c2, c3, c4, c5, c6, c7, c8, c9, -, -, -, -⟩ := MsgBox.of hblk
  clear hblk
  rcases (Bool.eq_false_or_eq_true (numB m.kind .b m.ballot)).symm with hn | hn
  · have HN2 := Lib.hid hn
    rw [hn]
    go_wp2_with fail
    go_ret
    exact ⟨ret_bool (by rw [HR.out, HN2.out]; simp), HB2.out⟩
  have HN2 := Lib.hid hn
  rw [hn]
  clear hn
  go_wp2_with fail
  refine (number1_calls m.kind .g _ _ rfl _ _ c0).mono ?_
  rintro e w3 ⟨rfl, hb⟩
  have hblk := blk_still HBLK2.out hb
  have HBLK3 := Lib.hid hblk
  have HB3 := Lib.hid (HB2.out.trans (hb.mono HB2.out.size))
  clear hb HBLK2 HB2 c0 c1 c2 c3 c4 c5 c6 c7 c8 c9
  obtain ⟨c0, c1, c2, c3, c4, c5, c6, c7, c8, c9, -, -, -, -⟩ := MsgBox.of hblk
  clear hblk
  rcases (Bool.eq_false_or_eq_true (numB m.kind .g m.gen)).symm with hn | hn
  · have HN3 := Lib.hid hn
    rw [hn]
    go_wp2_with fail
    go_ret
    exact ⟨ret_bool (by rw [HR.out, HN2.out, HN3.out]; simp), HB3.out⟩
  have HN3 := Lib.hid hn
  rw [hn]
  clear hn
  go_wp2_with fail
  refine (number1_calls m.kind .s _ _ rfl _ _ c0).mono ?_
  rintro e w4 ⟨rfl, hb⟩
  have hblk := blk_still HBLK3.out hb
  have HBLK4 := Lib.hid hblk
  have HB4 := Lib.hid (HB3.out.trans (hb.mono HB3.out.size))
  clear hb HBLK3 HB3 c0 c1 c2 c3 c4 c5 c6 c7 c8 c9
  obtain ⟨c0, c1, c2, c3, c4, c5, c6, c7, c8, c9, -, -, -, -⟩ := MsgBox.of hblk
  clear hblk
  rcases (Bool.eq_false_or_eq_true (numB m.kind .s m.basis)).symm with hn | hn
  · have HN4 := Lib.hid hn
    rw [hn]
    go_wp2_with fail
    go_ret
    exact ⟨ret_bool (by rw [HR.out, HN2.out, HN3.out, HN4.out]; simp), HB4.out⟩
  have HN4 := Lib.hid hn
  rw [hn]
  clear hn
  go_wp2_with fail
  refine (number1_calls m.kind .f _ _ rfl _ _ c0).mono ?_
  rintro e w5 ⟨rfl, hb⟩
  have hblk := blk_still HBLK4.out hb
  have HBLK5 := Lib.hid hblk
  have HB5 := Lib.hid (HB4.out.trans (hb.mono HB4.out.size))
  clear hb HBLK4 HB4 c0 c1 c2 c3 c4 c5 c6 c7 c8 c9
  obtain ⟨c0, c1, c2, c3, c4, c5, c6, c7, c8, c9, -, -, -, -⟩ := MsgBox.of hblk
  clear hblk
  rcases (Bool.eq_false_or_eq_true (numB m.kind .f m.floor)).symm with hn | hn
  · have HN5 := Lib.hid hn
    rw [hn]
    go_wp2_with fail
    go_ret
    exact ⟨ret_bool (by rw [HR.out, HN2.out, HN3.out, HN4.out, HN5.out]; simp), HB5.out⟩
  have HN5 := Lib.hid hn
  rw [hn]
  clear hn
  go_wp2_with fail
  refine (number1_calls m.kind .t _ _ rfl _ _ c0).mono ?_
  rintro e w6 ⟨rfl, hb⟩
  have hblk := blk_still HBLK5.out hb
  have HBLK6 := Lib.hid hblk
  have HB6 := Lib.hid (HB5.out.trans (hb.mono HB5.out.size))
  clear hb HBLK5 HB5 c0 c1 c2 c3 c4 c5 c6 c7 c8 c9
  obtain ⟨c0, c1, c2, c3, c4, c5, c6, c7, c8, c9, -, -, -, -⟩ := MsgBox.of hblk
  clear hblk
  rcases (Bool.eq_false_or_eq_true (numB m.kind .t m.top)).symm with hn | hn
  · have HN6 := Lib.hid hn
    rw [hn]
    go_wp2_with fail
    go_ret
    exact ⟨ret_bool (by rw [HR.out, HN2.out, HN3.out, HN4.out, HN5.out, HN6.out]; simp), HB6.out⟩
  have HN6 := Lib.hid hn
  rw [hn]
  clear hn
  go_wp2_with fail
  refine (number1_calls m.kind .r _ _ rfl _ _ c0).mono ?_
  rintro e w7 ⟨rfl, hb⟩
  have hblk := blk_still HBLK6.out hb
  have HBLK7 := Lib.hid hblk
  have HB7 := Lib.hid (HB6.out.trans (hb.mono HB6.out.size))
  clear hb HBLK6 HB6 c0 c1 c2 c3 c4 c5 c6 c7 c8 c9
  obtain ⟨c0, c1, c2, c3, c4, c5, c6, c7, c8, c9, -, -, -, -⟩ := MsgBox.of hblk
  clear hblk
  rcases (Bool.eq_false_or_eq_true (numB m.kind .r m.read)).symm with hn | hn
  · have HN7 := Lib.hid hn
    rw [hn]
    go_wp2_with fail
    go_ret
    exact ⟨ret_bool (by rw [HR.out, HN2.out, HN3.out, HN4.out, HN5.out, HN6.out, HN7.out]; simp), HB7.out⟩
  have HN7 := Lib.hid hn
  rw [hn]
  clear hn
  go_wp2_with fail
  refine (has_calls m.kind .m _ rfl _).mono ?_
  rintro e w8 ⟨rfl, hb⟩
  have hblk := blk_still HBLK7.out hb
  have HBLK8 := Lib.hid hblk
  have HB8 := Lib.hid (HB7.out.trans (hb.mono HB7.out.size))
  clear hb HBLK7 HB7 c0 c1 c2 c3 c4 c5 c6 c7 c8 c9
  obtain ⟨c0, c1, c2, c3, c4, c5, c6, c7, c8, c9, -, -, -, -⟩ := MsgBox.of hblk
  clear hblk
  have HRR : Hid (rightB m = (markB m && partB m && listB m)) := Lib.hid (by rw [HR.out, HN2.out, HN3.out, HN4.out, HN5.out, HN6.out, HN7.out]; simp)
  clear HR HN2 HN3 HN4 HN5 HN6 HN7
  have hm3 : m.mark.size ≤ 9223372036854775807 := by unfold maxLen at hm2; omega
  clear hm2
  rcases (Bool.eq_false_or_eq_true (hasB m.kind .m)).symm with hh | hh
  · have HH := Lib.hid hh
    rw [hh]
    clear hh
    go_wp2_with fail
    refine (has_calls m.kind .m _ rfl _).mono ?_
    rintro e w9 ⟨rfl, hb⟩
    have hblk := blk_still HBLK8.out hb
    have HBLK9 := Lib.hid hblk
    have HB9 := Lib.hid (HB8.out.trans (hb.mono HB8.out.size))
    clear hb HBLK8 HB8 c0 c1 c2 c3 c4 c5 c6 c7 c8 c9
    obtain ⟨c0, c1, c2, c3, c4, c5, c6, c7, c8, c9, c10, c11, c12, c13⟩ := MsgBox.of hblk
    clear hblk
    rw [HH.out]
    by_cases hs : m.mark.toList = []
    · have HM := Lib.hid (show markB m = true by unfold markB; rw [HH.out, (toList_nil _).1 hs]; rfl)
      go_wp2_with fail
      refine (part_calls m A c _ hm).mono ?_
      rintro e u1 ⟨rfl, hb⟩
      have hblk := blk_still HBLK9.out hb
      have HBLKu := Lib.hid hblk
      have HBu := Lib.hid (HB9.out.trans (hb.mono HB9.out.size))
      clear hb HBLK9 HB9 c0 c1 c2 c3 c4 c5 c6 c7 c8 c9 c10 c11 c12 c13
      obtain ⟨c0, c1, c2, c3, c4, c5, c6, c7, c8, c9, c10, c11, c12, c13⟩ := MsgBox.of hblk
      clear hblk
      rcases (Bool.eq_false_or_eq_true (partB m)).symm with hp | hp
      · have HP := Lib.hid hp
        rw [hp]
        clear hp
        go_wp2_with fail
        go_ret
        exact ⟨ret_bool (by rw [HRR.out, HM.out, HP.out]; simp), HBu.out⟩
      · have HP := Lib.hid hp
        rw [hp]
        clear hp
        go_wp2_with fail
        refine (list_calls m A c _ (hL.below HBu.out)).mono ?_
        rintro e u2 ⟨rfl, hb⟩
        go_wp2_with fail
        go_ret
        exact ⟨ret_bool (by rw [HRR.out, HM.out, HP.out]; simp), HBu.out.trans (hb.mono HBu.out.size)⟩
    · have HM := Lib.hid (show markB m = false by unfold markB; rw [HH.out, if_neg (by simp)]; exact decide_eq_false (fun h => hs ((toList_nil _).2 h)))
      have HS := Lib.hid hs
      go_wp2_with fail
      · go_ret
        exact ⟨ret_bool (by rw [HRR.out, HM.out]; rfl), HB9.out⟩
      all_goals exact absurd (by first | assumption | simp_all) HS.out
  · have HH := Lib.hid hh
    rw [hh]
    clear hh
    by_cases hs : m.mark.size = 32
    · have HM := Lib.hid (show markB m = true by unfold markB; rw [HH.out, if_pos rfl]; exact decide_eq_true hs)
      have z5 : ((m.mark.size : Int) != 32) = false := by rw [hs]; rfl
      have HS := Lib.hid hs
      clear hs
      go_wp2_with fail
      refine (has_calls m.kind .m _ rfl _).mono ?_
      rintro e w9 ⟨rfl, hb⟩
      have hblk := blk_still HBLK8.out hb
      have HBLK9 := Lib.hid hblk
      have HB9 := Lib.hid (HB8.out.trans (hb.mono HB8.out.size))
      clear hb HBLK8 HB8 c0 c1 c2 c3 c4 c5 c6 c7 c8 c9
      obtain ⟨c0, c1, c2, c3, c4, c5, c6, c7, c8, c9, c10, c11, c12, c13⟩ := MsgBox.of hblk
      clear hblk
      rw [HH.out]
      go_wp2_with fail
      refine (part_calls m A c _ hm).mono ?_
      rintro e u1 ⟨rfl, hb⟩
      have hblk := blk_still HBLK9.out hb
      have HBLKu := Lib.hid hblk
      have HBu := Lib.hid (HB9.out.trans (hb.mono HB9.out.size))
      clear hb HBLK9 HB9 c0 c1 c2 c3 c4 c5 c6 c7 c8 c9 c10 c11 c12 c13
      obtain ⟨c0, c1, c2, c3, c4, c5, c6, c7, c8, c9, c10, c11, c12, c13⟩ := MsgBox.of hblk
      clear hblk
      rcases (Bool.eq_false_or_eq_true (partB m)).symm with hp | hp
      · have HP := Lib.hid hp
        rw [hp]
        clear hp
        go_wp2_with fail
        go_ret
        exact ⟨ret_bool (by rw [HRR.out, HM.out, HP.out]; simp), HBu.out⟩
      · have HP := Lib.hid hp
        rw [hp]
        clear hp
        go_wp2_with fail
        refine (list_calls m A c _ (hL.below HBu.out)).mono ?_
        rintro e u2 ⟨rfl, hb⟩
        go_wp2_with fail
        go_ret
        exact ⟨ret_bool (by rw [HRR.out, HM.out, HP.out]; simp), HBu.out.trans (hb.mono HBu.out.size)⟩
    · have HM := Lib.hid (show markB m = false by unfold markB; rw [HH.out, if_pos rfl]; exact decide_eq_false hs)
      have z5 : ((m.mark.size : Int) != 32) = true := by rw [bne_iff_ne]; omega
      clear hs
      go_wp2_with fail
      go_ret
      exact ⟨ret_bool (by rw [HRR.out, HM.out]; rfl), HB8.out⟩

theorem Right_calls (m : MsgD) (A : Option Addr) (c : Nat) (w : World) (hm : m.ptext.size ≤ maxLen) (hm2 : m.mark.size ≤ maxLen) (hL : ListAt w A c m.list) :
    Calls Try.prog 36 #[.agg (m.cells A c)] w fun e w' => e = .returned (.bool (rightB m)) ∧ Below w.heap.size w w' := by
  cases hh : headB m
  · exact Right_no m A c w hh
  · exact Right_yes m A c w hm hm2 hL hh
end Go.Proofs.Ytpegefcpanijhaa
