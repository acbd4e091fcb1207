/- The walk of barquelaw17.MsgBack. -/
import Derived.Test.YtpegefcpanijhaaZI
import Derived.Test.YtpegefcpanijhaaZH
import Derived.Test.YtpegefcpanijhaaZE
import Derived.Test.YtpegefcpanijhaaZU
section
namespace Go.Proofs.Ytpegefcpanijhaa
set_option linter.unusedVariables false
set_option linter.unusedSimpArgs false
open Go.RowKit Go.Proofs.YtpegefcpanijhaaW.PrintWords PF

theorem sha_size (k : Nat → W32) (h : V8) (l : List UInt8) : (bx (shaL k h l)).size = 32 := by
  rw [bx_size (shaL k h l)]
  exact outL_length _ 8

set_option maxHeartbeats 1000000 in
theorem bytes_real {w : World} {b : Nat} {kk : Nat → W32} {hh : V8} (hI : w.heap[b]? = some (.cells (realRow kk hh) 63 (0, 0))) {m : MsgD} {A : Option Addr} {c : Nat} (h : MsgAt w A c m) (hR : rightB m = true) :
    Calls Try.prog 26 #[.pointer (some ⟨b, 0, none⟩), .agg (m.cells A c)] w fun e w' => ∃ t : ByteArray, e = .returned (.tuple #[.string (txt m ++ t), .int .i64 0]) ∧ t = bx (shaL kk hh (txt m).data.toList) ∧ Below w.heap.size w w' := by
  have HR := Lib.hid hR
  have hts := txt_size hR
  clear hR
  go_enter Try.func26, Try.ntmps26
  have hb0 : Below w.heap.size w (w.alloc (.cells (m.cells A c) 44)) := (Below.refl _ _).alloc (Nat.le_refl _) _
  obtain ⟨c0, c1, c2, c3, c4, c5, c6, c7, c8, c9, c10, c11, c12, c13⟩ := MsgBox.of (heap_alloc_new w (.cells (m.cells A c) 44))
  go_wp2_with fail
  refine (Right_calls m A c _ h.ptext h.mark (h.list.below hb0)).mono ?_
  rintro e w1 ⟨rfl, hb⟩
  rw [HR.out]
  have hblk := blk_later hb
  have hB1 : Below w.heap.size w w1 := hb0.trans (hb.mono hb0.size)
  clear hb hb0 c0 c1 c2 c3 c4 c5 c6 c7 c8 c9 c10 c11 c12 c13
  obtain ⟨c0, c1, c2, c3, c4, c5, c6, c7, c8, c9, c10, c11, c12, c13⟩ := MsgBox.of hblk
  go_wp2_with fail
  refine (body_calls m A c _ (h.list.below hB1) HR.out).mono ?_
  rintro e w2 ⟨rfl, hb2⟩
  have hB2 : Below w.heap.size w w2 := hB1.trans (hb2.mono hB1.size)
  clear hb2 hB1 hblk c0 c1 c2 c3 c4 c5 c6 c7 c8 c9 c10 c11 c12 c13
  have hI2 := blk_below hI hB2
  go_wp2_with fail
  refine (mark_of (s := txt m) hI2 (by omega)).mono ?_
  rintro e w3 ⟨rfl, hB3⟩
  obtain ⟨t, ht⟩ : ∃ t, t = bx (shaL kk hh (txt m).data.toList) := ⟨_, rfl⟩
  rw [← ht]
  have htz : t.size = 32 := by rw [ht]; exact sha_size _ _ _
  have HT := Lib.hid ht
  have HNE := Lib.hid (show ¬ t.toList = [] by intro h; rw [toList_nil] at h; omega)
  have hts2 : (bodyL m).length = (txt m).size := by show _ = (bodyL m).toArray.size; simp
  have hsum : ¬ 9223372036854775807 < (bodyL m).length + t.size := by omega
  have hBf := hB2.trans (hB3.mono hB2.size)
  clear ht hts2 hts htz hB2 hB3
  go_wp2_with fail
  · rename t.toList.isEmpty = true => hq
    exact absurd (List.isEmpty_iff.1 hq) HNE.out
  go_ret2
  exact ⟨t, rfl, HT.out, hBf⟩

set_option maxHeartbeats 4000000 in
set_option maxRecDepth 100000 in
theorem msgBack_walk (w : World) (m : MsgD) (A : Option Addr) (c : Nat) (real : Bool) (h : MsgIn w A c m) :
    Calls Try.prog 9 #[.agg (m.cells A c), .bool real] w fun e w' => e = .returned (.bool true) ∧ Below w.heap.size w w' := by
  obtain ⟨-, h⟩ := h
  have hC := h.cut
  have HKEY := Lib.hid (show ∀ t : ByteArray, t.size = 32 → (txt (cutM m) ++ t).size = (txt (cutM m)).size + 32 ∧ (txt (cutM m) ++ t).extract 0 (txt (cutM m)).size = txt (cutM m) ∧ (txt (cutM m) ++ t).extract (txt (cutM m)).size (txt (cutM m) ++ t).size = t from
    fun t ht => ⟨by rw [ByteArray.size_append, ht], cut_left _ _, cut_right _ _⟩)
  go_enter Try.func9, Try.ntmps9
  have hb0 : Below w.heap.size w (w.alloc (.cells (m.cells A c) 44)) := (Below.refl _ _).alloc (Nat.le_refl _) _
  obtain ⟨c0, c1, c2, c3, c4, c5, c6, c7, c8, c9, c10, c11, c12, c13⟩ := MsgBox.of (heap_alloc_new w (.cells (m.cells A c) 44))
  go_wp2_with fail
  refine (few_calls (h.below hb0)).mono ?_
  rintro e w1 ⟨rfl, hb⟩
  clear c0 c1 c2 c3 c4 c5 c6 c7 c8 c9 c10 c11 c12 c13
  simp only []
  go_at_K
  rename_i hK
  have hblk := blk_still (heap_alloc_new w (.cells (m.cells A c) 44)) hb
  have hB1 := hb0.trans (hb.mono hb0.size)
  refine hK _ _ ?_
  refine store_msg (m' := cutM m) (A' := A) (c' := c) (b := w.heap.size) (x := .tmp 2) (y := .tmp 11) ?_ ?_ ?_ ?_ hblk rfl ?_ ?_
  · rfl
  · rfl
  · rfl
  · rfl
  · rfl
  intro w2 hP hst
  have hB2 := hst hB1 (Nat.le_refl _)
  clear hb0 hb hblk hB1 hst
  generalize cutM m = p at hC hP HKEY
  obtain ⟨P, hPP⟩ : ∃ P, P = w.heap.size := ⟨_, rfl⟩
  rw [← hPP] at hP ⊢
  have HPP := Lib.hid hPP
  clear hPP
  go_wp2_with fail
  refine (ideal_to (W := w2) (Below.refl _ _)).mono ?_
  rintro e w3 ⟨b, mm, rfl, hI, hbx, hmm, hbb⟩
  have hP3 := blk_below hP hbx
  have hB3 := hB2.trans (hbx.mono hB2.size)
  have hPm : P ≠ mm := by have := blk_lt hP; omega
  have hmw : w.heap.size ≤ mm := by have := hB2.size; omega
  have hRS := hC
  replace hC := hC.below hB3
  clear hP hbx hB2 hmm hbb
  cases real
  · obtain ⟨c0, c1, c2, c3, c4, c5, c6, c7, c8, c9, c10, c11, c12, c13⟩ := MsgBox.of hP3
    go_wp2_with fail
    rcases (Bool.eq_false_or_eq_true (rightB p)).symm with hR | hR
    · refine (bytes_bad _ hC hR).mono ?_
      rintro e w5 ⟨rfl, hb5⟩
      have hB5 := hB3.trans (hb5.mono hB3.size)
      clear hb5 c0 c1 c2 c3 c4 c5 c6 c7 c8 c9 c10 c11 c12 c13
      go_wp2_with fail
      refine (awake17_to hB5).mono ?_
      rintro e w9 ⟨rfl, hB9⟩
      go_wp2_with fail
      go_ret
      exact ⟨rfl, hB9⟩
    · have HRR := Lib.hid hR
      refine (bytes_grown hI (by decide) hC hR).mono ?_
      rintro e w5 ⟨rfl, hI5, hg5⟩
      clear hR
      have hP5 := (hg5.block P (blk_lt hP3) (by intro e; injection e with e; exact hPm e)).trans hP3
      have hB5 := below_of_grown hB3 hg5 hmw
      obtain ⟨t, ht⟩ : ∃ t, t = mk (([] : List ByteArray).idxOf (txt p) + 1) := ⟨_, rfl⟩
      rw [← ht]
      have htz : t.size = 32 := by rw [ht]; exact mk_size _
      have HT := Lib.hid ht
      clear ht hI hg5 hP3 hB3 hC hPm hmw
      have HK3 := Lib.hid (HKEY.out t htz)
      have HOF := Lib.hid (show ofD true (txt p) = (p, 0) by
        show readD (txt p).data.toList = _
        have : (txt p).data.toList = bodyL p := by simp [txt]
        rw [this]
        exact readD_of HRR.out)
      have hts := txt_size HRR.out
      clear htz c0 c1 c2 c3 c4 c5 c6 c7 c8 c9 c10 c11 c12 c13
      go_wp2_with fail
      refine (Of_with (s := txt p ++ t) (n := (txt p).size) HK3.out.1 (by rw [HK3.out.1]; omega) true (fun w' => True) (fun w' hB' => ?_) (fun w1' w2' kk hkk hP hO => trivial)).mono ?_
      · rw [HK3.out.2.1, HK3.out.2.2]
        have htm : (txt p).size ≤ maxLen := by unfold maxLen; omega
        refine (is_to (W := w') (hI5.below hB') (Below.refl _ _) htm).mono ?_
        rintro e w'' ⟨rfl, hi, hb⟩
        exact ⟨by rw [HT.out]; simp [isB, seen], trivial, hb⟩
      rintro e w6 ⟨A6, c6, rfl, hl6, -, hb6⟩
      rw [HK3.out.2.1, HOF.out] at hl6 ⊢
      have hl6 : ListAt w6 A6 c6 p.list := hl6
      have hB6 := hB5.trans (hb6.mono hB5.size)
      have hP6 := blk_below hP5 hb6
      have hl5 := (hRS.list.below hB5).below hb6
      clear hb6 hB5 hP5 hI5
      go_upto_region 9 with (fail)
      change Code.wp _ _ _ _ (w6.alloc (.cells (p.cells A6 c6) 44))
      have hN := heap_alloc_new w6 (.cells (p.cells A6 c6) 44)
      have hbl : Below w6.heap.size w6 (w6.alloc (.cells (p.cells A6 c6) 44)) := (Below.refl _ _).alloc (Nat.le_refl _) _
      have hP7 := blk_below hP6 hbl
      have hl7 := hl6.below hbl
      have hl7b := hl5.below hbl
      have hB7 := hB6.trans (hbl.mono hB6.size)
      generalize w6.alloc (.cells (p.cells A6 c6) 44) = w7 at hN hbl hP7 hl7 hl7b hB7 ⊢
      generalize w6.heap.size = N at hN ⊢
      clear hP6 hl6 hl5 hB6 hbl
      obtain ⟨c0, c1, c2, c3, c4, c5, c6, c7, c8, c9, c10, c11, c12, c13⟩ := MsgBox.of hP7
      obtain ⟨d0, d1, d2, d3, d4, d5, d6, d7, d8, d9, d10, d11, d12, d13⟩ := MsgBox.of hN
      go_wp2_with fail
      refine (Same_calls (m := p) (n := p) hl7b hl7).mono ?_
      rintro e w8 ⟨rfl, hb⟩
      rw [sameD_true rfl]
      have hB8 := hB7.trans (hb.mono hB7.size)
      clear c0 c1 c2 c3 c4 c5 c6 c7 c8 c9 c10 c11 c12 c13 d0 d1 d2 d3 d4 d5 d6 d7 d8 d9 d10 d11 d12 d13 hP7 hN hb hB7 hl7 hl7b
      go_wp2_with fail
      refine (awake17_to hB8).mono ?_
      rintro e w9 ⟨rfl, hB9⟩
      go_wp2_with fail
      go_ret
      exact ⟨rfl, hB9⟩
  · obtain ⟨c0, c1, c2, c3, c4, c5, c6, c7, c8, c9, c10, c11, c12, c13⟩ := MsgBox.of hP3
    go_wp2_with fail
    refine (Real_calls _).mono ?_
    rintro e w4 ⟨b2, rfl, hI4, hd, -⟩
    have hP4 := blk_below hP3 hd
    have hB4 := hB3.trans (hd.mono hB3.size)
    have hC4 := hRS.below hB4
    clear hP3 hd hB3 hC hI hPm hmw c0 c1 c2 c3 c4 c5 c6 c7 c8 c9 c10 c11 c12 c13
    obtain ⟨c0, c1, c2, c3, c4, c5, c6, c7, c8, c9, c10, c11, c12, c13⟩ := MsgBox.of hP4
    go_wp2_with fail
    rcases (Bool.eq_false_or_eq_true (rightB p)).symm with hR | hR
    · refine (bytes_bad _ hC4 hR).mono ?_
      rintro e w5 ⟨rfl, hb5⟩
      have hB5 := hB4.trans (hb5.mono hB4.size)
      clear hb5 c0 c1 c2 c3 c4 c5 c6 c7 c8 c9 c10 c11 c12 c13
      go_wp2_with fail
      refine (awake17_to hB5).mono ?_
      rintro e w9 ⟨rfl, hB9⟩
      go_wp2_with fail
      go_ret
      exact ⟨rfl, hB9⟩
    · have HRR := Lib.hid hR
      refine (bytes_real hI4 hC4 hR).mono ?_
      rintro e w5 ⟨t, rfl, ht, hb5⟩
      clear hR
      have hP5 := blk_below hP4 hb5
      have hI5 := blk_below hI4 hb5
      have hB5 := hB4.trans (hb5.mono hB4.size)
      have htz : t.size = 32 := by rw [ht]; exact sha_size _ _ _
      have HT := Lib.hid ht
      clear ht hI4 hb5 hP4 hB4 hC4
      have HK3 := Lib.hid (HKEY.out t htz)
      have HOF := Lib.hid (show ofD true (txt p) = (p, 0) by
        show readD (txt p).data.toList = _
        have : (txt p).data.toList = bodyL p := by simp [txt]
        rw [this]
        exact readD_of HRR.out)
      have hts := txt_size HRR.out
      clear htz c0 c1 c2 c3 c4 c5 c6 c7 c8 c9 c10 c11 c12 c13
      go_wp2_with fail
      refine (Of_with (s := txt p ++ t) (n := (txt p).size) HK3.out.1 (by rw [HK3.out.1]; omega) true (fun w' => True) (fun w' hB' => ?_) (fun w1' w2' kk hkk hP hO => trivial)).mono ?_
      · rw [HK3.out.2.1, HK3.out.2.2]
        refine (is_of (blk_below hI5 hB') (by omega)).mono ?_
        rintro e w'' ⟨rfl, hb⟩
        exact ⟨by rw [HT.out]; exact congrArg (fun v => Ending.returned (.bool v)) (decide_eq_true rfl), trivial, hb⟩
      rintro e w6 ⟨A6, c6, rfl, hl6, -, hb6⟩
      rw [HK3.out.2.1, HOF.out] at hl6 ⊢
      have hl6 : ListAt w6 A6 c6 p.list := hl6
      have hB6 := hB5.trans (hb6.mono hB5.size)
      have hP6 := blk_below hP5 hb6
      have hl5 := (hRS.list.below hB5).below hb6
      clear hb6 hB5 hP5 hI5
      go_upto_region 9 with (fail)
      change Code.wp _ _ _ _ (w6.alloc (.cells (p.cells A6 c6) 44))
      have hN := heap_alloc_new w6 (.cells (p.cells A6 c6) 44)
      have hbl : Below w6.heap.size w6 (w6.alloc (.cells (p.cells A6 c6) 44)) := (Below.refl _ _).alloc (Nat.le_refl _) _
      have hP7 := blk_below hP6 hbl
      have hl7 := hl6.below hbl
      have hl7b := hl5.below hbl
      have hB7 := hB6.trans (hbl.mono hB6.size)
      generalize w6.alloc (.cells (p.cells A6 c6) 44) = w7 at hN hbl hP7 hl7 hl7b hB7 ⊢
      generalize w6.heap.size = N at hN ⊢
      clear hP6 hl6 hl5 hB6 hbl
      obtain ⟨c0, c1, c2, c3, c4, c5, c6, c7, c8, c9, c10, c11, c12, c13⟩ := MsgBox.of hP7
      obtain ⟨d0, d1, d2, d3, d4, d5, d6, d7, d8, d9, d10, d11, d12, d13⟩ := MsgBox.of hN
      go_wp2_with fail
      refine (Same_calls (m := p) (n := p) hl7b hl7).mono ?_
      rintro e w8 ⟨rfl, hb⟩
      rw [sameD_true rfl]
      have hB8 := hB7.trans (hb.mono hB7.size)
      clear c0 c1 c2 c3 c4 c5 c6 c7 c8 c9 c10 c11 c12 c13 d0 d1 d2 d3 d4 d5 d6 d7 d8 d9 d10 d11 d12 d13 hP7 hN hb hB7 hl7 hl7b
      go_wp2_with fail
      refine (awake17_to hB8).mono ?_
      rintro e w9 ⟨rfl, hB9⟩
      go_wp2_with fail
      go_ret
      exact ⟨rfl, hB9⟩
end Go.Proofs.Ytpegefcpanijhaa
end
