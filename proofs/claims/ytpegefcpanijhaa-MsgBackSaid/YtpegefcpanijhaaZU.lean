/- The walk of barquelaw17.MsgUnlike. -/
import Derived.Test.YtpegefcpanijhaaZD
section
namespace Go.Proofs.Ytpegefcpanijhaa
set_option linter.unusedVariables false
set_option linter.unusedSimpArgs false
open Go.RowKit Go.Proofs.YtpegefcpanijhaaW.PrintWords Go.Proofs.YtpegefcpanijhaaW.PrintLast PF

theorem run_load_msg {o : Oper} {x : Operand} {a : Act} {w : World} {b : Nat} {m : MsgD} {A : Option Addr} {c : Nat} (ho : o.op = .load 44 x) (hx : a.eval x = .pointer (some ⟨b, 0, none⟩)) (hg : w.heap[b]? = some (.cells (m.cells A c) 44 (0, 0))) :
    (execOp a.eval o).run Try.prog w = .ok (.value (.agg (m.cells A c))) w := by
  have h := run_loadVar_row (P := Try.prog) w b 44 44 (m.cells A c) (0, 0) _ hg Try.underlying44 rfl (by kernel_rfl)
  unfold execOp
  simp only [ho, hx, Instr.loadAt, Instr.sureAddr, Sem.run_bind, Sem.run_pure, Result.andThen_ok, h]
theorem run_store_msg {o : Oper} {x y : Operand} {a : Act} {w : World} {b : Nat} {m : MsgD} {A : Option Addr} {c : Nat} {old : Array Value} (ho : o.op = .store 44 x y) (hx : a.eval x = .pointer (some ⟨b, 0, none⟩)) (hy : a.eval y = .agg (m.cells A c)) (hg : w.heap[b]? = some (.cells old 44 (0, 0))) (hold : old.size = 14) :
    (execOp a.eval o).run Try.prog w = .ok .skip (w.setRow b (m.cells A c)) := by
  have h := run_storeVar_row (P := Try.prog) w b 44 44 old (m.cells A c) hg (by kernel_rfl) hold (cells_one _ _ _)
  unfold execOp
  simp only [ho, hx, hy, Instr.storeAt, Instr.sureAddr, Sem.run_bind, Sem.run_pure, Result.andThen_ok, h]

theorem txt_inj {m n : MsgD} (hm : rightB m = true) (hn : rightB n = true) (h : txt m = txt n) : m = n :=
  body_inj hm hn (Array.toList_inj.2 (congrArg ByteArray.data h) : (bodyL m).toArray.toList = (bodyL n).toArray.toList)
theorem append_inj_right {a b x y : ByteArray} (hs : x.size = y.size) (h : a ++ x = b ++ y) : a = b ∧ x = y := by
  have h1 : (a ++ x).data.toList = (b ++ y).data.toList := by rw [h]
  simp only [ByteArray.data_append, Array.toList_append] at h1
  have h2 : x.data.toList.length = y.data.toList.length := by simpa using hs
  obtain ⟨h3, h4⟩ := List.append_inj' h1 h2
  exact ⟨ByteArray.ext (Array.toList_inj.1 h3), ByteArray.ext (Array.toList_inj.1 h4)⟩
theorem unlike_texts {m n : MsgD} (hm : rightB m = true) (hn : rightB n = true) :
    ((txt m ++ mk 1).toList == (txt n ++ mk (((seen [] (txt m)).idxOf (txt n) : Int) + 1)).toList) = sameD m n := by
  rw [beq_toList, Bool.eq_iff_iff, decide_eq_true_iff, sameD_iff]
  constructor
  · intro h
    exact txt_inj hm hn (append_inj_right (by rw [mk_size, mk_size]) h).1
  · rintro rfl
    simp [seen]

set_option maxHeartbeats 4000000 in
set_option maxRecDepth 100000 in
theorem msgUnlike_walk (w : World) (m : MsgD) (A : Option Addr) (c : Nat) (n : MsgD) (B : Option Addr) (d : Nat) (h : MsgIn w A c m) (h' : MsgIn w B d n) :
    Calls Try.prog 14 #[.agg (m.cells A c), .agg (n.cells B d)] w fun e w' => e = .returned (.bool true) ∧ Below w.heap.size w w' := by
  obtain ⟨-, hm⟩ := h
  obtain ⟨-, hn⟩ := h'
  have hCm := hm.cut
  have hCn := hn.cut
  go_enter Try.func14, Try.ntmps14
  go_upto_region 1 with (fail)
  have hbA := blk_alloc (heap_alloc_new w (.cells (m.cells A c) 44)) (.cells (n.cells B d) 44)
  have hbB := heap_alloc_new (w.alloc (.cells (m.cells A c) 44)) (.cells (n.cells B d) 44)
  have hB2 := below_two w (.cells (m.cells A c) 44) (.cells (n.cells B d) 44)
  rw [show (w.alloc (.cells (m.cells A c) 44)).heap.size = w.heap.size + 1 by simp] at hbB
  generalize (w.alloc (.cells (m.cells A c) 44)).alloc (.cells (n.cells B d) 44) = w2 at hbA hbB hB2 ⊢
  refine start_ (n := 6) (S := fun w' => w'.heap[w.heap.size]? = some (.cells (m.cells A c) 44 (0, 0)) ∧ w'.heap[w.heap.size + 1]? = some (.cells (n.cells B d) 44 (0, 0))) (ds := [4, 5]) #[false, false, false, false, false, false] (by kernel_rfl) rfl rfl ⟨hbA, hbB⟩ (fun hHeld => ?_)
  have hB3 : Below w.heap.size w w2.drew := hB2.drew
  generalize w2.drew = w3 at hHeld hB3 ⊢
  clear hbA hbB hB2 w2
  refine take_ (i := 0) (N := some 10) (v := .agg (m.cells A c)) #[true, false, false, false, false, false] rfl rfl (by kernel_rfl) (fun _ _ _ h => h) (Or.inl ⟨by rfl, fun w' hS => run_load_msg rfl rfl hS.1⟩) hHeld rfl ?_
  simp only [Act.put, List.setIfInBounds_toArray, List.set_cons_zero, List.set_cons_succ]
  refine take_ (i := 2) (N := some 12) (v := .agg (n.cells B d)) #[true, false, true, false, false, false] rfl rfl (by kernel_rfl) (fun _ _ _ h => h) (Or.inl ⟨by rfl, fun w' hS => run_load_msg rfl rfl hS.2⟩) hHeld rfl ?_
  simp only [Act.put, List.setIfInBounds_toArray, List.set_cons_zero, List.set_cons_succ]
  refine one_ (i := 1) (N := some 11) #[true, true, true, false, false, false] rfl rfl (by kernel_rfl) (by decide) (fun K hK => ?_)
  refine goes_ Try.func25 (by kernel_rfl) rfl #[.agg (m.cells A c)] (by rfl) rfl rfl (by simp [Act.eval]) ?_
  refine (few_calls (hm.below hB3)).mono ?_
  rintro e w4 ⟨rfl, hb⟩
  refine ⟨_, rfl, hK.out _ _ ⟨blk_below hHeld.1 hb, blk_below hHeld.2 hb⟩ (fun hHeld4 => ?_)⟩
  have hB4 := hB3.trans (hb.mono hB3.size)
  clear hb hB3 hHeld hK K
  simp only [Act.put, List.setIfInBounds_toArray, List.set_cons_zero, List.set_cons_succ]
  refine one_ (i := 3) (N := some 13) #[true, true, true, true, false, false] rfl rfl (by kernel_rfl) (by decide) (fun K hK => ?_)
  refine goes_ Try.func25 (by kernel_rfl) rfl #[.agg (n.cells B d)] (by rfl) rfl rfl (by simp [Act.eval]) ?_
  refine (few_calls (hn.below hB4)).mono ?_
  rintro e w5 ⟨rfl, hb⟩
  refine ⟨_, rfl, hK.out _ _ ⟨blk_below hHeld4.1 hb, blk_below hHeld4.2 hb⟩ (fun hHeld5 => ?_)⟩
  have hB5 := hB4.trans (hb.mono hB4.size)
  clear hb hB4 hHeld4 hK K
  simp only [Act.put, List.setIfInBounds_toArray, List.set_cons_zero, List.set_cons_succ]
  refine last_ (i := 4) (N := none) #[true, true, true, true, true, false] rfl rfl (by kernel_rfl) (by decide) (fun K hK => ?_)
  refine skip_ (by rfl) rfl (run_store_msg (m := cutM m) (A := A) (c := c) rfl rfl rfl hHeld5.1 rfl) ?_
  refine hK.out _ _ ?_
  have hA6 := setRow_heap w5 w.heap.size _ ((cutM m).cells A c) _ _ hHeld5.1
  have hN6 := (setRow_other w5 w.heap.size (w.heap.size + 1) ((cutM m).cells A c) (by omega)).trans hHeld5.2
  have hB6 := below_put hB5 (Nat.le_refl _) ((cutM m).cells A c)
  generalize w5.setRow w.heap.size ((cutM m).cells A c) = w6 at hA6 hN6 hB6 ⊢
  clear hK K hB5 hHeld5
  refine last_ (i := 5) (N := none) #[true, true, true, true, true, true] rfl rfl (by kernel_rfl) (by decide) (fun K hK => ?_)
  refine skip_ (by rfl) rfl (run_store_msg (m := cutM n) (A := B) (c := d) rfl rfl rfl hN6 rfl) ?_
  refine hK.out _ _ ?_
  have hN7 := setRow_heap w6 (w.heap.size + 1) _ ((cutM n).cells B d) _ _ hN6
  have hA7 := (setRow_other w6 (w.heap.size + 1) w.heap.size ((cutM n).cells B d) (by omega)).trans hA6
  have hB7 := below_put hB6 (Nat.le_succ _) ((cutM n).cells B d)
  generalize w6.setRow (w.heap.size + 1) ((cutM n).cells B d) = w7 at hA7 hN7 hB7 ⊢
  clear hK K hB6 hA6 hN6
  refine done_ (by kernel_rfl) ?_
  generalize cutM m = p at hCm hA7
  generalize cutM n = q at hCn hN7
  have HA7 := Lib.hid hA7
  have HN7 := Lib.hid hN7
  clear hA7 hN7
  go_wp2_with fail
  refine (ideal_to (W := w7) (Below.refl _ _)).mono ?_
  rintro e w8 ⟨b, mm, rfl, hI8, hB8, hmm, -⟩
  obtain ⟨c0, c1, c2, c3, c4, c5, c6, c7, c8, c9, c10, c11, c12, c13⟩ := MsgBox.of (blk_below HA7.out hB8)
  obtain ⟨d0, d1, d2, d3, d4, d5, d6, d7, d8, d9, d10, d11, d12, d13⟩ := MsgBox.of (blk_below HN7.out hB8)
  have hCm7 := hCm.below hB7
  have hCn7 := hCn.below hB7
  go_wp2_with fail
  rcases (Bool.eq_false_or_eq_true (rightB p)).symm with hp | hp
  · refine (bytes_bad _ (hCm7.below hB8) hp).mono ?_
    rintro e w9 ⟨rfl, hb⟩
    have hB9 := hB8.trans (hb.mono hB8.size)
    have hI9 := hI8.below hb
    clear hb hB8 hI8
    clear c0 c1 c2 c3 c4 c5 c6 c7 c8 c9 c10 c11 c12 c13 d0 d1 d2 d3 d4 d5 d6 d7 d8 d9 d10 d11 d12 d13
    obtain ⟨c0, c1, c2, c3, c4, c5, c6, c7, c8, c9, c10, c11, c12, c13⟩ := MsgBox.of (blk_below HA7.out hB9)
    obtain ⟨d0, d1, d2, d3, d4, d5, d6, d7, d8, d9, d10, d11, d12, d13⟩ := MsgBox.of (blk_below HN7.out hB9)
    go_wp2_with fail
    rcases (Bool.eq_false_or_eq_true (rightB q)).symm with hq | hq
    · refine (bytes_bad _ (hCn7.below hB9) hq).mono ?_
      rintro e w10 ⟨rfl, hb⟩
      have hB10 := hB9.trans (hb.mono hB9.size)
      clear c0 c1 c2 c3 c4 c5 c6 c7 c8 c9 c10 c11 c12 c13 d0 d1 d2 d3 d4 d5 d6 d7 d8 d9 d10 d11 d12 d13
      go_wp2_with fail
      refine (awake17_to (hB7.trans (hB10.mono hB7.size))).mono ?_
      rintro e w11 ⟨rfl, hB11⟩
      go_wp2_with fail
      go_ret
      exact ⟨rfl, hB11⟩
    · refine (bytes_ideal hI9 hB9 hmm (by decide) (hCn7.below hB9) hq).mono ?_
      rintro e w10 ⟨rfl, -, hB10⟩
      clear c0 c1 c2 c3 c4 c5 c6 c7 c8 c9 c10 c11 c12 c13 d0 d1 d2 d3 d4 d5 d6 d7 d8 d9 d10 d11 d12 d13
      go_wp2_with fail
      refine (awake17_to (hB7.trans (hB10.mono hB7.size))).mono ?_
      rintro e w11 ⟨rfl, hB11⟩
      go_wp2_with fail
      go_ret
      exact ⟨rfl, hB11⟩
  · refine (bytes_ideal hI8 hB8 hmm (by decide) (hCm7.below hB8) hp).mono ?_
    rintro e w9 ⟨rfl, hI9, hB9⟩
    clear hB8 hI8
    clear c0 c1 c2 c3 c4 c5 c6 c7 c8 c9 c10 c11 c12 c13 d0 d1 d2 d3 d4 d5 d6 d7 d8 d9 d10 d11 d12 d13
    obtain ⟨c0, c1, c2, c3, c4, c5, c6, c7, c8, c9, c10, c11, c12, c13⟩ := MsgBox.of (blk_below HA7.out hB9)
    obtain ⟨d0, d1, d2, d3, d4, d5, d6, d7, d8, d9, d10, d11, d12, d13⟩ := MsgBox.of (blk_below HN7.out hB9)
    have HP := Lib.hid hp
    clear hp
    go_wp2_with fail
    rcases (Bool.eq_false_or_eq_true (rightB q)).symm with hq | hq
    · refine (bytes_bad _ (hCn7.below hB9) hq).mono ?_
      rintro e w10 ⟨rfl, hb⟩
      have hB10 := hB9.trans (hb.mono hB9.size)
      clear c0 c1 c2 c3 c4 c5 c6 c7 c8 c9 c10 c11 c12 c13 d0 d1 d2 d3 d4 d5 d6 d7 d8 d9 d10 d11 d12 d13
      go_wp2_with fail
      refine (awake17_to (hB7.trans (hB10.mono hB7.size))).mono ?_
      rintro e w11 ⟨rfl, hB11⟩
      go_wp2_with fail
      go_ret
      exact ⟨rfl, hB11⟩
    · refine (bytes_ideal hI9 hB9 hmm (by unfold seen; split <;> simp) (hCn7.below hB9) hq).mono ?_
      rintro e w10 ⟨rfl, -, hB10⟩
      have HST := Lib.hid (unlike_texts HP.out hq)
      clear hq HP hI9 hB9
      clear c0 c1 c2 c3 c4 c5 c6 c7 c8 c9 c10 c11 c12 c13 d0 d1 d2 d3 d4 d5 d6 d7 d8 d9 d10 d11 d12 d13
      obtain ⟨c0, c1, c2, c3, c4, c5, c6, c7, c8, c9, c10, c11, c12, c13⟩ := MsgBox.of (blk_below HA7.out hB10)
      obtain ⟨d0, d1, d2, d3, d4, d5, d6, d7, d8, d9, d10, d11, d12, d13⟩ := MsgBox.of (blk_below HN7.out hB10)
      generalize txt p ++ mk 1 = st at HST ⊢
      generalize txt q ++ mk (((seen [] (txt p)).idxOf (txt q) : Int) + 1) = tt at HST ⊢
      have hST := HST.out
      go_wp2_with fail
      refine (Same_calls (hCm7.below hB10).list (hCn7.below hB10).list).mono ?_
      rintro e w11 ⟨rfl, hb⟩
      have hB11 := hB10.trans (hb.mono hB10.size)
      clear c0 c1 c2 c3 c4 c5 c6 c7 c8 c9 c10 c11 c12 c13 d0 d1 d2 d3 d4 d5 d6 d7 d8 d9 d10 d11 d12 d13
      generalize sameD p q = v at *
      go_wp2_with fail
      refine (awake17_to (hB7.trans (hB11.mono hB7.size))).mono ?_
      rintro e w12 ⟨rfl, hB12⟩
      go_wp2_with fail
      go_ret
      exact ⟨rfl, hB12⟩
end Go.Proofs.Ytpegefcpanijhaa
end
