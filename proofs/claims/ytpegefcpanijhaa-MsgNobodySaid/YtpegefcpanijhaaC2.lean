/- The document's book (barqueref03.Book), ideal: the walks of Mark and Is. -/
import Derived.Test.YtpegefcpanijhaaC1
namespace Go.Proofs.Ytpegefcpanijhaa
set_option linter.unusedVariables false
set_option linter.unusedSimpArgs false
open Go.RowKit Go.Maps

theorem frozen_of_blk {w : World} {b t : Nat} {cs : Array Value} (h : w.heap[b]? = some (.cells cs t (0, 0))) (i : Nat) : w.frozen? ⟨b, i, none⟩ = false := by simp [World.frozen?, h]

theorem slice_of_row {w : World} {base e size n : Nat} {v : Value} {xs : List Value} (h : w.ownsRow base e size v n xs) : ∃ A c, v = .slice A n c := by
  rcases h.2 with ⟨rfl, rfl⟩ | ⟨g, cap, cur, rfl, _⟩
  · exact ⟨_, _, rfl⟩
  · exact ⟨_, _, rfl⟩

theorem isRef_store {w : World} {base q : Nat} {v0 v : Value} {l : List ByteArray} (hb : w.heap[q]? = some (.cells #[.bool false, v0] 33 (0, 0))) (hr : w.ownsRow base 9 1 v l.length (l.map Value.string)) (hs : ∀ s ∈ l, s.size ≤ maxLen) :
    IsRef (w.setCell ⟨q, 1, none⟩ v) base q v l := by
  refine ⟨by simp [World.setCell, Array.getElem?_modify, hb], ⟨hr.1, ?_⟩, hs⟩
  rcases hr.2 with hn | ⟨g, cap, cur, rfl, hg, hh, rest⟩
  · exact .inl hn
  · refine .inr ⟨g, cap, cur, rfl, hg, (Below.heap_setCell _ _ _ _ ?_).trans hh, rest⟩
    rintro rfl
    rw [hb] at hh
    injection hh with hh
    injection hh with _ hh
    exact absurd hh (by decide)

set_option maxHeartbeats 400000 in
theorem refMark_known {w : World} {base q : Nat} {v : Value} {l : List ByteArray} {s : ByteArray} (h : IsRef w base q v l) (hl : l.length ≤ 2000) (hm : s ∈ l) :
    Calls Try.prog 44 #[.pointer (some ⟨q, 0, none⟩), .string s] w fun e w' => e = .returned (.string (mk (l.idxOf s + 1))) ∧ Below w.heap.size w w' := by
  have c0 := h.c0
  have HP := Lib.hid (show placeOf l s = (l.idxOf s : Int) from if_pos hm)
  have hi := List.idxOf_lt_length_of_mem hm
  have HH := Lib.hid h
  clear hm h
  go_enter Try.func44, Try.ntmps44
  go_wp2_with fail
  refine (place_any HH.out hl).mono ?_
  rintro e w' ⟨rfl, rfl⟩
  rw [HP.out]
  go_wp2_with fail
  refine (Number_calls _ (by omega) (by omega) _).mono ?_
  rintro e w' ⟨rfl, hb⟩
  go_wp2_with fail
  go_ret
  exact ⟨rfl, hb⟩

set_option maxRecDepth 100000 in
set_option maxHeartbeats 400000 in
theorem refMark_new {w : World} {base q : Nat} {v : Value} {l : List ByteArray} {s : ByteArray} (h : IsRef w base q v l) (hs : s.size ≤ maxLen) (hl : l.length ≤ 2000) (hm : s ∉ l) (hbase : base ≤ w.heap.size) :
    Calls Try.prog 44 #[.pointer (some ⟨q, 0, none⟩), .string s] w fun e w' => e = .returned (.string (mk (l.length + 1))) ∧ ∃ v', IsRef w' base q v' (l ++ [s]) ∧ Within (fun k => k = q ∨ some k = v.ownBlock) w w' ∧
      (v'.ownBlock = v.ownBlock ∨ ∃ g, v'.ownBlock = some g ∧ w.heap.size ≤ g) := by
  obtain ⟨i0, hi, hz0, hz1, hz2⟩ := info_parts infoStr9
  have HZ0 := Lib.hid hz0; have HZ1 := Lib.hid hz1; have HZ2 := Lib.hid hz2; have HI0 := Lib.hid hi
  obtain ⟨A, c, hv, hS⟩ := h.strs
  have c0 := h.c0
  have c1 := h.c1
  rw [hv] at c1
  have HP := Lib.hid (show placeOf l s = -1 from if_neg hm)
  have HH := Lib.hid h
  have HM := Lib.hid hm
  have HV := Lib.hid hv
  have hown : w.ownsRow base 9 1 (.slice A l.length c) l.length (l.map Value.string) := by rw [← hv]; exact h.row
  clear hz0 hz1 hz2 hi hm h hv
  go_enter Try.func44, Try.ntmps44
  go_wp2_with fail
  refine (place_any HH.out hl).mono ?_
  rintro e w' ⟨rfl, rfl⟩
  rw [HP.out]
  have hb1 : base ≤ (w.alloc (.cells #[.string s] 9)).heap.size := by simp; omega
  have hblk : (w.alloc (.cells #[.string s] 9)).heap[q]? = some (.cells #[.bool false, .slice A l.length c] 33 (0, 0)) := by rw [← HV.out]; exact (heap_alloc_old w _ HH.out.lt).trans HH.out.blk
  have hqlt : q < (w.alloc (.cells #[.string s] 9)).heap.size := by have := HH.out.lt; simp; omega
  have hqne : some q ≠ (Value.slice A l.length c).ownBlock := by rw [← HV.out]; exact Ne.symm HH.out.ne
  have HB := Lib.hid hblk
  clear hblk
  go_wp2_with (at_builtin; refine wpList_append_own_at _ rfl (.tmp 26) (.tmp 28) 22 rfl base 9 i0 _ 1 16 Try.underlying22 HI0.out HZ0.out HZ1.out HZ2.out rfl (by decide) (.slice A l.length c) l.length (l.map Value.string) rfl (hown.alloc _) ⟨w.heap.size, 0, none⟩ 1 1 [.string s] rfl rfl (cell_one_new _ _ _) (by simp [Value.oneCell']) (by unfold maxLen; omega) (by omega) hb1 ?_; intro v5 w5 hown5 hg5 _ hat5; have hb5 := (hg5.block q hqlt hqne).trans HB.out; have d1 := cell_of_row w5 q 1 _ _ _ hb5; have f1 := frozen_of_blk hb5 1; have HB5 := Lib.hid hb5; have HAT := Lib.hid hat5; (obtain ⟨A5, c5, hv5⟩ := slice_of_row hown5); have HV5 := Lib.hid hv5; rw [hv5]; clear hv5 hb5 hat5)
  refine (Number_calls _ (by omega) (by omega) _).mono ?_
  rintro e w7 ⟨rfl, hb⟩
  go_wp2_with fail
  go_ret
  refine ⟨rfl, v5, ?_, ?_, ?_⟩
  · refine IsRef.below ?_ hb
    rw [← HV5.out]
    have hr : w5.ownsRow base 9 1 v5 (l ++ [s]).length ((l ++ [s]).map Value.string) := by simpa using hown5
    exact isRef_store HB5.out hr (fun t ht => by
      rcases List.mem_append.1 ht with h | h
      · exact HH.out.small t h
      · rw [List.mem_singleton.1 h]; exact hs)
  · have g1 : Within (fun k => k = q ∨ some k = v.ownBlock) w w5 :=
      (Within.of_below ((Below.refl w.heap.size w).alloc (Nat.le_refl _) (.cells #[.string s] 9)) (fun k => k = q ∨ some k = v.ownBlock)).trans (Within.of_grown hg5) (fun k _ hk => .inr (by rw [HV.out]; exact hk))
    refine g1.trans (T := fun k => k = q) ⟨hb.os, hb.tape, hb.output, by simpa [World.setCell] using hb.size, fun k hk hn => ?_⟩ (fun k _ hk => .inl hk)
    exact (hb.block k (by simpa [World.setCell] using hk)).trans (Below.heap_setCell _ _ _ _ hn)
  · rcases HAT.out with h | h
    · exact .inl (by rw [h, HV.out])
    · exact .inr ⟨_, h, by simp⟩

/-- Mark, whatever text. -/
theorem refMark_any {w : World} {base q : Nat} {v : Value} {l : List ByteArray} {s : ByteArray} (h : IsRef w base q v l) (hs : s.size ≤ maxLen) (hl : l.length ≤ 2000) (hbase : base ≤ w.heap.size) :
    Calls Try.prog 44 #[.pointer (some ⟨q, 0, none⟩), .string s] w fun e w' => e = .returned (.string (mk (l.idxOf s + 1))) ∧ ∃ v', IsRef w' base q v' (seen l s) ∧ Within (fun k => k = q ∨ some k = v.ownBlock) w w' ∧
      (v'.ownBlock = v.ownBlock ∨ ∃ g, v'.ownBlock = some g ∧ w.heap.size ≤ g) := by
  by_cases hm : s ∈ l
  · refine (refMark_known h hl hm).mono fun e w' ⟨he, hb⟩ => ⟨he, v, ?_, Within.of_below hb _, .inl rfl⟩
    rw [seen_of_mem hm]
    exact h.below hb
  · refine (refMark_new h hs hl hm hbase).mono fun e w' ⟨he, hi⟩ => ⟨?_, ?_⟩
    · rw [idxOf_of_not hm]; exact he
    · rw [seen_of_not hm]; exact hi

set_option maxHeartbeats 400000 in
/-- Is, whatever text and mark. -/
theorem refIs {w : World} {base q : Nat} {v : Value} {l : List ByteArray} {s mark : ByteArray} (h : IsRef w base q v l) (hl : l.length ≤ 2000) :
    Calls Try.prog 45 #[.pointer (some ⟨q, 0, none⟩), .string s, .string mark] w fun e w' => e = .returned (.bool (isB l s mark)) ∧ Below w.heap.size w w' := by
  have c0 := h.c0
  have HH := Lib.hid h
  clear h
  by_cases hm : s ∈ l
  · have HP := Lib.hid (show placeOf l s = (l.idxOf s : Int) from if_pos hm)
    have hi := List.idxOf_lt_length_of_mem hm
    have HE := Lib.hid (show isB l s mark = (mark.toList == (mk (l.idxOf s + 1)).toList) by
      unfold isB
      rw [decide_eq_true hm, Bool.true_and, beq_toList]
      rw [Bool.eq_iff_iff, decide_eq_true_iff, decide_eq_true_iff]
      exact eq_comm)
    clear hm
    go_enter Try.func45, Try.ntmps45
    go_wp2_with fail
    refine (place_any HH.out hl).mono ?_
    rintro e w' ⟨rfl, rfl⟩
    rw [HP.out]
    go_wp2_with fail
    refine (Number_calls _ (by omega) (by omega) _).mono ?_
    rintro e w' ⟨rfl, hb⟩
    go_wp2_with fail
    go_ret
    exact ⟨by rw [HE.out]; rfl, hb⟩
  · have HP := Lib.hid (show placeOf l s = -1 from if_neg hm)
    have HE := Lib.hid (show isB l s mark = false by simp [isB, hm])
    clear hm
    go_enter Try.func45, Try.ntmps45
    go_wp2_with fail
    refine (place_any HH.out hl).mono ?_
    rintro e w' ⟨rfl, rfl⟩
    rw [HP.out]
    go_wp2_with fail
    go_ret
    exact ⟨by rw [HE.out]; rfl, Below.refl _ _⟩
end Go.Proofs.Ytpegefcpanijhaa
