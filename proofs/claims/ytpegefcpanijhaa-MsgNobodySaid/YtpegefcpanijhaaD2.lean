/- The walk of barquelaw17.MsgNobody. -/
import Derived.Test.YtpegefcpanijhaaD1
namespace Go.Proofs.Ytpegefcpanijhaa
set_option linter.unusedVariables false
set_option linter.unusedSimpArgs false
open Go.RowKit Go.Proofs.YtpegefcpanijhaaW.PrintWords PF

/-- The zero message. -/
def zM : MsgD := ⟨0, 0, 0, 0, 0, 0, 0, 0, 0, ⟨#[]⟩, 0, 0, ⟨#[]⟩, []⟩
theorem zM_at (w : World) : MsgAt w none 0 zM := ⟨by decide, by decide, ⟨by decide, by decide, ⟨rfl, Nat.zero_le _, fun h => absurd h (by decide)⟩⟩⟩

theorem results_cell_tmp {P : Program} {fn : Func} {p q : Tmp} {ty : TypeId} (h : fn.results = #[.cell p ty, .tmp q]) (tmps : Array Value) (w : World) (g : Nat) (t : TypeId) (cs : Array Value) (fr : Nat × Nat) (fs : Array Field)
    (hp : tmps.getD p undef = .pointer (some ⟨g, 0, none⟩)) (hg : w.heap[g]? = some (.cells cs t fr))
    (hu : P.underlying ty = some (.struct fs)) (hi : (P.info? ty).map (·.size) = some cs.size) :
    (results fn tmps).run P w = .ok (.tuple #[.agg cs, tmps.getD q undef]) w := by
  have hp' : tmps[p]?.getD undef = .pointer (some ⟨g, 0, none⟩) := by simpa using hp
  simp [results, h, hp', asAddr, run_loadVar_row w g t ty cs fr _ hg hu rfl hi]

theorem ret_row2 {fn : Func} {R : Ending → World → Prop} {tm : Array Value} {w : World} {p q : Tmp} {g : Nat} {ty t : TypeId} {cs : Array Value} {fr : Nat × Nat} {fs : Array Field} (h : fn.results = #[.cell p ty, .tmp q]) (hp : tm.getD p undef = .pointer (some ⟨g, 0, none⟩)) (hg : w.heap[g]? = some (.cells cs t fr))
    (hu : Try.prog.underlying ty = some (.struct fs)) (hi : (Try.prog.info? ty).map (·.size) = some cs.size) (hR : R (.returned (.tuple #[.agg cs, tm.getD q undef])) w) : bodyPost Try.prog fn R .ret { tmps := tm, defers := [] } w :=
  bodyPost_ret (results_cell_tmp h tm w g t cs fr _ hp hg hu hi) rfl hR

theorem puts14 {w : World} {b : Nat} {t : TypeId} {u0 u1 u2 u3 u4 u5 u6 u7 u8 u9 u10 u11 u12 u13 : Value} (h : w.heap[b]? = some (.cells #[u0, u1, u2, u3, u4, u5, u6, u7, u8, u9, u10, u11, u12, u13] t (0, 0))) (v0 v1 v2 v3 v4 v5 v6 v7 v8 v9 v10 v11 v12 v13 : Value) :
    ((((((((((((((w.setCell ⟨b, 0, none⟩ v0).setCell ⟨b, 1, none⟩ v1).setCell ⟨b, 2, none⟩ v2).setCell ⟨b, 3, none⟩ v3).setCell ⟨b, 4, none⟩ v4).setCell ⟨b, 5, none⟩ v5).setCell ⟨b, 6, none⟩ v6).setCell ⟨b, 7, none⟩ v7).setCell ⟨b, 8, none⟩ v8).setCell ⟨b, 9, none⟩ v9).setCell ⟨b, 10, none⟩ v10).setCell ⟨b, 11, none⟩ v11).setCell ⟨b, 12, none⟩ v12).setCell ⟨b, 13, none⟩ v13).heap[b]? = some (.cells #[v0, v1, v2, v3, v4, v5, v6, v7, v8, v9, v10, v11, v12, v13] t (0, 0)) := blk_put (cs' := #[v0, v1, v2, v3, v4, v5, v6, v7, v8, v9, v10, v11, v12, v13]) (blk_put (cs' := #[v0, v1, v2, v3, v4, v5, v6, v7, v8, v9, v10, v11, v12, u13]) (blk_put (cs' := #[v0, v1, v2, v3, v4, v5, v6, v7, v8, v9, v10, v11, u12, u13]) (blk_put (cs' := #[v0, v1, v2, v3, v4, v5, v6, v7, v8, v9, v10, u11, u12, u13]) (blk_put (cs' := #[v0, v1, v2, v3, v4, v5, v6, v7, v8, v9, u10, u11, u12, u13]) (blk_put (cs' := #[v0, v1, v2, v3, v4, v5, v6, v7, v8, u9, u10, u11, u12, u13]) (blk_put (cs' := #[v0, v1, v2, v3, v4, v5, v6, v7, u8, u9, u10, u11, u12, u13]) (blk_put (cs' := #[v0, v1, v2, v3, v4, v5, v6, u7, u8, u9, u10, u11, u12, u13]) (blk_put (cs' := #[v0, v1, v2, v3, v4, v5, u6, u7, u8, u9, u10, u11, u12, u13]) (blk_put (cs' := #[v0, v1, v2, v3, v4, u5, u6, u7, u8, u9, u10, u11, u12, u13]) (blk_put (cs' := #[v0, v1, v2, v3, u4, u5, u6, u7, u8, u9, u10, u11, u12, u13]) (blk_put (cs' := #[v0, v1, v2, u3, u4, u5, u6, u7, u8, u9, u10, u11, u12, u13]) (blk_put (cs' := #[v0, v1, u2, u3, u4, u5, u6, u7, u8, u9, u10, u11, u12, u13]) (blk_put (cs' := #[v0, u1, u2, u3, u4, u5, u6, u7, u8, u9, u10, u11, u12, u13]) (h) 0 _ rfl) 1 _ rfl) 2 _ rfl) 3 _ rfl) 4 _ rfl) 5 _ rfl) 6 _ rfl) 7 _ rfl) 8 _ rfl) 9 _ rfl) 10 _ rfl) 11 _ rfl) 12 _ rfl) 13 _ rfl
theorem below14 {w0 w : World} {b n : Nat} (h : Below n w0 w) (hn : n ≤ b) (v0 v1 v2 v3 v4 v5 v6 v7 v8 v9 v10 v11 v12 v13 : Value) : Below n w0 ((((((((((((((w.setCell ⟨b, 0, none⟩ v0).setCell ⟨b, 1, none⟩ v1).setCell ⟨b, 2, none⟩ v2).setCell ⟨b, 3, none⟩ v3).setCell ⟨b, 4, none⟩ v4).setCell ⟨b, 5, none⟩ v5).setCell ⟨b, 6, none⟩ v6).setCell ⟨b, 7, none⟩ v7).setCell ⟨b, 8, none⟩ v8).setCell ⟨b, 9, none⟩ v9).setCell ⟨b, 10, none⟩ v10).setCell ⟨b, 11, none⟩ v11).setCell ⟨b, 12, none⟩ v12).setCell ⟨b, 13, none⟩ v13) := Below.setCell (Below.setCell (Below.setCell (Below.setCell (Below.setCell (Below.setCell (Below.setCell (Below.setCell (Below.setCell (Below.setCell (Below.setCell (Below.setCell (Below.setCell (Below.setCell (h) hn _) hn _) hn _) hn _) hn _) hn _) hn _) hn _) hn _) hn _) hn _) hn _) hn _) hn _

set_option maxHeartbeats 1000000 in
theorem Of_short (w : World) (bv : Value) (s : ByteArray) (hs : s.size < 32) :
    Calls Try.prog 27 #[bv, .string s] w fun e w' => e = .returned (.tuple #[.agg (zM.cells none 0), .int .i64 3]) ∧ Below w.heap.size w w' := by
  have h1 : ((s.size : Int) - 32 < 0) := by omega
  go_enter Try.func27, Try.ntmps27
  go_wp2_with fail
  refine ret_row2 (p := 4) (q := 5) (g := w.heap.size) rfl rfl (heap_alloc_new _ _) Try.underlying44 (by kernel_rfl) ?_
  exact ⟨rfl, (Below.refl _ _).alloc (Nat.le_refl _) _⟩

set_option maxHeartbeats 1000000 in
theorem Of_nil (w : World) (s : ByteArray) (hs : ¬ s.size < 32) (hm : s.size ≤ maxLen) :
    Calls Try.prog 27 #[.pointer none, .string s] w fun e w' => e = .returned (.tuple #[.agg (zM.cells none 0), .int .i64 6]) ∧ Below w.heap.size w w' := by
  obtain ⟨n, hn⟩ : ∃ n : Nat, s.size = n + 32 := ⟨s.size - 32, by omega⟩
  have h1 : (s.size : Int) - 32 = (n : Int) := by omega
  have h2 : ¬ ((n : Int) < 0) := by omega
  have z1 : (n : Int) ≤ (s.size : Int) := by omega
  have z2 : (0 : Int) ≤ (n : Int) := by omega
  unfold maxLen at hm
  clear hn
  go_enter Try.func27, Try.ntmps27
  go_wp2_with fail
  go_quiet ((go_at_call 21; refine Calls.quiet_of_same ((is_nil _ _ _).mono fun e w' h => ⟨h.1, h.2.symm⟩)))
  go_wp2_with fail
  have hb0 : Below w.heap.size w (w.alloc (.cells (zM.cells none 0) 44)) := (Below.refl _ _).alloc (Nat.le_refl _) _
  refine ret_row2 (p := 4) (q := 5) (g := w.heap.size) rfl rfl (puts14 (blk_drewN (heap_alloc_new w _) _) _ _ _ _ _ _ _ _ _ _ _ _ _ _) Try.underlying44 (by kernel_rfl) ?_
  exact ⟨rfl, below14 (pw_below_drewN hb0 _) (Nat.le_refl _) _ _ _ _ _ _ _ _ _ _ _ _ _ _⟩

set_option maxHeartbeats 2000000 in
theorem msgNobody_walk (w : World) (m : MsgD) (A : Option Addr) (c : Nat) (s : ByteArray) (h : MsgIn w A c m) (hs : s.size ≤ 140737488351232) :
    Calls Try.prog 7 #[.agg (m.cells A c), .string s] w fun e w' => e = .returned (.bool true) ∧ Below w.heap.size w w' := by
  obtain ⟨-, h⟩ := h
  have hC := h.cut
  have hsm : s.size ≤ maxLen := by unfold maxLen; omega
  go_enter Try.func7, Try.ntmps7
  have hb0 : Below w.heap.size w (w.alloc (.cells (m.cells A c) 44)) := (Below.refl _ _).alloc (Nat.le_refl _) _
  obtain ⟨c0, c1, c2, c3, c4, c5, c6, c7, c8, c9, c10, c11, c12, c13⟩ := MsgBox.of (heap_alloc_new w (.cells (m.cells A c) 44))
  go_wp2_with fail
  refine (few_calls (h.below hb0)).mono ?_
  rintro e w1 ⟨rfl, hb⟩
  clear c0 c1 c2 c3 c4 c5 c6 c7 c8 c9 c10 c11 c12 c13
  simp only []
  go_at_K
  rename_i hK
  have hblk := blk_still (heap_alloc_new w (.cells (m.cells A c) 44)) hb
  have hB1 := hb0.trans (hb.mono hb0.size)
  refine hK _ _ ?_
  refine store_msg (m' := cutM m) (A' := A) (c' := c) (b := w.heap.size) (x := .tmp 2) (y := .tmp 11) ?_ ?_ ?_ ?_ hblk rfl ?_ ?_
  · rfl
  · rfl
  · rfl
  · rfl
  · rfl
  intro w2 hblk2 hst
  have hB2 := hst hB1 (Nat.le_refl _)
  clear hb0 hb hblk hB1 hst
  generalize cutM m = m' at hC hblk2
  have HBLK := Lib.hid hblk2
  obtain ⟨c0, c1, c2, c3, c4, c5, c6, c7, c8, c9, c10, c11, c12, c13⟩ := MsgBox.of hblk2
  clear hblk2
  go_wp2_with fail
  rcases (Bool.eq_false_or_eq_true (rightB m')).symm with hR | hR
  · have HR := Lib.hid hR
    refine (bytes_bad (.pointer none) (hC.below hB2) hR).mono ?_
    rintro e w3 ⟨rfl, hb⟩
    clear hR
    have hblk := blk_still HBLK.out hb
    have hB3 := hB2.trans (hb.mono hB2.size)
    clear hb HBLK hB2 c0 c1 c2 c3 c4 c5 c6 c7 c8 c9 c10 c11 c12 c13
    have HBLK3 := Lib.hid hblk
    obtain ⟨c0, c1, c2, c3, c4, c5, c6, c7, c8, c9, c10, c11, c12, c13⟩ := MsgBox.of hblk
    clear hblk
    go_wp2_with fail
    by_cases h32 : s.size < 32
    · have z32 : ((s.size : Int) < 32) := by omega
      refine (Of_short _ (.pointer none) s h32).mono ?_
      rintro e w4 ⟨rfl, hb⟩
      have hblk := blk_still HBLK3.out hb
      have hB4 := hB3.trans (hb.mono hB3.size)
      clear hb HBLK3 hB3 c0 c1 c2 c3 c4 c5 c6 c7 c8 c9 c10 c11 c12 c13
      go_upto_region 4 with (fail)
      change Code.wp _ _ _ _ (w4.alloc (.cells (zM.cells none 0) 44))
      have hblk5 := blk_alloc hblk (.cells (zM.cells none 0) 44)
      have hB5 := hB4.alloc hB4.size (.cells (zM.cells none 0) 44)
      generalize w4.alloc (.cells (zM.cells none 0) 44) = w5 at hblk5 hB5 ⊢
      clear hblk hB4
      obtain ⟨c0, c1, c2, c3, c4, c5, c6, c7, c8, c9, c10, c11, c12, c13⟩ := MsgBox.of hblk5
      clear hblk5
      go_wp2_with fail
      refine (rRight_calls m' A c _ hC.ptext hC.mark (hC.list.below hB5)).mono ?_
      rintro e w6 ⟨rfl, hb⟩
      rw [HR.out]
      have hB6 := hB5.trans (hb.mono hB5.size)
      clear hb hB5 c0 c1 c2 c3 c4 c5 c6 c7 c8 c9 c10 c11 c12 c13
      go_wp2_with fail
      refine (awake17_to hB6).mono ?_
      rintro e w7 ⟨rfl, hB7⟩
      go_wp2_with fail
      go_ret
      exact ⟨rfl, hB7⟩
    · refine (Of_nil _ s h32 hsm).mono ?_
      rintro e w4 ⟨rfl, hb⟩
      have hblk := blk_still HBLK3.out hb
      have hB4 := hB3.trans (hb.mono hB3.size)
      clear hb HBLK3 hB3 c0 c1 c2 c3 c4 c5 c6 c7 c8 c9 c10 c11 c12 c13
      go_upto_region 4 with (fail)
      change Code.wp _ _ _ _ (w4.alloc (.cells (zM.cells none 0) 44))
      have hblk5 := blk_alloc hblk (.cells (zM.cells none 0) 44)
      have hB5 := hB4.alloc hB4.size (.cells (zM.cells none 0) 44)
      generalize w4.alloc (.cells (zM.cells none 0) 44) = w5 at hblk5 hB5 ⊢
      clear hblk hB4
      obtain ⟨c0, c1, c2, c3, c4, c5, c6, c7, c8, c9, c10, c11, c12, c13⟩ := MsgBox.of hblk5
      clear hblk5
      go_wp2_with fail
      refine (rRight_calls m' A c _ hC.ptext hC.mark (hC.list.below hB5)).mono ?_
      rintro e w6 ⟨rfl, hb⟩
      rw [HR.out]
      have hB6 := hB5.trans (hb.mono hB5.size)
      clear hb hB5 c0 c1 c2 c3 c4 c5 c6 c7 c8 c9 c10 c11 c12 c13
      go_wp2_with fail
      refine (awake17_to hB6).mono ?_
      rintro e w7 ⟨rfl, hB7⟩
      go_wp2_with fail
      go_ret
      exact ⟨rfl, hB7⟩
  · have HR := Lib.hid hR
    refine (bytes_nil (hC.below hB2) hR).mono ?_
    rintro e w3 ⟨rfl, hb⟩
    clear hR
    have hblk := blk_still HBLK.out hb
    have hB3 := hB2.trans (hb.mono hB2.size)
    clear hb HBLK hB2 c0 c1 c2 c3 c4 c5 c6 c7 c8 c9 c10 c11 c12 c13
    have HBLK3 := Lib.hid hblk
    obtain ⟨c0, c1, c2, c3, c4, c5, c6, c7, c8, c9, c10, c11, c12, c13⟩ := MsgBox.of hblk
    clear hblk
    go_wp2_with fail
    by_cases h32 : s.size < 32
    · have z32 : ((s.size : Int) < 32) := by omega
      refine (Of_short _ (.pointer none) s h32).mono ?_
      rintro e w4 ⟨rfl, hb⟩
      have hblk := blk_still HBLK3.out hb
      have hB4 := hB3.trans (hb.mono hB3.size)
      clear hb HBLK3 hB3 c0 c1 c2 c3 c4 c5 c6 c7 c8 c9 c10 c11 c12 c13
      go_upto_region 4 with (fail)
      change Code.wp _ _ _ _ (w4.alloc (.cells (zM.cells none 0) 44))
      have hblk5 := blk_alloc hblk (.cells (zM.cells none 0) 44)
      have hB5 := hB4.alloc hB4.size (.cells (zM.cells none 0) 44)
      generalize w4.alloc (.cells (zM.cells none 0) 44) = w5 at hblk5 hB5 ⊢
      clear hblk hB4
      obtain ⟨c0, c1, c2, c3, c4, c5, c6, c7, c8, c9, c10, c11, c12, c13⟩ := MsgBox.of hblk5
      clear hblk5
      go_wp2_with fail
      refine (rRight_calls m' A c _ hC.ptext hC.mark (hC.list.below hB5)).mono ?_
      rintro e w6 ⟨rfl, hb⟩
      rw [HR.out]
      have hB6 := hB5.trans (hb.mono hB5.size)
      clear hb hB5 c0 c1 c2 c3 c4 c5 c6 c7 c8 c9 c10 c11 c12 c13
      go_wp2_with fail
      refine (awake17_to hB6).mono ?_
      rintro e w7 ⟨rfl, hB7⟩
      go_wp2_with fail
      go_ret
      exact ⟨rfl, hB7⟩
    · refine (Of_nil _ s h32 hsm).mono ?_
      rintro e w4 ⟨rfl, hb⟩
      have hblk := blk_still HBLK3.out hb
      have hB4 := hB3.trans (hb.mono hB3.size)
      clear hb HBLK3 hB3 c0 c1 c2 c3 c4 c5 c6 c7 c8 c9 c10 c11 c12 c13
      go_upto_region 4 with (fail)
      change Code.wp _ _ _ _ (w4.alloc (.cells (zM.cells none 0) 44))
      have hblk5 := blk_alloc hblk (.cells (zM.cells none 0) 44)
      have hB5 := hB4.alloc hB4.size (.cells (zM.cells none 0) 44)
      generalize w4.alloc (.cells (zM.cells none 0) 44) = w5 at hblk5 hB5 ⊢
      clear hblk hB4
      obtain ⟨c0, c1, c2, c3, c4, c5, c6, c7, c8, c9, c10, c11, c12, c13⟩ := MsgBox.of hblk5
      clear hblk5
      go_wp2_with fail
      refine (rRight_calls m' A c _ hC.ptext hC.mark (hC.list.below hB5)).mono ?_
      rintro e w6 ⟨rfl, hb⟩
      rw [HR.out]
      have hB6 := hB5.trans (hb.mono hB5.size)
      clear hb hB5 c0 c1 c2 c3 c4 c5 c6 c7 c8 c9 c10 c11 c12 c13
      go_wp2_with fail
      refine (awake17_to hB6).mono ?_
      rintro e w7 ⟨rfl, hB7⟩
      go_wp2_with fail
      go_ret
      exact ⟨rfl, hB7⟩
end Go.Proofs.Ytpegefcpanijhaa
