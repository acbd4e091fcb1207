/- The walk of the reference's set; Clean in plain Lean. The walk of the reference's Clean. -/
import Derived.Test.YtpegefcpanijhaaZU
import Derived.Test.YtpegefcpanijhaaZE
section
namespace Go.Proofs.Ytpegefcpanijhaa
set_option linter.unusedVariables false
set_option linter.unusedSimpArgs false
open Go.RowKit Go.Proofs.YtpegefcpanijhaaW.PrintWords Go.Proofs.YtpegefcpanijhaaW.PrintLast PF

/-- A message with a number set by its letter. -/
def setD (m : MsgD) (x : Fd) (n : Int) : MsgD :=
  match x with
  | .b => { m with ballot := n }
  | .g => { m with gen := n }
  | .s => { m with basis := n }
  | .f => { m with floor := n }
  | .t => { m with top := n }
  | _ => { m with read := n }
theorem setD_list (m : MsgD) (x : Fd) (n : Int) : (setD m x n).list = m.list := by cases x <;> rfl

set_option maxHeartbeats 4000000 in
theorem set_calls {m : MsgD} {A : Option Addr} {c : Nat} (x : Fd) (hx : x ∈ six) (y : Int) (hy : y = x.up.toNat) (n : Int) (w : World) :
    Calls Try.prog 64 #[.agg (m.cells A c), .int .u8 y, .int .i64 n] w fun e w' => e = .returned (.agg ((setD m x n).cells A c)) ∧ Below w.heap.size w w' := by
  subst hy
  obtain ⟨c0, c1, c2, c3, c4, c5, c6, c7, c8, c9, c10, c11, c12, c13⟩ := MsgBox.of (heap_alloc_new w (.cells (m.cells A c) 44))
  cases x
  case m => exact absurd hx (by decide)
  case p => exact absurd hx (by decide)
  case l => exact absurd hx (by decide)
  all_goals
    clear hx
    go_enter Try.func64, Try.ntmps64
    go_wp2_with fail
    refine ret_row (p := 6) (g := w.heap.size + 1) rfl rfl (heap_two _ _ _) Try.underlying44 (by kernel_rfl) ?_
    exact ⟨rfl, below_two _ _ _⟩
end Go.Proofs.Ytpegefcpanijhaa
end
section
namespace Go.Proofs.Ytpegefcpanijhaa
set_option linter.unusedVariables false
set_option linter.unusedSimpArgs false
open Go.RowKit Go.Proofs.YtpegefcpanijhaaW.PrintWords Go.Proofs.YtpegefcpanijhaaW.PrintLast PF

theorem fold_put {k : Int} {j : Nat} {x : Fd} {m a0 a : MsgD} (hx : (fieldsOf k)[j]? = some x) (h : a = ((fieldsOf k).take j).foldl (fun a x => putF a m x) a0) : putF a m x = ((fieldsOf k).take (j + 1)).foldl (fun a x => putF a m x) a0 := by
  have hj : j < (fieldsOf k).length := (List.getElem?_eq_some_iff.1 hx).1
  have e : (fieldsOf k)[j] = x := (List.getElem?_eq_some_iff.1 hx).2
  rw [List.take_succ_eq_append_getElem hj, List.foldl_append, ← h, e]
  rfl
theorem setD_put (a m : MsgD) (x : Fd) (hx : x ∈ six) : setD a x (m.num x) = putF a m x := by
  cases x <;> first | rfl | exact absurd hx (by decide)

/-- How far the reference's Clean is. -/
structure ClSt (w wr : World) (P M R : Nat) (m a : MsgD) (A B : Option Addr) (c d : Nat) : Prop where
  src : wr.heap[P]? = some (.cells (m.cells A c) 44 (0, 0))
  out : wr.heap[M]? = some (.cells (a.cells B d) 44 (0, 0))
  res : wr.heap[R]? = some (.cells (zM.cells none 0) 44 (0, 0))
  bel : Below w.heap.size w wr
  lst : ListAt w B d a.list
  geM : w.heap.size ≤ M
  geR : w.heap.size ≤ R
  PM : P ≠ M
  RM : R ≠ M
namespace ClSt
variable {w wr w1 : World} {P M R : Nat} {m a : MsgD} {A B : Option Addr} {c d : Nat}
theorem below (h : ClSt w wr P M R m a A B c d) (hb : Below wr.heap.size wr w1) : ClSt w w1 P M R m a A B c d :=
  ⟨blk_below h.src hb, blk_below h.out hb, blk_below h.res hb, h.bel.trans (hb.mono h.bel.size), h.lst, h.geM, h.geR, h.PM, h.RM⟩
theorem set (h : ClSt w wr P M R m a A B c d) (i : Nat) (u : Value) (a' : MsgD) (B' : Option Addr) (d' : Nat) (hr : (a.cells B d).setIfInBounds i u = a'.cells B' d') (hl : ListAt w B' d' a'.list) : ClSt w (wr.setCell ⟨M, i, none⟩ u) P M R m a' A B' c d' :=
  ⟨blk_far h.src h.PM u, blk_put h.out i u hr, blk_far h.res h.RM u, h.bel.setCell h.geM _, hl, h.geM, h.geR, h.PM, h.RM⟩
theorem frozen (h : ClSt w wr P M R m a A B c d) (i : Nat) : wr.frozen? ⟨M, i, none⟩ = false := blk_frozen h.out i
theorem putRow (h : ClSt w wr P M R m a A B c d) (a' : MsgD) (hl : a'.list = a.list) : ClSt w (wr.setRow M (a'.cells B d)) P M R m a' A B c d :=
  ⟨(setRow_other wr M P _ h.PM).trans h.src, setRow_heap wr M _ _ _ _ h.out, (setRow_other wr M R _ h.RM).trans h.res, below_put h.bel h.geM _, by rw [hl]; exact h.lst, h.geM, h.geR, h.PM, h.RM⟩
end ClSt

set_option maxHeartbeats 8000000 in
set_option maxRecDepth 100000 in
theorem rClean_calls {m : MsgD} {A : Option Addr} {c : Nat} {w : World} (hL : ListAt w A c m.list) :
    Calls Try.prog 39 #[.agg (m.cells A c)] w fun e w' => ∃ B d, e = .returned (.agg ((cleanD m).cells B d)) ∧ ListAt w' B d (cleanD m).list ∧ Below w.heap.size w w' := by
  go_enter Try.func39, Try.ntmps39
  obtain ⟨c0, c1, c2, c3, c4, c5, c6, c7, c8, c9, c10, c11, c12, c13⟩ := MsgBox.of (heap_alloc_new w (.cells (m.cells A c) 44))
  go_upto_region 2 with (fail)
  have hP := blk_alloc (blk_alloc (heap_alloc_new w (.cells (m.cells A c) 44)) (.cells (zM.cells none 0) 44)) (.cells ((headM m.kind m.frm m.dst).cells none 0) 44)
  have hR := blk_alloc (heap_two w (.cells (m.cells A c) 44) (.cells (zM.cells none 0) 44)) (.cells ((headM m.kind m.frm m.dst).cells none 0) 44)
  have hM := heap_alloc_new ((w.alloc (.cells (m.cells A c) 44)).alloc (.cells (zM.cells none 0) 44)) (.cells ((headM m.kind m.frm m.dst).cells none 0) 44)
  rw [show ((w.alloc (.cells (m.cells A c) 44)).alloc (.cells (zM.cells none 0) 44)).heap.size = w.heap.size + 1 + 1 by simp] at hM
  have hB := (below_two w (.cells (m.cells A c) 44) (.cells (zM.cells none 0) 44)).alloc (by simp; omega) (.cells ((headM m.kind m.frm m.dst).cells none 0) 44)
  change Code.wp _ _ _ _ (((w.alloc (.cells (m.cells A c) 44)).alloc (.cells (zM.cells none 0) 44)).alloc (.cells ((headM m.kind m.frm m.dst).cells none 0) 44))
  generalize ((w.alloc (.cells (m.cells A c) 44)).alloc (.cells (zM.cells none 0) 44)).alloc (.cells ((headM m.kind m.frm m.dst).cells none 0) 44) = w2 at hP hR hM hB ⊢
  clear c0 c1 c2 c3 c4 c5 c6 c7 c8 c9 c10 c11 c12 c13
  obtain ⟨P, hPP⟩ : ∃ P, P = w.heap.size := ⟨_, rfl⟩
  obtain ⟨R, hRR⟩ : ∃ R, R = w.heap.size + 1 := ⟨_, rfl⟩
  obtain ⟨M, hMM⟩ : ∃ M, M = w.heap.size + 1 + 1 := ⟨_, rfl⟩
  have hst : ClSt w w2 P M R m (headM m.kind m.frm m.dst) A none c 0 :=
    ⟨by rw [hPP]; exact hP, by rw [hMM]; exact hM, by rw [hRR]; exact hR, hB, (zM_at w).list, by omega, by omega, by omega, by omega⟩
  rw [← hMM, ← hRR, ← hPP]
  clear hP hR hM hB hMM hRR hPP
  have k0 : w2.cell? ⟨P, 0, none⟩ = some (.int .i64 m.kind) := (blk_cell hst.src 0).trans rfl
  go_wp2_with fail
  refine (Fields_calls m.kind _).mono ?_
  rintro e w3 ⟨rfl, hb⟩
  have hst3 := hst.below hb
  clear hst hb k0
  go_wp2_with fail
  have hfl := fields_short m.kind
  have hus := up_size (fieldsOf m.kind)
  have HUS := Lib.hid hus
  clear hus
  go_loopw [5] (fun i wr => ∃ (j : Nat) (a : MsgD) (B : Option Addr) (d : Nat), j ≤ (fieldsOf m.kind).length ∧ i = .int .i64 j ∧ ClSt w wr P M R m a A B c d ∧ Hid (a = ((fieldsOf m.kind).take j).foldl (fun a x => putF a m x) (headM m.kind m.frm m.dst))) (fun i _ => 6 - (intOf i).toNat)
  case atStart => exact ⟨0, _, _, _, Nat.zero_le _, rfl, hst3, Lib.hid rfl⟩
  case round =>
    clear hst3
    obtain ⟨j, a, B, d, hj, rfl, hS, HF⟩ := hrel
    by_cases hlt : j < (fieldsOf m.kind).length
    · obtain ⟨x, hx⟩ : ∃ x, (fieldsOf m.kind)[j]? = some x := ⟨_, List.getElem?_eq_getElem hlt⟩
      have HX := Lib.hid hx
      have hbt := bt_up hx
      have z1 : (0 : Int) ≤ (j : Int) := by omega
      have z2 : (j : Int) < ((bytesUp (fieldsOf m.kind)).size : Int) := by rw [HUS.out]; omega
      have hw : wrap64 ((j : Int) + 1) = (j : Int) + 1 := wr64 (by omega) (by omega)
      clear hx
      cases x
      · replace hbt : bt (bytesUp (fieldsOf m.kind)) (j : Int) = 66 := hbt
        have hxx : ∀ h : j < (bytesUp (fieldsOf m.kind)).size, (((bytesUp (fieldsOf m.kind))[j]'h).toNat : Int) = 66 := fun h => (bt_at _ (j : Int) h).trans hbt
        go_upto_region 7 with (fail)
        refine start_ (n := 11) (S := fun w' => w'.heap[P]? = some (.cells (m.cells A c) 44 (0, 0)) ∧ w'.heap[M]? = some (.cells (a.cells B d) 44 (0, 0))) (ds := [10]) #[false, false, false, false, false, false, false, false, false, false, false] (by kernel_rfl) rfl rfl ⟨hS.src, hS.out⟩ (fun hHeld => ?_)
        have hS0 : ClSt w wr.drew P M R m a A B c d := ⟨hS.src, hS.out, hS.res, hS.bel.drew, hS.lst, hS.geM, hS.geR, hS.PM, hS.RM⟩
        generalize wr.drew = w4 at hHeld hS0 ⊢
        clear hS
        refine pure_ (i := 1) (N := some 26) (v := ?_) (a' := ?_) #[false, true, false, false, false, false, false, false, false, false, false] rfl rfl (by kernel_rfl) (fun _ _ _ h => h) (Or.inl ⟨by rfl, ?_⟩) ?_ ?_
        rotate_left
        · intro w'
          go_simp
          with_reducible rfl
        rotate_left
        · simp only [Act.put, List.setIfInBounds_toArray, List.set_cons_zero, List.set_cons_succ, i64_w, i32_w]
          rfl
        refine pure_ (i := 2) (N := some 27) (v := ?_) (a' := ?_) #[false, true, true, false, false, false, false, false, false, false, false] rfl rfl (by kernel_rfl) (fun _ _ _ h => h) (Or.inl ⟨by rfl, ?_⟩) ?_ ?_
        rotate_left
        · intro w'
          go_simp
          with_reducible rfl
        rotate_left
        · simp only [Act.put, List.setIfInBounds_toArray, List.set_cons_zero, List.set_cons_succ, i64_w, i32_w]
          rfl
        refine pure_ (i := 5) (N := some 30) (v := ?_) (a' := ?_) #[false, true, true, false, false, true, false, false, false, false, false] rfl rfl (by kernel_rfl) (fun _ _ _ h => h) (Or.inl ⟨by rfl, ?_⟩) ?_ ?_
        rotate_left
        · intro w'
          go_simp
          with_reducible rfl
        rotate_left
        · simp only [Act.put, List.setIfInBounds_toArray, List.set_cons_zero, List.set_cons_succ, i64_w, i32_w]
          rfl
        refine pure_ (i := 6) (N := some 31) (v := ?_) (a' := ?_) #[false, true, true, false, false, true, true, false, false, false, false] rfl rfl (by kernel_rfl) (fun _ _ _ h => h) (Or.inl ⟨by rfl, ?_⟩) ?_ ?_
        rotate_left
        · intro w'
          go_simp
          with_reducible rfl
        rotate_left
        · simp only [Act.put, List.setIfInBounds_toArray, List.set_cons_zero, List.set_cons_succ, i64_w, i32_w]
          rfl
        refine pure_ (i := 3) (N := some 28) (v := ?_) (a' := ?_) #[false, true, true, true, false, true, true, false, false, false, false] rfl rfl (by kernel_rfl) (fun _ _ _ h => h) (Or.inl ⟨by rfl, ?_⟩) ?_ ?_
        rotate_left
        · intro w'
          go_simp
          with_reducible rfl
        rotate_left
        · simp only [Act.put, List.setIfInBounds_toArray, List.set_cons_zero, List.set_cons_succ, i64_w, i32_w]
          rfl
        refine pure_ (i := 7) (N := some 32) (v := ?_) (a' := ?_) #[false, true, true, true, false, true, true, true, false, false, false] rfl rfl (by kernel_rfl) (fun _ _ _ h => h) (Or.inl ⟨by rfl, ?_⟩) ?_ ?_
        rotate_left
        · intro w'
          go_simp
          with_reducible rfl
        rotate_left
        · simp only [Act.put, List.setIfInBounds_toArray, List.set_cons_zero, List.set_cons_succ, i64_w, i32_w]
          rfl
        refine take_ (i := 0) (N := some 25) (v := .agg (a.cells B d)) #[true, true, true, true, false, true, true, true, false, false, false] rfl rfl (by kernel_rfl) (fun _ _ _ h => h) (Or.inl ⟨by rfl, fun w' hS => run_load_msg rfl rfl hS.2⟩) hHeld rfl ?_
        simp only [Act.put, List.setIfInBounds_toArray, List.set_cons_zero, List.set_cons_succ]
        refine take_ (i := 4) (N := some 29) (v := .agg (m.cells A c)) #[true, true, true, true, true, true, true, true, false, false, false] rfl rfl (by kernel_rfl) (fun _ _ _ h => h) (Or.inl ⟨by rfl, fun w' hS => run_load_msg rfl rfl hS.1⟩) hHeld rfl ?_
        simp only [Act.put, List.setIfInBounds_toArray, List.set_cons_zero, List.set_cons_succ]
        refine one_ (i := 8) (N := some 33) #[true, true, true, true, true, true, true, true, true, false, false] rfl rfl (by kernel_rfl) (by decide) (fun K hK => ?_)
        refine goes_ Try.func51 (by kernel_rfl) rfl #[.agg (m.cells A c), .int .u8 66] (by rfl) rfl rfl (by simp [Act.eval, hxx]) ?_
        refine (number_calls m A c .b (by decide) _ rfl _ (hL.below hS0.bel)).mono ?_
        rintro e w5 ⟨rfl, hb⟩
        have hS5 := hS0.below hb
        refine ⟨_, rfl, hK.out _ _ ⟨hS5.src, hS5.out⟩ (fun hHeld5 => ?_)⟩
        clear hb hS0 hHeld hK K
        simp only [Act.put, List.setIfInBounds_toArray, List.set_cons_zero, List.set_cons_succ]
        refine one_ (i := 9) (N := some 34) #[true, true, true, true, true, true, true, true, true, true, false] rfl rfl (by kernel_rfl) (by decide) (fun K hK => ?_)
        refine goes_ Try.func64 (by kernel_rfl) rfl #[.agg (a.cells B d), .int .u8 66, .int .i64 (m.num .b)] (by rfl) rfl rfl (by simp [Act.eval, hxx]) ?_
        refine (set_calls (m := a) (A := B) (c := d) .b (by decide) _ rfl (m.num .b) _).mono ?_
        rintro e w6 ⟨rfl, hb⟩
        have hS6 := hS5.below hb
        refine ⟨_, rfl, hK.out _ _ ⟨hS6.src, hS6.out⟩ (fun hHeld6 => ?_)⟩
        clear hb hS5 hHeld5 hK K
        simp only [Act.put, List.setIfInBounds_toArray, List.set_cons_zero, List.set_cons_succ]
        refine last_ (i := 10) (N := none) #[true, true, true, true, true, true, true, true, true, true, true] rfl rfl (by kernel_rfl) (by decide) (fun K hK => ?_)
        refine skip_ (by rfl) rfl (run_store_msg (m := setD a .b (m.num .b)) (A := B) (c := d) rfl rfl rfl hS6.out rfl) ?_
        refine hK.out _ _ ?_
        have hS7 := hS6.putRow (setD a .b (m.num .b)) (setD_list _ _ _)
        generalize w6.setRow M ((setD a .b (m.num .b)).cells B d) = w7 at hS7 ⊢
        clear hK K hS6 hHeld6
        refine done_ (by kernel_rfl) ?_
        go_wp2_with fail
        go_roundw
        case rel => exact ⟨j + 1, _, B, d, by omega, by go_num, hS7, Lib.hid (by rw [setD_put a m .b (by decide)]; exact fold_put HX.out HF.out)⟩
        case measure => simp [intOf]; omega
      · replace hbt : bt (bytesUp (fieldsOf m.kind)) (j : Int) = 71 := hbt
        have hxx : ∀ h : j < (bytesUp (fieldsOf m.kind)).size, (((bytesUp (fieldsOf m.kind))[j]'h).toNat : Int) = 71 := fun h => (bt_at _ (j : Int) h).trans hbt
        go_upto_region 7 with (fail)
        refine start_ (n := 11) (S := fun w' => w'.heap[P]? = some (.cells (m.cells A c) 44 (0, 0)) ∧ w'.heap[M]? = some (.cells (a.cells B d) 44 (0, 0))) (ds := [10]) #[false, false, false, false, false, false, false, false, false, false, false] (by kernel_rfl) rfl rfl ⟨hS.src, hS.out⟩ (fun hHeld => ?_)
        have hS0 : ClSt w wr.drew P M R m a A B c d := ⟨hS.src, hS.out, hS.res, hS.bel.drew, hS.lst, hS.geM, hS.geR, hS.PM, hS.RM⟩
        generalize wr.drew = w4 at hHeld hS0 ⊢
        clear hS
        refine pure_ (i := 1) (N := some 26) (v := ?_) (a' := ?_) #[false, true, false, false, false, false, false, false, false, false, false] rfl rfl (by kernel_rfl) (fun _ _ _ h => h) (Or.inl ⟨by rfl, ?_⟩) ?_ ?_
        rotate_left
        · intro w'
          go_simp
          with_reducible rfl
        rotate_left
        · simp only [Act.put, List.setIfInBounds_toArray, List.set_cons_zero, List.set_cons_succ, i64_w, i32_w]
          rfl
        refine pure_ (i := 2) (N := some 27) (v := ?_) (a' := ?_) #[false, true, true, false, false, false, false, false, false, false, false] rfl rfl (by kernel_rfl) (fun _ _ _ h => h) (Or.inl ⟨by rfl, ?_⟩) ?_ ?_
        rotate_left
        · intro w'
          go_simp
          with_reducible rfl
        rotate_left
        · simp only [Act.put, List.setIfInBounds_toArray, List.set_cons_zero, List.set_cons_succ, i64_w, i32_w]
          rfl
        refine pure_ (i := 5) (N := some 30) (v := ?_) (a' := ?_) #[false, true, true, false, false, true, false, false, false, false, false] rfl rfl (by kernel_rfl) (fun _ _ _ h => h) (Or.inl ⟨by rfl, ?_⟩) ?_ ?_
        rotate_left
        · intro w'
          go_simp
          with_reducible rfl
        rotate_left
        · simp only [Act.put, List.setIfInBounds_toArray, List.set_cons_zero, List.set_cons_succ, i64_w, i32_w]
          rfl
        refine pure_ (i := 6) (N := some 31) (v := ?_) (a' := ?_) #[false, true, true, false, false, true, true, false, false, false, false] rfl rfl (by kernel_rfl) (fun _ _ _ h => h) (Or.inl ⟨by rfl, ?_⟩) ?_ ?_
        rotate_left
        · intro w'
          go_simp
          with_reducible rfl
        rotate_left
        · simp only [Act.put, List.setIfInBounds_toArray, List.set_cons_zero, List.set_cons_succ, i64_w, i32_w]
          rfl
        refine pure_ (i := 3) (N := some 28) (v := ?_) (a' := ?_) #[false, true, true, true, false, true, true, false, false, false, false] rfl rfl (by kernel_rfl) (fun _ _ _ h => h) (Or.inl ⟨by rfl, ?_⟩) ?_ ?_
        rotate_left
        · intro w'
          go_simp
          with_reducible rfl
        rotate_left
        · simp only [Act.put, List.setIfInBounds_toArray, List.set_cons_zero, List.set_cons_succ, i64_w, i32_w]
          rfl
        refine pure_ (i := 7) (N := some 32) (v := ?_) (a' := ?_) #[false, true, true, true, false, true, true, true, false, false, false] rfl rfl (by kernel_rfl) (fun _ _ _ h => h) (Or.inl ⟨by rfl, ?_⟩) ?_ ?_
        rotate_left
        · intro w'
          go_simp
          with_reducible rfl
        rotate_left
        · simp only [Act.put, List.setIfInBounds_toArray, List.set_cons_zero, List.set_cons_succ, i64_w, i32_w]
          rfl
        refine take_ (i := 0) (N := some 25) (v := .agg (a.cells B d)) #[true, true, true, true, false, true, true, true, false, false, false] rfl rfl (by kernel_rfl) (fun _ _ _ h => h) (Or.inl ⟨by rfl, fun w' hS => run_load_msg rfl rfl hS.2⟩) hHeld rfl ?_
        simp only [Act.put, List.setIfInBounds_toArray, List.set_cons_zero, List.set_cons_succ]
        refine take_ (i := 4) (N := some 29) (v := .agg (m.cells A c)) #[true, true, true, true, true, true, true, true, false, false, false] rfl rfl (by kernel_rfl) (fun _ _ _ h => h) (Or.inl ⟨by rfl, fun w' hS => run_load_msg rfl rfl hS.1⟩) hHeld rfl ?_
        simp only [Act.put, List.setIfInBounds_toArray, List.set_cons_zero, List.set_cons_succ]
        refine one_ (i := 8) (N := some 33) #[true, true, true, true, true, true, true, true, true, false, false] rfl rfl (by kernel_rfl) (by decide) (fun K hK => ?_)
        refine goes_ Try.func51 (by kernel_rfl) rfl #[.agg (m.cells A c), .int .u8 71] (by rfl) rfl rfl (by simp [Act.eval, hxx]) ?_
        refine (number_calls m A c .g (by decide) _ rfl _ (hL.below hS0.bel)).mono ?_
        rintro e w5 ⟨rfl, hb⟩
        have hS5 := hS0.below hb
        refine ⟨_, rfl, hK.out _ _ ⟨hS5.src, hS5.out⟩ (fun hHeld5 => ?_)⟩
        clear hb hS0 hHeld hK K
        simp only [Act.put, List.setIfInBounds_toArray, List.set_cons_zero, List.set_cons_succ]
        refine one_ (i := 9) (N := some 34) #[true, true, true, true, true, true, true, true, true, true, false] rfl rfl (by kernel_rfl) (by decide) (fun K hK => ?_)
        refine goes_ Try.func64 (by kernel_rfl) rfl #[.agg (a.cells B d), .int .u8 71, .int .i64 (m.num .g)] (by rfl) rfl rfl (by simp [Act.eval, hxx]) ?_
        refine (set_calls (m := a) (A := B) (c := d) .g (by decide) _ rfl (m.num .g) _).mono ?_
        rintro e w6 ⟨rfl, hb⟩
        have hS6 := hS5.below hb
        refine ⟨_, rfl, hK.out _ _ ⟨hS6.src, hS6.out⟩ (fun hHeld6 => ?_)⟩
        clear hb hS5 hHeld5 hK K
        simp only [Act.put, List.setIfInBounds_toArray, List.set_cons_zero, List.set_cons_succ]
        refine last_ (i := 10) (N := none) #[true, true, true, true, true, true, true, true, true, true, true] rfl rfl (by kernel_rfl) (by decide) (fun K hK => ?_)
        refine skip_ (by rfl) rfl (run_store_msg (m := setD a .g (m.num .g)) (A := B) (c := d) rfl rfl rfl hS6.out rfl) ?_
        refine hK.out _ _ ?_
        have hS7 := hS6.putRow (setD a .g (m.num .g)) (setD_list _ _ _)
        generalize w6.setRow M ((setD a .g (m.num .g)).cells B d) = w7 at hS7 ⊢
        clear hK K hS6 hHeld6
        refine done_ (by kernel_rfl) ?_
        go_wp2_with fail
        go_roundw
        case rel => exact ⟨j + 1, _, B, d, by omega, by go_num, hS7, Lib.hid (by rw [setD_put a m .g (by decide)]; exact fold_put HX.out HF.out)⟩
        case measure => simp [intOf]; omega
      · replace hbt : bt (bytesUp (fieldsOf m.kind)) (j : Int) = 83 := hbt
        have hxx : ∀ h : j < (bytesUp (fieldsOf m.kind)).size, (((bytesUp (fieldsOf m.kind))[j]'h).toNat : Int) = 83 := fun h => (bt_at _ (j : Int) h).trans hbt
        go_upto_region 7 with (fail)
        refine start_ (n := 11) (S := fun w' => w'.heap[P]? = some (.cells (m.cells A c) 44 (0, 0)) ∧ w'.heap[M]? = some (.cells (a.cells B d) 44 (0, 0))) (ds := [10]) #[false, false, false, false, false, false, false, false, false, false, false] (by kernel_rfl) rfl rfl ⟨hS.src, hS.out⟩ (fun hHeld => ?_)
        have hS0 : ClSt w wr.drew P M R m a A B c d := ⟨hS.src, hS.out, hS.res, hS.bel.drew, hS.lst, hS.geM, hS.geR, hS.PM, hS.RM⟩
        generalize wr.drew = w4 at hHeld hS0 ⊢
        clear hS
        refine pure_ (i := 1) (N := some 26) (v := ?_) (a' := ?_) #[false, true, false, false, false, false, false, false, false, false, false] rfl rfl (by kernel_rfl) (fun _ _ _ h => h) (Or.inl ⟨by rfl, ?_⟩) ?_ ?_
        rotate_left
        · intro w'
          go_simp
          with_reducible rfl
        rotate_left
        · simp only [Act.put, List.setIfInBounds_toArray, List.set_cons_zero, List.set_cons_succ, i64_w, i32_w]
          rfl
        refine pure_ (i := 2) (N := some 27) (v := ?_) (a' := ?_) #[false, true, true, false, false, false, false, false, false, false, false] rfl rfl (by kernel_rfl) (fun _ _ _ h => h) (Or.inl ⟨by rfl, ?_⟩) ?_ ?_
        rotate_left
        · intro w'
          go_simp
          with_reducible rfl
        rotate_left
        · simp only [Act.put, List.setIfInBounds_toArray, List.set_cons_zero, List.set_cons_succ, i64_w, i32_w]
          rfl
        refine pure_ (i := 5) (N := some 30) (v := ?_) (a' := ?_) #[false, true, true, false, false, true, false, false, false, false, false] rfl rfl (by kernel_rfl) (fun _ _ _ h => h) (Or.inl ⟨by rfl, ?_⟩) ?_ ?_
        rotate_left
        · intro w'
          go_simp
          with_reducible rfl
        rotate_left
        · simp only [Act.put, List.setIfInBounds_toArray, List.set_cons_zero, List.set_cons_succ, i64_w, i32_w]
          rfl
        refine pure_ (i := 6) (N := some 31) (v := ?_) (a' := ?_) #[false, true, true, false, false, true, true, false, false, false, false] rfl rfl (by kernel_rfl) (fun _ _ _ h => h) (Or.inl ⟨by rfl, ?_⟩) ?_ ?_
        rotate_left
        · intro w'
          go_simp
          with_reducible rfl
        rotate_left
        · simp only [Act.put, List.setIfInBounds_toArray, List.set_cons_zero, List.set_cons_succ, i64_w, i32_w]
          rfl
        refine pure_ (i := 3) (N := some 28) (v := ?_) (a' := ?_) #[false, true, true, true, false, true, true, false, false, false, false] rfl rfl (by kernel_rfl) (fun _ _ _ h => h) (Or.inl ⟨by rfl, ?_⟩) ?_ ?_
        rotate_left
        · intro w'
          go_simp
          with_reducible rfl
        rotate_left
        · simp only [Act.put, List.setIfInBounds_toArray, List.set_cons_zero, List.set_cons_succ, i64_w, i32_w]
          rfl
        refine pure_ (i := 7) (N := some 32) (v := ?_) (a' := ?_) #[false, true, true, true, false, true, true, true, false, false, false] rfl rfl (by kernel_rfl) (fun _ _ _ h => h) (Or.inl ⟨by rfl, ?_⟩) ?_ ?_
        rotate_left
        · intro w'
          go_simp
          with_reducible rfl
        rotate_left
        · simp only [Act.put, List.setIfInBounds_toArray, List.set_cons_zero, List.set_cons_succ, i64_w, i32_w]
          rfl
        refine take_ (i := 0) (N := some 25) (v := .agg (a.cells B d)) #[true, true, true, true, false, true, true, true, false, false, false] rfl rfl (by kernel_rfl) (fun _ _ _ h => h) (Or.inl ⟨by rfl, fun w' hS => run_load_msg rfl rfl hS.2⟩) hHeld rfl ?_
        simp only [Act.put, List.setIfInBounds_toArray, List.set_cons_zero, List.set_cons_succ]
        refine take_ (i := 4) (N := some 29) (v := .agg (m.cells A c)) #[true, true, true, true, true, true, true, true, false, false, false] rfl rfl (by kernel_rfl) (fun _ _ _ h => h) (Or.inl ⟨by rfl, fun w' hS => run_load_msg rfl rfl hS.1⟩) hHeld rfl ?_
        simp only [Act.put, List.setIfInBounds_toArray, List.set_cons_zero, List.set_cons_succ]
        refine one_ (i := 8) (N := some 33) #[true, true, true, true, true, true, true, true, true, false, false] rfl rfl (by kernel_rfl) (by decide) (fun K hK => ?_)
        refine goes_ Try.func51 (by kernel_rfl) rfl #[.agg (m.cells A c), .int .u8 83] (by rfl) rfl rfl (by simp [Act.eval, hxx]) ?_
        refine (number_calls m A c .s (by decide) _ rfl _ (hL.below hS0.bel)).mono ?_
        rintro e w5 ⟨rfl, hb⟩
        have hS5 := hS0.below hb
        refine ⟨_, rfl, hK.out _ _ ⟨hS5.src, hS5.out⟩ (fun hHeld5 => ?_)⟩
        clear hb hS0 hHeld hK K
        simp only [Act.put, List.setIfInBounds_toArray, List.set_cons_zero, List.set_cons_succ]
        refine one_ (i := 9) (N := some 34) #[true, true, true, true, true, true, true, true, true, true, false] rfl rfl (by kernel_rfl) (by decide) (fun K hK => ?_)
        refine goes_ Try.func64 (by kernel_rfl) rfl #[.agg (a.cells B d), .int .u8 83, .int .i64 (m.num .s)] (by rfl) rfl rfl (by simp [Act.eval, hxx]) ?_
        refine (set_calls (m := a) (A := B) (c := d) .s (by decide) _ rfl (m.num .s) _).mono ?_
        rintro e w6 ⟨rfl, hb⟩
        have hS6 := hS5.below hb
        refine ⟨_, rfl, hK.out _ _ ⟨hS6.src, hS6.out⟩ (fun hHeld6 => ?_)⟩
        clear hb hS5 hHeld5 hK K
        simp only [Act.put, List.setIfInBounds_toArray, List.set_cons_zero, List.set_cons_succ]
        refine last_ (i := 10) (N := none) #[true, true, true, true, true, true, true, true, true, true, true] rfl rfl (by kernel_rfl) (by decide) (fun K hK => ?_)
        refine skip_ (by rfl) rfl (run_store_msg (m := setD a .s (m.num .s)) (A := B) (c := d) rfl rfl rfl hS6.out rfl) ?_
        refine hK.out _ _ ?_
        have hS7 := hS6.putRow (setD a .s (m.num .s)) (setD_list _ _ _)
        generalize w6.setRow M ((setD a .s (m.num .s)).cells B d) = w7 at hS7 ⊢
        clear hK K hS6 hHeld6
        refine done_ (by kernel_rfl) ?_
        go_wp2_with fail
        go_roundw
        case rel => exact ⟨j + 1, _, B, d, by omega, by go_num, hS7, Lib.hid (by rw [setD_put a m .s (by decide)]; exact fold_put HX.out HF.out)⟩
        case measure => simp [intOf]; omega
      · replace hbt : bt (bytesUp (fieldsOf m.kind)) (j : Int) = 70 := hbt
        have hxx : ∀ h : j < (bytesUp (fieldsOf m.kind)).size, (((bytesUp (fieldsOf m.kind))[j]'h).toNat : Int) = 70 := fun h => (bt_at _ (j : Int) h).trans hbt
        go_upto_region 7 with (fail)
        refine start_ (n := 11) (S := fun w' => w'.heap[P]? = some (.cells (m.cells A c) 44 (0, 0)) ∧ w'.heap[M]? = some (.cells (a.cells B d) 44 (0, 0))) (ds := [10]) #[false, false, false, false, false, false, false, false, false, false, false] (by kernel_rfl) rfl rfl ⟨hS.src, hS.out⟩ (fun hHeld => ?_)
        have hS0 : ClSt w wr.drew P M R m a A B c d := ⟨hS.src, hS.out, hS.res, hS.bel.drew, hS.lst, hS.geM, hS.geR, hS.PM, hS.RM⟩
        generalize wr.drew = w4 at hHeld hS0 ⊢
        clear hS
        refine pure_ (i := 1) (N := some 26) (v := ?_) (a' := ?_) #[false, true, false, false, false, false, false, false, false, false, false] rfl rfl (by kernel_rfl) (fun _ _ _ h => h) (Or.inl ⟨by rfl, ?_⟩) ?_ ?_
        rotate_left
        · intro w'
          go_simp
          with_reducible rfl
        rotate_left
        · simp only [Act.put, List.setIfInBounds_toArray, List.set_cons_zero, List.set_cons_succ, i64_w, i32_w]
          rfl
        refine pure_ (i := 2) (N := some 27) (v := ?_) (a' := ?_) #[false, true, true, false, false, false, false, false, false, false, false] rfl rfl (by kernel_rfl) (fun _ _ _ h => h) (Or.inl ⟨by rfl, ?_⟩) ?_ ?_
        rotate_left
        · intro w'
          go_simp
          with_reducible rfl
        rotate_left
        · simp only [Act.put, List.setIfInBounds_toArray, List.set_cons_zero, List.set_cons_succ, i64_w, i32_w]
          rfl
        refine pure_ (i := 5) (N := some 30) (v := ?_) (a' := ?_) #[false, true, true, false, false, true, false, false, false, false, false] rfl rfl (by kernel_rfl) (fun _ _ _ h => h) (Or.inl ⟨by rfl, ?_⟩) ?_ ?_
        rotate_left
        · intro w'
          go_simp
          with_reducible rfl
        rotate_left
        · simp only [Act.put, List.setIfInBounds_toArray, List.set_cons_zero, List.set_cons_succ, i64_w, i32_w]
          rfl
        refine pure_ (i := 6) (N := some 31) (v := ?_) (a' := ?_) #[false, true, true, false, false, true, true, false, false, false, false] rfl rfl (by kernel_rfl) (fun _ _ _ h => h) (Or.inl ⟨by rfl, ?_⟩) ?_ ?_
        rotate_left
        · intro w'
          go_simp
          with_reducible rfl
        rotate_left
        · simp only [Act.put, List.setIfInBounds_toArray, List.set_cons_zero, List.set_cons_succ, i64_w, i32_w]
          rfl
        refine pure_ (i := 3) (N := some 28) (v := ?_) (a' := ?_) #[false, true, true, true, false, true, true, false, false, false, false] rfl rfl (by kernel_rfl) (fun _ _ _ h => h) (Or.inl ⟨by rfl, ?_⟩) ?_ ?_
        rotate_left
        · intro w'
          go_simp
          with_reducible rfl
        rotate_left
        · simp only [Act.put, List.setIfInBounds_toArray, List.set_cons_zero, List.set_cons_succ, i64_w, i32_w]
          rfl
        refine pure_ (i := 7) (N := some 32) (v := ?_) (a' := ?_) #[false, true, true, true, false, true, true, true, false, false, false] rfl rfl (by kernel_rfl) (fun _ _ _ h => h) (Or.inl ⟨by rfl, ?_⟩) ?_ ?_
        rotate_left
        · intro w'
          go_simp
          with_reducible rfl
        rotate_left
        · simp only [Act.put, List.setIfInBounds_toArray, List.set_cons_zero, List.set_cons_succ, i64_w, i32_w]
          rfl
        refine take_ (i := 0) (N := some 25) (v := .agg (a.cells B d)) #[true, true, true, true, false, true, true, true, false, false, false] rfl rfl (by kernel_rfl) (fun _ _ _ h => h) (Or.inl ⟨by rfl, fun w' hS => run_load_msg rfl rfl hS.2⟩) hHeld rfl ?_
        simp only [Act.put, List.setIfInBounds_toArray, List.set_cons_zero, List.set_cons_succ]
        refine take_ (i := 4) (N := some 29) (v := .agg (m.cells A c)) #[true, true, true, true, true, true, true, true, false, false, false] rfl rfl (by kernel_rfl) (fun _ _ _ h => h) (Or.inl ⟨by rfl, fun w' hS => run_load_msg rfl rfl hS.1⟩) hHeld rfl ?_
        simp only [Act.put, List.setIfInBounds_toArray, List.set_cons_zero, List.set_cons_succ]
        refine one_ (i := 8) (N := some 33) #[true, true, true, true, true, true, true, true, true, false, false] rfl rfl (by kernel_rfl) (by decide) (fun K hK => ?_)
        refine goes_ Try.func51 (by kernel_rfl) rfl #[.agg (m.cells A c), .int .u8 70] (by rfl) rfl rfl (by simp [Act.eval, hxx]) ?_
        refine (number_calls m A c .f (by decide) _ rfl _ (hL.below hS0.bel)).mono ?_
        rintro e w5 ⟨rfl, hb⟩
        have hS5 := hS0.below hb
        refine ⟨_, rfl, hK.out _ _ ⟨hS5.src, hS5.out⟩ (fun hHeld5 => ?_)⟩
        clear hb hS0 hHeld hK K
        simp only [Act.put, List.setIfInBounds_toArray, List.set_cons_zero, List.set_cons_succ]
        refine one_ (i := 9) (N := some 34) #[true, true, true, true, true, true, true, true, true, true, false] rfl rfl (by kernel_rfl) (by decide) (fun K hK => ?_)
        refine goes_ Try.func64 (by kernel_rfl) rfl #[.agg (a.cells B d), .int .u8 70, .int .i64 (m.num .f)] (by rfl) rfl rfl (by simp [Act.eval, hxx]) ?_
        refine (set_calls (m := a) (A := B) (c := d) .f (by decide) _ rfl (m.num .f) _).mono ?_
        rintro e w6 ⟨rfl, hb⟩
        have hS6 := hS5.below hb
        refine ⟨_, rfl, hK.out _ _ ⟨hS6.src, hS6.out⟩ (fun hHeld6 => ?_)⟩
        clear hb hS5 hHeld5 hK K
        simp only [Act.put, List.setIfInBounds_toArray, List.set_cons_zero, List.set_cons_succ]
        refine last_ (i := 10) (N := none) #[true, true, true, true, true, true, true, true, true, true, true] rfl rfl (by kernel_rfl) (by decide) (fun K hK => ?_)
        refine skip_ (by rfl) rfl (run_store_msg (m := setD a .f (m.num .f)) (A := B) (c := d) rfl rfl rfl hS6.out rfl) ?_
        refine hK.out _ _ ?_
        have hS7 := hS6.putRow (setD a .f (m.num .f)) (setD_list _ _ _)
        generalize w6.setRow M ((setD a .f (m.num .f)).cells B d) = w7 at hS7 ⊢
        clear hK K hS6 hHeld6
        refine done_ (by kernel_rfl) ?_
        go_wp2_with fail
        go_roundw
        case rel => exact ⟨j + 1, _, B, d, by omega, by go_num, hS7, Lib.hid (by rw [setD_put a m .f (by decide)]; exact fold_put HX.out HF.out)⟩
        case measure => simp [intOf]; omega
      · replace hbt : bt (bytesUp (fieldsOf m.kind)) (j : Int) = 84 := hbt
        have hxx : ∀ h : j < (bytesUp (fieldsOf m.kind)).size, (((bytesUp (fieldsOf m.kind))[j]'h).toNat : Int) = 84 := fun h => (bt_at _ (j : Int) h).trans hbt
        go_upto_region 7 with (fail)
        refine start_ (n := 11) (S := fun w' => w'.heap[P]? = some (.cells (m.cells A c) 44 (0, 0)) ∧ w'.heap[M]? = some (.cells (a.cells B d) 44 (0, 0))) (ds := [10]) #[false, false, false, false, false, false, false, false, false, false, false] (by kernel_rfl) rfl rfl ⟨hS.src, hS.out⟩ (fun hHeld => ?_)
        have hS0 : ClSt w wr.drew P M R m a A B c d := ⟨hS.src, hS.out, hS.res, hS.bel.drew, hS.lst, hS.geM, hS.geR, hS.PM, hS.RM⟩
        generalize wr.drew = w4 at hHeld hS0 ⊢
        clear hS
        refine pure_ (i := 1) (N := some 26) (v := ?_) (a' := ?_) #[false, true, false, false, false, false, false, false, false, false, false] rfl rfl (by kernel_rfl) (fun _ _ _ h => h) (Or.inl ⟨by rfl, ?_⟩) ?_ ?_
        rotate_left
        · intro w'
          go_simp
          with_reducible rfl
        rotate_left
        · simp only [Act.put, List.setIfInBounds_toArray, List.set_cons_zero, List.set_cons_succ, i64_w, i32_w]
          rfl
        refine pure_ (i := 2) (N := some 27) (v := ?_) (a' := ?_) #[false, true, true, false, false, false, false, false, false, false, false] rfl rfl (by kernel_rfl) (fun _ _ _ h => h) (Or.inl ⟨by rfl, ?_⟩) ?_ ?_
        rotate_left
        · intro w'
          go_simp
          with_reducible rfl
        rotate_left
        · simp only [Act.put, List.setIfInBounds_toArray, List.set_cons_zero, List.set_cons_succ, i64_w, i32_w]
          rfl
        refine pure_ (i := 5) (N := some 30) (v := ?_) (a' := ?_) #[false, true, true, false, false, true, false, false, false, false, false] rfl rfl (by kernel_rfl) (fun _ _ _ h => h) (Or.inl ⟨by rfl, ?_⟩) ?_ ?_
        rotate_left
        · intro w'
          go_simp
          with_reducible rfl
        rotate_left
        · simp only [Act.put, List.setIfInBounds_toArray, List.set_cons_zero, List.set_cons_succ, i64_w, i32_w]
          rfl
        refine pure_ (i := 6) (N := some 31) (v := ?_) (a' := ?_) #[false, true, true, false, false, true, true, false, false, false, false] rfl rfl (by kernel_rfl) (fun _ _ _ h => h) (Or.inl ⟨by rfl, ?_⟩) ?_ ?_
        rotate_left
        · intro w'
          go_simp
          with_reducible rfl
        rotate_left
        · simp only [Act.put, List.setIfInBounds_toArray, List.set_cons_zero, List.set_cons_succ, i64_w, i32_w]
          rfl
        refine pure_ (i := 3) (N := some 28) (v := ?_) (a' := ?_) #[false, true, true, true, false, true, true, false, false, false, false] rfl rfl (by kernel_rfl) (fun _ _ _ h => h) (Or.inl ⟨by rfl, ?_⟩) ?_ ?_
        rotate_left
        · intro w'
          go_simp
          with_reducible rfl
        rotate_left
        · simp only [Act.put, List.setIfInBounds_toArray, List.set_cons_zero, List.set_cons_succ, i64_w, i32_w]
          rfl
        refine pure_ (i := 7) (N := some 32) (v := ?_) (a' := ?_) #[false, true, true, true, false, true, true, true, false, false, false] rfl rfl (by kernel_rfl) (fun _ _ _ h => h) (Or.inl ⟨by rfl, ?_⟩) ?_ ?_
        rotate_left
        · intro w'
          go_simp
          with_reducible rfl
        rotate_left
        · simp only [Act.put, List.setIfInBounds_toArray, List.set_cons_zero, List.set_cons_succ, i64_w, i32_w]
          rfl
        refine take_ (i := 0) (N := some 25) (v := .agg (a.cells B d)) #[true, true, true, true, false, true, true, true, false, false, false] rfl rfl (by kernel_rfl) (fun _ _ _ h => h) (Or.inl ⟨by rfl, fun w' hS => run_load_msg rfl rfl hS.2⟩) hHeld rfl ?_
        simp only [Act.put, List.setIfInBounds_toArray, List.set_cons_zero, List.set_cons_succ]
        refine take_ (i := 4) (N := some 29) (v := .agg (m.cells A c)) #[true, true, true, true, true, true, true, true, false, false, false] rfl rfl (by kernel_rfl) (fun _ _ _ h => h) (Or.inl ⟨by rfl, fun w' hS => run_load_msg rfl rfl hS.1⟩) hHeld rfl ?_
        simp only [Act.put, List.setIfInBounds_toArray, List.set_cons_zero, List.set_cons_succ]
        refine one_ (i := 8) (N := some 33) #[true, true, true, true, true, true, true, true, true, false, false] rfl rfl (by kernel_rfl) (by decide) (fun K hK => ?_)
        refine goes_ Try.func51 (by kernel_rfl) rfl #[.agg (m.cells A c), .int .u8 84] (by rfl) rfl rfl (by simp [Act.eval, hxx]) ?_
        refine (number_calls m A c .t (by decide) _ rfl _ (hL.below hS0.bel)).mono ?_
        rintro e w5 ⟨rfl, hb⟩
        have hS5 := hS0.below hb
        refine ⟨_, rfl, hK.out _ _ ⟨hS5.src, hS5.out⟩ (fun hHeld5 => ?_)⟩
        clear hb hS0 hHeld hK K
        simp only [Act.put, List.setIfInBounds_toArray, List.set_cons_zero, List.set_cons_succ]
        refine one_ (i := 9) (N := some 34) #[true, true, true, true, true, true, true, true, true, true, false] rfl rfl (by kernel_rfl) (by decide) (fun K hK => ?_)
        refine goes_ Try.func64 (by kernel_rfl) rfl #[.agg (a.cells B d), .int .u8 84, .int .i64 (m.num .t)] (by rfl) rfl rfl (by simp [Act.eval, hxx]) ?_
        refine (set_calls (m := a) (A := B) (c := d) .t (by decide) _ rfl (m.num .t) _).mono ?_
        rintro e w6 ⟨rfl, hb⟩
        have hS6 := hS5.below hb
        refine ⟨_, rfl, hK.out _ _ ⟨hS6.src, hS6.out⟩ (fun hHeld6 => ?_)⟩
        clear hb hS5 hHeld5 hK K
        simp only [Act.put, List.setIfInBounds_toArray, List.set_cons_zero, List.set_cons_succ]
        refine last_ (i := 10) (N := none) #[true, true, true, true, true, true, true, true, true, true, true] rfl rfl (by kernel_rfl) (by decide) (fun K hK => ?_)
        refine skip_ (by rfl) rfl (run_store_msg (m := setD a .t (m.num .t)) (A := B) (c := d) rfl rfl rfl hS6.out rfl) ?_
        refine hK.out _ _ ?_
        have hS7 := hS6.putRow (setD a .t (m.num .t)) (setD_list _ _ _)
        generalize w6.setRow M ((setD a .t (m.num .t)).cells B d) = w7 at hS7 ⊢
        clear hK K hS6 hHeld6
        refine done_ (by kernel_rfl) ?_
        go_wp2_with fail
        go_roundw
        case rel => exact ⟨j + 1, _, B, d, by omega, by go_num, hS7, Lib.hid (by rw [setD_put a m .t (by decide)]; exact fold_put HX.out HF.out)⟩
        case measure => simp [intOf]; omega
      · replace hbt : bt (bytesUp (fieldsOf m.kind)) (j : Int) = 82 := hbt
        have hxx : ∀ h : j < (bytesUp (fieldsOf m.kind)).size, (((bytesUp (fieldsOf m.kind))[j]'h).toNat : Int) = 82 := fun h => (bt_at _ (j : Int) h).trans hbt
        go_upto_region 7 with (fail)
        refine start_ (n := 11) (S := fun w' => w'.heap[P]? = some (.cells (m.cells A c) 44 (0, 0)) ∧ w'.heap[M]? = some (.cells (a.cells B d) 44 (0, 0))) (ds := [10]) #[false, false, false, false, false, false, false, false, false, false, false] (by kernel_rfl) rfl rfl ⟨hS.src, hS.out⟩ (fun hHeld => ?_)
        have hS0 : ClSt w wr.drew P M R m a A B c d := ⟨hS.src, hS.out, hS.res, hS.bel.drew, hS.lst, hS.geM, hS.geR, hS.PM, hS.RM⟩
        generalize wr.drew = w4 at hHeld hS0 ⊢
        clear hS
        refine pure_ (i := 1) (N := some 26) (v := ?_) (a' := ?_) #[false, true, false, false, false, false, false, false, false, false, false] rfl rfl (by kernel_rfl) (fun _ _ _ h => h) (Or.inl ⟨by rfl, ?_⟩) ?_ ?_
        rotate_left
        · intro w'
          go_simp
          with_reducible rfl
        rotate_left
        · simp only [Act.put, List.setIfInBounds_toArray, List.set_cons_zero, List.set_cons_succ, i64_w, i32_w]
          rfl
        refine pure_ (i := 2) (N := some 27) (v := ?_) (a' := ?_) #[false, true, true, false, false, false, false, false, false, false, false] rfl rfl (by kernel_rfl) (fun _ _ _ h => h) (Or.inl ⟨by rfl, ?_⟩) ?_ ?_
        rotate_left
        · intro w'
          go_simp
          with_reducible rfl
        rotate_left
        · simp only [Act.put, List.setIfInBounds_toArray, List.set_cons_zero, List.set_cons_succ, i64_w, i32_w]
          rfl
        refine pure_ (i := 5) (N := some 30) (v := ?_) (a' := ?_) #[false, true, true, false, false, true, false, false, false, false, false] rfl rfl (by kernel_rfl) (fun _ _ _ h => h) (Or.inl ⟨by rfl, ?_⟩) ?_ ?_
        rotate_left
        · intro w'
          go_simp
          with_reducible rfl
        rotate_left
        · simp only [Act.put, List.setIfInBounds_toArray, List.set_cons_zero, List.set_cons_succ, i64_w, i32_w]
          rfl
        refine pure_ (i := 6) (N := some 31) (v := ?_) (a' := ?_) #[false, true, true, false, false, true, true, false, false, false, false] rfl rfl (by kernel_rfl) (fun _ _ _ h => h) (Or.inl ⟨by rfl, ?_⟩) ?_ ?_
        rotate_left
        · intro w'
          go_simp
          with_reducible rfl
        rotate_left
        · simp only [Act.put, List.setIfInBounds_toArray, List.set_cons_zero, List.set_cons_succ, i64_w, i32_w]
          rfl
        refine pure_ (i := 3) (N := some 28) (v := ?_) (a' := ?_) #[false, true, true, true, false, true, true, false, false, false, false] rfl rfl (by kernel_rfl) (fun _ _ _ h => h) (Or.inl ⟨by rfl, ?_⟩) ?_ ?_
        rotate_left
        · intro w'
          go_simp
          with_reducible rfl
        rotate_left
        · simp only [Act.put, List.setIfInBounds_toArray, List.set_cons_zero, List.set_cons_succ, i64_w, i32_w]
          rfl
        refine pure_ (i := 7) (N := some 32) (v := ?_) (a' := ?_) #[false, true, true, true, false, true, true, true, false, false, false] rfl rfl (by kernel_rfl) (fun _ _ _ h => h) (Or.inl ⟨by rfl, ?_⟩) ?_ ?_
        rotate_left
        · intro w'
          go_simp
          with_reducible rfl
        rotate_left
        · simp only [Act.put, List.setIfInBounds_toArray, List.set_cons_zero, List.set_cons_succ, i64_w, i32_w]
          rfl
        refine take_ (i := 0) (N := some 25) (v := .agg (a.cells B d)) #[true, true, true, true, false, true, true, true, false, false, false] rfl rfl (by kernel_rfl) (fun _ _ _ h => h) (Or.inl ⟨by rfl, fun w' hS => run_load_msg rfl rfl hS.2⟩) hHeld rfl ?_
        simp only [Act.put, List.setIfInBounds_toArray, List.set_cons_zero, List.set_cons_succ]
        refine take_ (i := 4) (N := some 29) (v := .agg (m.cells A c)) #[true, true, true, true, true, true, true, true, false, false, false] rfl rfl (by kernel_rfl) (fun _ _ _ h => h) (Or.inl ⟨by rfl, fun w' hS => run_load_msg rfl rfl hS.1⟩) hHeld rfl ?_
        simp only [Act.put, List.setIfInBounds_toArray, List.set_cons_zero, List.set_cons_succ]
        refine one_ (i := 8) (N := some 33) #[true, true, true, true, true, true, true, true, true, false, false] rfl rfl (by kernel_rfl) (by decide) (fun K hK => ?_)
        refine goes_ Try.func51 (by kernel_rfl) rfl #[.agg (m.cells A c), .int .u8 82] (by rfl) rfl rfl (by simp [Act.eval, hxx]) ?_
        refine (number_calls m A c .r (by decide) _ rfl _ (hL.below hS0.bel)).mono ?_
        rintro e w5 ⟨rfl, hb⟩
        have hS5 := hS0.below hb
        refine ⟨_, rfl, hK.out _ _ ⟨hS5.src, hS5.out⟩ (fun hHeld5 => ?_)⟩
        clear hb hS0 hHeld hK K
        simp only [Act.put, List.setIfInBounds_toArray, List.set_cons_zero, List.set_cons_succ]
        refine one_ (i := 9) (N := some 34) #[true, true, true, true, true, true, true, true, true, true, false] rfl rfl (by kernel_rfl) (by decide) (fun K hK => ?_)
        refine goes_ Try.func64 (by kernel_rfl) rfl #[.agg (a.cells B d), .int .u8 82, .int .i64 (m.num .r)] (by rfl) rfl rfl (by simp [Act.eval, hxx]) ?_
        refine (set_calls (m := a) (A := B) (c := d) .r (by decide) _ rfl (m.num .r) _).mono ?_
        rintro e w6 ⟨rfl, hb⟩
        have hS6 := hS5.below hb
        refine ⟨_, rfl, hK.out _ _ ⟨hS6.src, hS6.out⟩ (fun hHeld6 => ?_)⟩
        clear hb hS5 hHeld5 hK K
        simp only [Act.put, List.setIfInBounds_toArray, List.set_cons_zero, List.set_cons_succ]
        refine last_ (i := 10) (N := none) #[true, true, true, true, true, true, true, true, true, true, true] rfl rfl (by kernel_rfl) (by decide) (fun K hK => ?_)
        refine skip_ (by rfl) rfl (run_store_msg (m := setD a .r (m.num .r)) (A := B) (c := d) rfl rfl rfl hS6.out rfl) ?_
        refine hK.out _ _ ?_
        have hS7 := hS6.putRow (setD a .r (m.num .r)) (setD_list _ _ _)
        generalize w6.setRow M ((setD a .r (m.num .r)).cells B d) = w7 at hS7 ⊢
        clear hK K hS6 hHeld6
        refine done_ (by kernel_rfl) ?_
        go_wp2_with fail
        go_roundw
        case rel => exact ⟨j + 1, _, B, d, by omega, by go_num, hS7, Lib.hid (by rw [setD_put a m .r (by decide)]; exact fold_put HX.out HF.out)⟩
        case measure => simp [intOf]; omega
      · replace hbt : bt (bytesUp (fieldsOf m.kind)) (j : Int) = 77 := hbt
        have hxx : ∀ h : j < (bytesUp (fieldsOf m.kind)).size, (((bytesUp (fieldsOf m.kind))[j]'h).toNat : Int) = 77 := fun h => (bt_at _ (j : Int) h).trans hbt
        have p9 : wr.cell? ⟨P, 9, none⟩ = some (.string m.mark) := (blk_cell hS.src 9).trans rfl
        have d9 : wr.cell? ⟨M, 9, none⟩ = some (.string a.mark) := (blk_cell hS.out 9).trans rfl
        have f9 := hS.frozen 9
        go_wp2_with fail
        go_roundw
        case rel => exact ⟨j + 1, _, B, d, by omega, by go_num, hS.set 9 _ { a with mark := m.mark } B d rfl hS.lst, Lib.hid (fold_put HX.out HF.out)⟩
        case measure => simp [intOf]; omega
      · replace hbt : bt (bytesUp (fieldsOf m.kind)) (j : Int) = 80 := hbt
        have hxx : ∀ h : j < (bytesUp (fieldsOf m.kind)).size, (((bytesUp (fieldsOf m.kind))[j]'h).toNat : Int) = 80 := fun h => (bt_at _ (j : Int) h).trans hbt
        have p10 : wr.cell? ⟨P, 10, none⟩ = some (.int .i64 m.pat) := (blk_cell hS.src 10).trans rfl
        have p11 : wr.cell? ⟨P, 11, none⟩ = some (.int .i64 m.pof) := (blk_cell hS.src 11).trans rfl
        have p12 : wr.cell? ⟨P, 12, none⟩ = some (.string m.ptext) := (blk_cell hS.src 12).trans rfl
        have d10 : wr.cell? ⟨M, 10, none⟩ = some (.int .i64 a.pat) := (blk_cell hS.out 10).trans rfl
        have d11 : wr.cell? ⟨M, 11, none⟩ = some (.int .i64 a.pof) := (blk_cell hS.out 11).trans rfl
        have d12 : wr.cell? ⟨M, 12, none⟩ = some (.string a.ptext) := (blk_cell hS.out 12).trans rfl
        have f10 := hS.frozen 10
        have f11 := hS.frozen 11
        have f12 := hS.frozen 12
        go_wp2_with fail
        go_roundw
        case rel => exact ⟨j + 1, _, B, d, by omega, by go_num, ((hS.set 10 _ { a with pat := m.pat } B d rfl hS.lst).set 11 _ { a with pat := m.pat, pof := m.pof } B d rfl hS.lst).set 12 _ { a with pat := m.pat, pof := m.pof, ptext := m.ptext } B d rfl hS.lst, Lib.hid (fold_put HX.out HF.out)⟩
        case measure => simp [intOf]; omega
      · replace hbt : bt (bytesUp (fieldsOf m.kind)) (j : Int) = 76 := hbt
        have hxx : ∀ h : j < (bytesUp (fieldsOf m.kind)).size, (((bytesUp (fieldsOf m.kind))[j]'h).toNat : Int) = 76 := fun h => (bt_at _ (j : Int) h).trans hbt
        have p13 : wr.cell? ⟨P, 13, none⟩ = some (.slice A m.list.length c) := (blk_cell hS.src 13).trans rfl
        have d13 : wr.cell? ⟨M, 13, none⟩ = some (.slice B a.list.length d) := (blk_cell hS.out 13).trans rfl
        have f13 := hS.frozen 13
        go_wp2_with fail
        go_roundw
        case rel => exact ⟨j + 1, _, A, c, by omega, by go_num, hS.set 13 _ { a with list := m.list } A c rfl hL, Lib.hid (fold_put HX.out HF.out)⟩
        case measure => simp [intOf]; omega
    · obtain rfl : j = (fieldsOf m.kind).length := by omega
      have hcl := Lib.hid (show cleanD m = a by
        have e1 := HF.out
        rw [List.take_length] at e1
        exact e1.symm)
      have hus := HUS.out
      obtain ⟨d0, d1, d2, d3, d4, d5, d6, d7, d8, d9, d10, d11, d12, d13⟩ := MsgBox.of hS.out
      have r0 : wr.cell? ⟨R, 0, none⟩ = some (.int .i64 0) := (blk_cell hS.res 0).trans rfl
      have t0 := blk_frozen hS.res 0
      have r1 : wr.cell? ⟨R, 1, none⟩ = some (.int .i64 0) := (blk_cell hS.res 1).trans rfl
      have t1 := blk_frozen hS.res 1
      have r2 : wr.cell? ⟨R, 2, none⟩ = some (.int .i64 0) := (blk_cell hS.res 2).trans rfl
      have t2 := blk_frozen hS.res 2
      have r3 : wr.cell? ⟨R, 3, none⟩ = some (.int .i64 0) := (blk_cell hS.res 3).trans rfl
      have t3 := blk_frozen hS.res 3
      have r4 : wr.cell? ⟨R, 4, none⟩ = some (.int .i64 0) := (blk_cell hS.res 4).trans rfl
      have t4 := blk_frozen hS.res 4
      have r5 : wr.cell? ⟨R, 5, none⟩ = some (.int .i64 0) := (blk_cell hS.res 5).trans rfl
      have t5 := blk_frozen hS.res 5
      have r6 : wr.cell? ⟨R, 6, none⟩ = some (.int .i64 0) := (blk_cell hS.res 6).trans rfl
      have t6 := blk_frozen hS.res 6
      have r7 : wr.cell? ⟨R, 7, none⟩ = some (.int .i64 0) := (blk_cell hS.res 7).trans rfl
      have t7 := blk_frozen hS.res 7
      have r8 : wr.cell? ⟨R, 8, none⟩ = some (.int .i64 0) := (blk_cell hS.res 8).trans rfl
      have t8 := blk_frozen hS.res 8
      have r9 : wr.cell? ⟨R, 9, none⟩ = some (.string ⟨#[]⟩) := (blk_cell hS.res 9).trans rfl
      have t9 := blk_frozen hS.res 9
      have r10 : wr.cell? ⟨R, 10, none⟩ = some (.int .i64 0) := (blk_cell hS.res 10).trans rfl
      have t10 := blk_frozen hS.res 10
      have r11 : wr.cell? ⟨R, 11, none⟩ = some (.int .i64 0) := (blk_cell hS.res 11).trans rfl
      have t11 := blk_frozen hS.res 11
      have r12 : wr.cell? ⟨R, 12, none⟩ = some (.string ⟨#[]⟩) := (blk_cell hS.res 12).trans rfl
      have t12 := blk_frozen hS.res 12
      have r13 : wr.cell? ⟨R, 13, none⟩ = some (.slice none 0 0) := (blk_cell hS.res 13).trans rfl
      have t13 := blk_frozen hS.res 13
      have z2 : ¬ ((fieldsOf m.kind).length : Int) < ((bytesUp (fieldsOf m.kind)).size : Int) := by rw [hus]; omega
      clear hus hj hlt
      go_wp2_with fail
      refine ret_row (p := 2) (g := R) rfl rfl (puts14 hS.res _ _ _ _ _ _ _ _ _ _ _ _ _ _) Try.underlying44 (by kernel_rfl) ?_
      have hB9 := below14 hS.bel hS.geR (.int .i64 a.kind) (.int .i64 a.frm) (.int .i64 a.dst) (.int .i64 a.ballot) (.int .i64 a.gen) (.int .i64 a.basis) (.int .i64 a.floor) (.int .i64 a.top) (.int .i64 a.read) (.string a.mark) (.int .i64 a.pat) (.int .i64 a.pof) (.string a.ptext) (.slice B a.list.length d)
      rw [hcl.out]
      exact ⟨B, d, rfl, hS.lst.below hB9, hB9⟩
end Go.Proofs.Ytpegefcpanijhaa
end
