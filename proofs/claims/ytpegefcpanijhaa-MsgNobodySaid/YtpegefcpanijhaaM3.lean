/- The walk of msg.list: whether a message's list may be. -/
import Derived.Test.YtpegefcpanijhaaM2
import Derived.Deep.QuietTactic
import Derived.BigQuiet
namespace Go.Proofs.Ytpegefcpanijhaa
set_option linter.unusedVariables false
set_option linter.unusedSimpArgs false
open Go.RowKit Go.Proofs.YtpegefcpanijhaaW.PrintWords PF

theorem ListAt.at_ {w w' : World} {A : Option Addr} {c : Nat} {l : List S80} (h : ListAt w A c l) (hb : Below w.heap.size w w') {k : Nat} (hk : k < l.length) :
    ∃ (ad : Addr) (x : S80), A = some ad ∧ l[k]? = some x ∧ w'.cell? (ad.add (k * 3)) = some (.int .i64 x.f0) ∧ w'.cell? ⟨(ad.add (k * 3)).block, (ad.add (k * 3)).off + 1, none⟩ = some (.int .i64 x.f1) ∧ w'.cell? ⟨(ad.add (k * 3)).block, (ad.add (k * 3)).off + 2, none⟩ = some (.string x.f2) := by
  obtain ⟨ad, e, c0, c1, c2⟩ := at_T80 h.cells (k : Int) (by omega) (by omega)
  rw [Int.toNat_natCast] at c0 c1 c2
  refine ⟨ad, l[k], e, List.getElem?_eq_getElem hk, ?_, ?_, ?_⟩
  all_goals
    have hr : rd_T80 l (k : Int) = l[k] := by simp [rd_T80, List.getD_eq_getElem?_getD, List.getElem?_eq_getElem hk]
    rw [hr] at c0 c1 c2
  · exact (hb.cell (World.block_lt_of_cell? w _ c0)).trans c0
  · exact (hb.cell (World.block_lt_of_cell? w _ c1)).trans c1
  · exact (hb.cell (World.block_lt_of_cell? w _ c2)).trans c2

theorem msg_blk {m : MsgD} {A : Option Addr} {c : Nat} {w w1 : World} (hb : Below (w.alloc (.cells (m.cells A c) 44)).heap.size (w.alloc (.cells (m.cells A c) 44)) w1) :
    Below w.heap.size w w1 ∧ w1.heap[w.heap.size]? = some (.cells (m.cells A c) 44 (0, 0)) := by
  have hB : Below w.heap.size w (w.alloc (.cells (m.cells A c) 44)) := (Below.refl _ _).alloc (Nat.le_refl _) _
  exact ⟨hB.trans (hb.mono hB.size), blk_later hb⟩

theorem listB_false {m : MsgD} (hh : hasB m.kind .l = true) {k : Nat} (hk : k < m.list.length) (he : entAt m.list k = false) : listB m = false := by
  unfold listB
  rw [hh, if_pos rfl]
  have : (List.range m.list.length).all (entAt m.list) = false := by
    rw [List.all_eq_false]
    exact ⟨k, List.mem_range.2 hk, by rw [he]; simp⟩
  rw [this, Bool.and_false]
theorem listB_true {m : MsgD} (hh : hasB m.kind .l = true) (hl : m.list.length ≤ 64) (he : ∀ j, j < m.list.length → entAt m.list j = true) : listB m = true := by
  unfold listB
  rw [hh, if_pos rfl, decide_eq_true hl, Bool.true_and, List.all_eq_true]
  exact fun j hj => he j (List.mem_range.1 hj)
theorem entAt_first {l : List S80} {x : S80} (h : l[0]? = some x) : entAt l 0 = entB x := by
  unfold entAt
  rw [h]
  simp
theorem entAt_next {l : List S80} {k : Nat} {x y : S80} (h : l[k + 1]? = some x) (hy : l[k]? = some y) : entAt l (k + 1) = (entB x && decide (y.f0 < x.f0)) := by
  unfold entAt
  rw [h]
  simp [hy]
theorem entAt_bad {l : List S80} {k : Nat} {x : S80} (h : l[k]? = some x) (he : entB x = false) : entAt l k = false := by
  unfold entAt
  rw [h]
  simp [he]

set_option maxHeartbeats 1000000 in
theorem list_no (m : MsgD) (A : Option Addr) (c : Nat) (w : World) (hh : hasB m.kind .l = false) :
    Calls Try.prog 61 #[.agg (m.cells A c)] w fun e w' => e = .returned (.bool (listB m)) ∧ Below w.heap.size w w' := by
  have HH := Lib.hid hh
  clear hh
  go_enter Try.func61, Try.ntmps61
  go_wp2_with fail
  refine (has_calls m.kind .l _ rfl _).mono ?_
  rintro e w1 ⟨rfl, hb⟩
  obtain ⟨hB, hblk⟩ := msg_blk hb
  have c13 := cell_of_row _ _ 13 _ _ _ hblk
  clear hb hblk
  rw [HH.out]
  go_wp2_with fail
  go_ret
  refine ⟨ret_bool ?_, hB⟩
  unfold listB
  rw [HH.out, Bool.eq_iff_iff]
  simp

set_option maxHeartbeats 1000000 in
theorem list_long (m : MsgD) (A : Option Addr) (c : Nat) (w : World) (hh : hasB m.kind .l = true) (hm : m.list.length ≤ 9223372036854775807) (hl : 64 < m.list.length) :
    Calls Try.prog 61 #[.agg (m.cells A c)] w fun e w' => e = .returned (.bool (listB m)) ∧ Below w.heap.size w w' := by
  have HH := Lib.hid hh
  clear hh
  go_enter Try.func61, Try.ntmps61
  go_wp2_with fail
  refine (has_calls m.kind .l _ rfl _).mono ?_
  rintro e w1 ⟨rfl, hb⟩
  obtain ⟨hB, hblk⟩ := msg_blk hb
  have c13 := cell_of_row _ _ 13 _ _ _ hblk
  clear hb hblk
  rw [HH.out]
  go_wp2_with fail
  go_ret
  refine ⟨ret_bool ?_, hB⟩
  unfold listB
  rw [HH.out, Bool.eq_iff_iff]
  simp
  omega

set_option maxHeartbeats 2000000 in
theorem list_short (m : MsgD) (A : Option Addr) (c : Nat) (w : World) (hh : hasB m.kind .l = true) (hL : ListAt w A c m.list) (hl : m.list.length ≤ 64) :
    Calls Try.prog 61 #[.agg (m.cells A c)] w fun e w' => e = .returned (.bool (listB m)) ∧ Below w.heap.size w w' := by
  have HH := Lib.hid hh
  clear hh
  go_enter Try.func61, Try.ntmps61
  go_wp2_with fail
  refine (has_calls m.kind .l _ rfl _).mono ?_
  rintro e w1 ⟨rfl, hb⟩
  obtain ⟨hB, hblk⟩ := msg_blk hb
  have c13 := cell_of_row _ _ 13 _ _ _ hblk
  have HBLK := Lib.hid hblk
  clear hb hblk
  rw [HH.out]
  go_wp2_with fail
  go_loopw [20] (fun i wr => ∃ k : Nat, k ≤ m.list.length ∧ i = .int .i64 k ∧ Below w1.heap.size w1 wr ∧ Hid (∀ j, j < k → entAt m.list j = true)) (fun i _ => 64 - (intOf i).toNat)
  case atStart => exact ⟨0, Nat.zero_le _, rfl, Below.refl _ _, fun j hj => by omega⟩
  case round =>
    obtain ⟨k, hk, rfl, hBr, HA⟩ := hrel
    by_cases hlt : k < m.list.length
    · obtain ⟨ad, x, rfl, hx, d0, d1, d2⟩ := hL.at_ (hB.trans (hBr.mono hB.size)) hlt
      have d13 : wr.cell? ⟨w.heap.size, 13, none⟩ = some (.slice (some ad) m.list.length c) := ((hBr.cell (World.block_lt_of_cell? w1 _ c13)).trans c13).trans rfl
      have n13 := (World.cell?_alloc_lt wr (.cells #[.int .i64 x.f0, .int .i64 x.f1, .string x.f2] 80) _ (World.block_lt_of_cell? wr _ d13)).trans d13
      have HX := Lib.hid hx
      clear hx
      by_cases b1 : x.f0 < 0
      · have HE := Lib.hid (listB_false HH.out hlt (entAt_bad HX.out (by simp [entB, fitsB]; omega)))
        go_wp2_with fail
        go_quiet (fail)
        go_wp2_with fail
        go_ret
        exact ⟨ret_bool HE.out.symm, hB.trans (pw_below_drewN ((hBr.alloc hBr.size _).mono hB.size) _)⟩
      by_cases b2 : 4611686018427387903 < x.f0
      · have HE := Lib.hid (listB_false HH.out hlt (entAt_bad HX.out (by simp [entB, fitsB]; omega)))
        have z1 : decide (x.f0 < 0) = false := decide_eq_false (by omega)
        go_wp2_with fail
        go_quiet (fail)
        go_wp2_with fail
        go_ret
        exact ⟨ret_bool HE.out.symm, hB.trans (pw_below_drewN ((hBr.alloc hBr.size _).mono hB.size) _)⟩
      by_cases b3 : x.f1 < 0
      · have HE := Lib.hid (listB_false HH.out hlt (entAt_bad HX.out (by simp [entB, fitsB]; omega)))
        have z1 : decide (x.f0 < 0) = false := decide_eq_false (by omega)
        have z2 : decide (4611686018427387903 < x.f0) = false := decide_eq_false (by omega)
        go_wp2_with fail
        go_quiet (fail)
        go_wp2_with fail
        go_ret
        exact ⟨ret_bool HE.out.symm, hB.trans (pw_below_drewN ((hBr.alloc hBr.size _).mono hB.size) _)⟩
      by_cases b4 : 4611686018427387903 < x.f1
      · have HE := Lib.hid (listB_false HH.out hlt (entAt_bad HX.out (by simp [entB, fitsB]; omega)))
        have z1 : decide (x.f0 < 0) = false := decide_eq_false (by omega)
        have z2 : decide (4611686018427387903 < x.f0) = false := decide_eq_false (by omega)
        have z3 : decide (x.f1 < 0) = false := decide_eq_false (by omega)
        go_wp2_with fail
        go_quiet (fail)
        go_wp2_with fail
        go_ret
        exact ⟨ret_bool HE.out.symm, hB.trans (pw_below_drewN ((hBr.alloc hBr.size _).mono hB.size) _)⟩
      by_cases b5 : x.f2.size = 32
      · have HB : entB x = true := by simp [entB, fitsB]; omega
        have z5 : ((x.f2.size : Int) != 32) = false := by rw [b5]; rfl
        have z1 : decide (x.f0 < 0) = false := decide_eq_false (by omega)
        have z2 : decide (4611686018427387903 < x.f0) = false := decide_eq_false (by omega)
        have z3 : decide (x.f1 < 0) = false := decide_eq_false (by omega)
        have z4 : decide (4611686018427387903 < x.f1) = false := decide_eq_false (by omega)
        have HB' := Lib.hid HB
        have hB5 := Lib.hid b5
        clear HB b5
        rcases Nat.eq_zero_or_pos k with hk0 | hk0
        · have HA' : Hid (∀ j, j < k + 1 → entAt m.list j = true) := fun j hj => by
            have e0 : k = 0 := hk0
            subst e0
            obtain rfl : j = 0 := by omega
            rw [entAt_first HX.out]; exact HB'.out
          have hk1 : (k : Int) ≤ 0 := by omega
          have z7 : decide (0 < (k : Int)) = false := decide_eq_false (by omega)
          have z8 : decide (0 < k) = false := decide_eq_false (by omega)
          clear hk0
          go_wp2_with fail
          go_quiet (fail)
          go_wp2_with fail
          go_roundw
          case rel => exact ⟨k + 1, by omega, by go_num, pw_below_drewN (hBr.alloc hBr.size _) _, HA'⟩
          case measure => simp [intOf]; omega
        · obtain ⟨p, rfl⟩ : ∃ p, k = p + 1 := ⟨k - 1, by omega⟩
          obtain ⟨ad', y, ea, hy, e0, e1, e2⟩ := hL.at_ (hB.trans (hBr.mono hB.size)) (k := p) (by omega)
          obtain rfl : ad = ad' := by injection ea
          have HY := Lib.hid hy
          have n0 := (World.cell?_alloc_lt wr (.cells #[.int .i64 x.f0, .int .i64 x.f1, .string x.f2] 80) _ (World.block_lt_of_cell? wr _ e0)).trans e0
          have q3 : IntKind.i64.wrap ((p : Int) + 1 - 1) = (p : Int) := by rw [IntKind.wrap_i64]; omega
          have q4 : (0 : Int) < (p : Int) + 1 := by omega
          clear hy ea e1 e2
          have q1 : (0 : Int) ≤ (p : Int) := by omega
          have q2 : (p : Int) < (m.list.length : Int) := by omega
          by_cases b6 : x.f0 ≤ y.f0
          · have HE := Lib.hid (listB_false HH.out hlt (by rw [entAt_next HX.out HY.out]; simp; omega))
            go_wp2_with fail
            go_quiet (fail)
            go_wp2_with fail
            go_ret
            exact ⟨ret_bool HE.out.symm, hB.trans (pw_below_drewN ((hBr.alloc hBr.size _).mono hB.size) _)⟩
          · have z6 : decide (x.f0 ≤ y.f0) = false := decide_eq_false (by omega)
            have HA' : Hid (∀ j, j < p + 1 + 1 → entAt m.list j = true) := fun j hj => by
              by_cases e : j = p + 1
              · subst e
                rw [entAt_next HX.out HY.out, HB'.out]; simp; omega
              · exact HA.out j (by omega)
            go_wp2_with fail
            go_quiet (fail)
            go_wp2_with fail
            go_roundw
            case rel => exact ⟨p + 1 + 1, by omega, by go_num, pw_below_drewN (hBr.alloc hBr.size _) _, HA'⟩
            case measure => simp [intOf]; omega
      · have HE := Lib.hid (listB_false HH.out hlt (entAt_bad HX.out (by simp [entB, fitsB]; omega)))
        have z1 : decide (x.f0 < 0) = false := decide_eq_false (by omega)
        have z2 : decide (4611686018427387903 < x.f0) = false := decide_eq_false (by omega)
        have z3 : decide (x.f1 < 0) = false := decide_eq_false (by omega)
        have z4 : decide (4611686018427387903 < x.f1) = false := decide_eq_false (by omega)
        have z5 : ((x.f2.size : Int) != 32) = true := by rw [bne_iff_ne]; omega
        go_wp2_with fail
        go_quiet (fail)
        go_wp2_with fail
        go_ret
        exact ⟨ret_bool HE.out.symm, hB.trans (pw_below_drewN ((hBr.alloc hBr.size _).mono hB.size) _)⟩
    · have HE := Lib.hid (listB_true HH.out hl (fun j hj => HA.out j (by omega)))
      go_wp2_with fail
      go_ret
      exact ⟨ret_bool HE.out.symm, hB.trans (hBr.mono hB.size)⟩
end Go.Proofs.Ytpegefcpanijhaa
