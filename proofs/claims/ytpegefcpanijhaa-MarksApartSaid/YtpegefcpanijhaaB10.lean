/- The walk of barquelaw03.MarksApart: it answers true; nothing that was there has turned. -/
import Derived.Test.YtpegefcpanijhaaB9
import Derived.Outline
import Derived.Deep.DrawnRows
namespace Go.Proofs.Ytpegefcpanijhaa
set_option linter.unusedVariables false
set_option linter.unusedSimpArgs false
open Go.RowKit Go.Maps
attribute [local go_sem ↓] Go.wp_at_zero Go.wp_at_succ

/-- Is, in a region: what four cells held they hold. -/
theorem is_cells {W w : World} {b m : Nat} {l : List ByteArray} {s mark : ByteArray} {r : Bool} (hr : isB l s mark = r) (hs : s.size ≤ maxLen) (h : IsIdeal w b m l) (hB : Below W.heap.size W w) {a1 a2 a3 a4 : Addr} {v1 v2 v3 v4 : Value}
    (c1 : w.cell? a1 = some v1) (c2 : w.cell? a2 = some v2) (c3 : w.cell? a3 = some v3) (c4 : w.cell? a4 = some v4) :
    Calls Try.prog 21 #[.pointer (some ⟨b, 0, none⟩), .string s, .string mark] w fun e w' => e = .returned (.bool r) ∧ IsIdeal w' b m l ∧ Below W.heap.size W w' ∧ w'.cell? a1 = some v1 ∧ w'.cell? a2 = some v2 ∧ w'.cell? a3 = some v3 ∧ w'.cell? a4 = some v4 := by
  subst hr
  refine (is_ideal h hs).mono fun e w' ⟨he, hb⟩ => ⟨he, h.below hb, hB.trans (hb.mono hB.size), ?_, ?_, ?_, ?_⟩
  · exact (hb.cell (World.block_lt_of_cell? w _ c1)).trans c1
  · exact (hb.cell (World.block_lt_of_cell? w _ c2)).trans c2
  · exact (hb.cell (World.block_lt_of_cell? w _ c3)).trans c3
  · exact (hb.cell (World.block_lt_of_cell? w _ c4)).trans c4

theorem infoStr : (Try.prog.info? 9).map (fun i => (i.zero, i.size, i.bytes)) = some (some (.string ⟨#[]⟩), 1, 16) := by kernel_rfl

set_option maxRecDepth 100000 in
set_option maxHeartbeats 2000000 in
theorem apart_short (w : World) (A : Option Addr) (n c : Nat) (l' : List ByteArray) (h' : StrsAt w A n c l') (hcut : n ≤ 40) :
    Calls Try.prog 3 #[.slice A n c] w fun e w' => e = .returned (.bool true) ∧ Below w.heap.size w w' := by
  obtain ⟨i0, hi, hz0, hz1, hz2⟩ := info_parts infoStr
  have hl1 : l'.length ≤ n := Nat.le_of_eq h'.len
  have hl2 : n ≤ l'.length := Nat.le_of_eq h'.len.symm
  have hle := h'.le
  have hmax := h'.max
  unfold maxLen at hmax
  have hB0 := Below.refl w.heap.size w
  have HZ0 := Lib.hid hz0; have HZ1 := Lib.hid hz1; have HZ2 := Lib.hid hz2; have HI0 := Lib.hid hi
  clear hz0 hz1 hz2 hi
  go_enter Try.func3, Try.ntmps3
  go_wp2_with fail
  refine (ideal_to hB0).mono ?_
  rintro e w1 ⟨b, m, rfl, hI, hB, hm, hb0⟩
  go_wp2_with fail
  go_loopw [4, 5] (fun u i wr => ∃ (mv : Value) (k : Nat) (kn ms : List ByteArray), u = mv ∧ k ≤ l'.length ∧ i = .int .i64 k ∧ wr.ownsRow w.heap.size 9 1 mv k (ms.map Value.string) ∧ IsIdeal wr b m kn ∧ Below w.heap.size w wr ∧ Hid (ApartAt l' k kn ms)) (fun _ i _ => 40 - (intOf i).toNat)
  case atStart => exact ⟨_, 0, [], [], rfl, Nat.zero_le _, rfl, World.ownsRow_nil _ _ _ _, hI, hB, rfl, rfl, fun j t hj => by omega⟩
  case round =>
    obtain ⟨mv, k, kn, ms, rfl, hk1, rfl, hown, hI3, hB3, HK⟩ := hrel
    by_cases hlt : k < l'.length
    · obtain ⟨a, t, rfl, -, ht, hts, hab, hc⟩ := h'.at_ (Nat.lt_of_lt_of_le hlt hl1)
      have hc3 := (hB3.cell (World.block_lt_of_cell? w _ hc)).trans hc
      have HS := Lib.hid (HK.out.step ht)
      have hkn : kn.length ≤ k := HK.out.short
      clear ht HK
      go_wp2_with fail
      refine (mark_ideal hI3 hts (by omega)).mono ?_
      rintro e w4 ⟨rfl, hI4, hg4⟩
      have hown4 := hown.kept hg4 (.inr (Ne.symm (hI3.ne_row hown (by decide)).2))
      have hB4 := below_of_grown hB3 hg4 hm
      have hb4 : w.heap.size ≤ (w4.alloc (.cells #[.string (mk (kn.idxOf t + 1))] 9)).heap.size := by have := hB4.size; simp; omega
      go_wp2_with (at_builtin; refine wpList_append_own _ rfl (.tmp 20) (.tmp 27) 22 rfl w.heap.size 9 i0 _ 1 16 Try.underlying22 HI0.out HZ0.out HZ1.out HZ2.out rfl (by decide) _ _ _ rfl (hown4.alloc _) ⟨w4.heap.size, 0, none⟩ 1 1 [.string (mk (kn.idxOf t + 1))] rfl rfl (cell_one_new _ _ _) (by simp [Value.oneCell']) (by unfold maxLen; omega) (by omega) hb4 ?_; intro v5 w5 hown5 hg5 _)
      have hne5 := (hI4.alloc (.cells #[.string (mk (kn.idxOf t + 1))] 9)).ne_row (hown4.alloc (.cells #[.string (mk (kn.idxOf t + 1))] 9)) (by decide)
      have hI5 := (hI4.alloc (.cells #[.string (mk (kn.idxOf t + 1))] 9)).kept hg5 hne5.1 hne5.2
      have hB5 := (hB4.alloc hB4.size (.cells #[.string (mk (kn.idxOf t + 1))] 9)).grown hg5 hb4 (fun g hg => ((hown4.alloc (.cells #[.string (mk (kn.idxOf t + 1))] 9)).lt g hg).1)
      have hown5' : w5.ownsRow w.heap.size 9 1 v5 (k + 1) ((ms ++ [mk (kn.idxOf t + 1)]).map Value.string) := by simpa using hown5
      go_roundw
      case rel => exact ⟨_, k + 1, _, _, rfl, by omega, by go_num, hown5', hI5, hB5, HS⟩
      case measure => simp [intOf]; omega
    · have hge : l'.length ≤ k := by omega
      clear hlt
      obtain rfl : k = l'.length := by omega
      have hd : decide (l'.length < n) = false := decide_eq_false (by omega)
      obtain ⟨A2, c2, rfl, hms⟩ := strs_of_row hown (HK.out.sizes (Nat.le_refl _))
      clear hown hI hB hge hk1
      go_wp2_with fail
      have hBw := Below.refl wr.heap.size wr
      obtain ⟨w2, rfl⟩ : ∃ w2 : World, w2 = wr := ⟨_, rfl⟩
      have hL : l'.length ≤ 40 := by omega
      go_loopw [6] (fun i wr => ∃ i' : Nat, i' ≤ l'.length ∧ i = .int .i64 i' ∧ IsIdeal wr b m kn ∧ Below w2.heap.size w2 wr) (fun i _ => 40 - (intOf i).toNat)
      case atStart => exact ⟨0, Nat.zero_le _, rfl, hI3, hBw⟩
      case round =>
        obtain ⟨i', hi1, rfl, hI4, hB4⟩ := hrel
        obtain ⟨w3, rfl⟩ : ∃ w3 : World, w3 = wr := ⟨_, rfl⟩
        by_cases hlt : i' < l'.length
        · have hd2 : decide (i' < n) = true := decide_eq_true (by omega)
          go_wp2_with fail
          go_loopw [7] (fun q wr => ∃ k : Nat, k ≤ l'.length ∧ q = .int .i64 k ∧ IsIdeal wr b m kn ∧ Below w2.heap.size w2 wr) (fun q _ => 40 - (intOf q).toNat)
          case atStart => exact ⟨0, Nat.zero_le _, rfl, hI4, hB4⟩
          case round =>
            obtain ⟨k, hk1, rfl, hI5, hB5⟩ := hrel
            by_cases hlt2 : k < l'.length
            · obtain ⟨a, s, rfl, -, hsi, hss, hab, hc1⟩ := h'.at_ (Nat.lt_of_lt_of_le hlt hl1)
              obtain ⟨a', t, ea, -, htk, hts, hab', hc2⟩ := h'.at_ (Nat.lt_of_lt_of_le hlt2 hl1)
              obtain rfl : a = a' := by injection ea
              obtain ⟨a2, p, rfl, -, hpi, hps, hab2, hc3⟩ := hms.at_ hlt
              obtain ⟨a2', q, ea2, -, hqk, hqs, hab2', hc4⟩ := hms.at_ hlt2
              obtain rfl : a2 = a2' := by injection ea2
              have d1 := (hB5.cell (World.block_lt_of_cell? w2 _ ((hB3.cell (World.block_lt_of_cell? w _ hc1)).trans hc1))).trans ((hB3.cell (World.block_lt_of_cell? w _ hc1)).trans hc1)
              have d2 := (hB5.cell (World.block_lt_of_cell? w2 _ ((hB3.cell (World.block_lt_of_cell? w _ hc2)).trans hc2))).trans ((hB3.cell (World.block_lt_of_cell? w _ hc2)).trans hc2)
              have d3 := (hB5.cell (World.block_lt_of_cell? w2 _ hc3)).trans hc3
              have d4 := (hB5.cell (World.block_lt_of_cell? w2 _ hc4)).trans hc4
              have ht := HK.out.tests hL hlt hlt2 hsi htk hpi hqk
              clear hsi htk hpi hqk hc1 hc2 hc3 hc4 ea ea2
              have z1 : (0 : Int) ≤ (i' : Int) := by omega
              have z2 : (i' : Int) < (l'.length : Int) := by omega
              have z3 : (0 : Int) ≤ (k : Int) := by omega
              have z4 : (k : Int) < (l'.length : Int) := by omega
              have z5 : (i' : Int) < (n : Int) := by omega
              have z6 : (k : Int) < (n : Int) := by omega
              rcases ht with ⟨rfl, rfl, hq⟩ | ⟨e1, e2, hq⟩
              · have HQ := Lib.hid hq
                clear hq
                go_wp2_with fail
                go_region_held3 (fun w' => w'.cell? (a2.add i') = some (.string p) ∧ w'.cell? (a2.add k) = some (.string p) ∧ w'.cell? (a.add i') = some (.string s) ∧ w'.cell? (a.add k) = some (.string s)) (go_keep)
                  ((go_at_call 21; refine (is_cells (a1 := a2.add i') (a2 := a2.add k) (a3 := a.add i') (a4 := a.add k) (v1 := .string p) (v2 := .string p) (v3 := .string s) (v4 := .string s) HQ.out hss (by first | exact hI5 | exact hI5.drewN _ | exact hI5.drew) (by first | exact hB5 | exact below_drewN hB5 _ | exact hB5.drew) (by assumption) (by assumption) (by assumption) (by assumption)).mono ?_; rintro e w6 ⟨rfl, hI6, hB6, f1, f2, f3, f4⟩))
                go_wp2_with fail
                go_roundw
                case rel => exact ⟨k + 1, by omega, by go_num, hI6, hB6⟩
                case measure => simp [intOf]; omega
              · have HQ := Lib.hid hq
                clear hq
                go_wp2_with fail
                go_region_held3 (fun w' => w'.cell? (a2.add i') = some (.string p) ∧ w'.cell? (a2.add k) = some (.string q) ∧ w'.cell? (a.add i') = some (.string s) ∧ w'.cell? (a.add k) = some (.string t)) (go_keep)
                  ((go_at_call 21; refine (is_cells (a1 := a2.add i') (a2 := a2.add k) (a3 := a.add i') (a4 := a.add k) (v1 := .string p) (v2 := .string q) (v3 := .string s) (v4 := .string t) HQ.out hss (by first | exact hI5 | exact hI5.drewN _ | exact hI5.drew) (by first | exact hB5 | exact below_drewN hB5 _ | exact hB5.drew) (by assumption) (by assumption) (by assumption) (by assumption)).mono ?_; rintro e w6 ⟨rfl, hI6, hB6, f1, f2, f3, f4⟩))
                go_wp2_with fail
                go_roundw
                case rel => exact ⟨k + 1, by omega, by go_num, hI6, hB6⟩
                case measure => simp [intOf]; omega
            · have hge : l'.length ≤ k := by omega
              clear hlt2
              go_wp2_with fail
              go_roundw
              case rel => exact ⟨i' + 1, by omega, by go_num, hI5, hB5⟩
              case measure => simp [intOf]; omega
        · have hge : l'.length ≤ i' := by omega
          clear hlt
          go_wp2_with fail
          refine (awake_to (W := w) (hB3.trans (hB4.mono hB3.size))).mono ?_
          rintro e w6 ⟨rfl, hB6⟩
          go_wp2_with fail
          go_ret
          exact ⟨rfl, hB6⟩

set_option maxRecDepth 100000 in
set_option maxHeartbeats 2000000 in
theorem apart_long (w : World) (A : Option Addr) (n c : Nat) (l' : List ByteArray) (h' : StrsAt w A 40 c l') (hcut : 40 < n) (hle : n ≤ c) (hmax : c ≤ 9223372036854775807) :
    Calls Try.prog 3 #[.slice A n c] w fun e w' => e = .returned (.bool true) ∧ Below w.heap.size w w' := by
  obtain ⟨i0, hi, hz0, hz1, hz2⟩ := info_parts infoStr
  have hl1 : l'.length ≤ 40 := Nat.le_of_eq h'.len
  have hl2 : 40 ≤ l'.length := Nat.le_of_eq h'.len.symm
  have hB0 := Below.refl w.heap.size w
  have HZ0 := Lib.hid hz0; have HZ1 := Lib.hid hz1; have HZ2 := Lib.hid hz2; have HI0 := Lib.hid hi
  clear hz0 hz1 hz2 hi
  go_enter Try.func3, Try.ntmps3
  go_wp2_with fail
  refine (ideal_to hB0).mono ?_
  rintro e w1 ⟨b, m, rfl, hI, hB, hm, hb0⟩
  go_wp2_with fail
  go_loopw [4, 5] (fun u i wr => ∃ (mv : Value) (k : Nat) (kn ms : List ByteArray), u = mv ∧ k ≤ l'.length ∧ i = .int .i64 k ∧ wr.ownsRow w.heap.size 9 1 mv k (ms.map Value.string) ∧ IsIdeal wr b m kn ∧ Below w.heap.size w wr ∧ Hid (ApartAt l' k kn ms)) (fun _ i _ => 40 - (intOf i).toNat)
  case atStart => exact ⟨_, 0, [], [], rfl, Nat.zero_le _, rfl, World.ownsRow_nil _ _ _ _, hI, hB, rfl, rfl, fun j t hj => by omega⟩
  case round =>
    obtain ⟨mv, k, kn, ms, rfl, hk1, rfl, hown, hI3, hB3, HK⟩ := hrel
    by_cases hlt : k < l'.length
    · obtain ⟨a, t, rfl, -, ht, hts, hab, hc⟩ := h'.at_ (Nat.lt_of_lt_of_le hlt hl1)
      have hc3 := (hB3.cell (World.block_lt_of_cell? w _ hc)).trans hc
      have HS := Lib.hid (HK.out.step ht)
      have hkn : kn.length ≤ k := HK.out.short
      clear ht HK
      go_wp2_with fail
      refine (mark_ideal hI3 hts (by omega)).mono ?_
      rintro e w4 ⟨rfl, hI4, hg4⟩
      have hown4 := hown.kept hg4 (.inr (Ne.symm (hI3.ne_row hown (by decide)).2))
      have hB4 := below_of_grown hB3 hg4 hm
      have hb4 : w.heap.size ≤ (w4.alloc (.cells #[.string (mk (kn.idxOf t + 1))] 9)).heap.size := by have := hB4.size; simp; omega
      go_wp2_with (at_builtin; refine wpList_append_own _ rfl (.tmp 20) (.tmp 27) 22 rfl w.heap.size 9 i0 _ 1 16 Try.underlying22 HI0.out HZ0.out HZ1.out HZ2.out rfl (by decide) _ _ _ rfl (hown4.alloc _) ⟨w4.heap.size, 0, none⟩ 1 1 [.string (mk (kn.idxOf t + 1))] rfl rfl (cell_one_new _ _ _) (by simp [Value.oneCell']) (by unfold maxLen; omega) (by omega) hb4 ?_; intro v5 w5 hown5 hg5 _)
      have hne5 := (hI4.alloc (.cells #[.string (mk (kn.idxOf t + 1))] 9)).ne_row (hown4.alloc (.cells #[.string (mk (kn.idxOf t + 1))] 9)) (by decide)
      have hI5 := (hI4.alloc (.cells #[.string (mk (kn.idxOf t + 1))] 9)).kept hg5 hne5.1 hne5.2
      have hB5 := (hB4.alloc hB4.size (.cells #[.string (mk (kn.idxOf t + 1))] 9)).grown hg5 hb4 (fun g hg => ((hown4.alloc (.cells #[.string (mk (kn.idxOf t + 1))] 9)).lt g hg).1)
      have hown5' : w5.ownsRow w.heap.size 9 1 v5 (k + 1) ((ms ++ [mk (kn.idxOf t + 1)]).map Value.string) := by simpa using hown5
      go_roundw
      case rel => exact ⟨_, k + 1, _, _, rfl, by omega, by go_num, hown5', hI5, hB5, HS⟩
      case measure => simp [intOf]; omega
    · have hge : l'.length ≤ k := by omega
      clear hlt
      obtain rfl : k = l'.length := by omega
      have hd : decide ((l'.length : Int) < 40) = false := decide_eq_false (by omega)
      obtain ⟨A2, c2, rfl, hms⟩ := strs_of_row hown (HK.out.sizes (Nat.le_refl _))
      clear hown hI hB hge hk1
      go_wp2_with fail
      have hBw := Below.refl wr.heap.size wr
      obtain ⟨w2, rfl⟩ : ∃ w2 : World, w2 = wr := ⟨_, rfl⟩
      have hL : l'.length ≤ 40 := by omega
      go_loopw [6] (fun i wr => ∃ i' : Nat, i' ≤ l'.length ∧ i = .int .i64 i' ∧ IsIdeal wr b m kn ∧ Below w2.heap.size w2 wr) (fun i _ => 40 - (intOf i).toNat)
      case atStart => exact ⟨0, Nat.zero_le _, rfl, hI3, hBw⟩
      case round =>
        obtain ⟨i', hi1, rfl, hI4, hB4⟩ := hrel
        obtain ⟨w3, rfl⟩ : ∃ w3 : World, w3 = wr := ⟨_, rfl⟩
        by_cases hlt : i' < l'.length
        · have hd2 : decide ((i' : Int) < 40) = true := decide_eq_true (by omega)
          go_wp2_with fail
          go_loopw [7] (fun q wr => ∃ k : Nat, k ≤ l'.length ∧ q = .int .i64 k ∧ IsIdeal wr b m kn ∧ Below w2.heap.size w2 wr) (fun q _ => 40 - (intOf q).toNat)
          case atStart => exact ⟨0, Nat.zero_le _, rfl, hI4, hB4⟩
          case round =>
            obtain ⟨k, hk1, rfl, hI5, hB5⟩ := hrel
            by_cases hlt2 : k < l'.length
            · obtain ⟨a, s, rfl, -, hsi, hss, hab, hc1⟩ := h'.at_ (Nat.lt_of_lt_of_le hlt hl1)
              obtain ⟨a', t, ea, -, htk, hts, hab', hc2⟩ := h'.at_ (Nat.lt_of_lt_of_le hlt2 hl1)
              obtain rfl : a = a' := by injection ea
              obtain ⟨a2, p, rfl, -, hpi, hps, hab2, hc3⟩ := hms.at_ hlt
              obtain ⟨a2', q, ea2, -, hqk, hqs, hab2', hc4⟩ := hms.at_ hlt2
              obtain rfl : a2 = a2' := by injection ea2
              have d1 := (hB5.cell (World.block_lt_of_cell? w2 _ ((hB3.cell (World.block_lt_of_cell? w _ hc1)).trans hc1))).trans ((hB3.cell (World.block_lt_of_cell? w _ hc1)).trans hc1)
              have d2 := (hB5.cell (World.block_lt_of_cell? w2 _ ((hB3.cell (World.block_lt_of_cell? w _ hc2)).trans hc2))).trans ((hB3.cell (World.block_lt_of_cell? w _ hc2)).trans hc2)
              have d3 := (hB5.cell (World.block_lt_of_cell? w2 _ hc3)).trans hc3
              have d4 := (hB5.cell (World.block_lt_of_cell? w2 _ hc4)).trans hc4
              have ht := HK.out.tests hL hlt hlt2 hsi htk hpi hqk
              clear hsi htk hpi hqk hc1 hc2 hc3 hc4 ea ea2
              have z1 : (0 : Int) ≤ (i' : Int) := by omega
              have z2 : (i' : Int) < (l'.length : Int) := by omega
              have z3 : (0 : Int) ≤ (k : Int) := by omega
              have z4 : (k : Int) < (l'.length : Int) := by omega
              have z5 : (i' : Int) < 40 := by omega
              have z6 : (k : Int) < 40 := by omega
              rcases ht with ⟨rfl, rfl, hq⟩ | ⟨e1, e2, hq⟩
              · have HQ := Lib.hid hq
                clear hq
                go_wp2_with fail
                go_region_held3 (fun w' => w'.cell? (a2.add i') = some (.string p) ∧ w'.cell? (a2.add k) = some (.string p) ∧ w'.cell? (a.add i') = some (.string s) ∧ w'.cell? (a.add k) = some (.string s)) (go_keep)
                  ((go_at_call 21; refine (is_cells (a1 := a2.add i') (a2 := a2.add k) (a3 := a.add i') (a4 := a.add k) (v1 := .string p) (v2 := .string p) (v3 := .string s) (v4 := .string s) HQ.out hss (by first | exact hI5 | exact hI5.drewN _ | exact hI5.drew) (by first | exact hB5 | exact below_drewN hB5 _ | exact hB5.drew) (by assumption) (by assumption) (by assumption) (by assumption)).mono ?_; rintro e w6 ⟨rfl, hI6, hB6, f1, f2, f3, f4⟩))
                go_wp2_with fail
                go_roundw
                case rel => exact ⟨k + 1, by omega, by go_num, hI6, hB6⟩
                case measure => simp [intOf]; omega
              · have HQ := Lib.hid hq
                clear hq
                go_wp2_with fail
                go_region_held3 (fun w' => w'.cell? (a2.add i') = some (.string p) ∧ w'.cell? (a2.add k) = some (.string q) ∧ w'.cell? (a.add i') = some (.string s) ∧ w'.cell? (a.add k) = some (.string t)) (go_keep)
                  ((go_at_call 21; refine (is_cells (a1 := a2.add i') (a2 := a2.add k) (a3 := a.add i') (a4 := a.add k) (v1 := .string p) (v2 := .string q) (v3 := .string s) (v4 := .string t) HQ.out hss (by first | exact hI5 | exact hI5.drewN _ | exact hI5.drew) (by first | exact hB5 | exact below_drewN hB5 _ | exact hB5.drew) (by assumption) (by assumption) (by assumption) (by assumption)).mono ?_; rintro e w6 ⟨rfl, hI6, hB6, f1, f2, f3, f4⟩))
                go_wp2_with fail
                go_roundw
                case rel => exact ⟨k + 1, by omega, by go_num, hI6, hB6⟩
                case measure => simp [intOf]; omega
            · have hge : l'.length ≤ k := by omega
              clear hlt2
              go_wp2_with fail
              go_roundw
              case rel => exact ⟨i' + 1, by omega, by go_num, hI5, hB5⟩
              case measure => simp [intOf]; omega
        · have hge : l'.length ≤ i' := by omega
          clear hlt
          go_wp2_with fail
          refine (awake_to (W := w) (hB3.trans (hB4.mono hB3.size))).mono ?_
          rintro e w6 ⟨rfl, hB6⟩
          go_wp2_with fail
          go_ret
          exact ⟨rfl, hB6⟩

theorem marksApart_walk (w : World) (A : Option Addr) (n c : Nat) (l : List ByteArray) (h : StrsAt w A n c l) :
    Calls Try.prog 3 #[.slice A n c] w fun e w' => e = .returned (.bool true) ∧ Below w.heap.size w w' := by
  by_cases h40 : n ≤ 40
  · exact apart_short w A n c l h h40
  · exact apart_long w A n c (l.take 40) (h.take (by omega)) (by omega) h.le (by have := h.max; unfold maxLen at this; omega)
end Go.Proofs.Ytpegefcpanijhaa
