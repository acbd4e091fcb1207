/- The walks of the ideal book: Ideal, none, Ready, Mark, Is: what each call hands back and what becomes of the book. Conditions: texts no longer than a slice's greatest length, fewer than 2000 texts marked. -/
import Derived.Test.YtpegefcpanijhaaB2
import Derived.Test.YtpegefcpanijhaaRows
import Derived.WalkKit
import Derived.WalkSpells
import Derived.WalkLawsBesides
import Derived.Lib.Hide
namespace Go.Proofs.Ytpegefcpanijhaa
set_option linter.unusedVariables false
set_option linter.unusedSimpArgs false
open Go.RowKit Go.Maps Go.WideMaps

noncomputable def idealCells (m : Nat) : Array Value := (Try.zeroCells63.setIfInBounds 74 (.bool true)).setIfInBounds 73 (.map (some m))
theorem ideal72 (m : Nat) : (idealCells m)[72]? = some (.bool false) := by kernel_rfl
theorem ideal73 (m : Nat) : (idealCells m)[73]? = some (.map (some m)) := by kernel_rfl
theorem ideal74 (m : Nat) : (idealCells m)[74]? = some (.bool true) := by kernel_rfl

theorem ideal_new (w : World) :
    Calls Try.prog 19 #[] w fun e w' => e = .returned (.pointer (some ⟨w.heap.size + 1, 0, none⟩)) ∧ w' = (w.alloc (.map #[] 0)).alloc (.cells (idealCells w.heap.size) 63) := by
  have hmm := @run_makeMap Try.prog
  go_enter Try.func19, Try.ntmps19
  go_wp2
  go_ret
  exact ⟨rfl, rfl⟩

theorem none_any (w : World) (b : Nat) (r i : Bool) (hr : w.cell? ⟨b, 72, none⟩ = some (.bool r)) (hi : w.cell? ⟨b, 74, none⟩ = some (.bool i)) :
    Calls Try.prog 41 #[.pointer (some ⟨b, 0, none⟩)] w fun e w' => e = .returned (.bool (!r && !i)) ∧ w = w' := by
  cases r
  all_goals
    go_enter Try.func41, Try.ntmps41
    go_wp2
    go_ret
    exact ⟨by simp, rfl⟩

theorem none_nil (w : World) : Calls Try.prog 41 #[.pointer none] w fun e w' => e = .returned (.bool true) ∧ w = w' := by
  go_enter Try.func41, Try.ntmps41
  go_wp2
  go_ret
  exact ⟨rfl, rfl⟩

/-- Block b is an ideal book whose table is block m and which knows the texts l in this order. -/
structure IsIdeal (w : World) (b m : Nat) (l : List ByteArray) : Prop where
  blk : w.heap[b]? = some (.cells (idealCells m) 63 (0, 0))
  own : ∃ D : DataW Unit, w.ownsMap Try.prog 9 (plainElem Try.prog 3) m l.length D ∧ Shows D l

namespace IsIdeal
variable {w w' : World} {b m : Nat} {l : List ByteArray}
theorem c72 (h : IsIdeal w b m l) : w.cell? ⟨b, 72, none⟩ = some (.bool false) := (cell_of_row w b 72 _ _ _ h.blk).trans (ideal72 m)
theorem c73 (h : IsIdeal w b m l) : w.cell? ⟨b, 73, none⟩ = some (.map (some m)) := (cell_of_row w b 73 _ _ _ h.blk).trans (ideal73 m)
theorem c74 (h : IsIdeal w b m l) : w.cell? ⟨b, 74, none⟩ = some (.bool true) := (cell_of_row w b 74 _ _ _ h.blk).trans (ideal74 m)
theorem lt (h : IsIdeal w b m l) : b < w.heap.size := (Array.getElem?_eq_some_iff.1 h.blk).1
theorem ltm (h : IsIdeal w b m l) : m < w.heap.size := by obtain ⟨D, ho, _⟩ := h.own; exact ho.lt
theorem ne (h : IsIdeal w b m l) : b ≠ m := by
  obtain ⟨D, ⟨es, clock, hb, _⟩, _⟩ := h.own
  rintro rfl
  rw [h.blk] at hb
  cases hb
/-- It lives on while other blocks are written. -/
theorem kept (h : IsIdeal w b m l) {row : Option Nat} (hg : w.grownBy w' row) (hb : some b ≠ row) (hm : some m ≠ row) : IsIdeal w' b m l := by
  refine ⟨(hg.block b h.lt hb).trans h.blk, ?_⟩
  obtain ⟨D, ho, hs⟩ := h.own
  exact ⟨D, ho.kept hg hm, hs⟩
theorem below (h : IsIdeal w b m l) (hb : Below w.heap.size w w') : IsIdeal w' b m l :=
  h.kept (row := none) ⟨hb.os, hb.tape, hb.output, hb.size, fun k hk _ => hb.block k hk⟩ (by simp) (by simp)
theorem drew (h : IsIdeal w b m l) : IsIdeal w.drew b m l := ⟨h.blk, h.own⟩
theorem drewN (h : IsIdeal w b m l) (n : Nat) : IsIdeal (w.drewN n) b m l := ⟨h.blk, h.own⟩
theorem alloc (h : IsIdeal w b m l) (o : Obj) : IsIdeal (w.alloc o) b m l := h.kept (World.grownBy_alloc w o none) (by simp) (by simp)
end IsIdeal

theorem isIdeal_new (w : World) : IsIdeal ((w.alloc (.map #[] 0)).alloc (.cells (idealCells w.heap.size) 63)) (w.heap.size + 1) w.heap.size [] := by
  refine ⟨by simpa using heap_alloc_new (w.alloc (.map #[] 0)) (.cells (idealCells w.heap.size) 63), .map [], ?_, Shows.empty⟩
  exact (World.ownsMap_made w Try.prog 9 (plainElem Try.prog 3)).alloc _

theorem law9 : Keyed Try.prog 9 := string_keyed Try.underlying9
theorem zero3 (w : World) : (zeroValue 3).run Try.prog w = .ok (.int .i64 0) w := by kernel_rfl

theorem numbered_calls (n : Int) (w : World) : Calls Try.prog 43 #[.int .i64 n] w fun e w' => e = .returned (.string (mk n)) ∧ Below w.heap.size w w' := by
  obtain ⟨k, hk⟩ := numbered_is n
  exact PF.marks_numbered.calls k n _ w hk

theorem Number_calls (n : Int) (h0 : 0 ≤ n) (h : n ≤ 9223372036854775807) (w : World) : Calls Try.prog 24 #[.int .i64 n] w fun e w' => e = .returned (.string (mk n)) ∧ Below w.heap.size w w' := by
  obtain ⟨k, hk⟩ := Number_is n h0 h
  exact PF.barqueref03_Number.calls k n _ w hk

theorem Number_calls_any (n : Int) (w : World) : Calls Try.prog 24 #[.int .i64 n] w fun e w' => e = .returned (.string (refMark n)) ∧ Below w.heap.size w w' := by
  obtain ⟨k, hk⟩ := Number_some n
  exact PF.barqueref03_Number.calls k n _ w hk

set_option maxHeartbeats 400000 in
/-- Mark of a text that is known: nothing turns. -/
theorem mark_known {w : World} {b m : Nat} {l : List ByteArray} {s : ByteArray} (h : IsIdeal w b m l) (hs : s.size ≤ maxLen) (hm : s ∈ l) :
    Calls Try.prog 20 #[.pointer (some ⟨b, 0, none⟩), .string s] w fun e w' => e = .returned (.string (mk (l.idxOf s + 1))) ∧ Below w.heap.size w w' := by
  have c72 := h.c72
  have c73 := h.c73
  have c74 := h.c74
  obtain ⟨D, hown, hsh⟩ := h.own
  have hkey := keyOf_string_mk Try.underlying9 hs
  have HH := Lib.hid (hsh.has s)
  have HA := Lib.hid (hsh.at_ s hm)
  have HM := Lib.hid hm
  clear hm hsh h
  go_enter Try.func20, Try.ntmps20
  go_wp2_with (first
    | (go_at_call 41; refine (none_any _ b false true c72 c74).mono ?_; rintro e w' ⟨rfl, rfl⟩)
    | (at_lookup; refine wpList_lookup_own_ok_int _ rfl _ _ 61 rfl 9 3 .i64 law9 Try.underlying61 Try.underlying3 (zero3 _) m l.length D rfl hown _ _ rfl hkey ?_; intro c hat hwc; rw [HH.out, decide_eq_true HM.out]; rw [HA.out] at hat; (injection hat with hat); (injection hat with _ hat); subst hat)
    | (go_at_call 43; refine (numbered_calls _ _).mono ?_; rintro e w' ⟨rfl, hb⟩))
  go_ret
  exact ⟨rfl, hb⟩

set_option maxRecDepth 100000 in
set_option maxHeartbeats 400000 in
/-- Mark of a text that is not known: it gets the next number. -/
theorem mark_new {w : World} {b m : Nat} {l : List ByteArray} {s : ByteArray} (h : IsIdeal w b m l) (hs : s.size ≤ maxLen) (hm : s ∉ l) (hl : l.length ≤ 2000) :
    Calls Try.prog 20 #[.pointer (some ⟨b, 0, none⟩), .string s] w fun e w' => e = .returned (.string (mk (l.length + 1))) ∧ IsIdeal w' b m (l ++ [s]) ∧ w.grownBy w' (some m) := by
  have c72 := h.c72
  have c73 := h.c73
  have c74 := h.c74
  obtain ⟨D, hown, hsh⟩ := h.own
  have hkey := keyOf_string_mk Try.underlying9 hs
  have HH := Lib.hid (hsh.has s)
  have HM := Lib.hid hm
  have HS := Lib.hid hsh
  have HI := Lib.hid h
  have hwv : (Lit.int .i64 ((l.length : Int) + 1)).wf = true := WalkArith.wf_i64 (by omega)
  have HZ := Lib.hid hsh.size
  have hsz : Maps.size D ≤ 2000 := by rw [hsh.size]; exact hl
  clear hm hsh h
  go_enter Try.func20, Try.ntmps20
  go_wp2_with (first
    | (go_at_call 41; refine (none_any _ b false true c72 c74).mono ?_; rintro e w' ⟨rfl, rfl⟩)
    | (at_lookup; refine wpList_lookup_own_ok_int _ rfl _ _ 61 rfl 9 3 .i64 law9 Try.underlying61 Try.underlying3 (zero3 _) m l.length D rfl hown _ _ rfl hkey ?_; intro c hat hwc; rw [HH.out, decide_eq_false HM.out]; clear hat hwc)
    | (at_len; refine wpList_len_own _ rfl _ 61 rfl 9 3 Try.underlying61 (plainElem Try.prog 3) m l.length D rfl hown ?_; rw [HZ.out])
    | (at_mapUpdate; refine wpList_mapUpdate_own _ rfl _ _ _ 61 rfl 9 3 law9 Try.underlying61 _ m l.length D rfl hown (by unfold maxLen; omega) _ _ _ rfl rfl hkey _ [] (plainElem_int Try.underlying3 hwv) ?_; intro w1 hown1 hgrow1)
    | (go_at_call 43; refine (numbered_calls _ _).mono ?_; rintro e w' ⟨rfl, hb⟩))
  go_ret
  refine ⟨rfl, ?_, ?_⟩
  · refine IsIdeal.below ⟨(hgrow1.block b HI.out.lt (by simpa using HI.out.ne)).trans HI.out.blk, _, ?_, HS.out.add HM.out⟩ hb
    simpa using hown1
  · exact ⟨hb.os.trans hgrow1.os, hb.tape.trans hgrow1.tape, hb.output.trans hgrow1.output, Nat.le_trans hgrow1.size hb.size, fun k hk hne => (hb.block k (Nat.lt_of_lt_of_le hk hgrow1.size)).trans (hgrow1.block k hk hne)⟩

theorem grown_of_below' {w w' : World} (h : Below w.heap.size w w') (row : Option Nat) : w.grownBy w' row := ⟨h.os, h.tape, h.output, h.size, fun k hk _ => h.block k hk⟩

/-- Mark, whatever text. -/
theorem mark_ideal {w : World} {b m : Nat} {l : List ByteArray} {s : ByteArray} (h : IsIdeal w b m l) (hs : s.size ≤ maxLen) (hl : l.length ≤ 2000) :
    Calls Try.prog 20 #[.pointer (some ⟨b, 0, none⟩), .string s] w fun e w' => e = .returned (.string (mk (l.idxOf s + 1))) ∧ IsIdeal w' b m (seen l s) ∧ w.grownBy w' (some m) := by
  by_cases hm : s ∈ l
  · refine (mark_known h hs hm).mono fun e w' ⟨he, hb⟩ => ⟨he, ?_, grown_of_below' hb _⟩
    rw [seen_of_mem hm]
    exact h.below hb
  · refine (mark_new h hs hm hl).mono fun e w' ⟨he, hi, hg⟩ => ⟨?_, ?_, hg⟩
    · rw [idxOf_of_not hm]; exact he
    · rw [seen_of_not hm]; exact hi

theorem beq_toList (a b : ByteArray) : (a.toList == b.toList) = decide (a = b) := by
  rw [Bool.eq_iff_iff, beq_iff_eq, decide_eq_true_iff, ByteArray.toList_eq, ByteArray.toList_eq]
  exact ⟨fun h => ByteArray.ext (Array.toList_inj.1 h), fun h => by rw [h]⟩

/-- What an ideal book that knows l answers to 'Is s mark'. -/
def isB (l : List ByteArray) (s mark : ByteArray) : Bool := decide (s ∈ l) && decide (mk (l.idxOf s + 1) = mark)

set_option maxHeartbeats 400000 in
theorem is_known {w : World} {b m : Nat} {l : List ByteArray} {s mark : ByteArray} (h : IsIdeal w b m l) (hs : s.size ≤ maxLen) (hm : s ∈ l) :
    Calls Try.prog 21 #[.pointer (some ⟨b, 0, none⟩), .string s, .string mark] w fun e w' => e = .returned (.bool (decide (mk (l.idxOf s + 1) = mark))) ∧ Below w.heap.size w w' := by
  have c72 := h.c72
  have c73 := h.c73
  have c74 := h.c74
  obtain ⟨D, hown, hsh⟩ := h.own
  have hkey := keyOf_string_mk Try.underlying9 hs
  have HH := Lib.hid (hsh.has s)
  have HA := Lib.hid (hsh.at_ s hm)
  have HM := Lib.hid hm
  clear hm hsh h
  go_enter Try.func21, Try.ntmps21
  go_wp2_with (first
    | (go_at_call 41; refine (none_any _ b false true c72 c74).mono ?_; rintro e w' ⟨rfl, rfl⟩)
    | (at_lookup; refine wpList_lookup_own_ok_int _ rfl _ _ 61 rfl 9 3 .i64 law9 Try.underlying61 Try.underlying3 (zero3 _) m l.length D rfl hown _ _ rfl hkey ?_; intro c hat hwc; rw [HH.out, decide_eq_true HM.out]; rw [HA.out] at hat; (injection hat with hat); (injection hat with _ hat); subst hat)
    | (go_at_call 43; refine (numbered_calls _ _).mono ?_; rintro e w' ⟨rfl, hb⟩))
  go_ret
  refine ⟨?_, hb⟩
  rw [← beq_toList]
  rfl

set_option maxHeartbeats 400000 in
theorem is_new {w : World} {b m : Nat} {l : List ByteArray} {s mark : ByteArray} (h : IsIdeal w b m l) (hs : s.size ≤ maxLen) (hm : s ∉ l) :
    Calls Try.prog 21 #[.pointer (some ⟨b, 0, none⟩), .string s, .string mark] w fun e w' => e = .returned (.bool false) ∧ Below w.heap.size w w' := by
  have c72 := h.c72
  have c73 := h.c73
  have c74 := h.c74
  obtain ⟨D, hown, hsh⟩ := h.own
  have hkey := keyOf_string_mk Try.underlying9 hs
  have HH := Lib.hid (hsh.has s)
  have HM := Lib.hid hm
  clear hm hsh h
  go_enter Try.func21, Try.ntmps21
  go_wp2_with (first
    | (go_at_call 41; refine (none_any _ b false true c72 c74).mono ?_; rintro e w' ⟨rfl, rfl⟩)
    | (at_lookup; refine wpList_lookup_own_ok_int _ rfl _ _ 61 rfl 9 3 .i64 law9 Try.underlying61 Try.underlying3 (zero3 _) m l.length D rfl hown _ _ rfl hkey ?_; intro c hat hwc; rw [HH.out, decide_eq_false HM.out]; clear hat hwc))
  go_ret
  exact ⟨rfl, Below.refl _ _⟩

/-- Is, whatever text and mark: nothing is numbered. -/
theorem is_ideal {w : World} {b m : Nat} {l : List ByteArray} {s mark : ByteArray} (h : IsIdeal w b m l) (hs : s.size ≤ maxLen) :
    Calls Try.prog 21 #[.pointer (some ⟨b, 0, none⟩), .string s, .string mark] w fun e w' => e = .returned (.bool (isB l s mark)) ∧ Below w.heap.size w w' := by
  unfold isB
  by_cases hm : s ∈ l
  · refine (is_known h hs hm).mono fun e w' ⟨he, hb⟩ => ⟨?_, hb⟩
    rw [decide_eq_true hm, Bool.true_and]; exact he
  · refine (is_new h hs hm).mono fun e w' ⟨he, hb⟩ => ⟨?_, hb⟩
    rw [decide_eq_false hm, Bool.false_and]; exact he

theorem ready_any (w : World) (b : Nat) (r i : Bool) (hr : w.cell? ⟨b, 72, none⟩ = some (.bool r)) (hi : w.cell? ⟨b, 74, none⟩ = some (.bool i)) :
    Calls Try.prog 30 #[.pointer (some ⟨b, 0, none⟩)] w fun e w' => e = .returned (.bool (r || i)) ∧ w = w' := by
  go_enter Try.func30, Try.ntmps30
  go_wp2_with (go_at_call 41; refine (none_any _ b r i hr hi).mono ?_; rintro e w' ⟨rfl, rfl⟩)
  go_ret
  exact ⟨by cases r <;> cases i <;> rfl, rfl⟩

theorem ready_nil (w : World) : Calls Try.prog 30 #[.pointer none] w fun e w' => e = .returned (.bool false) ∧ w = w' := by
  go_enter Try.func30, Try.ntmps30
  go_wp2_with (go_at_call 41; refine (none_nil _).mono ?_; rintro e w' ⟨rfl, rfl⟩)
  go_ret
  exact ⟨rfl, rfl⟩

theorem mark_nil (w : World) (s : ByteArray) : Calls Try.prog 20 #[.pointer none, .string s] w fun e w' => e = .returned (.string ⟨#[]⟩) ∧ w = w' := by
  go_enter Try.func20, Try.ntmps20
  go_wp2_with (go_at_call 41; refine (none_nil _).mono ?_; rintro e w' ⟨rfl, rfl⟩)
  go_ret
  exact ⟨rfl, rfl⟩

theorem is_nil (w : World) (s mark : ByteArray) : Calls Try.prog 21 #[.pointer none, .string s, .string mark] w fun e w' => e = .returned (.bool false) ∧ w = w' := by
  go_enter Try.func21, Try.ntmps21
  go_wp2_with (go_at_call 41; refine (none_nil _).mono ?_; rintro e w' ⟨rfl, rfl⟩)
  go_ret
  exact ⟨rfl, rfl⟩

theorem mark_zero (w : World) (b : Nat) (s : ByteArray) (hr : w.cell? ⟨b, 72, none⟩ = some (.bool false)) (hi : w.cell? ⟨b, 74, none⟩ = some (.bool false)) :
    Calls Try.prog 20 #[.pointer (some ⟨b, 0, none⟩), .string s] w fun e w' => e = .returned (.string ⟨#[]⟩) ∧ w = w' := by
  go_enter Try.func20, Try.ntmps20
  go_wp2_with (go_at_call 41; refine (none_any _ b false false hr hi).mono ?_; rintro e w' ⟨rfl, rfl⟩)
  go_ret
  exact ⟨rfl, rfl⟩

theorem is_zero (w : World) (b : Nat) (s mark : ByteArray) (hr : w.cell? ⟨b, 72, none⟩ = some (.bool false)) (hi : w.cell? ⟨b, 74, none⟩ = some (.bool false)) :
    Calls Try.prog 21 #[.pointer (some ⟨b, 0, none⟩), .string s, .string mark] w fun e w' => e = .returned (.bool false) ∧ w = w' := by
  go_enter Try.func21, Try.ntmps21
  go_wp2_with (go_at_call 41; refine (none_any _ b false false hr hi).mono ?_; rintro e w' ⟨rfl, rfl⟩)
  go_ret
  exact ⟨rfl, rfl⟩
end Go.Proofs.Ytpegefcpanijhaa
