/- The walks of code.Reader: off, Left, fail, Byte, Err, End. Small laws: where two texts meet, and the letters of a kind's fields. Bytes of a message under an ideal book: what was there but the book's map is as it was. -/
import Derived.Test.YtpegefcpanijhaaZD
import Derived.Test.YtpegefcpanijhaaWWords
import Derived.Test.YtpegefcpanijhaaZO
import Derived.Test.YtpegefcpanijhaaZK
section
namespace Go.Proofs.Ytpegefcpanijhaa
set_option linter.unusedVariables false
set_option linter.unusedSimpArgs false
open Go.RowKit Go.Proofs.YtpegefcpanijhaaW.PrintWords PF

theorem bt_drop {s : ByteArray} {p : Nat} {c : UInt8} {r : List UInt8} (h : s.data.toList.drop p = c :: r) : bt s (p : Int) = (c.toNat : Int) := by
  have h1 : s.data.toList[p]? = some c := by
    have := congrArg (·[0]?) h
    simpa using this
  obtain ⟨hl, he⟩ := List.getElem?_eq_some_iff.1 h1
  have hl2 : p < s.size := by
    have : s.data.toList.length = s.size := by rw [Array.length_toList]; rfl
    omega
  unfold bt
  have ht : (p : Int).toNat = p := Int.toNat_natCast p
  rw [dif_pos (by rw [ht]; exact hl2)]
  have : s[(p : Int).toNat]'(by rw [ht]; exact hl2) = c := by
    simp only [ht]
    rw [← he]
    rfl
  rw [this]

/-- A reader of the text s at block b: what is left to read, and the fault. -/
structure RdAt (w : World) (b : Nat) (s : ByteArray) (x : Rd) : Prop where
  blk : w.heap[b]? = some (.cells #[.string s, .int .i64 ((s.size - x.1.length : Nat) : Int), .int .i64 x.2] 108 (0, 0))
  le : x.1.length ≤ s.size
  drop : s.data.toList.drop (s.size - x.1.length) = x.1
  max : s.size ≤ 4611686018427387903

namespace RdAt
variable {w w' : World} {b : Nat} {s : ByteArray} {x : Rd}
theorem c0 (h : RdAt w b s x) : w.cell? ⟨b, 0, none⟩ = some (.string s) := (blk_cell h.blk 0).trans rfl
theorem c1 (h : RdAt w b s x) : w.cell? ⟨b, 1, none⟩ = some (.int .i64 ((s.size - x.1.length : Nat) : Int)) := (blk_cell h.blk 1).trans rfl
theorem c2 (h : RdAt w b s x) : w.cell? ⟨b, 2, none⟩ = some (.int .i64 x.2) := (blk_cell h.blk 2).trans rfl
theorem frozen (h : RdAt w b s x) (i : Nat) : w.frozen? ⟨b, i, none⟩ = false := blk_frozen h.blk i
theorem lt (h : RdAt w b s x) : b < w.heap.size := blk_lt h.blk
theorem drewN (h : RdAt w b s x) (n : Nat) : RdAt (w.drewN n) b s x := ⟨h.blk, h.le, h.drop, h.max⟩
theorem drew (h : RdAt w b s x) : RdAt w.drew b s x := ⟨h.blk, h.le, h.drop, h.max⟩
theorem below (h : RdAt w b s x) (hb : Below w.heap.size w w') : RdAt w' b s x := ⟨blk_below h.blk hb, h.le, h.drop, h.max⟩
theorem alloc (h : RdAt w b s x) (o : Obj) : RdAt (w.alloc o) b s x := ⟨blk_alloc h.blk o, h.le, h.drop, h.max⟩
theorem step {c : UInt8} {r : List UInt8} (h : RdAt w b s (c :: r, 0)) (v : Int) (hv : v = ((s.size - r.length : Nat) : Int)) : RdAt (w.setCell ⟨b, 1, none⟩ (.int .i64 v)) b s (r, 0) := by
  have hle := h.le
  have hd := h.drop
  simp only [List.length_cons] at hle hd
  refine ⟨blk_put h.blk 1 _ (by rw [hv]; rfl), by show r.length ≤ s.size; omega, ?_, h.max⟩
  show s.data.toList.drop (s.size - r.length) = r
  have e : s.size - r.length = (s.size - (r.length + 1)) + 1 := by omega
  rw [e, ← List.drop_drop, hd]
  rfl
theorem fault (h : RdAt w b s x) (e : Int) : RdAt (w.setCell ⟨b, 2, none⟩ (.int .i64 e)) b s (x.1, e) := ⟨blk_put h.blk 2 _ rfl, h.le, h.drop, h.max⟩
end RdAt

theorem off_calls {w : World} {b : Nat} {s : ByteArray} {x : Rd} (h : RdAt w b s x) :
    Calls Try.prog 81 #[.pointer (some ⟨b, 0, none⟩)] w fun e w' => e = .returned (.bool (decide (x.2 ≠ 0))) ∧ w' = w := by
  have c2 := h.c2
  by_cases h2 : x.2 = 0
  · have e1 : (x.2 == 0) = true := by rw [h2]; rfl
    have e2 : (x.2 != 0) = false := by rw [h2]; rfl
    have e3 : decide (x.2 ≠ 0) = false := by rw [h2]; rfl
    rw [e3]
    clear h2
    go_enter Try.func81, Try.ntmps81
    go_wp2_with fail
    go_ret
    exact ⟨rfl, rfl⟩
  · have e1 : (x.2 == 0) = false := beq_eq_false_iff_ne.2 h2
    have e2 : (x.2 != 0) = true := bne_iff_ne.2 h2
    have e3 : decide (x.2 ≠ 0) = true := decide_eq_true h2
    rw [e3]
    clear h2
    go_enter Try.func81, Try.ntmps81
    go_wp2_with fail
    go_ret
    exact ⟨rfl, rfl⟩
theorem off_no {w : World} {b : Nat} {s : ByteArray} {x : Rd} (h : RdAt w b s x) (h2 : x.2 = 0) :
    Calls Try.prog 81 #[.pointer (some ⟨b, 0, none⟩)] w fun e w' => e = .returned (.bool false) ∧ w' = w :=
  (off_calls h).mono fun e w' ⟨he, hw⟩ => ⟨by rw [he, h2]; rfl, hw⟩
theorem off_yes {w : World} {b : Nat} {s : ByteArray} {x : Rd} (h : RdAt w b s x) (h2 : x.2 ≠ 0) :
    Calls Try.prog 81 #[.pointer (some ⟨b, 0, none⟩)] w fun e w' => e = .returned (.bool true) ∧ w' = w :=
  (off_calls h).mono fun e w' ⟨he, hw⟩ => ⟨by rw [he, decide_eq_true h2], hw⟩

theorem left_calls {w : World} {b : Nat} {s : ByteArray} {x : Rd} (h : RdAt w b s x) :
    Calls Try.prog 82 #[.pointer (some ⟨b, 0, none⟩)] w fun e w' => e = .returned (.int .i64 (x.1.length : Int)) ∧ ∃ n, w' = w.drewN n := by
  have c0 := h.c0
  have c1 := h.c1
  have e : (s.size : Int) - ((s.size - x.1.length : Nat) : Int) = (x.1.length : Int) := by have := h.le; omega
  have hm := h.max
  have hl := h.le
  have hw : wrap64 (x.1.length : Int) = (x.1.length : Int) := wr64 (by omega) (by omega)
  generalize ((s.size - x.1.length : Nat) : Int) = p at c1 e
  generalize (x.1.length : Int) = q at e hw ⊢
  clear h hl
  go_enter Try.func82, Try.ntmps82
  go_wp2_with fail
  go_quiet (fail)
  go_wp2_with fail
  go_ret
  exact ⟨by simp [hw], _, rfl⟩

theorem fail_calls {w : World} {b : Nat} {s : ByteArray} {x : Rd} (h : RdAt w b s x) (h2 : x.2 = 0) (k : Int) :
    Calls Try.prog 83 #[.pointer (some ⟨b, 0, none⟩), .int .i64 k] w fun e w' => e = .returned (.tuple #[]) ∧ RdAt w' b s (x.1, k) ∧ Only b w w' := by
  have c2 := h.c2
  have z2 := h.frozen 2
  go_enter Try.func83, Try.ntmps83
  go_wp2_with fail
  refine (off_no h h2).mono ?_
  rintro e w' ⟨rfl, rfl⟩
  go_wp2_with fail
  go_end0
  exact ⟨rfl, h.fault k, (Only.refl _ _).setCell 2 _⟩

theorem err_calls {w : World} {b : Nat} {s : ByteArray} {x : Rd} (h : RdAt w b s x) :
    Calls Try.prog 84 #[.pointer (some ⟨b, 0, none⟩)] w fun e w' => e = .returned (.int .i64 x.2) ∧ w' = w := by
  have c2 := h.c2
  go_enter Try.func84, Try.ntmps84
  go_wp2_with fail
  go_ret
  exact ⟨rfl, rfl⟩

/-- The next byte. -/
def byteR (x : Rd) : Int × Rd := if x.2 = 0 then (match x.1 with | [] => (0, [], 3) | c :: r => ((c.toNat : Int), r, 0)) else (0, x)

theorem byte_off {w : World} {b : Nat} {s : ByteArray} {x : Rd} (h : RdAt w b s x) (h2 : x.2 ≠ 0) :
    Calls Try.prog 99 #[.pointer (some ⟨b, 0, none⟩)] w fun e w' => e = .returned (.int .i64 0) ∧ RdAt w' b s x ∧ Only b w w' := by
  go_enter Try.func99, Try.ntmps99
  go_wp2_with fail
  refine (off_yes h h2).mono ?_
  rintro e w' ⟨rfl, rfl⟩
  go_wp2_with fail
  go_ret
  exact ⟨rfl, h, Only.refl _ _⟩

theorem byte_end {w : World} {b : Nat} {s : ByteArray} (h : RdAt w b s ([], 0)) :
    Calls Try.prog 99 #[.pointer (some ⟨b, 0, none⟩)] w fun e w' => e = .returned (.int .i64 0) ∧ RdAt w' b s ([], 3) ∧ Only b w w' := by
  have c0 := h.c0
  have c1 : w.cell? ⟨b, 1, none⟩ = some (.int .i64 (s.size : Int)) := h.c1
  go_enter Try.func99, Try.ntmps99
  go_wp2_with fail
  refine (off_no h rfl).mono ?_
  rintro e w' ⟨rfl, rfl⟩
  go_wp2_with fail
  go_quiet (fail)
  go_wp2_with fail
  refine (fail_calls (h.drewN _) rfl 3).mono ?_
  rintro e w' ⟨rfl, h', ho⟩
  go_wp2_with fail
  go_ret
  exact ⟨rfl, h', (Only.refl _ _).drewN _ |>.trans ho⟩

theorem byte_more {w : World} {b : Nat} {s : ByteArray} {c : UInt8} {r : List UInt8} (h : RdAt w b s (c :: r, 0)) :
    Calls Try.prog 99 #[.pointer (some ⟨b, 0, none⟩)] w fun e w' => e = .returned (.int .i64 (c.toNat : Int)) ∧ RdAt w' b s (r, 0) ∧ Only b w w' := by
  have c0 := h.c0
  have c1 := h.c1
  have z1 := h.frozen 1
  have hle := h.le
  have hmx := h.max
  simp only [List.length_cons] at c1 hle
  obtain ⟨p, hp⟩ : ∃ p : Nat, s.size = p + (r.length + 1) := ⟨s.size - (r.length + 1), by omega⟩
  have hsz : s.size - (r.length + 1) = p := by omega
  rw [hsz] at c1
  have e1 : ((p : Int) == (s.size : Int)) = false := by rw [beq_eq_false_iff_ne]; omega
  have hv : Hid ((p : Int) + 1 = ((s.size - r.length : Nat) : Int)) := Lib.hid (by omega)
  have hw : wrap64 ((p : Int) + 1) = (p : Int) + 1 := wr64 (by omega) (by omega)
  have hbt : bt s (p : Int) = (c.toNat : Int) := bt_drop (by rw [← hsz]; exact h.drop)
  have hc : wrap64 (c.toNat : Int) = (c.toNat : Int) := by have := c.toNat_lt; exact wr64 (by omega) (by omega)
  have hx := fun h => (bt_at s (p : Int) h).trans hbt
  have z4 : (0 : Int) ≤ (p : Int) := by omega
  have z5 : (p : Int) < (s.size : Int) := by omega
  have hwp : IntKind.i64.wrap (p : Int) = (p : Int) := by rw [IntKind.wrap_i64]; omega
  have hwc : IntKind.i64.wrap (c.toNat : Int) = (c.toNat : Int) := by have := c.toNat_lt; rw [IntKind.wrap_i64]; omega
  clear hp hsz hle hmx hbt
  go_enter Try.func99, Try.ntmps99
  go_wp2_with fail
  refine (off_no h rfl).mono ?_
  rintro e w' ⟨rfl, rfl⟩
  go_wp2_with fail
  go_quiet (fail)
  go_upto_region 7 with (fail)
  have h7 := (h.drewN nq).step _ hv.out
  have ho7 : Only b w' ((w'.drewN nq).setCell ⟨b, 1, none⟩ (.int .i64 ((p : Int) + 1))) := ((Only.refl _ _).drewN nq).setCell 1 _
  generalize (w'.drewN nq).setCell ⟨b, 1, none⟩ (.int .i64 ((p : Int) + 1)) = w7 at h7 ho7 ⊢
  clear c0 c1 z1
  have c0 := h7.c0
  have c1 : w7.cell? ⟨b, 1, none⟩ = some (.int .i64 ((p : Int) + 1)) := by rw [hv.out]; exact h7.c1
  go_quiet (fail)
  go_wp2_with fail
  go_ret
  have hx2 : ∀ h : p < s.size, ((s[p]'h).toNat : Int) = (c.toNat : Int) := fun h => hx h
  exact ⟨by simp only [hx2, hc]; rfl, h7.drewN _, ho7.drewN _⟩

theorem byte_calls {w : World} {b : Nat} {s : ByteArray} {x : Rd} (h : RdAt w b s x) :
    Calls Try.prog 99 #[.pointer (some ⟨b, 0, none⟩)] w fun e w' => e = .returned (.int .i64 (byteR x).1) ∧ RdAt w' b s (byteR x).2 ∧ Only b w w' := by
  obtain ⟨l, e⟩ := x
  by_cases he : e = 0
  · subst he
    cases l with
    | nil => exact byte_end h
    | cons c r => exact byte_more h
  · have : byteR (l, e) = (0, l, e) := by unfold byteR; rw [if_neg he]
    rw [this]
    exact byte_off h he
end Go.Proofs.Ytpegefcpanijhaa
end
section
namespace Go.Proofs.Ytpegefcpanijhaa
set_option linter.unusedVariables false
set_option linter.unusedSimpArgs false
open Go.RowKit Go.Proofs.YtpegefcpanijhaaW.PrintWords PF

theorem bt_up {l : List Fd} {j : Nat} {x : Fd} (h : l[j]? = some x) : bt (bytesUp l) (j : Int) = (x.up.toNat : Int) := by
  have hj : j < l.length := (List.getElem?_eq_some_iff.1 h).1
  refine bt_drop (r := ((l.map Fd.up).drop (j + 1))) ?_
  show ((l.map Fd.up).toArray.toList.drop j) = _
  have : (l.map Fd.up)[j]? = some x.up := by simp [h]
  obtain ⟨h1, h2⟩ := List.getElem?_eq_some_iff.1 this
  rw [List.toList_toArray, List.drop_eq_getElem_cons h1, h2]
theorem up_size (l : List Fd) : (bytesUp l).size = l.length := by simp [bytesUp, ByteArray.size]

theorem size_list (a : ByteArray) : a.data.toList.length = a.size := by rw [Array.length_toList]; rfl
theorem cut_left (a b : ByteArray) : (a ++ b).extract 0 a.size = a := by
  apply ByteArray.ext
  apply Array.toList_inj.1
  rw [ByteArray.data_extract, ByteArray.data_append, Array.toList_extract, Array.toList_append, List.extract_eq_take_drop, List.drop_zero, Nat.sub_zero]
  exact List.take_left' (size_list a)
theorem cut_right (a b : ByteArray) : (a ++ b).extract a.size (a ++ b).size = b := by
  apply ByteArray.ext
  apply Array.toList_inj.1
  rw [ByteArray.data_extract, ByteArray.data_append, Array.toList_extract, Array.toList_append, List.extract_eq_take_drop, List.drop_left' (size_list a), ByteArray.size_append]
  exact List.take_of_length_le (by rw [size_list]; omega)
end Go.Proofs.Ytpegefcpanijhaa
end
section
namespace Go.Proofs.Ytpegefcpanijhaa
set_option linter.unusedVariables false
set_option linter.unusedSimpArgs false
open Go.RowKit Go.Proofs.YtpegefcpanijhaaW.PrintWords PF

theorem grown_trans {w w1 w2 : World} {row : Option Nat} (h : w.grownBy w1 row) (h' : w1.grownBy w2 row) : w.grownBy w2 row :=
  ⟨h'.os.trans h.os, h'.tape.trans h.tape, h'.output.trans h.output, Nat.le_trans h.size h'.size, fun k hk hr => (h'.block k (Nat.lt_of_lt_of_le hk h.size) hr).trans (h.block k hk hr)⟩

set_option maxHeartbeats 1000000 in
theorem bytes_grown {w : World} {b mm : Nat} {l : List ByteArray} (hI : IsIdeal w b mm l) (hl : l.length ≤ 2000) {m : MsgD} {A : Option Addr} {c : Nat} (h : MsgAt w A c m) (hR : rightB m = true) :
    Calls Try.prog 26 #[.pointer (some ⟨b, 0, none⟩), .agg (m.cells A c)] w fun e w' => e = .returned (.tuple #[.string (txt m ++ mk (l.idxOf (txt m) + 1)), .int .i64 0]) ∧ IsIdeal w' b mm (seen l (txt m)) ∧ w.grownBy w' (some mm) := by
  have HR := Lib.hid hR
  have hts := txt_size hR
  clear hR
  have HNE := Lib.hid (mk_ne (l.idxOf (txt m) + 1))
  go_enter Try.func26, Try.ntmps26
  have hb0 : Below w.heap.size w (w.alloc (.cells (m.cells A c) 44)) := (Below.refl _ _).alloc (Nat.le_refl _) _
  obtain ⟨c0, c1, c2, c3, c4, c5, c6, c7, c8, c9, c10, c11, c12, c13⟩ := MsgBox.of (heap_alloc_new w (.cells (m.cells A c) 44))
  go_wp2_with fail
  refine (Right_calls m A c _ h.ptext h.mark (h.list.below hb0)).mono ?_
  rintro e w1 ⟨rfl, hb⟩
  rw [HR.out]
  have hblk := blk_later hb
  have hB1 : Below w.heap.size w w1 := hb0.trans (hb.mono hb0.size)
  clear hb hb0 c0 c1 c2 c3 c4 c5 c6 c7 c8 c9 c10 c11 c12 c13
  obtain ⟨c0, c1, c2, c3, c4, c5, c6, c7, c8, c9, c10, c11, c12, c13⟩ := MsgBox.of hblk
  go_wp2_with fail
  refine (body_calls m A c _ (h.list.below hB1) HR.out).mono ?_
  rintro e w2 ⟨rfl, hb2⟩
  have hB2 : Below w.heap.size w w2 := hB1.trans (hb2.mono hB1.size)
  clear hb2 hB1 hblk c0 c1 c2 c3 c4 c5 c6 c7 c8 c9 c10 c11 c12 c13
  have hI2 := hI.below hB2
  go_wp2_with fail
  refine (mark_ideal hI2 (s := txt m) (by unfold maxLen; omega) hl).mono ?_
  rintro e w3 ⟨rfl, hI3, hg3⟩
  have hms := mk_size ((l.idxOf (txt m) : Int) + 1)
  have hts2 : (bodyL m).length = (txt m).size := by show _ = (bodyL m).toArray.size; simp
  have hsum : ¬ 9223372036854775807 < (bodyL m).length + (mk ((l.idxOf (txt m) : Int) + 1)).size := by omega
  clear hms hts2 hts
  go_wp2_with fail
  · rename (mk _).toList.isEmpty = true => hq
    exact absurd (List.isEmpty_iff.1 hq) HNE.out
  go_ret2
  exact ⟨rfl, hI3, grown_trans (grown_of_below' hB2 _) hg3⟩

end Go.Proofs.Ytpegefcpanijhaa
end
