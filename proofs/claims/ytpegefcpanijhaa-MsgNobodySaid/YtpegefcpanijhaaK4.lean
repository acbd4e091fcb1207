/- The walk of msg.Bytes; of barquelaw17.few and awake. -/
import Derived.Test.YtpegefcpanijhaaK3
import Derived.Test.YtpegefcpanijhaaB5
namespace Go.Proofs.Ytpegefcpanijhaa
set_option linter.unusedVariables false
set_option linter.unusedSimpArgs false
open Go.RowKit Go.Proofs.YtpegefcpanijhaaW.PrintWords PF

/-- A message's text. -/
def txt (m : MsgD) : ByteArray := ⟨(bodyL m).toArray⟩
theorem txt_size {m : MsgD} (h : rightB m = true) : (txt m).size ≤ 20100 := by
  have h1 := preL_length (MsgD.Fit.of h) _ (Nat.le_refl _)
  have h2 := fields_short m.kind
  show (bodyL m).toArray.size ≤ _
  rw [List.size_toArray]
  unfold bodyL
  omega

/-- What a message must be like to be an argument. -/
structure MsgAt (w : World) (A : Option Addr) (c : Nat) (m : MsgD) : Prop where
  ptext : m.ptext.size ≤ maxLen
  mark : m.mark.size ≤ maxLen
  list : ListAt w A c m.list
theorem MsgAt.below {w w' : World} {A : Option Addr} {c : Nat} {m : MsgD} (h : MsgAt w A c m) (hb : Below w.heap.size w w') : MsgAt w' A c m := ⟨h.ptext, h.mark, h.list.below hb⟩

set_option maxHeartbeats 1000000 in
theorem bytes_bad {w : World} (bv : Value) {m : MsgD} {A : Option Addr} {c : Nat} (h : MsgAt w A c m) (hR : rightB m = false) :
    Calls Try.prog 26 #[bv, .agg (m.cells A c)] w fun e w' => e = .returned (.tuple #[.string ⟨#[]⟩, .int .i64 1]) ∧ Below w.heap.size w w' := by
  have HR := Lib.hid hR
  clear hR
  go_enter Try.func26, Try.ntmps26
  have hb0 : Below w.heap.size w (w.alloc (.cells (m.cells A c) 44)) := (Below.refl _ _).alloc (Nat.le_refl _) _
  obtain ⟨c0, c1, c2, c3, c4, c5, c6, c7, c8, c9, c10, c11, c12, c13⟩ := MsgBox.of (heap_alloc_new w (.cells (m.cells A c) 44))
  go_wp2_with fail
  refine (Right_calls m A c _ h.ptext h.mark (h.list.below hb0)).mono ?_
  rintro e w1 ⟨rfl, hb⟩
  rw [HR.out]
  go_wp2_with fail
  go_ret2
  exact ⟨rfl, hb0.trans (hb.mono hb0.size)⟩

set_option maxHeartbeats 1000000 in
theorem bytes_nil {w : World} {m : MsgD} {A : Option Addr} {c : Nat} (h : MsgAt w A c m) (hR : rightB m = true) :
    Calls Try.prog 26 #[.pointer none, .agg (m.cells A c)] w fun e w' => e = .returned (.tuple #[.string ⟨#[]⟩, .int .i64 15]) ∧ Below w.heap.size w w' := by
  have HR := Lib.hid hR
  clear hR
  go_enter Try.func26, Try.ntmps26
  have hb0 : Below w.heap.size w (w.alloc (.cells (m.cells A c) 44)) := (Below.refl _ _).alloc (Nat.le_refl _) _
  obtain ⟨c0, c1, c2, c3, c4, c5, c6, c7, c8, c9, c10, c11, c12, c13⟩ := MsgBox.of (heap_alloc_new w (.cells (m.cells A c) 44))
  go_wp2_with fail
  refine (Right_calls m A c _ h.ptext h.mark (h.list.below hb0)).mono ?_
  rintro e w1 ⟨rfl, hb⟩
  rw [HR.out]
  have hblk := blk_later hb
  have hB1 : Below w.heap.size w w1 := hb0.trans (hb.mono hb0.size)
  clear hb hb0 c0 c1 c2 c3 c4 c5 c6 c7 c8 c9 c10 c11 c12 c13
  obtain ⟨c0, c1, c2, c3, c4, c5, c6, c7, c8, c9, c10, c11, c12, c13⟩ := MsgBox.of hblk
  go_wp2_with fail
  refine (body_calls m A c _ (h.list.below hB1) HR.out).mono ?_
  rintro e w2 ⟨rfl, hb2⟩
  have hB2 : Below w.heap.size w w2 := hB1.trans (hb2.mono hB1.size)
  clear hb2 hB1 hblk c0 c1 c2 c3 c4 c5 c6 c7 c8 c9 c10 c11 c12 c13
  go_wp2_with fail
  refine (mark_nil _ _).mono ?_
  rintro e w3 ⟨rfl, rfl⟩
  go_wp2_with fail
  go_ret2
  exact ⟨rfl, hB2⟩

theorem mk_ne (n : Int) : ¬ (mk n).toList = [] := by
  intro h
  have h1 := mk_size n
  rw [toList_nil] at h
  omega

set_option maxHeartbeats 1000000 in
theorem bytes_ideal {W w : World} {b mm : Nat} {l : List ByteArray} (hI : IsIdeal w b mm l) (hB : Below W.heap.size W w) (hW : W.heap.size ≤ mm) (hl : l.length ≤ 2000) {m : MsgD} {A : Option Addr} {c : Nat} (h : MsgAt w A c m) (hR : rightB m = true) :
    Calls Try.prog 26 #[.pointer (some ⟨b, 0, none⟩), .agg (m.cells A c)] w fun e w' => e = .returned (.tuple #[.string (txt m ++ mk (l.idxOf (txt m) + 1)), .int .i64 0]) ∧ IsIdeal w' b mm (seen l (txt m)) ∧ Below W.heap.size W w' := by
  have HR := Lib.hid hR
  have hts := txt_size hR
  clear hR
  have HNE := Lib.hid (mk_ne (l.idxOf (txt m) + 1))
  go_enter Try.func26, Try.ntmps26
  have hb0 : Below w.heap.size w (w.alloc (.cells (m.cells A c) 44)) := (Below.refl _ _).alloc (Nat.le_refl _) _
  obtain ⟨c0, c1, c2, c3, c4, c5, c6, c7, c8, c9, c10, c11, c12, c13⟩ := MsgBox.of (heap_alloc_new w (.cells (m.cells A c) 44))
  go_wp2_with fail
  refine (Right_calls m A c _ h.ptext h.mark (h.list.below hb0)).mono ?_
  rintro e w1 ⟨rfl, hb⟩
  rw [HR.out]
  have hblk := blk_later hb
  have hB1 : Below w.heap.size w w1 := hb0.trans (hb.mono hb0.size)
  clear hb hb0 c0 c1 c2 c3 c4 c5 c6 c7 c8 c9 c10 c11 c12 c13
  obtain ⟨c0, c1, c2, c3, c4, c5, c6, c7, c8, c9, c10, c11, c12, c13⟩ := MsgBox.of hblk
  go_wp2_with fail
  refine (body_calls m A c _ (h.list.below hB1) HR.out).mono ?_
  rintro e w2 ⟨rfl, hb2⟩
  have hB2 : Below w.heap.size w w2 := hB1.trans (hb2.mono hB1.size)
  clear hb2 hB1 hblk c0 c1 c2 c3 c4 c5 c6 c7 c8 c9 c10 c11 c12 c13
  have hI2 := hI.below hB2
  have hBW : Below W.heap.size W w2 := hB.trans (hB2.mono hB.size)
  go_wp2_with fail
  refine (mark_to hI2 hBW hW (s := txt m) (by unfold maxLen; omega) hl rfl rfl).mono ?_
  rintro e w3 ⟨rfl, hI3, hB3⟩
  have hms := mk_size ((l.idxOf (txt m) : Int) + 1)
  have hts2 : (bodyL m).length = (txt m).size := by show _ = (bodyL m).toArray.size; simp
  have hsum : ¬ 9223372036854775807 < (bodyL m).length + (mk ((l.idxOf (txt m) : Int) + 1)).size := by omega
  clear hms hts2 hts
  go_wp2_with fail
  · rename (mk _).toList.isEmpty = true => hq
    exact absurd (List.isEmpty_iff.1 hq) HNE.out
  go_ret2
  exact ⟨rfl, hI3, hB3⟩
end Go.Proofs.Ytpegefcpanijhaa
