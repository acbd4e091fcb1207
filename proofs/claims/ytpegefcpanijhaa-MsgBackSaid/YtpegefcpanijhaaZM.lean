/- Messages in plain Lean: which fields a kind has; which messages may be; and the contracts of form, Fields, Has, fits, IndexByte and has in these words. Messages as data; which may be, in plain Lean; the walks of msg.has and of the closure of msg.Right. The walk of msg.part: whether a message's part may be. The walk of msg.list: whether a message's list may be. The walk of msg.Right: which messages may be. The document's Has, fits and number in the words of M1. -/
import Derived.Test.YtpegefcpanijhaaF5
import Derived.Test.YtpegefcpanijhaaShelf
import Derived.Test.YtpegefcpanijhaaRows
import Derived.WalkKit
import Derived.WalkSpells
import Derived.WalkLawsBesides
import Derived.Lib.Hide
import Derived.Outline
import Derived.Deep.QuietTactic
import Derived.BigQuiet
section
namespace Go.Proofs.Ytpegefcpanijhaa
set_option linter.unusedVariables false
set_option linter.unusedSimpArgs false
open Go.RowKit Go.Proofs.YtpegefcpanijhaaW.PrintWords PF

/-- The fields that a kind may have: Ballot, Gen, Basis, Floor, Top, Read, Mark, Part, List. -/
inductive Fd where
  | b | g | s | f | t | r | m | p | l
  deriving DecidableEq
/-- A field's letter in the code. -/
def Fd.lo : Fd → UInt8
  | .b => 98 | .g => 103 | .s => 115 | .f => 102 | .t => 116 | .r => 114 | .m => 109 | .p => 112 | .l => 108
/-- A field's letter in the document's answer. -/
def Fd.up : Fd → UInt8
  | .b => 66 | .g => 71 | .s => 83 | .f => 70 | .t => 84 | .r => 82 | .m => 77 | .p => 80 | .l => 76

/-- Which fields a kind has, in order. -/
def fieldsOf (k : Int) : List Fd :=
  if k = 1 then [.b] else if k = 2 then [.b, .f, .t, .l] else if k = 3 then [.b] else if k = 4 then [.b, .g, .s, .m, .p] else if k = 5 then [.b, .g, .t, .r, .m]
  else if k = 6 then [.b, .g, .m] else if k = 7 then [.b, .g, .m] else if k = 8 then [.b, .g, .m] else if k = 9 then [.g, .m] else if k = 10 then [.f, .t]
  else if k = 11 then [.b, .r] else if k = 12 then [.b, .f, .t, .r] else if k = 13 then [.g, .m, .p] else if k = 14 then [.g, .m, .p] else if k = 15 then [.b, .f]
  else if k = 16 then [.b, .f, .t] else if k = 17 then [.b, .g] else []

def bytesLo (l : List Fd) : ByteArray := ⟨(l.map Fd.lo).toArray⟩
def bytesUp (l : List Fd) : ByteArray := ⟨(l.map Fd.up).toArray⟩

/-- A kind is one of the seventeen, or has no fields. -/
theorem kind_cases (k : Int) : k = 1 ∨ k = 2 ∨ k = 3 ∨ k = 4 ∨ k = 5 ∨ k = 6 ∨ k = 7 ∨ k = 8 ∨ k = 9 ∨ k = 10 ∨ k = 11 ∨ k = 12 ∨ k = 13 ∨ k = 14 ∨ k = 15 ∨ k = 16 ∨ k = 17 ∨ (fieldsOf k = [] ∧ k ≠ 1 ∧ k ≠ 2 ∧ k ≠ 3 ∧ k ≠ 4 ∧ k ≠ 5 ∧ k ≠ 6 ∧ k ≠ 7 ∧ k ≠ 8 ∧ k ≠ 9 ∧ k ≠ 10 ∧ k ≠ 11 ∧ k ≠ 12 ∧ k ≠ 13 ∧ k ≠ 14 ∧ k ≠ 15 ∧ k ≠ 16 ∧ k ≠ 17) := by
  by_cases h1 : k = 1; · exact .inl h1
  by_cases h2 : k = 2; · simp [h2]
  by_cases h3 : k = 3; · simp [h3]
  by_cases h4 : k = 4; · simp [h4]
  by_cases h5 : k = 5; · simp [h5]
  by_cases h6 : k = 6; · simp [h6]
  by_cases h7 : k = 7; · simp [h7]
  by_cases h8 : k = 8; · simp [h8]
  by_cases h9 : k = 9; · simp [h9]
  by_cases h10 : k = 10; · simp [h10]
  by_cases h11 : k = 11; · simp [h11]
  by_cases h12 : k = 12; · simp [h12]
  by_cases h13 : k = 13; · simp [h13]
  by_cases h14 : k = 14; · simp [h14]
  by_cases h15 : k = 15; · simp [h15]
  by_cases h16 : k = 16; · simp [h16]
  by_cases h17 : k = 17; · simp [h17]
  have : fieldsOf k = [] := by simp [fieldsOf, h1, h2, h3, h4, h5, h6, h7, h8, h9, h10, h11, h12, h13, h14, h15, h16, h17]
  simp [this, h1, h2, h3, h4, h5, h6, h7, h8, h9, h10, h11, h12, h13, h14, h15, h16, h17]

theorem form_is (k : Int) : msg_form.f 5 k = some (bytesLo (fieldsOf k)) := by
  rcases kind_cases k with rfl | rfl | rfl | rfl | rfl | rfl | rfl | rfl | rfl | rfl | rfl | rfl | rfl | rfl | rfl | rfl | rfl | ⟨h0, h1, h2, h3, h4, h5, h6, h7, h8, h9, h10, h11, h12, h13, h14, h15, h16, h17⟩
  any_goals rfl
  rw [h0]
  simp [msg_form.f, msg_form.j0, msg_form.j1, bytesLo, h1, h2, h3, h4, h5, h6, h7, h8, h9, h10, h11, h12, h13, h14, h15, h16, h17]

theorem Fields_is (k : Int) : barqueref17_Fields.f 5 k = some (bytesUp (fieldsOf k)) := by
  rcases kind_cases k with rfl | rfl | rfl | rfl | rfl | rfl | rfl | rfl | rfl | rfl | rfl | rfl | rfl | rfl | rfl | rfl | rfl | ⟨h0, h1, h2, h3, h4, h5, h6, h7, h8, h9, h10, h11, h12, h13, h14, h15, h16, h17⟩
  any_goals rfl
  rw [h0]
  simp [barqueref17_Fields.f, barqueref17_Fields.j0, barqueref17_Fields.j1, barqueref17_Fields.j2, bytesUp, h1, h2, h3, h4, h5, h6, h7, h8, h9, h10, h11, h12, h13, h14, h15, h16, h17]

theorem form_calls (k : Int) (w : World) : Calls Try.prog 57 #[.int .i64 k] w fun e w' => e = .returned (.string (bytesLo (fieldsOf k))) ∧ Below w.heap.size w w' :=
  (msg_form.calls 5 k _ w (form_is k)).mono fun e w' ⟨he, hd⟩ => ⟨he, hd.below⟩
theorem Fields_calls (k : Int) (w : World) : Calls Try.prog 50 #[.int .i64 k] w fun e w' => e = .returned (.string (bytesUp (fieldsOf k))) ∧ Below w.heap.size w w' :=
  (barqueref17_Fields.calls 5 k _ w (Fields_is k)).mono fun e w' ⟨he, hd⟩ => ⟨he, hd.below⟩
end Go.Proofs.Ytpegefcpanijhaa
end
section
namespace Go.Proofs.Ytpegefcpanijhaa
set_option linter.unusedVariables false
set_option linter.unusedSimpArgs false
open Go.RowKit Go.Proofs.YtpegefcpanijhaaW.PrintWords PF

/-- A message. -/
structure MsgD where
  kind : Int
  frm : Int
  dst : Int
  ballot : Int
  gen : Int
  basis : Int
  floor : Int
  top : Int
  read : Int
  mark : ByteArray
  pat : Int
  pof : Int
  ptext : ByteArray
  list : List S80

def I64 (n : Int) : Prop := -9223372036854775808 ≤ n ∧ n ≤ 9223372036854775807

/-- A message's numbers are ints, its texts are texts. -/
structure MsgD.Ok (m : MsgD) : Prop where
  kind : I64 m.kind
  frm : I64 m.frm
  dst : I64 m.dst
  ballot : I64 m.ballot
  gen : I64 m.gen
  basis : I64 m.basis
  floor : I64 m.floor
  top : I64 m.top
  read : I64 m.read
  mark : m.mark.size ≤ maxLen
  pat : I64 m.pat
  pof : I64 m.pof
  ptext : m.ptext.size ≤ maxLen
  list : ∀ x ∈ m.list, I64 x.f0 ∧ I64 x.f1 ∧ x.f2.size ≤ maxLen

/-- A slice value (its address, its capacity) that reads as the entries l. -/
structure ListAt (w : World) (A : Option Addr) (c : Nat) (l : List S80) : Prop where
  le : l.length ≤ c
  max : c ≤ maxLen
  cells : Kd.C k80 w A l.length l

theorem ListAt.below {w w' : World} {A : Option Addr} {c : Nat} {l : List S80} (h : ListAt w A c l) (hb : Below w.heap.size w w') : ListAt w' A c l := ⟨h.le, h.max, Kd.C_below h.cells hb⟩

/-- The number that a field is, of those that are numbers. -/
def MsgD.num (m : MsgD) : Fd → Int
  | .b => m.ballot | .g => m.gen | .s => m.basis | .f => m.floor | .t => m.top | .r => m.read | _ => 0

def fitsB (n : Int) : Bool := decide (0 ≤ n) && decide (n ≤ 4611686018427387903)
def hasB (k : Int) (x : Fd) : Bool := decide (x ∈ fieldsOf k)
def numB (k : Int) (x : Fd) (n : Int) : Bool := if hasB k x then fitsB n else decide (n = 0)
def headB (m : MsgD) : Bool := decide (fieldsOf m.kind ≠ []) && (decide (0 ≤ m.frm) && decide (m.frm ≤ 255)) && (decide (0 ≤ m.dst) && decide (m.dst ≤ 255))
def numsB (m : MsgD) : Bool := numB m.kind .b m.ballot && numB m.kind .g m.gen && numB m.kind .s m.basis && numB m.kind .f m.floor && numB m.kind .t m.top && numB m.kind .r m.read
def markB (m : MsgD) : Bool := if hasB m.kind .m then decide (m.mark.size = 32) else decide (m.mark.size = 0)
def partB (m : MsgD) : Bool := if hasB m.kind .p then decide (0 ≤ m.pat) && decide (0 ≤ m.pof) && decide (m.pat ≤ 4096) && decide (m.pof ≤ 4096) && decide (m.ptext.size ≤ 1024) else decide (m.pat = 0) && decide (m.pof = 0) && decide (m.ptext.size = 0)
def entB (x : S80) : Bool := fitsB x.f0 && fitsB x.f1 && decide (x.f2.size = 32)
/-- The entry at a place may stand there. -/
def entAt (l : List S80) (i : Nat) : Bool := match l[i]? with
  | none => true
  | some x => entB x && (if i = 0 then true else match l[i - 1]? with | none => true | some y => decide (y.f0 < x.f0))
def listB (m : MsgD) : Bool := if hasB m.kind .l then decide (m.list.length ≤ 64) && (List.range m.list.length).all (entAt m.list) else decide (m.list.length = 0)
/-- May a message be? -/
def rightB (m : MsgD) : Bool := headB m && numsB m && markB m && partB m && listB m

theorem indexByte_nonneg (l : List UInt8) (c : UInt8) : (-1 ≤ Lib.indexByte l c) ∧ (0 ≤ Lib.indexByte l c ↔ c ∈ l) := by
  induction l with
  | nil => simp [Lib.indexByte]
  | cons b l ih =>
    obtain ⟨h1, h2⟩ := ih
    unfold Lib.indexByte
    by_cases e : b = c
    · subst e; simp
    · have e' : ¬ c = b := fun h => e h.symm
      simp only [beq_iff_eq, e, if_false]
      split
      · rename_i hn
        have : ¬ c ∈ l := fun hm => by have := h2.2 hm; omega
        simp [e', this]
      · rename_i hn
        refine ⟨by omega, ?_⟩
        rw [List.mem_cons]
        simp only [e', false_or]
        rw [← h2]
        omega

theorem lo_inj {x y : Fd} (h : x.lo = y.lo) : x = y := by cases x <;> cases y <;> first | rfl | (exact absurd h (by decide))
theorem lo_mem (x : Fd) (l : List Fd) : x.lo ∈ (bytesLo l).data.toList ↔ x ∈ l := by
  simp only [bytesLo, List.mem_map]
  exact ⟨fun ⟨y, hy, e⟩ => by rw [← lo_inj e]; exact hy, fun h => ⟨x, h, rfl⟩⟩

theorem has_quiet (k : Int) (x : Fd) (c : Int) (hc : c = x.lo.toNat) (w : World) : Calls Try.prog 59 #[.int .i64 k, .int .u8 c] w fun e w' => e = .returned (.bool (hasB k x)) ∧ Drawn0 w w' := by
  have hx : c.toNat.toUInt8 = x.lo := by subst hc; cases x <;> rfl
  have hm := (indexByte_nonneg (bytesLo (fieldsOf k)).data.toList x.lo).2
  rw [lo_mem] at hm
  have HE := Lib.hid (show decide (0 ≤ Lib.indexByte (bytesLo (fieldsOf k)).data.toList x.lo) = hasB k x by
    unfold hasB
    rw [Bool.eq_iff_iff, decide_eq_true_iff, decide_eq_true_iff]; exact hm)
  clear hm hc
  have HX := Lib.hid hx
  clear hx
  go_enter Try.func59, Try.ntmps59
  go_wp2_with fail
  refine (msg_form.calls 5 k _ w (form_is k)).mono ?_
  rintro e w1 ⟨rfl, hd⟩
  go_wp2_with fail
  refine (Try.strings_IndexByte _ _ _).mono ?_
  rintro e w2 ⟨rfl, rfl⟩
  rw [HX.out]
  go_wp2_with fail
  go_ret
  exact ⟨by rw [← HE.out]; rfl, hd⟩

theorem has_calls (k : Int) (x : Fd) (c : Int) (hc : c = x.lo.toNat) (w : World) : Calls Try.prog 59 #[.int .i64 k, .int .u8 c] w fun e w' => e = .returned (.bool (hasB k x)) ∧ Below w.heap.size w w' :=
  (has_quiet k x c hc w).mono fun e w' ⟨he, hd⟩ => ⟨he, hd.below⟩

/-- The closure of msg.Right: may a number stand in a field? -/
theorem number1_calls (k : Int) (x : Fd) (c n : Int) (hc : c = x.lo.toNat) (B : Nat) (w : World) (h0 : w.cell? ⟨B, 0, none⟩ = some (.int .i64 k)) :
    Calls Try.prog 58 #[.int .u8 c, .int .i64 n, .pointer (some ⟨B, 0, none⟩)] w fun e w' => e = .returned (.bool (numB k x n)) ∧ Below w.heap.size w w' := by
  have HC := Lib.hid hc
  clear hc
  cases hh : hasB k x
  · have HH := Lib.hid hh
    have HE := Lib.hid (show (n == 0) = numB k x n by unfold numB; rw [hh]; simp [Bool.beq_eq_decide_eq])
    clear hh
    go_enter Try.func58, Try.ntmps58
    go_wp2_with fail
    refine (has_calls k x c HC.out w).mono ?_
    rintro e w1 ⟨rfl, hb⟩
    rw [HH.out]
    go_wp2_with fail
    go_ret
    exact ⟨by rw [← HE.out]; rfl, hb⟩
  · have HH := Lib.hid hh
    have HE := Lib.hid (show numB k x n = fitsB n by unfold numB; rw [hh]; rfl)
    clear hh
    by_cases hn : 0 ≤ n
    · have HF := Lib.hid (show decide (n ≤ 4611686018427387903) = numB k x n by rw [HE.out]; unfold fitsB; rw [decide_eq_true hn, Bool.true_and])
      go_enter Try.func58, Try.ntmps58
      go_wp2_with fail
      refine (has_calls k x c HC.out w).mono ?_
      rintro e w1 ⟨rfl, hb⟩
      rw [HH.out]
      go_wp2_with fail
      go_ret
      exact ⟨by rw [← HF.out]; rfl, hb⟩
    · have HF := Lib.hid (show numB k x n = false by rw [HE.out]; unfold fitsB; rw [decide_eq_false hn, Bool.false_and])
      go_enter Try.func58, Try.ntmps58
      go_wp2_with fail
      refine (has_calls k x c HC.out w).mono ?_
      rintro e w1 ⟨rfl, hb⟩
      rw [HH.out]
      go_wp2_with fail
      go_ret
      exact ⟨by rw [HF.out]; rfl, hb⟩
end Go.Proofs.Ytpegefcpanijhaa
end
section
namespace Go.Proofs.Ytpegefcpanijhaa
set_option linter.unusedVariables false
set_option linter.unusedSimpArgs false
open Go.RowKit Go.Proofs.YtpegefcpanijhaaW.PrintWords PF

/-- A message's cells; as a value. -/
abbrev MsgD.cells (m : MsgD) (A : Option Addr) (c : Nat) : Array Value :=
  #[.int .i64 m.kind, .int .i64 m.frm, .int .i64 m.dst, .int .i64 m.ballot, .int .i64 m.gen, .int .i64 m.basis, .int .i64 m.floor, .int .i64 m.top, .int .i64 m.read, .string m.mark, .int .i64 m.pat, .int .i64 m.pof, .string m.ptext, .slice A m.list.length c]

theorem blk_later {w w2 : World} {cs : Array Value} {t : Nat} (hb : Below (w.alloc (.cells cs t)).heap.size (w.alloc (.cells cs t)) w2) : w2.heap[w.heap.size]? = some (.cells cs t (0, 0)) := (hb.block _ (by simp)).trans (heap_alloc_new w _)

theorem ret_bool {a b : Bool} (h : a = b) : Ending.returned (.bool a) = Ending.returned (.bool b) := by rw [h]
theorem toList_nil (s : ByteArray) : s.toList = [] ↔ s.size = 0 := by
  rw [ByteArray.toList_eq]
  constructor
  · intro h
    have := congrArg List.length h
    simpa using this
  · intro h
    exact List.eq_nil_of_length_eq_zero (by simpa using h)

/-- The part's copy, in whatever world comes later. -/
theorem part_cells {m : MsgD} {A : Option Addr} {c : Nat} {w w1 : World} (hb : Below ((w.alloc (.cells (m.cells A c) 44)).alloc (.cells #[.int .i64 m.pat, .int .i64 m.pof, .string m.ptext] 41)).heap.size ((w.alloc (.cells (m.cells A c) 44)).alloc (.cells #[.int .i64 m.pat, .int .i64 m.pof, .string m.ptext] 41)) w1) :
    Below w.heap.size w w1 ∧ w1.cell? ⟨w.heap.size + 1, 0, none⟩ = some (.int .i64 m.pat) ∧ w1.cell? ⟨w.heap.size + 1, 1, none⟩ = some (.int .i64 m.pof) ∧ w1.cell? ⟨w.heap.size + 1, 2, none⟩ = some (.string m.ptext) := by
  have h1 := blk_later hb
  have e1 : (w.alloc (.cells (m.cells A c) 44)).heap.size = w.heap.size + 1 := by simp
  rw [e1] at h1
  have hB : Below w.heap.size w ((w.alloc (.cells (m.cells A c) 44)).alloc (.cells #[.int .i64 m.pat, .int .i64 m.pof, .string m.ptext] 41)) := ((Below.refl _ _).alloc (Nat.le_refl _) _).alloc (by simp) _
  exact ⟨hB.trans (hb.mono hB.size), cell_of_row _ _ 0 _ _ _ h1, cell_of_row _ _ 1 _ _ _ h1, cell_of_row _ _ 2 _ _ _ h1⟩

set_option maxHeartbeats 1000000 in
theorem part_no (m : MsgD) (A : Option Addr) (c : Nat) (w : World) (hh : hasB m.kind .p = false) :
    Calls Try.prog 60 #[.agg (m.cells A c)] w fun e w' => e = .returned (.bool (partB m)) ∧ Below w.heap.size w w' := by
  have HH := Lib.hid hh
  clear hh
  go_enter Try.func60, Try.ntmps60
  go_wp2_with fail
  refine (has_calls m.kind .p _ rfl _).mono ?_
  rintro e w1 ⟨rfl, hb⟩
  obtain ⟨hB, c0, c1, c2⟩ := part_cells hb
  rw [HH.out]
  go_wp2_with fail
  all_goals
    go_ret
    refine ⟨ret_bool ?_, hB⟩
    unfold partB
    rw [HH.out]
    simp_all [toList_nil]

set_option maxHeartbeats 1000000 in
theorem part_yes (m : MsgD) (A : Option Addr) (c : Nat) (w : World) (hm : m.ptext.size ≤ maxLen) (hh : hasB m.kind .p = true) :
    Calls Try.prog 60 #[.agg (m.cells A c)] w fun e w' => e = .returned (.bool (partB m)) ∧ Below w.heap.size w w' := by
  unfold maxLen at hm
  have HH := Lib.hid hh
  clear hh
  go_enter Try.func60, Try.ntmps60
  go_wp2_with fail
  refine (has_calls m.kind .p _ rfl _).mono ?_
  rintro e w1 ⟨rfl, hb⟩
  obtain ⟨hB, c0, c1, c2⟩ := part_cells hb
  clear hb
  rw [HH.out]
  go_wp2_with fail
  all_goals
    go_ret
    refine ⟨ret_bool ?_, hB⟩
    unfold partB
    rw [HH.out, Bool.eq_iff_iff]
    simp
    try omega

theorem part_calls (m : MsgD) (A : Option Addr) (c : Nat) (w : World) (hm : m.ptext.size ≤ maxLen) :
    Calls Try.prog 60 #[.agg (m.cells A c)] w fun e w' => e = .returned (.bool (partB m)) ∧ Below w.heap.size w w' := by
  cases hh : hasB m.kind .p
  · exact part_no m A c w hh
  · exact part_yes m A c w hm hh
end Go.Proofs.Ytpegefcpanijhaa
end
section
namespace Go.Proofs.Ytpegefcpanijhaa
set_option linter.unusedVariables false
set_option linter.unusedSimpArgs false
open Go.RowKit Go.Proofs.YtpegefcpanijhaaW.PrintWords PF

theorem ListAt.at_ {w w' : World} {A : Option Addr} {c : Nat} {l : List S80} (h : ListAt w A c l) (hb : Below w.heap.size w w') {k : Nat} (hk : k < l.length) :
    ∃ (ad : Addr) (x : S80), A = some ad ∧ l[k]? = some x ∧ w'.cell? (ad.add (k * 3)) = some (.int .i64 x.f0) ∧ w'.cell? ⟨(ad.add (k * 3)).block, (ad.add (k * 3)).off + 1, none⟩ = some (.int .i64 x.f1) ∧ w'.cell? ⟨(ad.add (k * 3)).block, (ad.add (k * 3)).off + 2, none⟩ = some (.string x.f2) := by
  obtain ⟨ad, e, c0, c1, c2⟩ := at_T80 h.cells (k : Int) (by omega) (by omega)
  rw [Int.toNat_natCast] at c0 c1 c2
  refine ⟨ad, l[k], e, List.getElem?_eq_getElem hk, ?_, ?_, ?_⟩
  all_goals
    have hr : rd_T80 l (k : Int) = l[k] := by simp [rd_T80, List.getD_eq_getElem?_getD, List.getElem?_eq_getElem hk]
    rw [hr] at c0 c1 c2
  · exact (hb.cell (World.block_lt_of_cell? w _ c0)).trans c0
  · exact (hb.cell (World.block_lt_of_cell? w _ c1)).trans c1
  · exact (hb.cell (World.block_lt_of_cell? w _ c2)).trans c2

theorem msg_blk {m : MsgD} {A : Option Addr} {c : Nat} {w w1 : World} (hb : Below (w.alloc (.cells (m.cells A c) 44)).heap.size (w.alloc (.cells (m.cells A c) 44)) w1) :
    Below w.heap.size w w1 ∧ w1.heap[w.heap.size]? = some (.cells (m.cells A c) 44 (0, 0)) := by
  have hB : Below w.heap.size w (w.alloc (.cells (m.cells A c) 44)) := (Below.refl _ _).alloc (Nat.le_refl _) _
  exact ⟨hB.trans (hb.mono hB.size), blk_later hb⟩

theorem listB_false {m : MsgD} (hh : hasB m.kind .l = true) {k : Nat} (hk : k < m.list.length) (he : entAt m.list k = false) : listB m = false := by
  unfold listB
  rw [hh, if_pos rfl]
  have : (List.range m.list.length).all (entAt m.list) = false := by
    rw [List.all_eq_false]
    exact ⟨k, List.mem_range.2 hk, by rw [he]; simp⟩
  rw [this, Bool.and_false]
theorem listB_true {m : MsgD} (hh : hasB m.kind .l = true) (hl : m.list.length ≤ 64) (he : ∀ j, j < m.list.length → entAt m.list j = true) : listB m = true := by
  unfold listB
  rw [hh, if_pos rfl, decide_eq_true hl, Bool.true_and, List.all_eq_true]
  exact fun j hj => he j (List.mem_range.1 hj)
theorem entAt_first {l : List S80} {x : S80} (h : l[0]? = some x) : entAt l 0 = entB x := by
  unfold entAt
  rw [h]
  simp
theorem entAt_next {l : List S80} {k : Nat} {x y : S80} (h : l[k + 1]? = some x) (hy : l[k]? = some y) : entAt l (k + 1) = (entB x && decide (y.f0 < x.f0)) := by
  unfold entAt
  rw [h]
  simp [hy]
theorem entAt_bad {l : List S80} {k : Nat} {x : S80} (h : l[k]? = some x) (he : entB x = false) : entAt l k = false := by
  unfold entAt
  rw [h]
  simp [he]

set_option maxHeartbeats 1000000 in
theorem list_no (m : MsgD) (A : Option Addr) (c : Nat) (w : World) (hh : hasB m.kind .l = false) :
    Calls Try.prog 61 #[.agg (m.cells A c)] w fun e w' => e = .returned (.bool (listB m)) ∧ Below w.heap.size w w' := by
  have HH := Lib.hid hh
  clear hh
  go_enter Try.func61, Try.ntmps61
  go_wp2_with fail
  refine (has_calls m.kind .l _ rfl _).mono ?_
  rintro e w1 ⟨rfl, hb⟩
  obtain ⟨hB, hblk⟩ := msg_blk hb
  have c13 := cell_of_row _ _ 13 _ _ _ hblk
  clear hb hblk
  rw [HH.out]
  go_wp2_with fail
  go_ret
  refine ⟨ret_bool ?_, hB⟩
  unfold listB
  rw [HH.out, Bool.eq_iff_iff]
  simp

set_option maxHeartbeats 1000000 in
theorem list_long (m : MsgD) (A : Option Addr) (c : Nat) (w : World) (hh : hasB m.kind .l = true) (hm : m.list.length ≤ 9223372036854775807) (hl : 64 < m.list.length) :
    Calls Try.prog 61 #[.agg (m.cells A c)] w fun e w' => e = .returned (.bool (listB m)) ∧ Below w.heap.size w w' := by
  have HH := Lib.hid hh
  clear hh
  go_enter Try.func61, Try.ntmps61
  go_wp2_with fail
  refine (has_calls m.kind .l _ rfl _).mono ?_
  rintro e w1 ⟨rfl, hb⟩
  obtain ⟨hB, hblk⟩ := msg_blk hb
  have c13 := cell_of_row _ _ 13 _ _ _ hblk
  clear hb hblk
  rw [HH.out]
  go_wp2_with fail
  go_ret
  refine ⟨ret_bool ?_, hB⟩
  unfold listB
  rw [HH.out, Bool.eq_iff_iff]
  simp
  omega

set_option maxHeartbeats 2000000 in
theorem list_short (m : MsgD) (A : Option Addr) (c : Nat) (w : World) (hh : hasB m.kind .l = true) (hL : ListAt w A c m.list) (hl : m.list.length ≤ 64) :
    Calls Try.prog 61 #[.agg (m.cells A c)] w fun e w' => e = .returned (.bool (listB m)) ∧ Below w.heap.size w w' := by
  have HH := Lib.hid hh
  clear hh
  go_enter Try.func61, Try.ntmps61
  go_wp2_with fail
  refine (has_calls m.kind .l _ rfl _).mono ?_
  rintro e w1 ⟨rfl, hb⟩
  obtain ⟨hB, hblk⟩ := msg_blk hb
  have c13 := cell_of_row _ _ 13 _ _ _ hblk
  have HBLK := Lib.hid hblk
  clear hb hblk
  rw [HH.out]
  go_wp2_with fail
  go_loopw [20] (fun i wr => ∃ k : Nat, k ≤ m.list.length ∧ i = .int .i64 k ∧ Below w1.heap.size w1 wr ∧ Hid (∀ j, j < k → entAt m.list j = true)) (fun i _ => 64 - (intOf i).toNat)
  case atStart => exact ⟨0, Nat.zero_le _, rfl, Below.refl _ _, fun j hj => by omega⟩
  case round =>
    obtain ⟨k, hk, rfl, hBr, HA⟩ := hrel
    by_cases hlt : k < m.list.length
    · obtain ⟨ad, x, rfl, hx, d0, d1, d2⟩ := hL.at_ (hB.trans (hBr.mono hB.size)) hlt
      have d13 : wr.cell? ⟨w.heap.size, 13, none⟩ = some (.slice (some ad) m.list.length c) := ((hBr.cell (World.block_lt_of_cell? w1 _ c13)).trans c13).trans rfl
      have n13 := (World.cell?_alloc_lt wr (.cells #[.int .i64 x.f0, .int .i64 x.f1, .string x.f2] 80) _ (World.block_lt_of_cell? wr _ d13)).trans d13
      have HX := Lib.hid hx
      clear hx
      by_cases b1 : x.f0 < 0
      · have HE := Lib.hid (listB_false HH.out hlt (entAt_bad HX.out (by simp [entB, fitsB]; omega)))
        go_wp2_with fail
        go_quiet (fail)
        go_wp2_with fail
        go_ret
        exact ⟨ret_bool HE.out.symm, hB.trans (pw_below_drewN ((hBr.alloc hBr.size _).mono hB.size) _)⟩
      by_cases b2 : 4611686018427387903 < x.f0
      · have HE := Lib.hid (listB_false HH.out hlt (entAt_bad HX.out (by simp [entB, fitsB]; omega)))
        have z1 : decide (x.f0 < 0) = false := decide_eq_false (by omega)
        go_wp2_with fail
        go_quiet (fail)
        go_wp2_with fail
        go_ret
        exact ⟨ret_bool HE.out.symm, hB.trans (pw_below_drewN ((hBr.alloc hBr.size _).mono hB.size) _)⟩
      by_cases b3 : x.f1 < 0
      · have HE := Lib.hid (listB_false HH.out hlt (entAt_bad HX.out (by simp [entB, fitsB]; omega)))
        have z1 : decide (x.f0 < 0) = false := decide_eq_false (by omega)
        have z2 : decide (4611686018427387903 < x.f0) = false := decide_eq_false (by omega)
        go_wp2_with fail
        go_quiet (fail)
        go_wp2_with fail
        go_ret
        exact ⟨ret_bool HE.out.symm, hB.trans (pw_below_drewN ((hBr.alloc hBr.size _).mono hB.size) _)⟩
      by_cases b4 : 4611686018427387903 < x.f1
      · have HE := Lib.hid (listB_false HH.out hlt (entAt_bad HX.out (by simp [entB, fitsB]; omega)))
        have z1 : decide (x.f0 < 0) = false := decide_eq_false (by omega)
        have z2 : decide (4611686018427387903 < x.f0) = false := decide_eq_false (by omega)
        have z3 : decide (x.f1 < 0) = false := decide_eq_false (by omega)
        go_wp2_with fail
        go_quiet (fail)
        go_wp2_with fail
        go_ret
        exact ⟨ret_bool HE.out.symm, hB.trans (pw_below_drewN ((hBr.alloc hBr.size _).mono hB.size) _)⟩
      by_cases b5 : x.f2.size = 32
      · have HB : entB x = true := by simp [entB, fitsB]; omega
        have z5 : ((x.f2.size : Int) != 32) = false := by rw [b5]; rfl
        have z1 : decide (x.f0 < 0) = false := decide_eq_false (by omega)
        have z2 : decide (4611686018427387903 < x.f0) = false := decide_eq_false (by omega)
        have z3 : decide (x.f1 < 0) = false := decide_eq_false (by omega)
        have z4 : decide (4611686018427387903 < x.f1) = false := decide_eq_false (by omega)
        have HB' := Lib.hid HB
        have hB5 := Lib.hid b5
        clear HB b5
        rcases Nat.eq_zero_or_pos k with hk0 | hk0
        · have HA' : Hid (∀ j, j < k + 1 → entAt m.list j = true) := fun j hj => by
            have e0 : k = 0 := hk0
            subst e0
            obtain rfl : j = 0 := by omega
            rw [entAt_first HX.out]; exact HB'.out
          have hk1 : (k : Int) ≤ 0 := by omega
          have z7 : decide (0 < (k : Int)) = false := decide_eq_false (by omega)
          have z8 : decide (0 < k) = false := decide_eq_false (by omega)
          clear hk0
          go_wp2_with fail
          go_quiet (fail)
          go_wp2_with fail
          go_roundw
          case rel => exact ⟨k + 1, by omega, by go_num, pw_below_drewN (hBr.alloc hBr.size _) _, HA'⟩
          case measure => simp [intOf]; omega
        · obtain ⟨p, rfl⟩ : ∃ p, k = p + 1 := ⟨k - 1, by omega⟩
          obtain ⟨ad', y, ea, hy, e0, e1, e2⟩ := hL.at_ (hB.trans (hBr.mono hB.size)) (k := p) (by omega)
          obtain rfl : ad = ad' := by injection ea
          have HY := Lib.hid hy
          have n0 := (World.cell?_alloc_lt wr (.cells #[.int .i64 x.f0, .int .i64 x.f1, .string x.f2] 80) _ (World.block_lt_of_cell? wr _ e0)).trans e0
          have q3 : IntKind.i64.wrap ((p : Int) + 1 - 1) = (p : Int) := by rw [IntKind.wrap_i64]; omega
          have q4 : (0 : Int) < (p : Int) + 1 := by omega
          clear hy ea e1 e2
          have q1 : (0 : Int) ≤ (p : Int) := by omega
          have q2 : (p : Int) < (m.list.length : Int) := by omega
          by_cases b6 : x.f0 ≤ y.f0
          · have HE := Lib.hid (listB_false HH.out hlt (by rw [entAt_next HX.out HY.out]; simp; omega))
            go_wp2_with fail
            go_quiet (fail)
            go_wp2_with fail
            go_ret
            exact ⟨ret_bool HE.out.symm, hB.trans (pw_below_drewN ((hBr.alloc hBr.size _).mono hB.size) _)⟩
          · have z6 : decide (x.f0 ≤ y.f0) = false := decide_eq_false (by omega)
            have HA' : Hid (∀ j, j < p + 1 + 1 → entAt m.list j = true) := fun j hj => by
              by_cases e : j = p + 1
              · subst e
                rw [entAt_next HX.out HY.out, HB'.out]; simp; omega
              · exact HA.out j (by omega)
            go_wp2_with fail
            go_quiet (fail)
            go_wp2_with fail
            go_roundw
            case rel => exact ⟨p + 1 + 1, by omega, by go_num, pw_below_drewN (hBr.alloc hBr.size _) _, HA'⟩
            case measure => simp [intOf]; omega
      · have HE := Lib.hid (listB_false HH.out hlt (entAt_bad HX.out (by simp [entB, fitsB]; omega)))
        have z1 : decide (x.f0 < 0) = false := decide_eq_false (by omega)
        have z2 : decide (4611686018427387903 < x.f0) = false := decide_eq_false (by omega)
        have z3 : decide (x.f1 < 0) = false := decide_eq_false (by omega)
        have z4 : decide (4611686018427387903 < x.f1) = false := decide_eq_false (by omega)
        have z5 : ((x.f2.size : Int) != 32) = true := by rw [bne_iff_ne]; omega
        go_wp2_with fail
        go_quiet (fail)
        go_wp2_with fail
        go_ret
        exact ⟨ret_bool HE.out.symm, hB.trans (pw_below_drewN ((hBr.alloc hBr.size _).mono hB.size) _)⟩
    · have HE := Lib.hid (listB_true HH.out hl (fun j hj => HA.out j (by omega)))
      go_wp2_with fail
      go_ret
      exact ⟨ret_bool HE.out.symm, hB.trans (hBr.mono hB.size)⟩
end Go.Proofs.Ytpegefcpanijhaa
end
section
namespace Go.Proofs.Ytpegefcpanijhaa
set_option linter.unusedVariables false
set_option linter.unusedSimpArgs false
open Go.RowKit Go.Proofs.YtpegefcpanijhaaW.PrintWords PF

theorem list_calls (m : MsgD) (A : Option Addr) (c : Nat) (w : World) (hL : ListAt w A c m.list) :
    Calls Try.prog 61 #[.agg (m.cells A c)] w fun e w' => e = .returned (.bool (listB m)) ∧ Below w.heap.size w w' := by
  have hm : m.list.length ≤ 9223372036854775807 := by have h1 := hL.le; have h2 := hL.max; unfold maxLen at h2; omega
  cases hh : hasB m.kind .l
  · exact list_no m A c w hh
  · by_cases hl : m.list.length ≤ 64
    · exact list_short m A c w hh hL hl
    · exact list_long m A c w hh hm (by omega)

theorem bytesLo_nil (l : List Fd) : (bytesLo l).toList = [] ↔ l = [] := by
  rw [toList_nil]
  cases l with
  | nil => exact ⟨fun _ => rfl, fun _ => rfl⟩
  | cons a l =>
    simp [bytesLo, ByteArray.size]

set_option maxHeartbeats 2000000 in
set_option maxRecDepth 100000 in
/-- A head that may not be. -/
theorem Right_no (m : MsgD) (A : Option Addr) (c : Nat) (w : World) (hh : headB m = false) :
    Calls Try.prog 36 #[.agg (m.cells A c)] w fun e w' => e = .returned (.bool (rightB m)) ∧ Below w.heap.size w w' := by
  have HR := Lib.hid (show rightB m = false by unfold rightB; rw [hh]; rfl)
  have HH := Lib.hid hh
  clear hh
  have HN := Lib.hid (bytesLo_nil (fieldsOf m.kind))
  by_cases hz : (bytesLo (fieldsOf m.kind)).toList = []
  · go_enter Try.func36, Try.ntmps36
    go_wp2_with fail
    refine (form_calls m.kind _).mono ?_
    rintro e w1 ⟨rfl, hb⟩
    obtain ⟨hB, hblk⟩ := msg_blk hb
    clear hb hblk
    go_wp2_with fail
    go_ret
    exact ⟨ret_bool HR.out.symm, hB⟩
  · by_cases g : m.frm < 0 ∨ 255 < m.frm
    · go_enter Try.func36, Try.ntmps36
      go_wp2_with fail
      refine (form_calls m.kind _).mono ?_
      rintro e w1 ⟨rfl, hb⟩
      obtain ⟨hB, hblk⟩ := msg_blk hb
      have c1 := cell_of_row _ _ 1 _ _ _ hblk
      clear hb hblk
      rcases g with g | g
      · go_wp2_with fail
        go_ret
        exact ⟨ret_bool HR.out.symm, hB⟩
      · have g0 : ¬ m.frm < 0 := by omega
        go_wp2_with fail
        go_ret
        exact ⟨ret_bool HR.out.symm, hB⟩
    · have g1 : ¬ m.frm < 0 := fun h => g (.inl h)
      have g2 : ¬ 255 < m.frm := fun h => g (.inr h)
      have g3 : m.dst < 0 ∨ 255 < m.dst := by
        have h1 := HH.out
        have h2 : fieldsOf m.kind ≠ [] := fun h => hz (HN.out.2 h)
        unfold headB at h1
        simp [h2] at h1
        omega
      clear g
      go_enter Try.func36, Try.ntmps36
      go_wp2_with fail
      refine (form_calls m.kind _).mono ?_
      rintro e w1 ⟨rfl, hb⟩
      obtain ⟨hB, hblk⟩ := msg_blk hb
      have c1 := cell_of_row _ _ 1 _ _ _ hblk
      have c2 := cell_of_row _ _ 2 _ _ _ hblk
      clear hb hblk
      rcases g3 with g | g
      · go_wp2_with fail
        go_ret
        exact ⟨ret_bool HR.out.symm, hB⟩
      · have g0 : ¬ m.dst < 0 := by omega
        go_wp2_with fail
        go_ret
        exact ⟨ret_bool HR.out.symm, hB⟩

/-- A message's box. -/
structure MsgBox (w : World) (b : Nat) (m : MsgD) (A : Option Addr) (c : Nat) : Prop where
  c0 : w.cell? ⟨b, 0, none⟩ = some (.int .i64 m.kind)
  c1 : w.cell? ⟨b, 1, none⟩ = some (.int .i64 m.frm)
  c2 : w.cell? ⟨b, 2, none⟩ = some (.int .i64 m.dst)
  c3 : w.cell? ⟨b, 3, none⟩ = some (.int .i64 m.ballot)
  c4 : w.cell? ⟨b, 4, none⟩ = some (.int .i64 m.gen)
  c5 : w.cell? ⟨b, 5, none⟩ = some (.int .i64 m.basis)
  c6 : w.cell? ⟨b, 6, none⟩ = some (.int .i64 m.floor)
  c7 : w.cell? ⟨b, 7, none⟩ = some (.int .i64 m.top)
  c8 : w.cell? ⟨b, 8, none⟩ = some (.int .i64 m.read)
  c9 : w.cell? ⟨b, 9, none⟩ = some (.string m.mark)
  c10 : w.cell? ⟨b, 10, none⟩ = some (.int .i64 m.pat)
  c11 : w.cell? ⟨b, 11, none⟩ = some (.int .i64 m.pof)
  c12 : w.cell? ⟨b, 12, none⟩ = some (.string m.ptext)
  c13 : w.cell? ⟨b, 13, none⟩ = some (.slice A m.list.length c)

theorem MsgBox.of {w : World} {b : Nat} {m : MsgD} {A : Option Addr} {c : Nat} (h : w.heap[b]? = some (.cells (m.cells A c) 44 (0, 0))) : MsgBox w b m A c :=
  ⟨cell_of_row _ _ 0 _ _ _ h, cell_of_row _ _ 1 _ _ _ h, cell_of_row _ _ 2 _ _ _ h, cell_of_row _ _ 3 _ _ _ h, cell_of_row _ _ 4 _ _ _ h, cell_of_row _ _ 5 _ _ _ h, cell_of_row _ _ 6 _ _ _ h, cell_of_row _ _ 7 _ _ _ h, cell_of_row _ _ 8 _ _ _ h, cell_of_row _ _ 9 _ _ _ h, cell_of_row _ _ 10 _ _ _ h, cell_of_row _ _ 11 _ _ _ h, cell_of_row _ _ 12 _ _ _ h, cell_of_row _ _ 13 _ _ _ h⟩

theorem blk_still {w w' : World} {b : Nat} {cs : Array Value} {t : Nat} (h : w.heap[b]? = some (.cells cs t (0, 0))) (hb : Below w.heap.size w w') : w'.heap[b]? = some (.cells cs t (0, 0)) := by
  have hl : b < w.heap.size := by
    rw [Array.getElem?_eq_some_iff] at h
    exact h.1
  exact (hb.block b hl).trans h

set_option maxHeartbeats 4000000 in
set_option maxRecDepth 100000 in
theorem Right_yes (m : MsgD) (A : Option Addr) (c : Nat) (w : World) (hm : m.ptext.size ≤ maxLen) (hm2 : m.mark.size ≤ maxLen) (hL : ListAt w A c m.list) (hh : headB m = true) :
    Calls Try.prog 36 #[.agg (m.cells A c)] w fun e w' => e = .returned (.bool (rightB m)) ∧ Below w.heap.size w w' := by
  have HR := Lib.hid (show rightB m = (numB m.kind .b m.ballot && numB m.kind .g m.gen && numB m.kind .s m.basis && numB m.kind .f m.floor && numB m.kind .t m.top && numB m.kind .r m.read && markB m && partB m && listB m) by unfold rightB; rw [hh]; rfl)
  have hz : ¬ (bytesLo (fieldsOf m.kind)).toList = [] := by
    rw [bytesLo_nil]
    intro h
    unfold headB at hh
    simp [h] at hh
  have HZ := Lib.hid hz
  obtain ⟨g1, g2, g3, g4⟩ : ¬ m.frm < 0 ∧ ¬ 255 < m.frm ∧ ¬ m.dst < 0 ∧ ¬ 255 < m.dst := by
    unfold headB at hh
    simp at hh
    omega
  clear hh hz
  go_enter Try.func36, Try.ntmps36
  go_wp2_with fail
  refine (form_calls m.kind _).mono ?_
  rintro e w1 ⟨rfl, hb⟩
  obtain ⟨hB, hblk⟩ := msg_blk hb
  have HBLK := Lib.hid hblk
  obtain ⟨c0, c1, c2, c3, c4, c5, c6, c7, c8, c9, -, -, -, -⟩ := MsgBox.of hblk
  clear hb hblk
  go_wp2_with fail
  · rename_i h
    exfalso
    rcases h with (((h | h) | h) | h) | h
    · exact HZ.out (List.isEmpty_iff.1 h)
    all_goals omega
  clear g1 g2 g3 g4 HZ
  have HB1 := Lib.hid hB
  clear hB
  refine (number1_calls m.kind .b _ _ rfl _ _ c0).mono ?_
  rintro e w2 ⟨rfl, hb⟩
  have hblk := blk_still HBLK.out hb
  have HBLK2 := Lib.hid hblk
  have HB2 := Lib.hid (HB1.out.trans (hb.mono HB1.out.size))
  clear hb HBLK HB1 c0 c1 c2 c3 c4 c5 c6 c7 c8 c9
  obtain ⟨c0, c1, c2, c3, c4, c5, c6, c7, c8, c9, -, -, -, -⟩ := MsgBox.of hblk
  clear hblk
  rcases (Bool.eq_false_or_eq_true (numB m.kind .b m.ballot)).symm with hn | hn
  · have HN2 := Lib.hid hn
    rw [hn]
    go_wp2_with fail
    go_ret
    exact ⟨ret_bool (by rw [HR.out, HN2.out]; simp), HB2.out⟩
  have HN2 := Lib.hid hn
  rw [hn]
  clear hn
  go_wp2_with fail
  refine (number1_calls m.kind .g _ _ rfl _ _ c0).mono ?_
  rintro e w3 ⟨rfl, hb⟩
  have hblk := blk_still HBLK2.out hb
  have HBLK3 := Lib.hid hblk
  have HB3 := Lib.hid (HB2.out.trans (hb.mono HB2.out.size))
  clear hb HBLK2 HB2 c0 c1 c2 c3 c4 c5 c6 c7 c8 c9
  obtain ⟨c0, c1, c2, c3, c4, c5, c6, c7, c8, c9, -, -, -, -⟩ := MsgBox.of hblk
  clear hblk
  rcases (Bool.eq_false_or_eq_true (numB m.kind .g m.gen)).symm with hn | hn
  · have HN3 := Lib.hid hn
    rw [hn]
    go_wp2_with fail
    go_ret
    exact ⟨ret_bool (by rw [HR.out, HN2.out, HN3.out]; simp), HB3.out⟩
  have HN3 := Lib.hid hn
  rw [hn]
  clear hn
  go_wp2_with fail
  refine (number1_calls m.kind .s _ _ rfl _ _ c0).mono ?_
  rintro e w4 ⟨rfl, hb⟩
  have hblk := blk_still HBLK3.out hb
  have HBLK4 := Lib.hid hblk
  have HB4 := Lib.hid (HB3.out.trans (hb.mono HB3.out.size))
  clear hb HBLK3 HB3 c0 c1 c2 c3 c4 c5 c6 c7 c8 c9
  obtain ⟨c0, c1, c2, c3, c4, c5, c6, c7, c8, c9, -, -, -, -⟩ := MsgBox.of hblk
  clear hblk
  rcases (Bool.eq_false_or_eq_true (numB m.kind .s m.basis)).symm with hn | hn
  · have HN4 := Lib.hid hn
    rw [hn]
    go_wp2_with fail
    go_ret
    exact ⟨ret_bool (by rw [HR.out, HN2.out, HN3.out, HN4.out]; simp), HB4.out⟩
  have HN4 := Lib.hid hn
  rw [hn]
  clear hn
  go_wp2_with fail
  refine (number1_calls m.kind .f _ _ rfl _ _ c0).mono ?_
  rintro e w5 ⟨rfl, hb⟩
  have hblk := blk_still HBLK4.out hb
  have HBLK5 := Lib.hid hblk
  have HB5 := Lib.hid (HB4.out.trans (hb.mono HB4.out.size))
  clear hb HBLK4 HB4 c0 c1 c2 c3 c4 c5 c6 c7 c8 c9
  obtain ⟨c0, c1, c2, c3, c4, c5, c6, c7, c8, c9, -, -, -, -⟩ := MsgBox.of hblk
  clear hblk
  rcases (Bool.eq_false_or_eq_true (numB m.kind .f m.floor)).symm with hn | hn
  · have HN5 := Lib.hid hn
    rw [hn]
    go_wp2_with fail
    go_ret
    exact ⟨ret_bool (by rw [HR.out, HN2.out, HN3.out, HN4.out, HN5.out]; simp), HB5.out⟩
  have HN5 := Lib.hid hn
  rw [hn]
  clear hn
  go_wp2_with fail
  refine (number1_calls m.kind .t _ _ rfl _ _ c0).mono ?_
  rintro e w6 ⟨rfl, hb⟩
  have hblk := blk_still HBLK5.out hb
  have HBLK6 := Lib.hid hblk
  have HB6 := Lib.hid (HB5.out.trans (hb.mono HB5.out.size))
  clear hb HBLK5 HB5 c0 c1 c2 c3 c4 c5 c6 c7 c8 c9
  obtain ⟨c0, c1, c2, c3, c4, c5, c6, c7, c8, c9, -, -, -, -⟩ := MsgBox.of hblk
  clear hblk
  rcases (Bool.eq_false_or_eq_true (numB m.kind .t m.top)).symm with hn | hn
  · have HN6 := Lib.hid hn
    rw [hn]
    go_wp2_with fail
    go_ret
    exact ⟨ret_bool (by rw [HR.out, HN2.out, HN3.out, HN4.out, HN5.out, HN6.out]; simp), HB6.out⟩
  have HN6 := Lib.hid hn
  rw [hn]
  clear hn
  go_wp2_with fail
  refine (number1_calls m.kind .r _ _ rfl _ _ c0).mono ?_
  rintro e w7 ⟨rfl, hb⟩
  have hblk := blk_still HBLK6.out hb
  have HBLK7 := Lib.hid hblk
  have HB7 := Lib.hid (HB6.out.trans (hb.mono HB6.out.size))
  clear hb HBLK6 HB6 c0 c1 c2 c3 c4 c5 c6 c7 c8 c9
  obtain ⟨c0, c1, c2, c3, c4, c5, c6, c7, c8, c9, -, -, -, -⟩ := MsgBox.of hblk
  clear hblk
  rcases (Bool.eq_false_or_eq_true (numB m.kind .r m.read)).symm with hn | hn
  · have HN7 := Lib.hid hn
    rw [hn]
    go_wp2_with fail
    go_ret
    exact ⟨ret_bool (by rw [HR.out, HN2.out, HN3.out, HN4.out, HN5.out, HN6.out, HN7.out]; simp), HB7.out⟩
  have HN7 := Lib.hid hn
  rw [hn]
  clear hn
  go_wp2_with fail
  refine (has_calls m.kind .m _ rfl _).mono ?_
  rintro e w8 ⟨rfl, hb⟩
  have hblk := blk_still HBLK7.out hb
  have HBLK8 := Lib.hid hblk
  have HB8 := Lib.hid (HB7.out.trans (hb.mono HB7.out.size))
  clear hb HBLK7 HB7 c0 c1 c2 c3 c4 c5 c6 c7 c8 c9
  obtain ⟨c0, c1, c2, c3, c4, c5, c6, c7, c8, c9, -, -, -, -⟩ := MsgBox.of hblk
  clear hblk
  have HRR : Hid (rightB m = (markB m && partB m && listB m)) := Lib.hid (by rw [HR.out, HN2.out, HN3.out, HN4.out, HN5.out, HN6.out, HN7.out]; simp)
  clear HR HN2 HN3 HN4 HN5 HN6 HN7
  have hm3 : m.mark.size ≤ 9223372036854775807 := by unfold maxLen at hm2; omega
  clear hm2
  rcases (Bool.eq_false_or_eq_true (hasB m.kind .m)).symm with hh | hh
  · have HH := Lib.hid hh
    rw [hh]
    clear hh
    go_wp2_with fail
    refine (has_calls m.kind .m _ rfl _).mono ?_
    rintro e w9 ⟨rfl, hb⟩
    have hblk := blk_still HBLK8.out hb
    have HBLK9 := Lib.hid hblk
    have HB9 := Lib.hid (HB8.out.trans (hb.mono HB8.out.size))
    clear hb HBLK8 HB8 c0 c1 c2 c3 c4 c5 c6 c7 c8 c9
    obtain ⟨c0, c1, c2, c3, c4, c5, c6, c7, c8, c9, c10, c11, c12, c13⟩ := MsgBox.of hblk
    clear hblk
    rw [HH.out]
    by_cases hs : m.mark.toList = []
    · have HM := Lib.hid (show markB m = true by unfold markB; rw [HH.out, (toList_nil _).1 hs]; rfl)
      go_wp2_with fail
      refine (part_calls m A c _ hm).mono ?_
      rintro e u1 ⟨rfl, hb⟩
      have hblk := blk_still HBLK9.out hb
      have HBLKu := Lib.hid hblk
      have HBu := Lib.hid (HB9.out.trans (hb.mono HB9.out.size))
      clear hb HBLK9 HB9 c0 c1 c2 c3 c4 c5 c6 c7 c8 c9 c10 c11 c12 c13
      obtain ⟨c0, c1, c2, c3, c4, c5, c6, c7, c8, c9, c10, c11, c12, c13⟩ := MsgBox.of hblk
      clear hblk
      rcases (Bool.eq_false_or_eq_true (partB m)).symm with hp | hp
      · have HP := Lib.hid hp
        rw [hp]
        clear hp
        go_wp2_with fail
        go_ret
        exact ⟨ret_bool (by rw [HRR.out, HM.out, HP.out]; simp), HBu.out⟩
      · have HP := Lib.hid hp
        rw [hp]
        clear hp
        go_wp2_with fail
        refine (list_calls m A c _ (hL.below HBu.out)).mono ?_
        rintro e u2 ⟨rfl, hb⟩
        go_wp2_with fail
        go_ret
        exact ⟨ret_bool (by rw [HRR.out, HM.out, HP.out]; simp), HBu.out.trans (hb.mono HBu.out.size)⟩
    · have HM := Lib.hid (show markB m = false by unfold markB; rw [HH.out, if_neg (by simp)]; exact decide_eq_false (fun h => hs ((toList_nil _).2 h)))
      have HS := Lib.hid hs
      go_wp2_with fail
      · go_ret
        exact ⟨ret_bool (by rw [HRR.out, HM.out]; rfl), HB9.out⟩
      all_goals exact absurd (by first | assumption | simp_all) HS.out
  · have HH := Lib.hid hh
    rw [hh]
    clear hh
    by_cases hs : m.mark.size = 32
    · have HM := Lib.hid (show markB m = true by unfold markB; rw [HH.out, if_pos rfl]; exact decide_eq_true hs)
      have z5 : ((m.mark.size : Int) != 32) = false := by rw [hs]; rfl
      have HS := Lib.hid hs
      clear hs
      go_wp2_with fail
      refine (has_calls m.kind .m _ rfl _).mono ?_
      rintro e w9 ⟨rfl, hb⟩
      have hblk := blk_still HBLK8.out hb
      have HBLK9 := Lib.hid hblk
      have HB9 := Lib.hid (HB8.out.trans (hb.mono HB8.out.size))
      clear hb HBLK8 HB8 c0 c1 c2 c3 c4 c5 c6 c7 c8 c9
      obtain ⟨c0, c1, c2, c3, c4, c5, c6, c7, c8, c9, c10, c11, c12, c13⟩ := MsgBox.of hblk
      clear hblk
      rw [HH.out]
      go_wp2_with fail
      refine (part_calls m A c _ hm).mono ?_
      rintro e u1 ⟨rfl, hb⟩
      have hblk := blk_still HBLK9.out hb
      have HBLKu := Lib.hid hblk
      have HBu := Lib.hid (HB9.out.trans (hb.mono HB9.out.size))
      clear hb HBLK9 HB9 c0 c1 c2 c3 c4 c5 c6 c7 c8 c9 c10 c11 c12 c13
      obtain ⟨c0, c1, c2, c3, c4, c5, c6, c7, c8, c9, c10, c11, c12, c13⟩ := MsgBox.of hblk
      clear hblk
      rcases (Bool.eq_false_or_eq_true (partB m)).symm with hp | hp
      · have HP := Lib.hid hp
        rw [hp]
        clear hp
        go_wp2_with fail
        go_ret
        exact ⟨ret_bool (by rw [HRR.out, HM.out, HP.out]; simp), HBu.out⟩
      · have HP := Lib.hid hp
        rw [hp]
        clear hp
        go_wp2_with fail
        refine (list_calls m A c _ (hL.below HBu.out)).mono ?_
        rintro e u2 ⟨rfl, hb⟩
        go_wp2_with fail
        go_ret
        exact ⟨ret_bool (by rw [HRR.out, HM.out, HP.out]; simp), HBu.out.trans (hb.mono HBu.out.size)⟩
    · have HM := Lib.hid (show markB m = false by unfold markB; rw [HH.out, if_pos rfl]; exact decide_eq_false hs)
      have z5 : ((m.mark.size : Int) != 32) = true := by rw [bne_iff_ne]; omega
      clear hs
      go_wp2_with fail
      go_ret
      exact ⟨ret_bool (by rw [HRR.out, HM.out]; rfl), HB8.out⟩

theorem Right_calls (m : MsgD) (A : Option Addr) (c : Nat) (w : World) (hm : m.ptext.size ≤ maxLen) (hm2 : m.mark.size ≤ maxLen) (hL : ListAt w A c m.list) :
    Calls Try.prog 36 #[.agg (m.cells A c)] w fun e w' => e = .returned (.bool (rightB m)) ∧ Below w.heap.size w w' := by
  cases hh : headB m
  · exact Right_no m A c w hh
  · exact Right_yes m A c w hm hm2 hL hh
end Go.Proofs.Ytpegefcpanijhaa
end
section
namespace Go.Proofs.Ytpegefcpanijhaa
set_option linter.unusedVariables false
set_option linter.unusedSimpArgs false
open Go.RowKit Go.Proofs.YtpegefcpanijhaaW.PrintWords PF

theorem Fields_is9 (k : Int) : barqueref17_Fields.f 9 k = some (bytesUp (fieldsOf k)) := by
  have h := Fields_is k
  rw [barqueref17_Fields.mono k 5 _ h |> fun e => (barqueref17_Fields.mono k 8 _ (barqueref17_Fields.mono k 7 _ (barqueref17_Fields.mono k 6 _ e)))]

theorem Has_is (k : Int) (x : Fd) : barqueref17_Has.f 9 k x.up.toNat = some (hasB k x) := by
  rcases kind_cases k with rfl | rfl | rfl | rfl | rfl | rfl | rfl | rfl | rfl | rfl | rfl | rfl | rfl | rfl | rfl | rfl | rfl | ⟨h0, hh⟩
  any_goals (cases x <;> decide +kernel)
  unfold barqueref17_Has.f hasB
  rw [Fields_is9 k, h0]
  simp only [Option.bind_some, barqueref17_Has.l0, bytesUp, List.map_nil, List.not_mem_nil, decide_false]
  rfl
theorem Has_calls (k : Int) (x : Fd) (c : Int) (hc : c = x.up.toNat) (w : World) : Calls Try.prog 52 #[.int .i64 k, .int .u8 c] w fun e w' => e = .returned (.bool (hasB k x)) ∧ Drawn0 w w' := by
  subst hc
  exact barqueref17_Has.calls 9 k _ _ w (Has_is k x)
theorem fits_calls (n : Int) (w : World) : Calls Try.prog 53 #[.int .i64 n] w fun e w' => e = .returned (.bool (fitsB n)) ∧ Drawn0 w w' := by
  refine barqueref17_fits.calls n _ w ?_
  unfold barqueref17_fits.f fitsB
  by_cases h : n ≥ 0
  · rw [if_pos h, decide_eq_true h, Bool.true_and]
  · rw [if_neg h, decide_eq_false h, Bool.false_and]
/-- The six fields that the document's loop looks at. -/
def six : List Fd := [.b, .g, .s, .f, .t, .r]
theorem number_calls (m : MsgD) (A : Option Addr) (c : Nat) (x : Fd) (hx : x ∈ six) (y : Int) (hy : y = x.up.toNat) (w : World) (hL : ListAt w A c m.list) :
    Calls Try.prog 51 #[.agg (m.cells A c), .int .u8 y] w fun e w' => e = .returned (.int .i64 (m.num x)) ∧ Below w.heap.size w w' := by
  subst hy
  refine barqueref17_number.calls _ _ _ _ _ _ _ _ _ _ _ _ _ A c m.list _ _ w hL.cells hL.le ?_
  cases x <;> first | rfl | (exact absurd hx (by decide))
end Go.Proofs.Ytpegefcpanijhaa
end
