/- Messages as data; which may be, in plain Lean; the walks of msg.has and of the closure of msg.Right. -/
import Derived.Test.YtpegefcpanijhaaM0
namespace Go.Proofs.Ytpegefcpanijhaa
set_option linter.unusedVariables false
set_option linter.unusedSimpArgs false
open Go.RowKit Go.Proofs.YtpegefcpanijhaaW.PrintWords PF

/-- A message. -/
structure MsgD where
  kind : Int
  frm : Int
  dst : Int
  ballot : Int
  gen : Int
  basis : Int
  floor : Int
  top : Int
  read : Int
  mark : ByteArray
  pat : Int
  pof : Int
  ptext : ByteArray
  list : List S80

def I64 (n : Int) : Prop := -9223372036854775808 ≤ n ∧ n ≤ 9223372036854775807

/-- A message's numbers are ints, its texts are texts. -/
structure MsgD.Ok (m : MsgD) : Prop where
  kind : I64 m.kind
  frm : I64 m.frm
  dst : I64 m.dst
  ballot : I64 m.ballot
  gen : I64 m.gen
  basis : I64 m.basis
  floor : I64 m.floor
  top : I64 m.top
  read : I64 m.read
  mark : m.mark.size ≤ maxLen
  pat : I64 m.pat
  pof : I64 m.pof
  ptext : m.ptext.size ≤ maxLen
  list : ∀ x ∈ m.list, I64 x.f0 ∧ I64 x.f1 ∧ x.f2.size ≤ maxLen

/-- A slice value (its address, its capacity) that reads as the entries l. -/
structure ListAt (w : World) (A : Option Addr) (c : Nat) (l : List S80) : Prop where
  le : l.length ≤ c
  max : c ≤ maxLen
  cells : Kd.C k80 w A l.length l

theorem ListAt.below {w w' : World} {A : Option Addr} {c : Nat} {l : List S80} (h : ListAt w A c l) (hb : Below w.heap.size w w') : ListAt w' A c l := ⟨h.le, h.max, Kd.C_below h.cells hb⟩

/-- The number that a field is, of those that are numbers. -/
def MsgD.num (m : MsgD) : Fd → Int
  | .b => m.ballot | .g => m.gen | .s => m.basis | .f => m.floor | .t => m.top | .r => m.read | _ => 0

def fitsB (n : Int) : Bool := decide (0 ≤ n) && decide (n ≤ 4611686018427387903)
def hasB (k : Int) (x : Fd) : Bool := decide (x ∈ fieldsOf k)
def numB (k : Int) (x : Fd) (n : Int) : Bool := if hasB k x then fitsB n else decide (n = 0)
def headB (m : MsgD) : Bool := decide (fieldsOf m.kind ≠ []) && (decide (0 ≤ m.frm) && decide (m.frm ≤ 255)) && (decide (0 ≤ m.dst) && decide (m.dst ≤ 255))
def numsB (m : MsgD) : Bool := numB m.kind .b m.ballot && numB m.kind .g m.gen && numB m.kind .s m.basis && numB m.kind .f m.floor && numB m.kind .t m.top && numB m.kind .r m.read
def markB (m : MsgD) : Bool := if hasB m.kind .m then decide (m.mark.size = 32) else decide (m.mark.size = 0)
def partB (m : MsgD) : Bool := if hasB m.kind .p then decide (0 ≤ m.pat) && decide (0 ≤ m.pof) && decide (m.pat ≤ 4096) && decide (m.pof ≤ 4096) && decide (m.ptext.size ≤ 1024) else decide (m.pat = 0) && decide (m.pof = 0) && decide (m.ptext.size = 0)
def entB (x : S80) : Bool := fitsB x.f0 && fitsB x.f1 && decide (x.f2.size = 32)
/-- The entry at a place may stand there. -/
def entAt (l : List S80) (i : Nat) : Bool := match l[i]? with
  | none => true
  | some x => entB x && (if i = 0 then true else match l[i - 1]? with | none => true | some y => decide (y.f0 < x.f0))
def listB (m : MsgD) : Bool := if hasB m.kind .l then decide (m.list.length ≤ 64) && (List.range m.list.length).all (entAt m.list) else decide (m.list.length = 0)
/-- May a message be? -/
def rightB (m : MsgD) : Bool := headB m && numsB m && markB m && partB m && listB m

theorem indexByte_nonneg (l : List UInt8) (c : UInt8) : (-1 ≤ Lib.indexByte l c) ∧ (0 ≤ Lib.indexByte l c ↔ c ∈ l) := by
  induction l with
  | nil => simp [Lib.indexByte]
  | cons b l ih =>
    obtain ⟨h1, h2⟩ := ih
    unfold Lib.indexByte
    by_cases e : b = c
    · subst e; simp
    · have e' : ¬ c = b := fun h => e h.symm
      simp only [beq_iff_eq, e, if_false]
      split
      · rename_i hn
        have : ¬ c ∈ l := fun hm => by have := h2.2 hm; omega
        simp [e', this]
      · rename_i hn
        refine ⟨by omega, ?_⟩
        rw [List.mem_cons]
        simp only [e', false_or]
        rw [← h2]
        omega

theorem lo_inj {x y : Fd} (h : x.lo = y.lo) : x = y := by cases x <;> cases y <;> first | rfl | (exact absurd h (by decide))
theorem lo_mem (x : Fd) (l : List Fd) : x.lo ∈ (bytesLo l).data.toList ↔ x ∈ l := by
  simp only [bytesLo, List.mem_map]
  exact ⟨fun ⟨y, hy, e⟩ => by rw [← lo_inj e]; exact hy, fun h => ⟨x, h, rfl⟩⟩

theorem has_quiet (k : Int) (x : Fd) (c : Int) (hc : c = x.lo.toNat) (w : World) : Calls Try.prog 59 #[.int .i64 k, .int .u8 c] w fun e w' => e = .returned (.bool (hasB k x)) ∧ Drawn0 w w' := by
  have hx : c.toNat.toUInt8 = x.lo := by subst hc; cases x <;> rfl
  have hm := (indexByte_nonneg (bytesLo (fieldsOf k)).data.toList x.lo).2
  rw [lo_mem] at hm
  have HE := Lib.hid (show decide (0 ≤ Lib.indexByte (bytesLo (fieldsOf k)).data.toList x.lo) = hasB k x by
    unfold hasB
    rw [Bool.eq_iff_iff, decide_eq_true_iff, decide_eq_true_iff]; exact hm)
  clear hm hc
  have HX := Lib.hid hx
  clear hx
  go_enter Try.func59, Try.ntmps59
  go_wp2_with fail
  refine (msg_form.calls 5 k _ w (form_is k)).mono ?_
  rintro e w1 ⟨rfl, hd⟩
  go_wp2_with fail
  refine (Try.strings_IndexByte _ _ _).mono ?_
  rintro e w2 ⟨rfl, rfl⟩
  rw [HX.out]
  go_wp2_with fail
  go_ret
  exact ⟨by rw [← HE.out]; rfl, hd⟩

theorem has_calls (k : Int) (x : Fd) (c : Int) (hc : c = x.lo.toNat) (w : World) : Calls Try.prog 59 #[.int .i64 k, .int .u8 c] w fun e w' => e = .returned (.bool (hasB k x)) ∧ Below w.heap.size w w' :=
  (has_quiet k x c hc w).mono fun e w' ⟨he, hd⟩ => ⟨he, hd.below⟩

/-- The closure of msg.Right: may a number stand in a field? -/
theorem number1_calls (k : Int) (x : Fd) (c n : Int) (hc : c = x.lo.toNat) (B : Nat) (w : World) (h0 : w.cell? ⟨B, 0, none⟩ = some (.int .i64 k)) :
    Calls Try.prog 58 #[.int .u8 c, .int .i64 n, .pointer (some ⟨B, 0, none⟩)] w fun e w' => e = .returned (.bool (numB k x n)) ∧ Below w.heap.size w w' := by
  have HC := Lib.hid hc
  clear hc
  cases hh : hasB k x
  · have HH := Lib.hid hh
    have HE := Lib.hid (show (n == 0) = numB k x n by unfold numB; rw [hh]; simp [Bool.beq_eq_decide_eq])
    clear hh
    go_enter Try.func58, Try.ntmps58
    go_wp2_with fail
    refine (has_calls k x c HC.out w).mono ?_
    rintro e w1 ⟨rfl, hb⟩
    rw [HH.out]
    go_wp2_with fail
    go_ret
    exact ⟨by rw [← HE.out]; rfl, hb⟩
  · have HH := Lib.hid hh
    have HE := Lib.hid (show numB k x n = fitsB n by unfold numB; rw [hh]; rfl)
    clear hh
    by_cases hn : 0 ≤ n
    · have HF := Lib.hid (show decide (n ≤ 4611686018427387903) = numB k x n by rw [HE.out]; unfold fitsB; rw [decide_eq_true hn, Bool.true_and])
      go_enter Try.func58, Try.ntmps58
      go_wp2_with fail
      refine (has_calls k x c HC.out w).mono ?_
      rintro e w1 ⟨rfl, hb⟩
      rw [HH.out]
      go_wp2_with fail
      go_ret
      exact ⟨by rw [← HF.out]; rfl, hb⟩
    · have HF := Lib.hid (show numB k x n = false by rw [HE.out]; unfold fitsB; rw [decide_eq_false hn, Bool.false_and])
      go_enter Try.func58, Try.ntmps58
      go_wp2_with fail
      refine (has_calls k x c HC.out w).mono ?_
      rintro e w1 ⟨rfl, hb⟩
      rw [HH.out]
      go_wp2_with fail
      go_ret
      exact ⟨by rw [HF.out]; rfl, hb⟩
end Go.Proofs.Ytpegefcpanijhaa
