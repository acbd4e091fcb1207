/- Messages in plain Lean: which fields a kind has; which messages may be; and the contracts of form, Fields, Has, fits, IndexByte and has in these words. -/
import Derived.Test.YtpegefcpanijhaaF5
import Derived.Test.YtpegefcpanijhaaShelf
import Derived.Test.YtpegefcpanijhaaRows
import Derived.WalkKit
import Derived.WalkSpells
import Derived.WalkLawsBesides
import Derived.Lib.Hide
namespace Go.Proofs.Ytpegefcpanijhaa
set_option linter.unusedVariables false
set_option linter.unusedSimpArgs false
open Go.RowKit Go.Proofs.YtpegefcpanijhaaW.PrintWords PF

/-- The fields that a kind may have: Ballot, Gen, Basis, Floor, Top, Read, Mark, Part, List. -/
inductive Fd where
  | b | g | s | f | t | r | m | p | l
  deriving DecidableEq
/-- A field's letter in the code. -/
def Fd.lo : Fd → UInt8
  | .b => 98 | .g => 103 | .s => 115 | .f => 102 | .t => 116 | .r => 114 | .m => 109 | .p => 112 | .l => 108
/-- A field's letter in the document's answer. -/
def Fd.up : Fd → UInt8
  | .b => 66 | .g => 71 | .s => 83 | .f => 70 | .t => 84 | .r => 82 | .m => 77 | .p => 80 | .l => 76

/-- Which fields a kind has, in order. -/
def fieldsOf (k : Int) : List Fd :=
  if k = 1 then [.b] else if k = 2 then [.b, .f, .t, .l] else if k = 3 then [.b] else if k = 4 then [.b, .g, .s, .m, .p] else if k = 5 then [.b, .g, .t, .r, .m]
  else if k = 6 then [.b, .g, .m] else if k = 7 then [.b, .g, .m] else if k = 8 then [.b, .g, .m] else if k = 9 then [.g, .m] else if k = 10 then [.f, .t]
  else if k = 11 then [.b, .r] else if k = 12 then [.b, .f, .t, .r] else if k = 13 then [.g, .m, .p] else if k = 14 then [.g, .m, .p] else if k = 15 then [.b, .f]
  else if k = 16 then [.b, .f, .t] else if k = 17 then [.b, .g] else []

def bytesLo (l : List Fd) : ByteArray := ⟨(l.map Fd.lo).toArray⟩
def bytesUp (l : List Fd) : ByteArray := ⟨(l.map Fd.up).toArray⟩

/-- A kind is one of the seventeen, or has no fields. -/
theorem kind_cases (k : Int) : k = 1 ∨ k = 2 ∨ k = 3 ∨ k = 4 ∨ k = 5 ∨ k = 6 ∨ k = 7 ∨ k = 8 ∨ k = 9 ∨ k = 10 ∨ k = 11 ∨ k = 12 ∨ k = 13 ∨ k = 14 ∨ k = 15 ∨ k = 16 ∨ k = 17 ∨ (fieldsOf k = [] ∧ k ≠ 1 ∧ k ≠ 2 ∧ k ≠ 3 ∧ k ≠ 4 ∧ k ≠ 5 ∧ k ≠ 6 ∧ k ≠ 7 ∧ k ≠ 8 ∧ k ≠ 9 ∧ k ≠ 10 ∧ k ≠ 11 ∧ k ≠ 12 ∧ k ≠ 13 ∧ k ≠ 14 ∧ k ≠ 15 ∧ k ≠ 16 ∧ k ≠ 17) := by
  by_cases h1 : k = 1; · exact .inl h1
  by_cases h2 : k = 2; · simp [h2]
  by_cases h3 : k = 3; · simp [h3]
  by_cases h4 : k = 4; · simp [h4]
  by_cases h5 : k = 5; · simp [h5]
  by_cases h6 : k = 6; · simp [h6]
  by_cases h7 : k = 7; · simp [h7]
  by_cases h8 : k = 8; · simp [h8]
  by_cases h9 : k = 9; · simp [h9]
  by_cases h10 : k = 10; · simp [h10]
  by_cases h11 : k = 11; · simp [h11]
  by_cases h12 : k = 12; · simp [h12]
  by_cases h13 : k = 13; · simp [h13]
  by_cases h14 : k = 14; · simp [h14]
  by_cases h15 : k = 15; · simp [h15]
  by_cases h16 : k = 16; · simp [h16]
  by_cases h17 : k = 17; · simp [h17]
  have : fieldsOf k = [] := by simp [fieldsOf, h1, h2, h3, h4, h5, h6, h7, h8, h9, h10, h11, h12, h13, h14, h15, h16, h17]
  simp [this, h1, h2, h3, h4, h5, h6, h7, h8, h9, h10, h11, h12, h13, h14, h15, h16, h17]

theorem form_is (k : Int) : msg_form.f 5 k = some (bytesLo (fieldsOf k)) := by
  rcases kind_cases k with rfl | rfl | rfl | rfl | rfl | rfl | rfl | rfl | rfl | rfl | rfl | rfl | rfl | rfl | rfl | rfl | rfl | ⟨h0, h1, h2, h3, h4, h5, h6, h7, h8, h9, h10, h11, h12, h13, h14, h15, h16, h17⟩
  any_goals rfl
  rw [h0]
  simp [msg_form.f, msg_form.j0, msg_form.j1, bytesLo, h1, h2, h3, h4, h5, h6, h7, h8, h9, h10, h11, h12, h13, h14, h15, h16, h17]

theorem Fields_is (k : Int) : barqueref17_Fields.f 5 k = some (bytesUp (fieldsOf k)) := by
  rcases kind_cases k with rfl | rfl | rfl | rfl | rfl | rfl | rfl | rfl | rfl | rfl | rfl | rfl | rfl | rfl | rfl | rfl | rfl | ⟨h0, h1, h2, h3, h4, h5, h6, h7, h8, h9, h10, h11, h12, h13, h14, h15, h16, h17⟩
  any_goals rfl
  rw [h0]
  simp [barqueref17_Fields.f, barqueref17_Fields.j0, barqueref17_Fields.j1, barqueref17_Fields.j2, bytesUp, h1, h2, h3, h4, h5, h6, h7, h8, h9, h10, h11, h12, h13, h14, h15, h16, h17]

theorem form_calls (k : Int) (w : World) : Calls Try.prog 57 #[.int .i64 k] w fun e w' => e = .returned (.string (bytesLo (fieldsOf k))) ∧ Below w.heap.size w w' :=
  (msg_form.calls 5 k _ w (form_is k)).mono fun e w' ⟨he, hd⟩ => ⟨he, hd.below⟩
theorem Fields_calls (k : Int) (w : World) : Calls Try.prog 50 #[.int .i64 k] w fun e w' => e = .returned (.string (bytesUp (fieldsOf k))) ∧ Below w.heap.size w w' :=
  (barqueref17_Fields.calls 5 k _ w (Fields_is k)).mono fun e w' ⟨he, hd⟩ => ⟨he, hd.below⟩
end Go.Proofs.Ytpegefcpanijhaa
