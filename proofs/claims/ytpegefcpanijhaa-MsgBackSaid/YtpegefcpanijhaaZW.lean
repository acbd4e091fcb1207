/- The six numbers of a message by their places. -/
import Derived.Test.YtpegefcpanijhaaZM
section
namespace Go.Proofs.Ytpegefcpanijhaa
set_option linter.unusedVariables false
set_option linter.unusedSimpArgs false
open Go.RowKit Go.Proofs.YtpegefcpanijhaaW.PrintWords PF

/-- The k-th of the six. -/
def sixAt (k : Nat) : Fd := six.getD k .b
theorem sixAt_mem (k : Nat) : sixAt k ∈ six := by
  rcases k with _ | _ | _ | _ | _ | _ | k
  all_goals first | decide | exact .head _
def letters : ByteArray := ⟨#[66, 71, 83, 70, 84, 82]⟩
theorem six_bt {k : Nat} (h : k < 6) : bt ⟨#[66, 71, 83, 70, 84, 82]⟩ (k : Int) = (sixAt k).up.toNat := by
  obtain rfl | rfl | rfl | rfl | rfl | rfl : k = 0 ∨ k = 1 ∨ k = 2 ∨ k = 3 ∨ k = 4 ∨ k = 5 := by omega
  all_goals decide +kernel

theorem six_at {k : Nat} (h : k < 6) (h' : k < (⟨#[66, 71, 83, 70, 84, 82]⟩ : ByteArray).size) : ((((⟨#[66, 71, 83, 70, 84, 82]⟩ : ByteArray)[k]'h').toNat : Nat) : Int) = (((sixAt k).up.toNat : Nat) : Int) := by
  obtain rfl | rfl | rfl | rfl | rfl | rfl : k = 0 ∨ k = 1 ∨ k = 2 ∨ k = 3 ∨ k = 4 ∨ k = 5 := by omega
  all_goals rfl

end Go.Proofs.Ytpegefcpanijhaa
end
