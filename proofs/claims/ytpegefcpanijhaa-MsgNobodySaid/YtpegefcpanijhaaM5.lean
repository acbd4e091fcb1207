/- The document's Has, fits and number in the words of M1. -/
import Derived.Test.YtpegefcpanijhaaM4
namespace Go.Proofs.Ytpegefcpanijhaa
set_option linter.unusedVariables false
set_option linter.unusedSimpArgs false
open Go.RowKit Go.Proofs.YtpegefcpanijhaaW.PrintWords PF

theorem Fields_is9 (k : Int) : barqueref17_Fields.f 9 k = some (bytesUp (fieldsOf k)) := by
  have h := Fields_is k
  rw [barqueref17_Fields.mono k 5 _ h |> fun e => (barqueref17_Fields.mono k 8 _ (barqueref17_Fields.mono k 7 _ (barqueref17_Fields.mono k 6 _ e)))]

theorem Has_is (k : Int) (x : Fd) : barqueref17_Has.f 9 k x.up.toNat = some (hasB k x) := by
  rcases kind_cases k with rfl | rfl | rfl | rfl | rfl | rfl | rfl | rfl | rfl | rfl | rfl | rfl | rfl | rfl | rfl | rfl | rfl | ⟨h0, hh⟩
  any_goals (cases x <;> decide +kernel)
  unfold barqueref17_Has.f hasB
  rw [Fields_is9 k, h0]
  simp only [Option.bind_some, barqueref17_Has.l0, bytesUp, List.map_nil, List.not_mem_nil, decide_false]
  rfl
theorem Has_calls (k : Int) (x : Fd) (c : Int) (hc : c = x.up.toNat) (w : World) : Calls Try.prog 52 #[.int .i64 k, .int .u8 c] w fun e w' => e = .returned (.bool (hasB k x)) ∧ Drawn0 w w' := by
  subst hc
  exact barqueref17_Has.calls 9 k _ _ w (Has_is k x)
theorem fits_calls (n : Int) (w : World) : Calls Try.prog 53 #[.int .i64 n] w fun e w' => e = .returned (.bool (fitsB n)) ∧ Drawn0 w w' := by
  refine barqueref17_fits.calls n _ w ?_
  unfold barqueref17_fits.f fitsB
  by_cases h : n ≥ 0
  · rw [if_pos h, decide_eq_true h, Bool.true_and]
  · rw [if_neg h, decide_eq_false h, Bool.false_and]
/-- The six fields that the document's loop looks at. -/
def six : List Fd := [.b, .g, .s, .f, .t, .r]
theorem number_calls (m : MsgD) (A : Option Addr) (c : Nat) (x : Fd) (hx : x ∈ six) (y : Int) (hy : y = x.up.toNat) (w : World) (hL : ListAt w A c m.list) :
    Calls Try.prog 51 #[.agg (m.cells A c), .int .u8 y] w fun e w' => e = .returned (.int .i64 (m.num x)) ∧ Below w.heap.size w w' := by
  subst hy
  refine barqueref17_number.calls _ _ _ _ _ _ _ _ _ _ _ _ _ A c m.list _ _ w hL.cells hL.le ?_
  cases x <;> first | rfl | (exact absurd hx (by decide))
end Go.Proofs.Ytpegefcpanijhaa
