/- The walk of barquelaw03.MarksIdeals: it answers true; nothing that was there has turned. -/
import Derived.Test.YtpegefcpanijhaaC4
namespace Go.Proofs.Ytpegefcpanijhaa
set_option linter.unusedVariables false
set_option linter.unusedSimpArgs false
open Go.RowKit Go.Maps

theorem isRef_new (w : World) (base : Nat) : IsRef (w.alloc (.cells #[.bool false, .slice none 0 0] 33)) base w.heap.size (.slice none 0 0) [] :=
  ⟨heap_alloc_new w _, World.ownsRow_nil _ _ _ _, fun s hs => by simp at hs⟩

theorem After.below {W w w' : World} {b m base q : Nat} {v : Value} {l l0 : List ByteArray} (h : After w b m base q v l w') (hB : Below W.heap.size W w) (hm : W.heap.size ≤ m) (hq : W.heap.size ≤ q) (hbase : W.heap.size ≤ base) (h0 : Both w b m base q v l0) :
    Below W.heap.size W w' := by
  obtain ⟨v', _, hW, _⟩ := h
  refine hW.below hB (fun k hk => ?_)
  rcases hk with rfl | rfl | hk
  · exact hm
  · exact hq
  · exact Nat.le_trans hbase (h0.ref.rowlt k hk.symm).1

set_option maxHeartbeats 1000000 in
theorem marksIdeals_walk (w : World) (A : Option Addr) (n c : Nat) (ops : List OpD) (h : OpsAt w A n c ops) :
    Calls Try.prog 8 #[.slice A n c] w fun e w' => e = .returned (.bool true) ∧ Below w.heap.size w w' := by
  have hn : (n : Int) ≤ 9223372036854775807 := by have := h.le; have := h.max; unfold maxLen at this; omega
  have hB0 := Below.refl w.heap.size w
  go_enter Try.func8, Try.ntmps8
  go_wp2_with fail
  refine (ideal_to hB0).mono ?_
  rintro e w1 ⟨b, m, rfl, hI, hB, hm, hb0⟩
  go_wp2_with fail
  have hBoth : Both (w1.alloc (.cells #[.bool false, .slice none 0 0] 33)) b m w.heap.size w1.heap.size (.slice none 0 0) [] := ⟨hI.alloc _, isRef_new w1 w.heap.size⟩
  have hB1 : Below w.heap.size w (w1.alloc (.cells #[.bool false, .slice none 0 0] 33)) := hB.alloc hB.size _
  have hq : w.heap.size ≤ w1.heap.size := hB.size
  go_loopw [5] (fun i wr => ∃ (k : Nat) (l : List ByteArray) (v : Value), k ≤ n ∧ k ≤ 80 ∧ i = .int .i64 k ∧ l.length ≤ k ∧ Both wr b m w.heap.size w1.heap.size v l ∧ Below w.heap.size w wr) (fun i _ => 80 - (intOf i).toNat)
  case atStart => exact ⟨0, [], _, Nat.zero_le _, Nat.zero_le _, rfl, Nat.le_refl _, hBoth, hB1⟩
  case round =>
    obtain ⟨k, l, v, hk1, hk2, rfl, hlk, h3, hB3⟩ := hrel
    by_cases hlt : k < n ∧ k < 80
    · obtain ⟨hlt, hlt2⟩ := hlt
      obtain ⟨a, o, rfl, hok, d0, d1, d2, d3⟩ := h.at_ hB3 hlt
      go_wp2_with fail
      refine (step_any o h3 (by omega) hB3.size).mono ?_
      rintro e w4 ⟨rfl, hA⟩
      have hlen := OpD.seen_length l o
      have hB4 := hA.below hB3 hm hq (Nat.le_refl _) h3
      obtain ⟨v', h4, -, -⟩ := hA
      go_wp2_with fail
      go_roundw
      case rel => exact ⟨k + 1, _, _, by omega, by omega, by go_num, by omega, h4, hB4⟩
      case measure => simp [intOf]; omega
    · have hend : ¬ k < n ∨ (k < n ∧ ¬ k < 80) := by omega
      clear hlt
      have c72 := h3.ideal.c72
      have c74 := h3.ideal.c74
      rcases hend with hlt | ⟨hlt, hlt2⟩
      all_goals
        go_wp2_with fail
        refine (ready_any _ b false true c72 c74).mono ?_
        rintro e w4 ⟨rfl, rfl⟩
        go_wp2_with fail
        refine (awake_to hB3).mono ?_
        rintro e w6 ⟨rfl, hB6⟩
        go_wp2_with fail
        go_ret
        exact ⟨rfl, hB6⟩
end Go.Proofs.Ytpegefcpanijhaa
