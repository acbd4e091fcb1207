/- The walk of barquelaw03.MarksTwo: it answers true; nothing that was there has turned. -/
import Derived.Test.YtpegefcpanijhaaC6
namespace Go.Proofs.Ytpegefcpanijhaa
set_option linter.unusedVariables false
set_option linter.unusedSimpArgs false
open Go.RowKit Go.Maps

theorem two_start {w w1 w2 : World} {b m b' m' : Nat} (hI : IsIdeal w1 b m []) (hB : Below w.heap.size w w1) (hm : w.heap.size ≤ m) (hI2 : IsIdeal w2 b' m' []) (hB2 : Below w1.heap.size w1 w2) (hm2 : w1.heap.size ≤ m') (hb2 : w1.heap.size ≤ b') :
    TwoAt w ((w2.alloc (.cells #[.bool false, .slice none 0 0] 33)).alloc (.cells #[.bool false, .slice none 0 0] 33)) b m w2.heap.size b' m' (w2.heap.size + 1) (.slice none 0 0) (.slice none 0 0) [] [] := by
  have hB2' : Below w.heap.size w w2 := hB.trans (hB2.mono hB.size)
  have l1 := hI.lt
  have l2 := hI.ltm
  have l3 := hI2.lt
  have l4 := hI2.ltm
  have s1 := hB2.size
  have s0 := hB.size
  have e1 : (w2.alloc (.cells #[.bool false, .slice none 0 0] 33)).heap.size = w2.heap.size + 1 := by simp
  have r1 := (isRef_new w2 w.heap.size).below ((Below.refl _ (w2.alloc (.cells #[.bool false, .slice none 0 0] 33))).alloc (Nat.le_refl _) (.cells #[.bool false, .slice none 0 0] 33))
  have r2 := isRef_new (w2.alloc (.cells #[.bool false, .slice none 0 0] 33)) w.heap.size
  rw [e1] at r2
  have hno : ∀ k : Nat, some k ≠ (Value.slice none 0 0).ownBlock := fun k => by simp [Value.ownBlock]
  refine ⟨⟨((hI.below hB2).alloc _).alloc _, r1⟩, ⟨(hI2.alloc _).alloc _, r2⟩, ?_, ?_, ?_, hm, by omega, by omega, by omega⟩
  · exact ⟨⟨by omega, by omega, hno _⟩, ⟨by omega, by omega, hno _⟩, ⟨by omega, by omega, hno _⟩, fun k hk => absurd hk.symm (hno k)⟩
  · exact ⟨⟨by omega, by omega, hno _⟩, ⟨by omega, by omega, hno _⟩, ⟨by omega, by omega, hno _⟩, fun k hk => absurd hk.symm (hno k)⟩
  · exact (hB2'.alloc hB2'.size _).alloc (by have := hB2'.size; simp; omega) _

set_option maxHeartbeats 1000000 in
theorem marksTwo_walk (w : World) (A : Option Addr) (n c : Nat) (ops : List OpD) (A' : Option Addr) (n' c' : Nat) (ops' : List OpD) (h : OpsAt w A n c ops) (h' : OpsAt w A' n' c' ops') :
    Calls Try.prog 5 #[.slice A n c, .slice A' n' c'] w fun e w' => e = .returned (.bool true) ∧ Below w.heap.size w w' := by
  have hn : (n : Int) ≤ 9223372036854775807 := by have := h.le; have := h.max; unfold maxLen at this; omega
  have hn' : (n' : Int) ≤ 9223372036854775807 := by have := h'.le; have := h'.max; unfold maxLen at this; omega
  have hB0 := Below.refl w.heap.size w
  go_enter Try.func5, Try.ntmps5
  go_wp2_with fail
  refine (ideal_to hB0).mono ?_
  rintro e w1 ⟨b, m, rfl, hI, hB, hm, hb0⟩
  go_wp2_with fail
  refine (ideal_to (Below.refl w1.heap.size w1)).mono ?_
  rintro e w2 ⟨b', m', rfl, hI2, hB2, hm2, hb2⟩
  have hT := two_start hI hB hm hI2 hB2 hm2 hb2
  clear hI hB hI2 hB2 hm hm2 hb2 hb0
  go_wp2_with fail
  go_loopw [9] (fun i wr => ∃ (k : Nat) (l l' : List ByteArray) (v v' : Value), k ≤ 30 ∧ i = .int .i64 k ∧ l.length ≤ k ∧ l'.length ≤ k ∧ TwoAt w wr b m w2.heap.size b' m' (w2.heap.size + 1) v v' l l') (fun i _ => 30 - (intOf i).toNat)
  case atStart => exact ⟨0, [], [], _, _, Nat.zero_le _, rfl, Nat.le_refl _, Nat.le_refl _, hT⟩
  case round =>
    obtain ⟨k, l, l', v, v', hk, rfl, hl, hl', hT⟩ := hrel
    by_cases hlt : k < 30
    · by_cases h1 : k < n
      · obtain ⟨a, o, rfl, hok, d0, d1, d2, d3⟩ := h.at_ hT.below h1
        go_wp2_with fail
        refine (step_any o hT.one (by omega) hT.below.size).mono ?_
        rintro e w4 ⟨rfl, hA⟩
        have hlen := OpD.seen_length l o
        obtain ⟨v1, hT1⟩ := hT.step hA
        clear hA hT d0 d1 d2 d3
        by_cases h2 : k < n'
        · obtain ⟨a', o', rfl, hok', d0, d1, d2, d3⟩ := h'.at_ hT1.below h2
          go_wp2_with fail
          refine (step_any o' hT1.two (by omega) hT1.below.size).mono ?_
          rintro e w5 ⟨rfl, hA⟩
          have hlen' := OpD.seen_length l' o'
          obtain ⟨v2, hT2⟩ := hT1.swap.step hA
          have hT3 := hT2.swap
          go_wp2_with fail
          go_roundw
          case rel => exact ⟨k + 1, _, _, _, _, by omega, by go_num, by omega, by omega, hT3⟩
          case measure => simp [intOf]; omega
        · go_wp2_with fail
          go_roundw
          case rel => exact ⟨k + 1, _, _, _, _, by omega, by go_num, by omega, by omega, hT1⟩
          case measure => simp [intOf]; omega
      · by_cases h2 : k < n'
        · obtain ⟨a', o', rfl, hok', d0, d1, d2, d3⟩ := h'.at_ hT.below h2
          go_wp2_with fail
          refine (step_any o' hT.two (by omega) hT.below.size).mono ?_
          rintro e w5 ⟨rfl, hA⟩
          have hlen' := OpD.seen_length l' o'
          obtain ⟨v2, hT2⟩ := hT.swap.step hA
          have hT3 := hT2.swap
          go_wp2_with fail
          go_roundw
          case rel => exact ⟨k + 1, _, _, _, _, by omega, by go_num, by omega, by omega, hT3⟩
          case measure => simp [intOf]; omega
        · go_wp2_with fail
          go_roundw
          case rel => exact ⟨k + 1, _, _, _, _, by omega, by go_num, by omega, by omega, hT⟩
          case measure => simp [intOf]; omega
    · go_wp2_with fail
      refine (awake_to hT.below).mono ?_
      rintro e w6 ⟨rfl, hB6⟩
      go_wp2_with fail
      go_ret
      exact ⟨rfl, hB6⟩
end Go.Proofs.Ytpegefcpanijhaa
