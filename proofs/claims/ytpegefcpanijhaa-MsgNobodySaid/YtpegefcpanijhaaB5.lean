/- A slice of texts as it is read, and the walk of barquelaw03.MarksAsks: it answers true; nothing that was there has turned. -/
import Derived.Test.YtpegefcpanijhaaB4
namespace Go.Proofs.Ytpegefcpanijhaa
set_option linter.unusedVariables false
set_option linter.unusedSimpArgs false
open Go.RowKit Go.Maps

/-- A slice value (its address, its length, its capacity) that reads as the texts l. -/
structure StrsAt (w : World) (A : Option Addr) (n c : Nat) (l : List ByteArray) : Prop where
  len : l.length = n
  le : n ≤ c
  max : c ≤ maxLen
  small : ∀ s ∈ l, s.size ≤ maxLen
  cell : ∀ k (h : k < l.length), ∃ a, A = some a ∧ w.cell? (a.add k) = some (.string l[k])

namespace StrsAt
variable {w w' : World} {A : Option Addr} {n c : Nat} {l : List ByteArray}
theorem at_ (h : StrsAt w A n c l) {k : Nat} (hk : k < n) : ∃ a s, A = some a ∧ s ∈ l ∧ l[k]? = some s ∧ s.size ≤ maxLen ∧ a.block < w.heap.size ∧ w.cell? (a.add k) = some (.string s) := by
  have hk' : k < l.length := by rw [h.len]; exact hk
  obtain ⟨a, e, hc⟩ := h.cell k hk'
  refine ⟨a, l[k], e, List.getElem_mem hk', List.getElem?_eq_getElem hk', h.small _ (List.getElem_mem hk'), ?_, hc⟩
  have hb := World.block_lt_of_cell? w _ hc
  have e2 : (a.add k).block = a.block := by unfold Addr.add; split <;> rfl
  rwa [e2] at hb
theorem below (h : StrsAt w A n c l) (hb : Below w.heap.size w w') : StrsAt w' A n c l := by
  refine ⟨h.len, h.le, h.max, h.small, fun k hk => ?_⟩
  obtain ⟨a, e, hc⟩ := h.cell k hk
  exact ⟨a, e, (hb.cell (World.block_lt_of_cell? w _ hc)).trans hc⟩
theorem take (h : StrsAt w A n c l) {m : Nat} (hm : m ≤ n) : StrsAt w A m c (l.take m) := by
  refine ⟨by rw [List.length_take, h.len]; omega, Nat.le_trans hm h.le, h.max, fun s hs => h.small s (List.mem_of_mem_take hs), fun k hk => ?_⟩
  have hk' : k < l.length := by simp at hk; omega
  obtain ⟨a, e, hc⟩ := h.cell k hk'
  exact ⟨a, e, by rw [List.getElem_take]; exact hc⟩
end StrsAt

def tfirst : ByteArray := ⟨#[102, 105, 114, 115, 116]⟩
def tsecond : ByteArray := ⟨#[115, 101, 99, 111, 110, 100]⟩

/-- Is, the world behind it told against an elder one. -/
theorem is_to {W w : World} {b m : Nat} {l : List ByteArray} {s mark : ByteArray} (h : IsIdeal w b m l) (hB : Below W.heap.size W w) (hs : s.size ≤ maxLen) :
    Calls Try.prog 21 #[.pointer (some ⟨b, 0, none⟩), .string s, .string mark] w fun e w' => e = .returned (.bool (isB l s mark)) ∧ IsIdeal w' b m l ∧ Below W.heap.size W w' :=
  (is_ideal h hs).mono fun e w' ⟨he, hb⟩ => ⟨he, h.below hb, hB.trans (hb.mono hB.size)⟩

theorem ideal_to {W w : World} (hB : Below W.heap.size W w) : Calls Try.prog 19 #[] w fun e w' => ∃ b m, e = .returned (.pointer (some ⟨b, 0, none⟩)) ∧ IsIdeal w' b m [] ∧ Below W.heap.size W w' ∧ w.heap.size ≤ m ∧ w.heap.size ≤ b :=
  (ideal_new w).mono fun e w' ⟨he, hw⟩ => ⟨_, _, he, by rw [hw]; exact isIdeal_new w, by rw [hw]; exact (hB.alloc hB.size _).alloc (by have := hB.size; simp; omega) _, Nat.le_refl _, Nat.le_succ _⟩

theorem awake_to {W w : World} (hB : Below W.heap.size W w) : Calls Try.prog 22 #[] w fun e w' => e = .returned (.bool true) ∧ Below W.heap.size W w' :=
  (awake3 w).mono fun e w' ⟨he, hb⟩ => ⟨he, hB.trans (hb.mono hB.size)⟩

set_option maxHeartbeats 400000 in
theorem marksAsks_walk (w : World) (A : Option Addr) (n c : Nat) (l : List ByteArray) (mark : ByteArray) (h : StrsAt w A n c l) (_hs : mark.size ≤ 140737488351232) :
    Calls Try.prog 6 #[.slice A n c, .string mark] w fun e w' => e = .returned (.bool true) ∧ Below w.heap.size w w' := by
  have hx : tfirst.size ≤ maxLen := by decide
  have hy : tsecond.size ≤ maxLen := by decide
  have hn : (n : Int) ≤ 9223372036854775807 := by have := h.le; have := h.max; unfold maxLen at this; omega
  have hB0 := Below.refl w.heap.size w
  go_enter Try.func6, Try.ntmps6
  go_wp2_with fail
  refine (ideal_to hB0).mono ?_
  rintro e w1 ⟨b, m, rfl, hI, hB, hm, hb0⟩
  go_wp2_with fail
  refine (mark_to (s := tfirst) (n := 1) (l' := [tfirst]) hI hB hm hx (by simp) rfl rfl).mono ?_
  rintro e w2 ⟨rfl, hI2, hB2⟩
  go_wp2_with fail
  go_loopw [6] (fun i wr => ∃ k : Nat, k ≤ n ∧ k ≤ 40 ∧ i = .int .i64 k ∧ IsIdeal wr b m [tfirst] ∧ Below w.heap.size w wr) (fun i _ => 40 - (intOf i).toNat)
  case atStart => exact ⟨0, Nat.zero_le _, Nat.zero_le _, rfl, hI2, hB2⟩
  case round =>
    obtain ⟨k, hk1, hk2, rfl, hI3, hB3⟩ := hrel
    by_cases hlt : k < n ∧ k < 40
    · obtain ⟨hlt, hlt2⟩ := hlt
      obtain ⟨a, s, rfl, -, -, hs, hab, hc⟩ := h.at_ hlt
      have hc3 := (hB3.cell (World.block_lt_of_cell? w _ hc)).trans hc
      go_wp2_with fail
      refine (is_to hI3 hB3 hs).mono ?_
      rintro e w4 ⟨rfl, hI4, hB4⟩
      go_wp2_with fail
      go_roundw
      case rel => exact ⟨k + 1, by omega, by omega, by go_num, hI4, hB4⟩
      case measure => simp [intOf]; omega
    · have hend : ¬ k < n ∨ (k < n ∧ ¬ k < 40) := by omega
      clear hlt
      rcases hend with hlt | ⟨hlt, hlt2⟩
      all_goals
        go_wp2_with fail
        refine (mark_to (s := tsecond) (n := 2) (l' := [tfirst, tsecond]) hI3 hB3 hm hy (by simp) (by decide) (by decide)).mono ?_
        rintro e w4 ⟨rfl, hI4, hB4⟩
        go_wp2_with fail
        refine (Number_to hI4 hB4 2 (by omega) (by omega)).mono ?_
        rintro e w5 ⟨rfl, hI5, hB5⟩
        go_wp2_with fail
        refine (awake_to hB5).mono ?_
        rintro e w6 ⟨rfl, hB6⟩
        go_wp2_with fail
        go_ret
        exact ⟨rfl, hB6⟩
end Go.Proofs.Ytpegefcpanijhaa
