/- A number's bytes in plain Lean; the walk of code.Num. -/
import Derived.Test.YtpegefcpanijhaaK0
import Derived.Laws.Bits128
import Derived.Laws.IdiomStrings
import Derived.Laws.AppendOwn
namespace Go.Proofs.Ytpegefcpanijhaa
set_option linter.unusedVariables false
set_option linter.unusedSimpArgs false
open Go.RowKit Go.Proofs.YtpegefcpanijhaaW.PrintWords PF

/-- A number's bytes: seven bits each, the lowest first. -/
def numF : Nat → Nat → List UInt8
  | 0, _ => []
  | k + 1, n => if n < 128 then [n.toUInt8] else (n % 128 + 128).toUInt8 :: numF k (n / 128)
def numL (n : Nat) : List UInt8 := numF 9 n

theorem numF_length (k n : Nat) : (numF k n).length ≤ k := by
  induction k generalizing n with
  | zero => simp [numF]
  | succ k ih =>
    unfold numF
    split
    · simp
    · simp; exact ih _
theorem numL_length (n : Nat) : (numL n).length ≤ 9 := numF_length 9 n

theorem or128 {n : Int} (h0 : 0 ≤ n) (h1 : n < 128) : Go.bits .or .i64 n 128 = n + 128 := by
  have hc : bits .or .i64 n 128 = bits .or .i64 128 n := by simp only [bits, BitVec.or_comm]
  rw [hc, bits_join .i64 63 (by decide) (fun n _ _ => by rw [IntKind.wrap_i64]; omega) 7 128 n (by decide) (by decide) (by decide) h0 h1 (by omega)]
  omega

/-- A row of bytes that a call has made itself, as a text. -/
theorem own_string {w : World} {base n : Nat} {v : Value} {l : List UInt8} (h : w.ownsRow base 5 1 v n (Lib.byteCells l)) (hn : n ≠ 0) :
    ∃ g cap, v = .slice (some ⟨g, 0, none⟩) n cap ∧ (convert 69 9 (.slice (some ⟨g, 0, none⟩) n cap)).run Try.prog w = .ok (.string ⟨l.toArray⟩) w := by
  have hl : l.length = n := by have := h.1; rw [Lib.byteCells_length] at this; omega
  rcases h.2 with ⟨_, h0⟩ | ⟨g, cap, cur, rfl, _⟩
  · exact absurd h0 hn
  · refine ⟨g, cap, rfl, ?_⟩
    have hc := h.cells (g := g) rfl
    subst hl
    refine run_convert_bytes_back w 69 9 5 ⟨g, 0, none⟩ cap l Try.underlying69 Try.underlying5 Try.underlying9 fun j hj => hc j _ ?_
    simp [Lib.byteCells, List.getElem?_eq_getElem hj]

theorem below_own {B : Nat} {W w w' : World} {e n sz : Nat} {v : Value} {xs : List Value} (hB : Below B W w) (hg : w.grownBy w' v.ownBlock) (hown : w.ownsRow B e sz v n xs) (hw : B ≤ w.heap.size) : Below B W w' :=
  hB.grown hg hw (fun k hk => (hown.lt k hk).1)
theorem byteCells_snoc (xs : List UInt8) (c : UInt8) : Lib.byteCells xs ++ [.int .u8 c.toNat] = Lib.byteCells (xs ++ [c]) := by simp [Lib.byteCells]
theorem numF_more {k q : Nat} (h : 127 < q) : numF (k + 1) q = (q % 128 + 128).toUInt8 :: numF k (q / 128) := by
  conv => lhs; unfold numF
  rw [if_neg (by omega)]
theorem numF_last {k q : Nat} (h : ¬ 127 < q) : numF (k + 1) q = [q.toUInt8] := by
  conv => lhs; unfold numF
  rw [if_pos (by omega)]
theorem toUInt8_small {n : Nat} (h : n < 256) : n.toUInt8.toNat = n := by simp; omega

set_option maxHeartbeats 2000000 in
set_option maxRecDepth 100000 in
theorem num_calls (n : Int) (h0 : 0 ≤ n) (h1 : n ≤ 4611686018427387903) (w : World) : Calls Try.prog 74 #[.int .i64 n] w fun e w' => e = .returned (.tuple #[.string ⟨(numL n.toNat).toArray⟩, .int .i64 0]) ∧ Below w.heap.size w w' := by
  obtain ⟨i0, hi, hz0, hz1, hz2⟩ := info_parts infoU8
  have HI0 := Lib.hid hi
  have HZ0 := Lib.hid hz0
  have HZ1 := Lib.hid hz1
  have HZ2 := Lib.hid hz2
  clear hi hz0 hz1 hz2
  go_enter Try.func74, Try.ntmps74
  have hz : ¬ n < 0 := by omega
  have hy : ¬ 4611686018427387903 < n := by omega
  go_wp2_with fail
  go_loopw [0, 4] (fun nv bv wr => ∃ (q i : Nat) (v : Value) (xs : List UInt8), nv = .int .i64 q ∧ bv = v ∧ i ≤ 8 ∧ Hid (q < 128 ^ (9 - i)) ∧ wr.ownsRow w.heap.size 5 1 v i (Lib.byteCells xs) ∧ Below w.heap.size w wr ∧ Hid (numL n.toNat = xs ++ numF (9 - i) q)) (fun nv _ _ => (intOf nv).toNat)
  case atStart => exact ⟨n.toNat, 0, _, [], by rw [Int.toNat_of_nonneg h0], rfl, by omega, Lib.hid (by omega), World.ownsRow_nil _ _ _ _, Below.refl _ _, Lib.hid rfl⟩
  case round =>
    obtain ⟨q, i, v, xs, rfl, rfl, hi8, HQ, hown, hB, HX⟩ := hrel
    by_cases hlt : 127 < q
    · have z1 : Go.bits .and .i64 (q : Int) 127 = (q : Int) % 128 := i64_and127 _
      have z2 : Go.bits .or .i64 ((q : Int) % 128) 128 = (q : Int) % 128 + 128 := or128 (by omega) (by omega)
      have z3 : ((q : Int) % 128 + 128) % 256 = (q : Int) % 128 + 128 := by omega
      have z4 : shr .i64 (q : Int) 7 = ((q / 128 : Nat) : Int) := by unfold shr; rw [Nat.min_eq_left (by decide)]; show (q : Int) / 128 = _; omega
      have hbw : w.heap.size ≤ (wr.alloc (.cells #[.int .u8 ((q : Int) % 128 + 128)] 5)).heap.size := by have := hB.size; simp; omega
      go_wp2_with (at_builtin; refine wpList_append_own _ rfl (.tmp 13) (.tmp 18) 69 rfl w.heap.size 5 i0 _ 1 1 Try.underlying69 HI0.out HZ0.out HZ1.out HZ2.out rfl (by decide) _ _ _ rfl (hown.alloc _) ⟨wr.heap.size, 0, none⟩ 1 1 [.int .u8 ((q : Int) % 128 + 128)] rfl rfl (cell_one_new _ _ _) (by simp [Value.oneCell']) (by unfold maxLen; omega) (by omega) hbw ?_; intro v5 w5 hown5 hg5 _)
      go_roundw
      case rel =>
        have e8 : i < 8 := by
          rcases Nat.lt_or_ge i 8 with h | h
          · exact h
          · have := HQ.out
            have e : i = 8 := by omega
            subst e
            omega
        have eb : (.int .u8 ((q : Int) % 128 + 128) : Value) = .int .u8 ((q % 128 + 128).toUInt8.toNat : Nat) := by rw [toUInt8_small (by omega)]; congr 1
        rw [eb, byteCells_snoc] at hown5
        refine ⟨q / 128, i + 1, v5, xs ++ [(q % 128 + 128).toUInt8], rfl, rfl, by omega, Lib.hid ?_, hown5, ?_, Lib.hid ?_⟩
        · have h1 := HQ.out
          have h2 : 128 ^ (9 - i) = 128 ^ (9 - (i + 1)) * 128 := by rw [← Nat.pow_succ]; congr 1; omega
          rw [h2] at h1
          exact Nat.div_lt_of_lt_mul (by omega)
        · exact below_own (hB.alloc hB.size _) hg5 (hown.alloc _) hbw
        · have h3 : 9 - i = (9 - (i + 1)) + 1 := by omega
          rw [HX.out, h3, numF_more hlt, List.append_assoc]
          rfl
      case measure => simp [intOf]; omega
    · have hbw : w.heap.size ≤ (wr.alloc (.cells #[.int .u8 (q : Int)] 5)).heap.size := by have := hB.size; simp; omega
      have z3 : (q : Int) % 256 = (q : Int) := by omega
      go_wp2_with (at_builtin; refine wpList_append_own _ rfl (.tmp 22) (.tmp 25) 69 rfl w.heap.size 5 i0 _ 1 1 Try.underlying69 HI0.out HZ0.out HZ1.out HZ2.out rfl (by decide) _ _ _ rfl (hown.alloc _) ⟨wr.heap.size, 0, none⟩ 1 1 [.int .u8 (q : Int)] rfl rfl (cell_one_new _ _ _) (by simp [Value.oneCell']) (by unfold maxLen; omega) (by omega) hbw ?_; intro v5 w5 hown5 hg5 _)
      have eb : (.int .u8 (q : Int) : Value) = .int .u8 (q.toUInt8.toNat : Nat) := by rw [toUInt8_small (by omega)]
      rw [eb, byteCells_snoc] at hown5
      obtain ⟨g, cap, rfl, hcv⟩ := own_string hown5 (by omega)
      have hn : numL n.toNat = xs ++ [q.toUInt8] := by
        have h3 : 9 - i = (8 - i) + 1 := by omega
        rw [HX.out, h3, numF_last hlt]
      have HN := Lib.hid hn
      clear hn eb
      go_wp2_with fail
      rw [hcv]
      simp only [Result.andThen]
      rw [Oper.upon_value]
      go_wp2_with fail
      go_ret2
      exact ⟨by rw [HN.out]; simp, below_own (hB.alloc hB.size _) hg5 (hown.alloc _) hbw⟩
end Go.Proofs.Ytpegefcpanijhaa
