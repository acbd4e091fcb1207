/- A number as a mark: what 'numbered' and the reference's 'Number' come to: the number's eight bytes, four times; two numbers below 2^64 have not one mark. Plain Lean over the printed functions. -/
import Derived.Test.YtpegefcpanijhaaF1
namespace Go.Proofs.Ytpegefcpanijhaa
set_option linter.unusedVariables false
set_option linter.unusedSimpArgs false
open Go.RowKit Go.Proofs.YtpegefcpanijhaaW.PrintWords Go.Proofs.YtpegefcpanijhaaW.PrintLast Go.Proofs.YtpegefcpanijhaaW.PrintMore
open PF

/-- The byte of the place j of a number's mark. -/
def byteOf (n : Int) (j : Nat) : Int := n / 2 ^ (8 * (j % 8)) % 256
def mkList (n : Int) : List Int := (List.range 32).map (byteOf n)
/-- The number n as a mark. -/
def mk (n : Int) : ByteArray := strOfNums (mkList n)

theorem mkList_four (n : Int) : mkList n = (List.range 8).map (byteOf n) ++ (List.range 8).map (byteOf n) ++ (List.range 8).map (byteOf n) ++ (List.range 8).map (byteOf n) := rfl
theorem mkList_length (n : Int) : (mkList n).length = 32 := rfl
theorem mk_size (n : Int) : (mk n).size = 32 := by unfold mk; rw [strOfNums_size]; rfl

theorem wrap_small {x : Int} (h : -9223372036854775808 ≤ x ∧ x ≤ 9223372036854775807) : wrap64 x = x := by unfold wrap64; omega

theorem numbered_loop (n : Int) : ∀ (d i k : Nat) (xs : List Int), xs.length = 32 → i + d = 32 → d < k →
    marks_numbered.l0 k n xs 32 i = some (strOfNums (xs.take i ++ (List.range' i d).map (byteOf n))) := by
  intro d
  induction d with
  | zero =>
    intro i k xs hx hi hk
    obtain ⟨k, rfl⟩ : ∃ m, k = m + 1 := ⟨k - 1, by omega⟩
    have hi' : i = 32 := by omega
    subst hi'
    simp only [marks_numbered.l0]
    rw [if_neg (by omega)]
    simp [List.take_of_length_le (Nat.le_of_eq hx)]
  | succ d ih =>
    intro i k xs hx hi hk
    obtain ⟨k, rfl⟩ : ∃ m, k = m + 1 := ⟨k - 1, by omega⟩
    have hm : Int.tmod (i : Int) 8 = ((i % 8 : Nat) : Int) := by rw [Int.tmod_eq_emod_of_nonneg (by omega)]; omega
    have hw : wrap64 (8 * Int.tmod (i : Int) 8) = ((8 * (i % 8) : Nat) : Int) := by rw [hm, wrap_small (by omega)]; omega
    simp only [marks_numbered.l0]
    rw [if_pos (by omega), hw, if_pos (by omega), if_pos (by omega), if_pos (by omega)]
    rw [show wrap64 ((i : Int) + 1) = ((i + 1 : Nat) : Int) by rw [wrap_small (by omega)]; omega]
    rw [ih (i + 1) k _ (by simp [hx]) (by omega) (by omega)]
    have hs : shr .i64 n ((8 * (i % 8) : Nat) : Int) % 256 = byteOf n i := by
      unfold shr byteOf
      rw [Int.toNat_natCast, Nat.min_eq_left (by have := Nat.mod_lt i (show 0 < 8 by omega); simp [IntKind.bits]; omega)]
    rw [hs, Int.toNat_natCast]
    congr 2
    rw [List.range'_succ, List.map_cons]
    have hlt : i < xs.length := by omega
    rw [List.take_succ_eq_append_getElem (by simpa using hlt)]
    simp [List.take_set_of_le]

/-- 'numbered'. -/
theorem numbered_is (n : Int) : ∃ k, marks_numbered.f k n = some (mk n) := by
  refine ⟨33, ?_⟩
  unfold marks_numbered.f
  rw [if_pos (by omega), Option.bind_some]
  have h := numbered_loop n 32 0 33 (List.replicate 32 0) (by simp) (by omega) (by omega)
  simp only [List.length_replicate]
  refine h.trans ?_
  rw [List.take_zero, List.nil_append]
  rfl

/-- What the reference's number becomes, byte for byte. -/
def shrunk (n : Int) : Nat → Int
  | 0 => n
  | j + 1 => wrap64 (Int.tdiv (shrunk n j) 256)
def refByte (n : Int) (j : Nat) : Int := (Int.tmod (shrunk n j) 256) % 256

theorem Number_inner (n : Int) (x4 : Int) : ∀ (d j k : Nat) (xs : List Int), xs.length + d ≤ 1000 → j + d = 8 → d < k →
    barqueref03_Number.l1 k n xs x4 (shrunk n j) j = barqueref03_Number.l0 (k - (d + 1)) n (xs ++ (List.range' j d).map (refByte n)) (wrap64 (x4 + 1)) := by
  intro d
  induction d with
  | zero =>
    intro j k xs hx hj hk
    obtain ⟨k, rfl⟩ : ∃ m, k = m + 1 := ⟨k - 1, by omega⟩
    simp only [barqueref03_Number.l1]
    rw [if_neg (by omega)]
    simp
  | succ d ih =>
    intro j k xs hx hj hk
    obtain ⟨k, rfl⟩ : ∃ m, k = m + 1 := ⟨k - 1, by omega⟩
    simp only [barqueref03_Number.l1]
    rw [if_pos (by omega), if_pos (by omega)]
    rw [show wrap64 ((j : Int) + 1) = ((j + 1 : Nat) : Int) by rw [wrap_small (by omega)]; omega]
    rw [show wrap64 (Int.tdiv (shrunk n j) 256) = shrunk n (j + 1) from rfl]
    rw [ih (j + 1) k _ (by simp; omega) (by omega) (by omega), List.range'_succ, List.map_cons]
    rw [show k + 1 - (d + 1 + 1) = k - (d + 1) by omega]
    simp [refByte]

def refEight (n : Int) : List Int := (List.range 8).map (refByte n)
def refMark (n : Int) : ByteArray := strOfNums (refEight n ++ refEight n ++ refEight n ++ refEight n)

theorem Number_outer (n : Int) (i k : Nat) (xs : List Int) (hx : xs.length ≤ 100) (hi : i < 4) (hk : 11 ≤ k) :
    barqueref03_Number.l0 k n xs i = barqueref03_Number.l0 (k - 10) n (xs ++ refEight n) ((i + 1 : Nat) : Int) := by
  obtain ⟨k, rfl⟩ : ∃ m, k = m + 1 := ⟨k - 1, by omega⟩
  conv => lhs; simp only [barqueref03_Number.l0]
  rw [if_pos (by omega)]
  have h := Number_inner n i 8 0 k xs (by omega) (by omega) (by omega)
  rw [show wrap64 ((i : Int) + 1) = ((i + 1 : Nat) : Int) by rw [wrap_small (by omega)]; omega] at h
  refine h.trans ?_
  rw [show k - (8 + 1) = k + 1 - 10 by omega]
  rfl

theorem Number_some (n : Int) : ∃ k, barqueref03_Number.f k n = some (refMark n) := by
  refine ⟨60, ?_⟩
  unfold barqueref03_Number.f
  have h0 := Number_outer n 0 60 [] (by simp) (by omega) (by omega)
  have h1 := Number_outer n 1 50 ([] ++ refEight n) (by simp [refEight]) (by omega) (by omega)
  have h2 := Number_outer n 2 40 ([] ++ refEight n ++ refEight n) (by simp [refEight]) (by omega) (by omega)
  have h3 := Number_outer n 3 30 ([] ++ refEight n ++ refEight n ++ refEight n) (by simp [refEight]) (by omega) (by omega)
  refine h0.trans (h1.trans (h2.trans (h3.trans ?_)))
  rfl

theorem shrunk_nat (n : Int) (h0 : 0 ≤ n) (h : n ≤ 9223372036854775807) : ∀ j, shrunk n j = n / 2 ^ (8 * j) ∧ 0 ≤ shrunk n j ∧ shrunk n j ≤ n := by
  intro j
  induction j with
  | zero => simp [shrunk]; omega
  | succ j ih =>
    obtain ⟨e, a, b⟩ := ih
    have e1 : Int.tdiv (shrunk n j) 256 = shrunk n j / 256 := Int.tdiv_eq_ediv_of_nonneg a
    have e2 : shrunk n (j + 1) = shrunk n j / 256 := by
      show wrap64 (Int.tdiv (shrunk n j) 256) = _
      rw [e1, wrap_small (by omega)]
    refine ⟨?_, by rw [e2]; omega, by rw [e2]; omega⟩
    rw [e2, e, Int.ediv_ediv_of_nonneg (Int.pow_nonneg (by omega))]
    rw [show 8 * (j + 1) = 8 * j + 8 by omega, Int.pow_add]
    rfl

theorem refMark_is (n : Int) (h0 : 0 ≤ n) (h : n ≤ 9223372036854775807) : refMark n = mk n := by
  unfold refMark mk
  rw [mkList_four]
  have e : refEight n = (List.range 8).map (byteOf n) := by
    unfold refEight
    apply List.map_congr_left
    intro j hj
    have hj' : j < 8 := by simpa using hj
    obtain ⟨e, a, b⟩ := shrunk_nat n h0 h j
    unfold refByte byteOf
    rw [Int.tmod_eq_emod_of_nonneg a, e, Nat.mod_eq_of_lt hj']
    omega
  rw [e]

/-- 'Number'. -/
theorem Number_is (n : Int) (h0 : 0 ≤ n) (h : n ≤ 9223372036854775807) : ∃ k, barqueref03_Number.f k n = some (mk n) := by
  rw [← refMark_is n h0 h]; exact Number_some n

/-- Two numbers below 2^64 have not one mark. -/
theorem mk_inj {a b : Int} (ha : 0 ≤ a) (ha' : a < 18446744073709551616) (hb : 0 ≤ b) (hb' : b < 18446744073709551616) (h : mk a = mk b) : a = b := by
  have h1 : (mk a).data.toList = (mk b).data.toList := by rw [h]
  unfold mk at h1
  rw [strOfNums_data, strOfNums_data] at h1
  have g : ∀ j, j < 8 → byteOf a j = byteOf b j := by
    intro j hj
    have h2 : ((mkList a).map fun n => UInt8.ofNat n.toNat)[j]? = ((mkList b).map fun n => UInt8.ofNat n.toNat)[j]? := by rw [h1]
    have hl : j < 32 := by omega
    simp only [mkList, List.getElem?_map, List.getElem?_range hl, Option.map_some, Option.some.injEq] at h2
    have h3 := congrArg UInt8.toNat h2
    have ra : 0 ≤ byteOf a j ∧ byteOf a j < 256 := by unfold byteOf; omega
    have rb : 0 ≤ byteOf b j ∧ byteOf b j < 256 := by unfold byteOf; omega
    simp at h3
    omega
  have g0 := g 0 (by omega); have g1 := g 1 (by omega); have g2 := g 2 (by omega); have g3 := g 3 (by omega)
  have g4 := g 4 (by omega); have g5 := g 5 (by omega); have g6 := g 6 (by omega); have g7 := g 7 (by omega)
  simp only [byteOf, Nat.reduceMod, Nat.reduceMul] at g0 g1 g2 g3 g4 g5 g6 g7
  omega
end Go.Proofs.Ytpegefcpanijhaa
