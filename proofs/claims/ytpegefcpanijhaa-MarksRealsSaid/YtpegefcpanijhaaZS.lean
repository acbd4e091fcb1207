/- The reference's block is SHA-256's. The reference's block computes SHA-256's. A row of bytes of one's own, frozen behind its end or not: made from a text, appended to. The walk of the reference's Sum. -/
import Derived.Test.YtpegefcpanijhaaF3
import Derived.Test.YtpegefcpanijhaaZI
import Derived.Laws.IdiomCopy
import Derived.Test.YtpegefcpanijhaaF2
section
namespace Go.Proofs.Ytpegefcpanijhaa
set_option linter.unusedVariables false
set_option linter.unusedSimpArgs false
open Go.RowKit Go.Proofs.YtpegefcpanijhaaW.PrintWords Go.Proofs.YtpegefcpanijhaaW.PrintMore PF

/-- The first n words as whole numbers. -/
def listU (n : Nat) (v : Nat → W32) : List Int := (List.range n).map fun j => U (v j)
theorem listU_length (n : Nat) (v : Nat → W32) : (listU n v).length = n := by simp [listU]
theorem listU_succ (n : Nat) (v : Nat → W32) : listU (n + 1) v = listU n v ++ [U (v n)] := by
  unfold listU
  rw [List.range_succ, List.map_append]
  rfl
theorem rd_listU {n : Nat} (v : Nat → W32) {j : Nat} (h : j < n) : rd (listU n v) (j : Int) = U (v j) := by
  unfold rd listU
  rw [Int.toNat_natCast, List.getD_eq_getElem?_getD, List.getElem?_map, List.getElem?_range h]
  rfl
theorem rd_bytes (l : List UInt8) {j : Nat} (h : j < l.length) : rd (l.map UB) (j : Int) = UB (l.getD j 0) := by
  unfold rd
  rw [Int.toNat_natCast, List.getD_eq_getElem?_getD, List.getElem?_map, List.getElem?_eq_getElem h, List.getD_eq_getElem?_getD, List.getElem?_eq_getElem h]
  rfl
theorem ofInt64_U (x : W32) : BitVec.ofInt 64 (U x) = x.setWidth 64 := by
  unfold U
  apply BitVec.eq_of_toNat_eq
  simp
theorem wrap64_nat (n : Nat) (h : n < 4294967296) : IntKind.i64.wrap (n : Int) = (n : Int) := by
  rw [IntKind.wrap_i64]
  omega
theorem i_xor (x y : W32) : Go.bits .xor .i64 (U x) (U y) = U (x ^^^ y) := by
  show IntKind.i64.wrap (((BitVec.ofInt 64 (U x) ^^^ BitVec.ofInt 64 (U y)).toNat : Nat) : Int) = _
  have h := (x ^^^ y).isLt
  have e : (x.setWidth 64 ^^^ y.setWidth 64).toNat = (x ^^^ y).toNat := by
    rw [← BitVec.setWidth_xor, BitVec.toNat_setWidth]
    exact Nat.mod_eq_of_lt (by omega)
  rw [ofInt64_U, ofInt64_U, e]
  exact wrap64_nat _ h
theorem i_and (x y : W32) : Go.bits .and .i64 (U x) (U y) = U (x &&& y) := by
  show IntKind.i64.wrap (((BitVec.ofInt 64 (U x) &&& BitVec.ofInt 64 (U y)).toNat : Nat) : Int) = _
  have h := (x &&& y).isLt
  have e : (x.setWidth 64 &&& y.setWidth 64).toNat = (x &&& y).toNat := by
    rw [← BitVec.setWidth_and, BitVec.toNat_setWidth]
    exact Nat.mod_eq_of_lt (by omega)
  rw [ofInt64_U, ofInt64_U, e]
  exact wrap64_nat _ h
theorem i_not (x : W32) : wrap64 (4294967295 - U x) = U (~~~x) := by
  have h := U_lt x
  have e : U (~~~x) = 4294967295 - U x := by
    unfold U
    rw [BitVec.toNat_not]
    have := x.isLt
    omega
  rw [e]
  unfold wrap64
  omega
theorem i_low (n : Int) (h0 : 0 ≤ n) (h1 : n < 9223372036854775808) : barqueref03_low.f n = some (U (BitVec.ofInt 32 n)) := by
  unfold barqueref03_low.f
  congr 1
  obtain ⟨m, rfl⟩ := Int.eq_ofNat_of_zero_le h0
  have e1 : BitVec.ofInt 64 (m : Int) = BitVec.ofNat 64 m := by simp
  have e2 : BitVec.ofInt 64 (4294967295 : Int) = BitVec.ofNat 64 4294967295 := rfl
  show IntKind.i64.wrap (((BitVec.ofInt 64 (m : Int) &&& BitVec.ofInt 64 (4294967295 : Int)).toNat : Nat) : Int) = _
  have e3 : (BitVec.ofNat 64 m &&& BitVec.ofNat 64 4294967295).toNat = m % 4294967296 := by
    rw [BitVec.toNat_and, BitVec.toNat_ofNat, BitVec.toNat_ofNat]
    have : m % 2 ^ 64 = m := Nat.mod_eq_of_lt (by omega)
    rw [this]
    exact Nat.and_two_pow_sub_one_eq_mod m 32
  rw [e1, e2, e3, wrap64_nat _ (Nat.mod_lt _ (by decide))]
  unfold U
  simp
theorem i_right (x : W32) (n : Nat) (h0 : 0 < n) (h1 : n < 32) : barqueref03_right.f (U x) (n : Int) = some (U (x.rotateRight n)) := by
  have e0 : wrap64 (32 - (n : Int)) = ((32 - n : Nat) : Int) := by unfold wrap64; omega
  have hx := x.isLt
  unfold barqueref03_right.f
  rw [if_pos (by omega), e0, if_pos (by omega)]
  have e1 : shr .i64 (U x) (n : Int) = ((x.toNat / 2 ^ n : Nat) : Int) := by
    unfold shr
    rw [Int.toNat_natCast, Nat.min_eq_left (by show n ≤ 64; omega), Int.natCast_ediv, Int.natCast_pow]
    rfl
  have hb : x.toNat * 2 ^ (32 - n) < 9223372036854775808 := by
    have h2 : 2 ^ (32 - n) ≤ 2 ^ 31 := Nat.pow_le_pow_right (by decide) (by omega)
    have h3 : x.toNat * 2 ^ (32 - n) ≤ 4294967295 * 2 ^ 31 := Nat.mul_le_mul (by omega) h2
    omega
  have e2 : shl .i64 (U x) ((32 - n : Nat) : Int) = ((x.toNat * 2 ^ (32 - n) : Nat) : Int) := by
    unfold shl
    rw [Int.toNat_natCast, Nat.min_eq_left (by show 32 - n ≤ 64; omega)]
    have e3 : U x * 2 ^ (32 - n) = ((x.toNat * 2 ^ (32 - n) : Nat) : Int) := by
      rw [Int.natCast_mul, Int.natCast_pow]
      rfl
    rw [e3, IntKind.wrap_i64]
    omega
  have ha : x.toNat / 2 ^ n < 9223372036854775808 := Nat.lt_of_le_of_lt (Nat.div_le_self _ _) (by omega)
  have e4 : Go.bits .or .i64 ((x.toNat / 2 ^ n : Nat) : Int) ((x.toNat * 2 ^ (32 - n) : Nat) : Int) = ((x.toNat / 2 ^ n ||| x.toNat * 2 ^ (32 - n) : Nat) : Int) := by
    have hor : x.toNat / 2 ^ n ||| x.toNat * 2 ^ (32 - n) < 2 ^ 63 := Nat.or_lt_two_pow (by omega) (by omega)
    show IntKind.i64.wrap (((BitVec.ofInt 64 ((x.toNat / 2 ^ n : Nat) : Int) ||| BitVec.ofInt 64 ((x.toNat * 2 ^ (32 - n) : Nat) : Int)).toNat : Nat) : Int) = _
    rw [BitVec.ofInt_natCast, BitVec.ofInt_natCast, BitVec.toNat_or, BitVec.toNat_ofNat, BitVec.toNat_ofNat, Nat.mod_eq_of_lt (show x.toNat / 2 ^ n < 2 ^ 64 by omega), Nat.mod_eq_of_lt (show x.toNat * 2 ^ (32 - n) < 2 ^ 64 by omega), IntKind.wrap_i64]
    omega
  have hor : x.toNat / 2 ^ n ||| x.toNat * 2 ^ (32 - n) < 2 ^ 63 := Nat.or_lt_two_pow (by omega) (by omega)
  rw [e1, e2, e4, i_low _ (by omega) (by omega)]
  simp only [Option.bind_some]
  congr 1
  have e5 : BitVec.ofInt 32 ((x.toNat / 2 ^ n ||| x.toNat * 2 ^ (32 - n) : Nat) : Int) = x.rotateRight n := by
    apply BitVec.eq_of_toNat_eq
    rw [BitVec.ofInt_natCast, BitVec.toNat_ofNat, rot_nat x n h0 h1, Nat.or_mod_two_pow]
    congr 1
    exact Nat.mod_eq_of_lt (Nat.lt_of_le_of_lt (Nat.div_le_self _ _) x.isLt)
  rw [e5]
theorem ch_ref (e f g : W32) : (e &&& f) ^^^ (~~~e &&& g) = chW e f g := by
  unfold chW
  apply BitVec.eq_of_getLsbD_eq
  intro i hi
  simp only [BitVec.getLsbD_xor, BitVec.getLsbD_and, BitVec.getLsbD_not, hi, decide_true, Bool.true_and]
  cases e.getLsbD i <;> cases f.getLsbD i <;> cases g.getLsbD i <;> rfl
theorem maj_ref (a b c : W32) : ((a &&& b) ^^^ (a &&& c)) ^^^ (b &&& c) = majW a b c := by
  unfold majW
  apply BitVec.eq_of_getLsbD_eq
  intro i hi
  simp only [BitVec.getLsbD_xor, BitVec.getLsbD_and, BitVec.getLsbD_or]
  cases a.getLsbD i <;> cases b.getLsbD i <;> cases c.getLsbD i <;> rfl
set_option maxRecDepth 100000 in
theorem be_sum (l : List UInt8) (i : Nat) : U (beW l i) = UB (l.getD (4 * i) 0) * 16777216 + UB (l.getD (4 * i + 1) 0) * 65536 + UB (l.getD (4 * i + 2) 0) * 256 + UB (l.getD (4 * i + 3) 0) := by
  unfold beW byteW
  generalize l.getD (4 * i) 0 = a
  generalize l.getD (4 * i + 1) 0 = b
  generalize l.getD (4 * i + 2) 0 = c
  generalize l.getD (4 * i + 3) 0 = d
  have ha := a.toNat_lt
  have hb := b.toNat_lt
  have hc := c.toNat_lt
  have hd := d.toNat_lt
  unfold U UB
  rw [BitVec.toNat_or, BitVec.toNat_or, BitVec.toNat_or, BitVec.toNat_shiftLeft, BitVec.toNat_shiftLeft, BitVec.toNat_shiftLeft, BitVec.toNat_ofNat, BitVec.toNat_ofNat, BitVec.toNat_ofNat, BitVec.toNat_ofNat, Nat.shiftLeft_eq, Nat.shiftLeft_eq, Nat.shiftLeft_eq]
  generalize a.toNat = x at ha ⊢
  generalize b.toNat = y at hb ⊢
  generalize c.toNat = z at hc ⊢
  generalize d.toNat = t at hd ⊢
  have p1 : ∀ q : Nat, q < 2 ^ 8 → q % 2 ^ 32 = q := fun q h => Nat.mod_eq_of_lt (Nat.lt_of_lt_of_le h (by decide))
  have p2 : ∀ q i j : Nat, q < 2 ^ 8 → 2 ^ 8 * 2 ^ i ≤ 2 ^ j → q * 2 ^ i < 2 ^ j := fun q i j h hij => Nat.lt_of_lt_of_le (Nat.mul_lt_mul_of_pos_right h (Nat.two_pow_pos i)) hij
  rw [p1 x ha, p1 y hb, p1 z hc, p1 t hd, Nat.mod_eq_of_lt (p2 x 24 32 ha (by decide)), Nat.mod_eq_of_lt (p2 y 16 32 hb (by decide)), Nat.mod_eq_of_lt (p2 z 8 32 hc (by decide))]
  have q1 : x * 2 ^ 24 + y * 2 ^ 16 = (x * 2 ^ 8 + y) * 2 ^ 16 := by rw [Nat.add_mul, Nat.mul_assoc, ← Nat.pow_add]
  have q2 : x * 2 ^ 24 + y * 2 ^ 16 + z * 2 ^ 8 = ((x * 2 ^ 8 + y) * 2 ^ 8 + z) * 2 ^ 8 := by
    have h := Nat.add_mul ((x * 2 ^ 8 + y) * 2 ^ 8) z (2 ^ 8)
    rw [Nat.mul_assoc, ← Nat.pow_add] at h
    rw [q1]
    exact h.symm
  have j1 : x * 2 ^ 24 ||| y * 2 ^ 16 = x * 2 ^ 24 + y * 2 ^ 16 := nat_join 24 _ _ (Nat.mul_mod_left _ _) (p2 y 16 24 hb (by decide))
  have j2 : (x * 2 ^ 24 + y * 2 ^ 16) ||| z * 2 ^ 8 = (x * 2 ^ 24 + y * 2 ^ 16) + z * 2 ^ 8 := nat_join 16 _ _ (by rw [q1]; exact Nat.mul_mod_left _ _) (p2 z 8 16 hc (by decide))
  have j3 : ((x * 2 ^ 24 + y * 2 ^ 16) + z * 2 ^ 8) ||| t = ((x * 2 ^ 24 + y * 2 ^ 16) + z * 2 ^ 8) + t := nat_join 8 _ _ (by rw [q2]; exact Nat.mul_mod_left _ _) hd
  rw [j1, j2, j3]
  simp only [Nat.reducePow, Int.natCast_add, Int.natCast_mul]
  rfl
end Go.Proofs.Ytpegefcpanijhaa
end
section
namespace Go.Proofs.Ytpegefcpanijhaa
set_option linter.unusedVariables false
set_option linter.unusedSimpArgs false
open Go.RowKit Go.Proofs.YtpegefcpanijhaaW.PrintWords Go.Proofs.YtpegefcpanijhaaW.PrintMore PF

theorem w_id {x : Int} (h0 : -9223372036854775808 ≤ x) (h1 : x ≤ 9223372036854775807) : wrap64 x = x := by
  unfold wrap64
  omega
theorem blk_low (x0 x1 : List Int) (l : List UInt8) (hl : l.length = 64) (i k : Nat) (hi : i < 16) :
    barqueref03_block.l0 (k + 1) x0 x1 (l.map UB) (listU i (Wd (beW l))) (i : Int) = barqueref03_block.l0 k x0 x1 (l.map UB) (listU (i + 1) (Wd (beW l))) ((i + 1 : Nat) : Int) := by
  have hlen : ((l.map UB).length : Int) = 64 := by rw [List.length_map, hl]; rfl
  have e0 : wrap64 (4 * (i : Int)) = ((4 * i : Nat) : Int) := by unfold wrap64; omega
  have e1 : wrap64 (((4 * i : Nat) : Int) + 1) = ((4 * i + 1 : Nat) : Int) := by unfold wrap64; omega
  have e2 : wrap64 (((4 * i : Nat) : Int) + 2) = ((4 * i + 2 : Nat) : Int) := by unfold wrap64; omega
  have e3 : wrap64 (((4 * i : Nat) : Int) + 3) = ((4 * i + 3 : Nat) : Int) := by unfold wrap64; omega
  have e4 : wrap64 ((i : Int) + 1) = ((i + 1 : Nat) : Int) := by unfold wrap64; omega
  have r0 := rd_bytes l (j := 4 * i) (by omega)
  have r1 := rd_bytes l (j := 4 * i + 1) (by omega)
  have r2 := rd_bytes l (j := 4 * i + 2) (by omega)
  have r3 := rd_bytes l (j := 4 * i + 3) (by omega)
  have hs := be_sum l i
  have hW := Wd_low (beW l) i hi
  have b0 := UB_lt (l.getD (4 * i) 0)
  have b1 := UB_lt (l.getD (4 * i + 1) 0)
  have b2 := UB_lt (l.getD (4 * i + 2) 0)
  have b3 := UB_lt (l.getD (4 * i + 3) 0)
  rw [barqueref03_block.l0, if_pos (by omega), if_pos (by omega), e0, if_pos (by omega), if_pos (by omega), e1, if_pos (by omega), if_pos (by omega), e2, if_pos (by omega), if_pos (by omega), e3, if_pos (by omega), if_pos (by omega), if_pos (by rw [listU_length]; omega), e4, r0, r1, r2, r3, listU_succ, hW, hs]
  generalize UB (l.getD (4 * i) 0) = a at b0 ⊢
  generalize UB (l.getD (4 * i + 1) 0) = b at b1 ⊢
  generalize UB (l.getD (4 * i + 2) 0) = c at b2 ⊢
  generalize UB (l.getD (4 * i + 3) 0) = d at b3 ⊢
  rw [w_id (x := a) (by omega) (by omega), w_id (x := b) (by omega) (by omega), w_id (x := c) (by omega) (by omega), w_id (x := d) (by omega) (by omega), w_id (x := a * 16777216) (by omega) (by omega), w_id (x := b * 65536) (by omega) (by omega), w_id (x := c * 256) (by omega) (by omega), w_id (x := a * 16777216 + b * 65536) (by omega) (by omega), w_id (x := a * 16777216 + b * 65536 + c * 256) (by omega) (by omega), w_id (x := a * 16777216 + b * 65536 + c * 256 + d) (by omega) (by omega)]

theorem blk_high (x0 x1 x2 : List Int) (W : Nat → W32) (i k : Nat) (hi : 16 ≤ i) (hi2 : i < 64) (hW : W i = W (i - 16) + ((ss0 (W (i - 15)) + W (i - 7)) + ss1 (W (i - 2)))) :
    barqueref03_block.l0 (k + 1) x0 x1 x2 (listU i W) (i : Int) = barqueref03_block.l0 k x0 x1 x2 (listU (i + 1) W) ((i + 1 : Nat) : Int) := by
  have e15 : wrap64 ((i : Int) - 15) = ((i - 15 : Nat) : Int) := by unfold wrap64; omega
  have e2 : wrap64 ((i : Int) - 2) = ((i - 2 : Nat) : Int) := by unfold wrap64; omega
  have e16 : wrap64 ((i : Int) - 16) = ((i - 16 : Nat) : Int) := by unfold wrap64; omega
  have e7 : wrap64 ((i : Int) - 7) = ((i - 7 : Nat) : Int) := by unfold wrap64; omega
  have e4 : wrap64 ((i : Int) + 1) = ((i + 1 : Nat) : Int) := by unfold wrap64; omega
  rw [listU_succ]
  have r15 := rd_listU W (n := i) (j := i - 15) (by omega)
  have r2 := rd_listU W (n := i) (j := i - 2) (by omega)
  have r16 := rd_listU W (n := i) (j := i - 16) (by omega)
  have r7 := rd_listU W (n := i) (j := i - 7) (by omega)
  have hlen := listU_length i W
  generalize listU i W = L at hlen r15 r2 r16 r7 ⊢
  rw [barqueref03_block.l0, if_pos (by omega), if_neg (by omega), e15, if_pos (by omega), if_pos (by omega), e2, if_pos (by omega), if_pos (by omega), e16, if_pos (by omega), if_pos (by omega), e7, e4, r15, r2, r16, r7, hW]
  clear r15 r2 r16 r7 hW e15 e2 e16 e7 e4
  generalize W (i - 15) = x
  generalize W (i - 2) = y
  generalize W (i - 16) = z
  generalize W (i - 7) = t
  have q7 : barqueref03_right.f (U x) 7 = some (U (x.rotateRight 7)) := i_right x 7 (by decide) (by decide)
  have q18 : barqueref03_right.f (U x) 18 = some (U (x.rotateRight 18)) := i_right x 18 (by decide) (by decide)
  have q17 : barqueref03_right.f (U y) 17 = some (U (y.rotateRight 17)) := i_right y 17 (by decide) (by decide)
  have q19 : barqueref03_right.f (U y) 19 = some (U (y.rotateRight 19)) := i_right y 19 (by decide) (by decide)
  rw [q7, Option.bind_some, q18, Option.bind_some, if_pos (by omega), if_pos (by omega), q17, Option.bind_some, q19, Option.bind_some, u_shr3, u_shr10, i_xor, i_xor, i_xor, i_xor]
  have p0 := U_lt z
  have p1 := U_lt (x.rotateRight 7 ^^^ x.rotateRight 18 ^^^ x >>> 3)
  have p2 := U_lt t
  have p3 := U_lt (y.rotateRight 17 ^^^ y.rotateRight 19 ^^^ y >>> 10)
  have hsum : BitVec.ofInt 32 (U z + U (x.rotateRight 7 ^^^ x.rotateRight 18 ^^^ x >>> 3) + U t + U (y.rotateRight 17 ^^^ y.rotateRight 19 ^^^ y >>> 10)) = z + ((ss0 x + t) + ss1 y) := by
    rw [BitVec.ofInt_add, BitVec.ofInt_add, BitVec.ofInt_add, ofInt_U, ofInt_U, ofInt_U, ofInt_U]
    unfold ss0 ss1
    rw [BitVec.add_assoc, BitVec.add_assoc, ← BitVec.add_assoc (x.rotateRight 7 ^^^ x.rotateRight 18 ^^^ x >>> 3)]
  generalize U z = a at p0 hsum ⊢
  generalize U (x.rotateRight 7 ^^^ x.rotateRight 18 ^^^ x >>> 3) = b at p1 hsum ⊢
  generalize U t = c at p2 hsum ⊢
  generalize U (y.rotateRight 17 ^^^ y.rotateRight 19 ^^^ y >>> 10) = d at p3 hsum ⊢
  rw [w_id (x := a + b) (by omega) (by omega), w_id (x := a + b + c) (by omega) (by omega), w_id (x := a + b + c + d) (by omega) (by omega), i_low _ (by omega) (by omega), Option.bind_some, if_pos (by omega), hsum]

theorem blk_words (x0 x1 : List Int) (l : List UInt8) (hl : l.length = 64) : ∀ (d i k : Nat), i + d = 64 →
    barqueref03_block.l0 (k + d) x0 x1 (l.map UB) (listU i (Wd (beW l))) (i : Int) = barqueref03_block.l0 k x0 x1 (l.map UB) (listU 64 (Wd (beW l))) 64 := by
  intro d
  induction d with
  | zero =>
    intro i k h
    obtain rfl : i = 64 := by omega
    rfl
  | succ d ih =>
    intro i k h
    rw [show k + (d + 1) = (k + d) + 1 by omega]
    by_cases h16 : i < 16
    · rw [blk_low x0 x1 l hl i _ h16]
      exact ih (i + 1) k (by omega)
    · rw [blk_high x0 x1 _ _ i _ (by omega) (by omega) (Wd_next (beW l) i (by omega))]
      exact ih (i + 1) k (by omega)
theorem blk_turn (x0 x1 x2 : List Int) (W : Nat → W32) (k : Nat) (h0 : x0.length = 8) :
    barqueref03_block.l0 (k + 1) x0 x1 x2 (listU 64 W) 64 = barqueref03_block.l1 k x0 x1 (listU 64 W) x0 0 := by
  rw [barqueref03_block.l0, if_neg (by omega), Option.bind_some, if_pos (by rw [h0]; decide), List.nil_append]
theorem blk_round (x0 : List Int) (K W : Nat → W32) (V : V8) (i k : Nat) (hi : i < 64) :
    barqueref03_block.l1 (k + 1) x0 (listU 64 K) (listU 64 W) (listU 8 V) (i : Int) = barqueref03_block.l1 k x0 (listU 64 K) (listU 64 W) (listU 8 (rnd V (K i) (W i))) ((i + 1 : Nat) : Int) := by
  have e4 : wrap64 ((i : Int) + 1) = ((i + 1 : Nat) : Int) := by unfold wrap64; omega
  have hv := listU_length 8 V
  have hk := listU_length 64 K
  have hw := listU_length 64 W
  have rk := rd_listU K hi
  have rw_ := rd_listU W hi
  have v0 : rd (listU 8 V) 0 = U (V 0) := rfl
  have v1 : rd (listU 8 V) 1 = U (V 1) := rfl
  have v2 : rd (listU 8 V) 2 = U (V 2) := rfl
  have v3 : rd (listU 8 V) 3 = U (V 3) := rfl
  have v4 : rd (listU 8 V) 4 = U (V 4) := rfl
  have v5 : rd (listU 8 V) 5 = U (V 5) := rfl
  have v6 : rd (listU 8 V) 6 = U (V 6) := rfl
  have v7 : rd (listU 8 V) 7 = U (V 7) := rfl
  have hnext : listU 8 (rnd V (K i) (W i)) = [U (tW V (K i) (W i) + uW V), U (V 0), U (V 1), U (V 2), U (V 3 + tW V (K i) (W i)), U (V 4), U (V 5), U (V 6)] := rfl
  rw [hnext]
  generalize listU 64 K = LK at hk rk ⊢
  generalize listU 64 W = LW at hw rw_ ⊢
  generalize listU 8 V = LV at hv v0 v1 v2 v3 v4 v5 v6 v7 ⊢
  have q6 : barqueref03_right.f (U (V 4)) 6 = some (U ((V 4).rotateRight 6)) := i_right (V 4) 6 (by decide) (by decide)
  have q11 : barqueref03_right.f (U (V 4)) 11 = some (U ((V 4).rotateRight 11)) := i_right (V 4) 11 (by decide) (by decide)
  have q25 : barqueref03_right.f (U (V 4)) 25 = some (U ((V 4).rotateRight 25)) := i_right (V 4) 25 (by decide) (by decide)
  have q2 : barqueref03_right.f (U (V 0)) 2 = some (U ((V 0).rotateRight 2)) := i_right (V 0) 2 (by decide) (by decide)
  have q13 : barqueref03_right.f (U (V 0)) 13 = some (U ((V 0).rotateRight 13)) := i_right (V 0) 13 (by decide) (by decide)
  have q22 : barqueref03_right.f (U (V 0)) 22 = some (U ((V 0).rotateRight 22)) := i_right (V 0) 22 (by decide) (by decide)
  rw [barqueref03_block.l1, if_pos (by omega), if_pos (by omega), if_pos (by omega), if_pos (by omega), v4, q6, Option.bind_some, q11, Option.bind_some, q25, Option.bind_some, if_pos (by omega), if_pos (by omega), if_pos (by omega), if_pos (by omega), if_pos (by omega), v0, q2, Option.bind_some, q13, Option.bind_some, q22, Option.bind_some, if_pos (by omega), if_pos (by omega), v1, v2, v3, v5, v6, v7, rk, rw_, i_not, e4]
  rw [i_xor ((V 4).rotateRight 6), i_xor ((V 4).rotateRight 6 ^^^ (V 4).rotateRight 11), i_and (V 4) (V 5), i_and (~~~V 4) (V 6), i_xor (V 4 &&& V 5), ch_ref, i_xor ((V 0).rotateRight 2), i_xor ((V 0).rotateRight 2 ^^^ (V 0).rotateRight 13), i_and (V 0) (V 1), i_and (V 0) (V 2), i_and (V 1) (V 2), i_xor (V 0 &&& V 1), i_xor (V 0 &&& V 1 ^^^ V 0 &&& V 2), maj_ref]
  have a0 := U_lt (V 7)
  have a1 := U_lt ((V 4).rotateRight 6 ^^^ (V 4).rotateRight 11 ^^^ (V 4).rotateRight 25)
  have a2 := U_lt (chW (V 4) (V 5) (V 6))
  have a3 := U_lt (K i)
  have a4 := U_lt (W i)
  have a5 := U_lt ((V 0).rotateRight 2 ^^^ (V 0).rotateRight 13 ^^^ (V 0).rotateRight 22)
  have a6 := U_lt (majW (V 0) (V 1) (V 2))
  have a7 := U_lt (V 3)
  have s1 : BitVec.ofInt 32 (U (V 7) + U ((V 4).rotateRight 6 ^^^ (V 4).rotateRight 11 ^^^ (V 4).rotateRight 25) + U (chW (V 4) (V 5) (V 6)) + U (K i) + U (W i) + (U ((V 0).rotateRight 2 ^^^ (V 0).rotateRight 13 ^^^ (V 0).rotateRight 22) + U (majW (V 0) (V 1) (V 2)))) = tW V (K i) (W i) + uW V := by
    simp only [BitVec.ofInt_add, ofInt_U]
    rfl
  have s2 : BitVec.ofInt 32 (U (V 3) + (U (V 7) + U ((V 4).rotateRight 6 ^^^ (V 4).rotateRight 11 ^^^ (V 4).rotateRight 25) + U (chW (V 4) (V 5) (V 6)) + U (K i) + U (W i))) = V 3 + tW V (K i) (W i) := by
    simp only [BitVec.ofInt_add, ofInt_U]
    rfl
  generalize U (V 7) = b0 at a0 s1 s2 ⊢
  generalize U ((V 4).rotateRight 6 ^^^ (V 4).rotateRight 11 ^^^ (V 4).rotateRight 25) = b1 at a1 s1 s2 ⊢
  generalize U (chW (V 4) (V 5) (V 6)) = b2 at a2 s1 s2 ⊢
  generalize U (K i) = b3 at a3 s1 s2 ⊢
  generalize U (W i) = b4 at a4 s1 s2 ⊢
  generalize U ((V 0).rotateRight 2 ^^^ (V 0).rotateRight 13 ^^^ (V 0).rotateRight 22) = b5 at a5 s1 ⊢
  generalize U (majW (V 0) (V 1) (V 2)) = b6 at a6 s1 ⊢
  rw [w_id (x := b0 + b1) (by omega) (by omega), w_id (x := b0 + b1 + b2) (by omega) (by omega), w_id (x := b0 + b1 + b2 + b3) (by omega) (by omega), w_id (x := b0 + b1 + b2 + b3 + b4) (by omega) (by omega), w_id (x := b5 + b6) (by omega) (by omega), w_id (x := b0 + b1 + b2 + b3 + b4 + (b5 + b6)) (by omega) (by omega), w_id (x := U (V 3) + (b0 + b1 + b2 + b3 + b4)) (by omega) (by omega), i_low _ (by omega) (by omega), Option.bind_some, if_pos (by omega), i_low _ (by omega) (by omega), Option.bind_some, s1, s2]
theorem blk_rounds (x0 : List Int) (K W : Nat → W32) (H : V8) : ∀ (d i k : Nat), i + d = 64 →
    barqueref03_block.l1 (k + d) x0 (listU 64 K) (listU 64 W) (listU 8 (rnds K W i H)) (i : Int) = barqueref03_block.l1 k x0 (listU 64 K) (listU 64 W) (listU 8 (rnds K W 64 H)) 64 := by
  intro d
  induction d with
  | zero =>
    intro i k h
    obtain rfl : i = 64 := by omega
    rfl
  | succ d ih =>
    intro i k h
    rw [show k + (d + 1) = (k + d) + 1 by omega, blk_round x0 K W _ i _ (by omega)]
    exact ih (i + 1) k (by omega)
theorem blk_out (H V : V8) (i k : Nat) (hi : i < 8) :
    barqueref03_block.l2 (k + 1) (listU 8 H) (listU 8 V) (listU i (addV H V)) (i : Int) = barqueref03_block.l2 k (listU 8 H) (listU 8 V) (listU (i + 1) (addV H V)) ((i + 1 : Nat) : Int) := by
  have e4 : wrap64 ((i : Int) + 1) = ((i + 1 : Nat) : Int) := by unfold wrap64; omega
  have rh := rd_listU H hi
  have rv := rd_listU V hi
  have hh := listU_length 8 H
  have hv := listU_length 8 V
  rw [listU_succ i (addV H V)]
  have hl := listU_length i (addV H V)
  generalize listU 8 H = LH at rh hh ⊢
  generalize listU 8 V = LV at rv hv ⊢
  generalize listU i (addV H V) = LO at hl ⊢
  have a0 := U_lt (H i)
  have a1 := U_lt (V i)
  have s1 : BitVec.ofInt 32 (U (H i) + U (V i)) = addV H V i := by
    rw [BitVec.ofInt_add, ofInt_U, ofInt_U]
    rfl
  rw [barqueref03_block.l2, if_pos (by omega), if_pos (by omega), if_pos (by omega), if_pos (by omega), rh, rv, w_id (by omega) (by omega), i_low _ (by omega) (by omega), Option.bind_some, if_pos (by omega), e4, s1]
theorem blk_outs (H V : V8) : ∀ (d i k : Nat), i + d = 8 →
    barqueref03_block.l2 (k + d + 1) (listU 8 H) (listU 8 V) (listU i (addV H V)) (i : Int) = some (listU 8 (addV H V)) := by
  intro d
  induction d with
  | zero =>
    intro i k h
    obtain rfl : i = 8 := by omega
    rw [barqueref03_block.l2, if_neg (by omega)]
  | succ d ih =>
    intro i k h
    rw [show k + (d + 1) + 1 = (k + d + 1) + 1 by omega, blk_out H V i _ (by omega)]
    exact ih (i + 1) k (by omega)
theorem block_val (K : Nat → W32) (H : V8) (l : List UInt8) (hl : l.length = 64) : barqueref03_block.f 140 (listU 8 H) (listU 64 K) (l.map UB) = some (listU 8 (blockV K H l)) := by
  unfold barqueref03_block.f
  have h1 := blk_words (listU 8 H) (listU 64 K) l hl 64 0 76 rfl
  have h2 := blk_turn (listU 8 H) (listU 64 K) (l.map UB) (Wd (beW l)) 75 (listU_length 8 H)
  have h3 := blk_rounds (listU 8 H) K (Wd (beW l)) H 64 0 11 rfl
  have h4 : barqueref03_block.l1 11 (listU 8 H) (listU 64 K) (listU 64 (Wd (beW l))) (listU 8 (rnds K (Wd (beW l)) 64 H)) 64 = barqueref03_block.l2 10 (listU 8 H) (listU 8 (rnds K (Wd (beW l)) 64 H)) [] 0 := by
    rw [barqueref03_block.l1, if_neg (by omega)]
  have h5 := blk_outs H (rnds K (Wd (beW l)) 64 H) 8 0 1 rfl
  exact h1.trans (h2.trans (h3.trans (h4.trans h5)))
end Go.Proofs.Ytpegefcpanijhaa
end
section
namespace Go.Proofs.Ytpegefcpanijhaa
set_option linter.unusedVariables false
set_option linter.unusedSimpArgs false
open Go.RowKit Go.Proofs.YtpegefcpanijhaaW.PrintWords Go.Proofs.YtpegefcpanijhaaW.PrintMore PF

theorem setCells_row (g : Nat) (t : TypeId) (fz : Nat × Nat) : ∀ (vs : List Value) (o : Nat) (cur : Array Value) (w : World), w.heap[g]? = some (.cells cur t fz) → o + vs.length ≤ cur.size →
    ∃ cur', (w.setCells g o vs).heap[g]? = some (.cells cur' t fz) ∧ cur'.size = cur.size ∧ (∀ j, j < o → cur'[j]? = cur[j]?) ∧ (∀ j v, vs[j]? = some v → cur'[o + j]? = some v) ∧ w.grownBy (w.setCells g o vs) (some g)
  | [], o, cur, w, hg, hl => ⟨cur, hg, rfl, fun _ _ => rfl, fun j v h => by simp at h, ⟨rfl, rfl, rfl, Nat.le_refl _, fun _ _ _ => rfl⟩⟩
  | v :: r, o, cur, w, hg, hl => by
    have hl' : o + (r.length + 1) ≤ cur.size := by simpa using hl
    have e := setCell_eq_setRow w g o cur t fz v hg
    have hg1 := setRow_heap w g cur (cur.setIfInBounds o v) t fz hg
    obtain ⟨cur', h1, h2, h3, h4, h5⟩ := setCells_row g t fz r (o + 1) (cur.setIfInBounds o v) (w.setRow g (cur.setIfInBounds o v)) hg1 (by simp; omega)
    have hdef : w.setCells g o (v :: r) = (w.setRow g (cur.setIfInBounds o v)).setCells g (o + 1) r := by
      rw [World.setCells, e]
    rw [hdef]
    refine ⟨cur', h1, by rw [h2]; simp, fun j hj => ?_, fun j u hj => ?_, ?_⟩
    · rw [h3 j (by omega), Array.getElem?_setIfInBounds, if_neg (by omega)]
    · cases j with
      | zero =>
        rw [h3 (o + 0) (by omega), Array.getElem?_setIfInBounds]
        simp only [List.getElem?_cons_zero, Option.some.injEq] at hj
        subst hj
        rw [if_pos (by omega), if_pos (by omega)]
      | succ j =>
        have := h4 j u (by simpa using hj)
        rwa [show o + 1 + j = o + (j + 1) by omega] at this
    · refine ⟨h5.os, h5.tape, h5.output, ?_, fun k hk hne => ?_⟩
      · have := h5.size
        simpa using this
      · rw [h5.block k (by simpa using hk) hne]
        exact setRow_other w g k _ (fun e => hne (by rw [e]))

/-- A row of bytes of one's own. -/
def RowB (w : World) (base : Nat) (v : Value) (l : List UInt8) : Prop :=
  ∃ (g cap : Nat) (cur : Array Value) (fz : Nat × Nat), v = .slice (some ⟨g, 0, none⟩) l.length cap ∧ base ≤ g ∧ w.heap[g]? = some (.cells cur 5 fz) ∧ (fz = (0, 0) ∨ cap ≤ fz.1) ∧ l.length ≤ cap ∧ cap ≤ cur.size ∧
    ∀ (j : Nat) (b : UInt8), l[j]? = some b → cur[j]? = some (.int .u8 (UB b))
theorem add_off (g j : Nat) : (⟨g, 0, none⟩ : Addr).add j = ⟨g, j, none⟩ := by unfold Addr.add; split <;> simp_all
theorem RowB.cell {w : World} {base g n cap : Nat} {l : List UInt8} (h : RowB w base (.slice (some ⟨g, 0, none⟩) n cap) l) {j : Nat} {b : UInt8} (hj : l[j]? = some b) : w.cell? ⟨g, j, none⟩ = some (.int .u8 (UB b)) := by
  obtain ⟨g', cap', cur, fz, e, hb, hg, hf, h1, h2, h3⟩ := h
  injection e with e _ _
  injection e with e
  injection e with e _ _
  subst e
  rw [cell_of_row w g j cur 5 fz hg]
  exact h3 j b hj
theorem RowB.lt {w : World} {base : Nat} {v : Value} {l : List UInt8} (h : RowB w base v l) : ∀ k, v.ownBlock = some k → base ≤ k ∧ k < w.heap.size := by
  obtain ⟨g, cap, cur, fz, rfl, hb, hg, _⟩ := h
  intro k hk
  simp [Value.ownBlock] at hk
  subst hk
  exact ⟨hb, (Array.getElem?_eq_some_iff.1 hg).1⟩
theorem RowB.kept {w w' : World} {base : Nat} {v : Value} {l : List UInt8} (h : RowB w base v l) (hg : ∀ k, k < w.heap.size → base ≤ k → w'.heap[k]? = w.heap[k]?) : RowB w' base v l := by
  obtain ⟨g, cap, cur, fz, rfl, hb, hgg, h1⟩ := h
  exact ⟨g, cap, cur, fz, rfl, hb, (hg g (Array.getElem?_eq_some_iff.1 hgg).1 hb).trans hgg, h1⟩
theorem RowB.below {w w' : World} {base : Nat} {v : Value} {l : List UInt8} (h : RowB w base v l) (hB : Below w.heap.size w w') : RowB w' base v l :=
  h.kept fun k hk _ => hB.block k hk

theorem info5b : (Try.prog.info? 5).map (fun i => (i.zero, i.size, i.bytes)) = some (some (.int .u8 0), 1, 1) := by kernel_rfl
theorem append_b {w : World} {base : Nat} {v : Value} {l : List UInt8} (h : RowB w base v l) (ty : TypeId) (news : List UInt8) (ad : Addr) (m c : Nat) (hm : news.length = m)
    (hn : ∀ j b, news[j]? = some b → w.cell? (ad.add j) = some (.int .u8 (UB b))) (hb : base ≤ w.heap.size) (hl : l.length + news.length ≤ 140737488355000) :
    ∃ v' w', (Builtin.append_ #[69, 69] ty #[v, .slice (some ad) m c]).run Try.prog w = .ok v' w' ∧ RowB w' base v' (l ++ news) ∧ w.grownBy w' v.ownBlock := by
  subst hm
  obtain ⟨i0, hi, hz0, hz1, hz2⟩ := info_parts info5b
  obtain ⟨g, cap, cur, fz, rfl, hbg, hg, hf, h1, h2, h3⟩ := h
  have hln : (news.map fun b => Value.int .u8 (UB b)).length = news.length * i0.size := by rw [List.length_map, hz1, Nat.mul_one]
  have hcn : ∀ j u, (news.map fun b => Value.int .u8 (UB b))[j]? = some u → w.cell? (ad.add j) = some u := by
    intro j u hj
    rw [List.getElem?_map] at hj
    cases hq : news[j]? with
    | none => rw [hq] at hj; cases hj
    | some b => rw [hq] at hj; cases hj; exact hn j b hq
  by_cases hroom : l.length + news.length ≤ cap
  · have hfc := run_firstCells_some (P := Try.prog) w i0.size news.length ad news.length c (news.map fun b => Value.int .u8 (UB b)) hln hcn
    have hst := run_storeCells_cells (P := Try.prog) g l.length (news.map fun b => Value.int .u8 (UB b)) 0 w (fun j hj => by
        rw [List.length_map] at hj
        rw [cell_of_row w g _ cur 5 fz hg, Array.getElem?_eq_getElem (by omega)]
        rfl) (fun j hj => by
        rw [List.length_map] at hj
        obtain ⟨lo, hi'⟩ := fz
        simp only [World.frozen?, hg, Bool.and_eq_false_iff, decide_eq_false_iff_not]
        rcases hf with e | e
        · injection e with e1 e2
          right; omega
        · left
          simp only at e
          omega) (fun u hu => by
        obtain ⟨b, _, rfl⟩ := List.mem_map.1 hu
        rfl)
    rw [Nat.add_zero] at hst
    obtain ⟨cur', k1, k2, k3, k4, k5⟩ := setCells_row g 5 fz (news.map fun b => Value.int .u8 (UB b)) l.length cur w hg (by rw [List.length_map]; omega)
    refine ⟨.slice (some ⟨g, 0, none⟩) (l.length + news.length) cap, w.setCells g l.length (news.map fun b => Value.int .u8 (UB b)), ?_, ⟨g, cap, cur', fz, by rw [List.length_append], hbg, k1, hf, by rw [List.length_append]; exact hroom, by omega, fun j b hj => ?_⟩, k5⟩
    · rw [hz1] at hfc
      simp [Builtin.append_, run_underlying Try.underlying69, sizeOf, typeInfo, hi, hz1, Builtin.lenOf, hroom, hfc, Addr.add_lit, hst]
    · by_cases hlt : j < l.length
      · rw [k3 j hlt]
        exact h3 j b (by rwa [List.getElem?_append_left hlt] at hj)
      · rw [List.getElem?_append_right (by omega)] at hj
        have := k4 (j - l.length) (.int .u8 (UB b)) (by rw [List.getElem?_map, hj]; rfl)
        rwa [show l.length + (j - l.length) = j by omega] at this
  · have hlo : (l.map fun b => Value.int .u8 (UB b)).length = l.length * i0.size := by rw [List.length_map, hz1, Nat.mul_one]
    have hco : ∀ j u, (l.map fun b => Value.int .u8 (UB b))[j]? = some u → w.cell? ((⟨g, 0, none⟩ : Addr).add j) = some u := by
      intro j u hj
      rw [List.getElem?_map] at hj
      cases hq : l[j]? with
      | none => rw [hq] at hj; cases hj
      | some b =>
        rw [hq] at hj; cases hj
        rw [add_off, cell_of_row w g _ cur 5 fz hg]
        exact h3 j b hq
    have hr := run_append_grow (P := Try.prog) w 69 ty 5 i0 _ Try.underlying69 hi hz0 ⟨g, 0, none⟩ l.length cap _ hlo hco ad news.length c _ hln hcn (by omega) (by omega) (growslice_fits (by omega) (by rw [hz2]; omega))
    have hge := grownCap_ge w (l.length + news.length) cap 5
    refine ⟨_, _, hr, ⟨w.heap.size, _, _, (0, 0), by rw [List.length_append], hb, heap_alloc_new w.drew _, .inl rfl, by rw [List.length_append]; exact hge, ?_, fun j b hj => ?_⟩, ⟨rfl, rfl, rfl, by simp, fun k hk _ => heap_alloc_old w.drew _ hk⟩⟩
    · simp only [Array.size_append, List.size_toArray, size_zeroCells, List.length_map]
      show _ ≤ l.length + news.length + (_ - (l.length + news.length)) * 1
      omega
    · have hjl : j < (l ++ news).length := (List.getElem?_eq_some_iff.1 hj).1
      rw [List.length_append] at hjl
      rw [Array.getElem?_append_left (by simp; omega), List.append_toArray, ← List.map_append]
      rw [List.getElem?_toArray, List.getElem?_map, hj]
      rfl
theorem conv_row (w : World) (s : ByteArray) : ∃ g cap w', g = w.heap.size ∧ (convert 9 69 (.string s)).run Try.prog w = .ok (.slice (some ⟨g, 0, none⟩) s.size cap) w' ∧ RowB w' w.heap.size (.slice (some ⟨g, 0, none⟩) s.size cap) s.data.toList ∧ Below w.heap.size w w' := by
  refine ⟨w.heap.size, grownCap w s.size 0 5, w.drew.alloc (.cells (bytesRow s (grownCap w s.size 0 5)) 5 ((bytesRow s (grownCap w s.size 0 5)).size, (bytesRow s (grownCap w s.size 0 5)).size + 1)), rfl, run_bytes_of_string w 9 69 5 s Try.underlying9 Try.underlying69 Try.underlying5, ?_, ((Below.refl _ _).drew).alloc (Nat.le_refl _) _⟩
  have hge := grownCap_ge w s.size 0 5
  have hls : s.data.toList.length = s.size := by rw [Array.length_toList]; rfl
  have hsz : grownCap w s.size 0 5 ≤ (bytesRow s (grownCap w s.size 0 5)).size := by
    unfold bytesRow
    rw [Array.size_append, Array.size_map, Array.size_replicate]
    have : s.data.size = s.size := rfl
    omega
  refine ⟨w.heap.size, grownCap w s.size 0 5, _, _, by rw [hls], Nat.le_refl _, heap_alloc_new w.drew _, .inr hsz, by rw [hls]; exact hge, hsz, fun j b hj => ?_⟩
  obtain ⟨h1, h2⟩ := List.getElem?_eq_some_iff.1 hj
  rw [bytesRow_at s _ j (by simpa using h1)]
  subst h2
  simp [UB]
theorem grown_alloc {W w' : World} {o : Obj} {row : Option Nat} (h : (W.alloc o).grownBy w' row) : W.grownBy w' row :=
  ⟨h.os, h.tape, h.output, by have := h.size; simp at this; omega, fun k hk hne => (h.block k (by simp; omega) hne).trans (heap_alloc_old W o hk)⟩
theorem append_lit {W : World} {base : Nat} {v : Value} {l : List UInt8} (h : RowB W base v l) (ty : TypeId) (hb : base ≤ W.heap.size) {w0 : World} (HB : Below base w0 W) (news : List UInt8) (cs : Array Value)
    (hcs : cs = (news.map fun b => Value.int .u8 (UB b)).toArray) (m : Nat) (hm : news.length = m) (hl : l.length + m ≤ 140737488355000) :
    ∃ v' w', (Builtin.append_ #[69, 69] ty #[v, .slice (some ⟨W.heap.size, 0, none⟩) m m]).run Try.prog (W.alloc (.cells cs 5)) = .ok v' w' ∧ RowB w' base v' (l ++ news) ∧ Below base w0 w' ∧ W.grownBy w' v.ownBlock := by
  have h1 : RowB (W.alloc (.cells cs 5)) base v l := h.below ((Below.refl _ _).alloc (Nat.le_refl _) _)
  obtain ⟨v', w', hr, h2, h3⟩ := append_b h1 ty news ⟨W.heap.size, 0, none⟩ m m hm (fun j b hj => by
    rw [add_off, cell_of_row _ _ j cs 5 _ (heap_alloc_new W _), hcs, List.getElem?_toArray, List.getElem?_map, hj]
    rfl) (by simp; omega) (by omega)
  refine ⟨v', w', hr, h2, ?_, grown_alloc h3⟩
  exact HB.grown (grown_alloc h3) hb (fun k hk => (h.lt k hk).1)
section
variable {ops : Array Oper} {rest : List Oper} {o : Oper} {a : Act} {Q : Exit → Act → World → Prop} {Kc : Act → World → Prop}
theorem wpList_append_lit (hgd : o.guard = none) (s x : Operand) (ho : o.op = .call { callee := .builtin .append, args := #[s, x], argTypes := #[69, 69] })
    {W : World} {base : Nat} {v : Value} {l : List UInt8} (h : RowB W base v l) (hs : a.eval s = v) (hb : base ≤ W.heap.size) {w0 : World} (HB : Below base w0 W) (news : List UInt8) (cs : Array Value)
    (hcs : cs = (news.map fun b => Value.int .u8 (UB b)).toArray) (m : Nat) (hm : news.length = m) (hx : a.eval x = .slice (some ⟨W.heap.size, 0, none⟩) m m) (hl : l.length + m ≤ 140737488355000)
    (hq : ∀ v' w', RowB w' base v' (l ++ news) → Below base w0 w' → W.grownBy w' v.ownBlock → wpList Try.prog ops Q rest (a.put o.dst v') w') :
    wpList Try.prog ops Q (o :: rest) a (W.alloc (.cells cs 5)) := by
  refine wpList_plain hgd fun K hK => ?_
  obtain ⟨v', w', hr, h2, h3, h4⟩ := append_lit h o.type hb HB news cs hcs m hm hl
  unfold Oper.wp execOp
  simp only [ho, resolve, invoke, builtin, Sem.run_bind, Sem.run_pure, Result.andThen_ok, List.map_toArray, List.map_cons, List.map_nil, hs, hx, hr]
  exact hK _ _ (hq v' w' h2 h3 h4)
theorem append_lit_step (hw : Region.wanted o (yielded ops a.tmps) = true) (s x : Operand) (ho : o.op = .call { callee := .builtin .append, args := #[s, x], argTypes := #[69, 69] })
    {W : World} {base : Nat} {v : Value} {l : List UInt8} (h : RowB W base v l) (hs : a.eval s = v) (hb : base ≤ W.heap.size) {w0 : World} (HB : Below base w0 W) (news : List UInt8) (cs : Array Value)
    (hcs : cs = (news.map fun b => Value.int .u8 (UB b)).toArray) (m : Nat) (hm : news.length = m) (hx : a.eval x = .slice (some ⟨W.heap.size, 0, none⟩) m m) (hl : l.length + m ≤ 140737488355000)
    (hq : ∀ v' w', RowB w' base v' (l ++ news) → Below base w0 w' → W.grownBy w' v.ownBlock → Kc (a.put o.dst v') w') :
    if Region.wanted o (yielded ops a.tmps) = true then Oper.wp Try.prog o a (W.alloc (.cells cs 5)) Kc Q else Kc (a.put o.dst undef) (W.alloc (.cells cs 5)) := by
  rw [if_pos hw]
  obtain ⟨v', w', hr, h2, h3, h4⟩ := append_lit h o.type hb HB news cs hcs m hm hl
  unfold Oper.wp execOp
  simp only [ho, resolve, invoke, builtin, Sem.run_bind, Sem.run_pure, Result.andThen_ok, List.map_toArray, List.map_cons, List.map_nil, hs, hx, hr]
  exact hq v' w' h2 h3 h4
end
/-- What has another type's row is not in the bytes'. -/
theorem R_over_b {W w1 : World} {base base' : Nat} {ok : Nat → Prop} {v u : Value} {xs : List Int} {l : List UInt8} (h : Kd.R (Kd.int .i64) 3 W base ok v xs) (hB : RowB W base' u l) (hg : W.grownBy w1 u.ownBlock) : Kd.R (Kd.int .i64) 3 w1 base ok v xs := by
  refine Kd.R_grown2 h rfl hg (fun k hk e => ?_)
  obtain ⟨cells, hc⟩ := Kd.R_typed h k e.symm
  obtain ⟨g, cap, cur, fz, rfl, hb, hgg, _⟩ := hB
  simp [Value.ownBlock] at hk
  subst hk
  rw [hgg] at hc
  injection hc with hc
  injection hc with _ hc _
  exact absurd hc (by decide)
end Go.Proofs.Ytpegefcpanijhaa
end
section
namespace Go.Proofs.Ytpegefcpanijhaa
set_option linter.unusedVariables false
set_option linter.unusedSimpArgs false
open Go.RowKit Go.Proofs.YtpegefcpanijhaaW.PrintWords Go.Proofs.YtpegefcpanijhaaW.PrintLast Go.Proofs.YtpegefcpanijhaaW.PrintMore PF

/-- The two tables, kept. -/
def Tabs (n : Nat) (w : World) (vK vH : Value) (H : V8) : Prop := Kd.R (Kd.int .i64) 3 w n (fun _ => True) vK (listU 64 Kc) ∧ Kd.R (Kd.int .i64) 3 w n (fun _ => True) vH (listU 8 H)
theorem Tabs.below {n : Nat} {w w' : World} {vK vH : Value} {H : V8} (h : Tabs n w vK vH H) (hb : Below w.heap.size w w') : Tabs n w' vK vH H := ⟨Kd.R_below h.1 hb, Kd.R_below h.2 hb⟩
theorem Tabs.grown {n base : Nat} {w w' : World} {vK vH u : Value} {H : V8} {l : List UInt8} (h : Tabs n w vK vH H) (hB : RowB w base u l) (hg : w.grownBy w' u.ownBlock) : Tabs n w' vK vH H := ⟨R_over_b h.1 hB hg, R_over_b h.2 hB hg⟩

theorem RowB.reads {w : World} {base g n cap : Nat} {l : List UInt8} (h : RowB w base (.slice (some ⟨g, 0, none⟩) n cap) l) (a m : Nat) (hm : a + m ≤ l.length) (hb : m ≤ 9223372036854775807) :
    Kd.C (Kd.int .u8) w (some ⟨g, a, none⟩) m (((l.drop a).take m).map UB) := by
  have hlen : ((l.drop a).take m).length = m := by rw [List.length_take, List.length_drop]; omega
  refine Kd.C_of_reads (enc := Value.int .u8) (d := (0 : Int)) (h1 := fun _ => rfl) ⟨by rw [List.length_map, hlen], hb, fun _ => ⟨_, rfl, fun j hj => ?_⟩⟩
  have e : (⟨g, a, none⟩ : Addr).add j = ⟨g, a + j, none⟩ := by unfold Addr.add; split <;> simp_all
  have hj2 : j < ((l.drop a).take m).length := by omega
  have hg : ((l.drop a).take m)[j]? = some (((l.drop a).take m)[j]) := List.getElem?_eq_getElem hj2
  have hl : l[a + j]? = some (((l.drop a).take m)[j]) := by
    rw [← hg, List.getElem?_take, if_pos hj, List.getElem?_drop]
  rw [e, h.cell hl, List.getD_eq_getElem?_getD, List.getElem?_map, hg]
  rfl
theorem low_byte (x : W32) : IntKind.u8.wrap (bits .and .i64 (U x) 255) = IntKind.u8.wrap (U x) := by
  rw [show (255 : Int) = U 255 from rfl, i_and, IntKind.wrap_u8', IntKind.wrap_u8']
  unfold U
  rw [BitVec.toNat_and, show ((255 : W32)).toNat = 2 ^ 8 - 1 from rfl, Nat.and_two_pow_sub_one_eq_mod]
  omega
theorem low_byte_16 (x : W32) : IntKind.u8.wrap (bits .and .i64 (U x / 65536) 255) = UB (wb x 16) := by
  rw [show U x / (65536 : Int) = U (x >>> 16) from u_shr x 16, low_byte, ← u_shr]
  exact wb_16 x
theorem low_byte_8 (x : W32) : IntKind.u8.wrap (bits .and .i64 (U x / 256) 255) = UB (wb x 8) := by
  rw [show U x / (256 : Int) = U (x >>> 8) from u_shr x 8, low_byte, ← u_shr]
  exact wb_8 x
theorem low_byte_0 (x : W32) : IntKind.u8.wrap (bits .and .i64 (U x) 255) = UB (wb x 0) := by rw [low_byte, wb_0]
theorem R_over_own {W w1 : World} {base base' n : Nat} {ok : Nat → Prop} {v u : Value} {xs : List Int} {cs : List Value} (h : Kd.R (Kd.int .i64) 3 W base ok v xs) (hO : W.ownsRow base' 5 1 u n cs) (hg : W.grownBy w1 u.ownBlock) : Kd.R (Kd.int .i64) 3 w1 base ok v xs := by
  refine Kd.R_grown2 h rfl hg (fun k hk e => ?_)
  obtain ⟨c1, h1⟩ := Kd.R_typed h k e.symm
  obtain ⟨c2, h2⟩ := own_typed hO k hk
  rw [h2] at h1
  injection h1 with h1
  injection h1 with _ h1 _
  exact absurd h1 (by decide)
theorem append_own_step {ops : Array Oper} {o : Oper} {a : Act} {Q : Exit → Act → World → Prop} {Kc : Act → World → Prop} (hw : Region.wanted o (yielded ops a.tmps) = true) (s x : Operand) (ho : o.op = .call { callee := .builtin .append, args := #[s, x], argTypes := #[69, 69] })
    {W : World} {base : Nat} {v : Value} {l : List UInt8} (h : W.ownsRow base 5 1 v l.length (nums .u8 (l.map UB))) (hs : a.eval s = v) (hb : base ≤ W.heap.size) {w0 : World} (HB : Below base w0 W) (news : List UInt8) (cs : Array Value)
    (hcs : cs = (news.map fun b => Value.int .u8 (UB b)).toArray) (m : Nat) (hm : news.length = m) (hx : a.eval x = .slice (some ⟨W.heap.size, 0, none⟩) m m) (hl : l.length + m ≤ 140737488355000)
    (hq : ∀ v' w', w'.ownsRow base 5 1 v' (l ++ news).length (nums .u8 ((l ++ news).map UB)) → Below base w0 w' → W.grownBy w' v.ownBlock → Kc (a.put o.dst v') w') :
    if Region.wanted o (yielded ops a.tmps) = true then Oper.wp Try.prog o a (W.alloc (.cells cs 5)) Kc Q else Kc (a.put o.dst undef) (W.alloc (.cells cs 5)) := by
  rw [if_pos hw]
  obtain ⟨i0, hi, hz0, hz1, hz2⟩ := info_parts info5b
  obtain ⟨v', w', hr, h2, h3, _⟩ := run_append_own (P := Try.prog) (W.alloc (.cells cs 5)) base 69 o.type 5 i0 _ 1 1 Try.underlying69 hi hz0 hz1 hz2 rfl (by decide) v l.length _ (h.alloc _) ⟨W.heap.size, 0, none⟩ m m
    (news.map fun b => Value.int .u8 (UB b)) (by rw [List.length_map, hm, Nat.mul_one]) (fun j u hj => by rw [add_off, cell_of_row _ _ j cs 5 _ (heap_alloc_new W _), hcs, List.getElem?_toArray, hj]) (fun u hu => by
      obtain ⟨b, _, rfl⟩ := List.mem_map.1 hu
      rfl) (by unfold maxLen; omega) (by omega) (by simp; omega)
  unfold Oper.wp execOp
  simp only [ho, resolve, invoke, builtin, Sem.run_bind, Sem.run_pure, Result.andThen_ok, List.map_toArray, List.map_cons, List.map_nil, hs, hx, hr]
  refine hq v' w' ?_ (HB.grown (grown_alloc h3) hb (fun k hk => (h.lt k hk).1)) (grown_alloc h3)
  rw [List.length_append, hm]
  simpa [nums, List.map_map, Function.comp_def] using h2
theorem RowB.low {w : World} {base b : Nat} {v : Value} {l : List UInt8} (h : RowB w base v l) (hb : b ≤ base) : RowB w b v l := by
  obtain ⟨g, cap, cur, fz, e, hbg, h1⟩ := h
  exact ⟨g, cap, cur, fz, e, Nat.le_trans hb hbg, h1⟩
set_option maxHeartbeats 400000 in
set_option maxRecDepth 100000 in
theorem refsum_calls {w : World} {s : ByteArray} (hs : s.size ≤ 100000000000000) (h64 : barqueref03_Roots.f 391 64 3 = some (listU 64 Kc)) (h8 : barqueref03_Roots.f 100 8 2 = some (listU 8 Hc)) :
    Calls Try.prog 34 #[.string s] w fun e w' => e = .returned (.string (bx (shaL Kc Hc s.data.toList))) ∧ Below w.heap.size w w' := by
  have HS := Lib.hid hs
  clear hs
  have H8 := Lib.hid h8
  clear h8
  go_enter Try.func34, Try.ntmps34
  go_wp2_with fail
  refine (barqueref03_Roots.calls 391 64 3 _ _ h64).mono ?_
  rintro e w1 ⟨vK, rfl, hK, hB1⟩
  clear h64
  obtain ⟨AK, cK, eK⟩ := Kd.R_slice hK
  have HT1 := Lib.hid (And.intro hK hB1)
  clear hK hB1
  go_wp2_with fail
  refine (barqueref03_Roots.calls 100 8 2 _ _ H8.out).mono ?_
  rintro e w2 ⟨vH, rfl, hH, hB2⟩
  clear H8
  have HT := Lib.hid (show Tabs w.heap.size w2 vK vH Hc from ⟨Kd.R_below HT1.out.1 hB2, Kd.R_lower hH HT1.out.2.size⟩)
  have HB := Lib.hid (below_step HT1.out.2 hB2)
  subst eK
  clear hH hB2 HT1
  obtain ⟨g, cap, w3, hg, hcv, hrow, hB3⟩ := conv_row w2 s
  have HT3 := Lib.hid (HT.out.below hB3)
  have HR3 := Lib.hid (hrow.low HB.out.size)
  have HB3 := Lib.hid (below_step HB.out hB3)
  clear hg hrow hB3 HT HB
  have hsl : s.data.toList.length = s.size := by rw [Array.length_toList]; rfl
  have hw0 : w.heap.size ≤ w3.heap.size := HB3.out.size
  go_wp2_with (at_builtin; refine wpList_append_lit rfl (.tmp 13) (.tmp 14) rfl HR3.out rfl hw0 HB3.out [128] _ rfl 1 rfl rfl (by have := HS.out; omega) ?_; intro v5 w4 h1 h2 h3; have HT := Lib.hid (HT3.out.grown HR3.out h3); have HB := Lib.hid h2; have HR := Lib.hid h1; clear h1 h2 h3)
  clear HT3 HB3 HR3 hw0 hcv
  obtain ⟨Z, hZ⟩ : ∃ Z, Z = zeros s.size := ⟨_, rfl⟩
  have HZ := Lib.hid hZ
  clear hZ
  have HSL := Lib.hid hsl
  clear hsl
  go_loopg [5] Z (fun kq v w' => ∃ z, Aside0 (z + kq = Z) ∧ Aside0 (Tabs w.heap.size w' (.slice AK (listU 64 Kc).length cK) vH Hc) ∧ Aside0 (Below w.heap.size w w') ∧ Aside0 (RowB w' w.heap.size v (s.data.toList ++ (128 :: List.replicate z 0))))
  case atStart => exact ⟨0, ⟨Nat.zero_add _⟩, ⟨HT.out⟩, ⟨HB.out⟩, ⟨HR.out⟩⟩
  case round =>
    clear HT HB HR
    obtain ⟨z, Hz, HT, HB, HR⟩ := hrel
    obtain ⟨L, hL⟩ : ∃ L, L = (s.data.toList ++ (128 :: List.replicate z (0 : UInt8))).length := ⟨_, rfl⟩
    have hL2 : L = s.size + 1 + z := by rw [hL, List.length_append, HSL.out, List.length_cons, List.length_replicate]; omega
    have hv5 : ∃ g c, u5 = .slice (some ⟨g, 0, none⟩) L c := by
      obtain ⟨g, c, _, _, e, _⟩ := HR.out
      exact ⟨g, c, by rw [e, hL]⟩
    obtain ⟨g5, c5, rfl⟩ := hv5
    have hzl : z < 64 := by
      have h1 := Hz.out
      have h2 := HZ.out
      have h3 : zeros s.size < 64 := Nat.mod_lt _ (by decide)
      omega
    have hw0 : w.heap.size ≤ wr.heap.size := HB.out.size
    have HL := Lib.hid (And.intro hL hL2)
    clear hL hL2
    cases gk with
    | succ k1 =>
      have z1 : ((L : Int) % 64 != 56) = true := by
        rw [bne_iff_ne]
        intro h
        have h2 : ((L % 64 : Nat) : Int) = 56 := h
        have h3 := HL.out.2
        have h4 := Hz.out
        have h5 := HZ.out
        unfold zeros at h5
        omega
      go_wp2_with (at_builtin; refine wpList_append_lit rfl (.tmp 20) (.tmp 21) rfl HR.out rfl hw0 HB.out [0] _ rfl 1 rfl rfl (by have := HS.out; have := HL.out; omega) ?_; intro v5 w4 h1 h2 h3; have HT4 := Lib.hid (HT.out.grown HR.out h3); have HB4 := Lib.hid h2; have HR4 := Lib.hid h1; clear h1 h2 h3)
      go_roundg k1
      case measure => omega
      case rel =>
        refine ⟨z + 1, ⟨by have := Hz.out; omega⟩, ⟨HT4.out⟩, ⟨HB4.out⟩, ⟨?_⟩⟩
        have h := HR4.out
        rwa [List.append_assoc, List.cons_append, ← List.replicate_succ'] at h
    | zero =>
      have z1 : ((L : Int) % 64 != 56) = false := by
        rw [bne_eq_false_iff_eq]
        show ((L % 64 : Nat) : Int) = 56
        have h3 := HL.out.2
        have h4 := Hz.out
        have h5 := HZ.out
        unfold zeros at h5
        omega
      obtain rfl : z = Z := by have := Hz.out; omega
      obtain ⟨P, hP⟩ : ∃ P, P = s.data.toList ++ (128 :: List.replicate z (0 : UInt8)) := ⟨_, rfl⟩
      have HP := Lib.hid hP
      have HR1 := Lib.hid (show RowB wr w.heap.size (.slice (some ⟨g5, 0, none⟩) L c5) P by rw [hP]; exact HR.out)
      have HPL := Lib.hid (show P.length = s.size + 1 + z by rw [hP, ← HL.out.1]; exact HL.out.2)
      clear hP HR HL hw0
      go_wp2_with fail
      go_loopg [5, 6] 8 (fun kq v v6 w' => v6 = .int .i64 ((kq : Int) - 1) ∧ ∃ d, Aside0 (d ++ lenL s.size kq = lenL s.size 8 ∧ d.length + kq = 8) ∧ Aside0 (Tabs w.heap.size w' (.slice AK (listU 64 Kc).length cK) vH Hc) ∧ Aside0 (Below w.heap.size w w') ∧ Aside0 (RowB w' w.heap.size v (P ++ d)))
      case atStart => exact ⟨rfl, [], ⟨rfl, rfl⟩, ⟨HT.out⟩, ⟨HB.out⟩, ⟨by rw [List.append_nil]; exact HR1.out⟩⟩
      case round =>
        clear HT HB HR1 z1
        obtain ⟨rfl, d, Hd, HT, HB, HR⟩ := hrel
        obtain ⟨L, hL⟩ : ∃ L, L = (P ++ d).length := ⟨_, rfl⟩
        have hL2 : L = s.size + 1 + z + d.length := by rw [hL, List.length_append, HPL.out]
        have hv5 : ∃ g c, u5 = .slice (some ⟨g, 0, none⟩) L c := by
          obtain ⟨g, c, _, _, e, _⟩ := HR.out
          exact ⟨g, c, by rw [e, hL]⟩
        obtain ⟨g5, c5, rfl⟩ := hv5
        have hw0 : w.heap.size ≤ wr.heap.size := HB.out.size
        have HL := Lib.hid (And.intro hL hL2)
        clear hL hL2
        cases gk with
        | succ k1 =>
          have e1 : ((k1 + 1 : Nat) : Int) - 1 = (k1 : Int) := by omega
          rw [e1]
          clear e1
          have z1 : (0 : Int) ≤ (k1 : Int) := by omega
          have hk8 : k1 < 8 := by have := Hd.out.2; omega
          obtain ⟨A, hA⟩ : ∃ A : Int, A = ((8 * s.size : Nat) : Int) := ⟨_, rfl⟩
          obtain ⟨B, hB⟩ : ∃ B : Int, B = ((8 * k1 : Nat) : Int) := ⟨_, rfl⟩
          have y1 : IntKind.i64.wrap (8 * (s.size : Int)) = A := by
            rw [i64_w]
            have := HS.out; unfold wrap64; omega
          have y2 : IntKind.i64.wrap (8 * (k1 : Int)) = B := by
            rw [i64_w]
            unfold wrap64; omega
          have y3 : (0 ≤ B) = True := eq_true (by omega)
          have y4 : decide (0 ≤ B) = true := decide_eq_true (by omega)
          obtain ⟨C, hC⟩ : ∃ C : Int, shr .i64 A B = C := ⟨_, rfl⟩
          have y5 : A / 2 ^ min B.toNat 64 = C := hC
          have y6 : B ≤ 64 → A / 2 ^ B.toNat = C := shr_small hC
          have y7 : C % 256 = UB (lenByte s.size k1) := by
            rw [← hC, hA, hB]
            unfold shr lenByte
            rw [Int.toNat_natCast, Nat.min_eq_left (by show 8 * k1 ≤ 64; omega), ← u8_wrap, IntKind.wrap_u8', Int.natCast_ediv, Int.natCast_pow, Nat.mul_comm 8 s.size]
            rfl
          have Y7 := Lib.hid y7
          have HLN := Lib.hid (lenL_length s.size)
          clear hA hB hC y7
          go_wp2_with (at_builtin; refine wpList_append_lit rfl (.tmp 27) (.tmp 35) rfl HR.out rfl hw0 HB.out [lenByte s.size k1] _ (by rw [Y7.out]; rfl) 1 rfl rfl (by have := HS.out; have := HL.out; have := Hd.out.2; omega) ?_; intro v5 w4 h1 h2 h3; have HT4 := Lib.hid (HT.out.grown HR.out h3); have HB4 := Lib.hid h2; have HR4 := Lib.hid h1; clear h1 h2 h3)
          have e2 : wrap64 ((k1 : Int) - 1) = (k1 : Int) - 1 := by unfold wrap64; omega
          go_roundg k1
          case measure => omega
          case rel =>
            refine ⟨rfl, d ++ [lenByte s.size k1], ⟨?_⟩, ⟨HT4.out⟩, ⟨HB4.out⟩, ⟨?_⟩⟩
            · have h := Hd.out
              rw [List.append_assoc, List.length_append]
              exact ⟨h.1, by have := h.2; simp; omega⟩
            · have h := HR4.out
              rwa [List.append_assoc] at h
        | zero =>
          have z1 : ¬ ((0 : Int) ≤ (((0 : Nat) : Int) - 1)) := by decide
          have z2 : decide ((0 : Int) ≤ (((0 : Nat) : Int) - 1)) = false := by decide
          obtain ⟨M, hM⟩ : ∃ M, M = s.data.toList ++ padL s.size := ⟨_, rfl⟩
          have hPd : P ++ d = M := by
            have h := Hd.out.1
            rw [show d ++ lenL s.size 0 = d from List.append_nil d] at h
            rw [hM, HP.out, h, List.append_assoc]
            unfold padL
            rw [← HZ.out]
          have HR1 := Lib.hid (show RowB wr w.heap.size (.slice (some ⟨g5, 0, none⟩) L c5) M by rw [← hPd]; exact HR.out)
          have HM := Lib.hid hM
          have HML := Lib.hid (show L = M.length by rw [← hPd]; exact HL.out.1)
          clear hPd hM HR HL hw0
          go_wp2_with fail
          obtain ⟨r, hr⟩ : ∃ r, M.length = 64 * r := ⟨M.length / 64, by
            have h1 := pad_whole s.size
            rw [HM.out, List.length_append, HSL.out]
            omega⟩
          have HMB := Lib.hid (show M.length ≤ 100000000001000 by
            have h1 := Nat.mod_lt (119 - s.size % 64) (show 0 < 64 by decide)
            have h2 := HS.out
            rw [HM.out, List.length_append, HSL.out, padL_length]
            unfold zeros
            omega)
          have Hr := Lib.hid hr
          clear hr z2
          go_loopg [4, 7] r (fun kq v4 v7 w' => ∃ j, v7 = .int .i64 ((64 * j : Nat) : Int) ∧ Aside0 (j + kq = r) ∧ Aside0 (Tabs w.heap.size w' (.slice AK (listU 64 Kc).length cK) v4 (blks Kc j Hc M)) ∧ Aside0 (Below w.heap.size w w') ∧ Aside0 (RowB w' w.heap.size (.slice (some ⟨g5, 0, none⟩) L c5) M))
          case atStart => exact ⟨0, rfl, ⟨Nat.zero_add _⟩, ⟨HT.out⟩, ⟨HB.out⟩, ⟨HR1.out⟩⟩
          case round =>
            clear HT HB HR1 z1
            obtain ⟨j, rfl, Hj, HT, HB, HR⟩ := hrel
            obtain ⟨A, hA⟩ : ∃ A, A = 64 * j := ⟨_, rfl⟩
            rw [← hA]
            have hc5 : L ≤ c5 := by
              obtain ⟨_, _, _, _, e, _, _, _, h, _⟩ := HR.out
              injection e with _ e1 e2
              omega
            have HC5 := Lib.hid hc5
            clear hc5
            cases gk with
            | succ k1 =>
              have hAL : A + 64 ≤ L := by
                have h1 := Hj.out
                have h2 := Hr.out
                have h3 := HML.out
                omega
              have hAc : A + 64 ≤ c5 := Nat.le_trans hAL HC5.out
              have HA := Lib.hid (And.intro hA hAL)
              have z1 : (A : Int) < (L : Int) := by omega
              have z2 : (0 : Int) ≤ (A : Int) := by omega
              have z3 : (A : Int) + 64 ≤ (c5 : Int) := by omega
              have z4 : (A : Int) ≤ (A : Int) + 64 := by omega
              have z5 : wrap64 ((A : Int) + 64) = (A : Int) + 64 := by
                have := HMB.out
                have := HML.out
                unfold wrap64; omega
              have z6 : ((A : Int) + 64).toNat = A + 64 := by omega
              clear hA hAL hAc
              go_wp2_with fail
              obtain ⟨AH, cH, eH, hcH, hCH⟩ := Kd.R_reads HT.out.2
              subst eH
              obtain ⟨_, hcK, hCK⟩ := Kd.R_reads' HT.out.1
              have hlen : ((M.drop A).take 64).length = 64 := by
                rw [List.length_take, List.length_drop]
                have := HA.out.2
                have := HML.out
                omega
              have hcall := barqueref03_block.calls 140 AH cH (listU 8 (blks Kc j Hc M)) AK cK (listU 64 Kc) (some ⟨g5, A, none⟩) (c5 - A) (((M.drop A).take 64).map UB) _ wr hCH hcH hCK hcK
                (by rw [List.length_map, hlen]; exact HR.out.reads A 64 (by have := HA.out.2; have := HML.out; omega) (by decide)) (by rw [List.length_map, hlen]; have := HA.out.2; have := HC5.out; omega) (block_val Kc (blks Kc j Hc M) _ hlen)
              rw [List.length_map, hlen] at hcall
              refine hcall.mono ?_
              rintro e w5 ⟨v4, rfl, hnew, hB5⟩
              have HT5 := Lib.hid (show Tabs w.heap.size w5 (.slice AK (listU 64 Kc).length cK) v4 (blks Kc (j + 1) Hc M) from ⟨Kd.R_below HT.out.1 hB5, by
                rw [blks_succ, ← HA.out.1]
                exact Kd.R_lower hnew HB.out.size⟩)
              have HR5 := Lib.hid (HR.out.below hB5)
              have HB5 := Lib.hid (below_step HB.out hB5)
              clear hcall hlen hcK hCK hcH hCH hnew hB5 HT HR HB z1 z3 z4 z6
              go_wp2_with fail
              go_roundg k1
              case measure => omega
              case rel => exact ⟨j + 1, by rw [show ((64 * (j + 1) : Nat) : Int) = (A : Int) + 64 by have := HA.out.1; omega, z5], ⟨by have := Hj.out; omega⟩, ⟨HT5.out⟩, ⟨HB5.out⟩, ⟨HR5.out⟩⟩
            | zero =>
              have hAL : A = L := by
                have h1 := Hj.out
                have h2 := Hr.out
                have h3 := HML.out
                omega
              subst hAL
              have z1 : ¬ ((A : Int) < (A : Int)) := by omega
              obtain rfl : j = r := by have := Hj.out; omega
              obtain ⟨H2, hH2⟩ : ∃ H2, H2 = blks Kc j Hc M := ⟨_, rfl⟩
              have HH := Lib.hid (show Kd.R (Kd.int .i64) 3 wr w.heap.size (fun _ => True) u4 (listU 8 H2) by rw [hH2]; exact HT.out.2)
              have HSH := Lib.hid (show outL H2 8 = shaL Kc Hc s.data.toList by
                unfold shaL
                have e1 := Hr.out
                have e2 : s.data.toList.length + (padL s.data.toList.length).length = M.length := by rw [HM.out, List.length_append, HSL.out]
                have e3 : s.data.toList ++ padL s.data.toList.length = M := by rw [HM.out, HSL.out]
                rw [hH2, e2, e3, e1, Nat.mul_div_cancel_left _ (by decide)])
              clear hH2 HT
              go_wp2_with fail
              go_loopg [8, 9] 8 (fun kq v8 v9 w' => ∃ j : Nat, v9 = .int .i64 (j : Int) ∧ Aside0 (j + kq = 8) ∧ Aside0 (Kd.R (Kd.int .i64) 3 w' w.heap.size (fun _ => True) u4 (listU 8 H2)) ∧ Aside0 (Below w.heap.size w w') ∧ Aside0 (w'.ownsRow w.heap.size 5 1 v8 (outL H2 j).length (nums .u8 ((outL H2 j).map UB))))
              case atStart => exact ⟨0, rfl, ⟨rfl⟩, ⟨HH.out⟩, ⟨HB.out⟩, ⟨World.ownsRow_nil _ _ _ _⟩⟩
              case round =>
                clear HH HB HR z1
                obtain ⟨i, rfl, Hi, HH, HB, HO⟩ := hrel
                cases gk with
                | succ k1 =>
                  have hi8 : i < 8 := by have := Hi.out; omega
                  have z1 : (i : Int) < 8 := by omega
                  have z2 : (0 : Int) ≤ (i : Int) := by omega
                  obtain ⟨AH, cH, eH, hcH, hCH⟩ := Kd.R_reads HH.out
                  subst eH
                  have hat := Kd.at_int hCH (i : Int) z2 (by rw [listU_length]; omega)
                  obtain ⟨ad, eA, hcell⟩ := hat
                  subst eA
                  rw [rd_listU H2 hi8, Int.toNat_natCast] at hcell
                  have z3 : (i : Int) < ((listU 8 H2).length : Int) := by rw [listU_length]; omega
                  obtain ⟨X, hX⟩ : ∃ X, X = H2 i := ⟨_, rfl⟩
                  rw [← hX] at hcell
                  have HX := Lib.hid hX
                  clear hX hcH hCH
                  go_upto_region 18 with (fail)
                  refine start_ (n := 30) (S := fun w' => w'.cell? (ad.add i) = some (.int .i64 (U X))) (ds := []) (fl 30 0) (by kernel_rfl) rfl (by kernel_rfl) hcell (fun hHeld => ?_)
                  have HB1 := Lib.hid (below_drew1 HB.out)
                  have HH1 := Lib.hid (Kd.R_drew HH.out)
                  have HO1 := Lib.hid (own_drew HO.out)
                  clear HB HH HO hcell
                  generalize wr.drew = w1 at HB1 HH1 HO1 hHeld ⊢
                  refine pure_ (i := 0) (N := some 55) (v := ?_) (a' := ?_) (fl 30 1) rfl rfl (by kernel_rfl) (fun _ _ _ h => h) (Or.inl ⟨by rfl, ?_⟩) ?_ ?_
                  rotate_left
                  · intro w'
                    go_simp
                    with_reducible rfl
                  rotate_left
                  · simp only [Act.put, List.setIfInBounds_toArray, List.set_cons_zero, List.set_cons_succ, i64_w, i32_w]
                    rfl
                  refine pure_ (i := 1) (N := some 56) (v := ?_) (a' := ?_) (fl 30 3) rfl rfl (by kernel_rfl) (fun _ _ _ h => h) (Or.inl ⟨by rfl, ?_⟩) ?_ ?_
                  rotate_left
                  · intro w'
                    go_simp
                    with_reducible rfl
                  rotate_left
                  · simp only [Act.put, List.setIfInBounds_toArray, List.set_cons_zero, List.set_cons_succ, i64_w, i32_w]
                    rfl
                  refine pure_ (i := 2) (N := some 57) (v := ?_) (a' := ?_) (fl 30 7) rfl rfl (by kernel_rfl) (fun _ _ _ h => h) (Or.inl ⟨by rfl, ?_⟩) ?_ ?_
                  rotate_left
                  · intro w'
                    go_simp
                    with_reducible rfl
                  rotate_left
                  · simp only [Act.put, List.setIfInBounds_toArray, List.set_cons_zero, List.set_cons_succ, i64_w, i32_w]
                    rfl
                  refine pure_ (i := 3) (N := some 58) (v := ?_) (a' := ?_) (fl 30 15) rfl rfl (by kernel_rfl) (fun _ _ _ h => h) (Or.inl ⟨by rfl, ?_⟩) ?_ ?_
                  rotate_left
                  · intro w'
                    go_simp
                    with_reducible rfl
                  rotate_left
                  · simp only [Act.put, List.setIfInBounds_toArray, List.set_cons_zero, List.set_cons_succ, i64_w, i32_w]
                    rfl
                  refine take_ (i := 4) (N := some 59) (v := .int .i64 (U X)) (fl 30 31) rfl rfl (by kernel_rfl) (fun _ _ _ h => h) (Or.inl ⟨by rfl, fun w' s0 => ?_⟩) hHeld rfl ?_
                  · go_simp
                  simp only [Act.put, List.setIfInBounds_toArray, List.set_cons_zero, List.set_cons_succ]
                  refine pure_ (i := 5) (N := some 60) (v := ?_) (a' := ?_) (fl 30 63) rfl rfl (by kernel_rfl) (fun _ _ _ h => h) (Or.inl ⟨by rfl, ?_⟩) ?_ ?_
                  rotate_left
                  · intro w'
                    go_simp
                    with_reducible rfl
                  rotate_left
                  · simp only [Act.put, List.setIfInBounds_toArray, List.set_cons_zero, List.set_cons_succ, i64_w, i32_w]
                    rfl
                  refine pure_ (i := 6) (N := some 61) (v := ?_) (a' := ?_) (fl 30 127) rfl rfl (by kernel_rfl) (fun _ _ _ h => h) (Or.inl ⟨by rfl, ?_⟩) ?_ ?_
                  rotate_left
                  · intro w'
                    go_simp
                    with_reducible rfl
                  rotate_left
                  · simp only [Act.put, List.setIfInBounds_toArray, List.set_cons_zero, List.set_cons_succ, i64_w, i32_w]
                    rfl
                  refine pure_ (i := 7) (N := some 62) (v := ?_) (a' := ?_) (fl 30 255) rfl rfl (by kernel_rfl) (fun _ _ _ h => h) (Or.inl ⟨by rfl, ?_⟩) ?_ ?_
                  rotate_left
                  · intro w'
                    go_simp
                    with_reducible rfl
                  rotate_left
                  · simp only [Act.put, List.setIfInBounds_toArray, List.set_cons_zero, List.set_cons_succ, i64_w, i32_w]
                    rfl
                  refine pure_ (i := 8) (N := some 63) (v := ?_) (a' := ?_) (fl 30 511) rfl rfl (by kernel_rfl) (fun _ _ _ h => h) (Or.inl ⟨by rfl, ?_⟩) ?_ ?_
                  rotate_left
                  · intro w'
                    go_simp
                    with_reducible rfl
                  rotate_left
                  · simp only [Act.put, List.setIfInBounds_toArray, List.set_cons_zero, List.set_cons_succ, i64_w, i32_w]
                    rfl
                  refine pure_ (i := 9) (N := some 64) (v := ?_) (a' := ?_) (fl 30 1023) rfl rfl (by kernel_rfl) (fun _ _ _ h => h) (Or.inl ⟨by rfl, ?_⟩) ?_ ?_
                  rotate_left
                  · intro w'
                    go_simp
                    with_reducible rfl
                  rotate_left
                  · simp only [Act.put, List.setIfInBounds_toArray, List.set_cons_zero, List.set_cons_succ, i64_w, i32_w]
                    rfl
                  refine take_ (i := 10) (N := some 65) (v := .int .i64 (U X)) (fl 30 2047) rfl rfl (by kernel_rfl) (fun _ _ _ h => h) (Or.inl ⟨by rfl, fun w' s0 => ?_⟩) hHeld rfl ?_
                  · go_simp
                  simp only [Act.put, List.setIfInBounds_toArray, List.set_cons_zero, List.set_cons_succ]
                  refine pure_ (i := 11) (N := some 66) (v := ?_) (a' := ?_) (fl 30 4095) rfl rfl (by kernel_rfl) (fun _ _ _ h => h) (Or.inl ⟨by rfl, ?_⟩) ?_ ?_
                  rotate_left
                  · intro w'
                    go_simp
                    with_reducible rfl
                  rotate_left
                  · simp only [Act.put, List.setIfInBounds_toArray, List.set_cons_zero, List.set_cons_succ, i64_w, i32_w]
                    rfl
                  refine pure_ (i := 12) (N := some 67) (v := ?_) (a' := ?_) (fl 30 8191) rfl rfl (by kernel_rfl) (fun _ _ _ h => h) (Or.inl ⟨by rfl, ?_⟩) ?_ ?_
                  rotate_left
                  · intro w'
                    go_simp
                    with_reducible rfl
                  rotate_left
                  · simp only [Act.put, List.setIfInBounds_toArray, List.set_cons_zero, List.set_cons_succ, i64_w, i32_w]
                    rfl
                  refine pure_ (i := 13) (N := some 68) (v := ?_) (a' := ?_) (fl 30 16383) rfl rfl (by kernel_rfl) (fun _ _ _ h => h) (Or.inl ⟨by rfl, ?_⟩) ?_ ?_
                  rotate_left
                  · intro w'
                    go_simp
                    with_reducible rfl
                  rotate_left
                  · simp only [Act.put, List.setIfInBounds_toArray, List.set_cons_zero, List.set_cons_succ, i64_w, i32_w]
                    rfl
                  refine pure_ (i := 14) (N := some 69) (v := ?_) (a' := ?_) (fl 30 32767) rfl rfl (by kernel_rfl) (fun _ _ _ h => h) (Or.inl ⟨by rfl, ?_⟩) ?_ ?_
                  rotate_left
                  · intro w'
                    go_simp
                    with_reducible rfl
                  rotate_left
                  · simp only [Act.put, List.setIfInBounds_toArray, List.set_cons_zero, List.set_cons_succ, i64_w, i32_w]
                    rfl
                  refine pure_ (i := 15) (N := some 70) (v := ?_) (a' := ?_) (fl 30 65535) rfl rfl (by kernel_rfl) (fun _ _ _ h => h) (Or.inl ⟨by rfl, ?_⟩) ?_ ?_
                  rotate_left
                  · intro w'
                    go_simp
                    with_reducible rfl
                  rotate_left
                  · simp only [Act.put, List.setIfInBounds_toArray, List.set_cons_zero, List.set_cons_succ, i64_w, i32_w]
                    rfl
                  refine pure_ (i := 16) (N := some 71) (v := ?_) (a' := ?_) (fl 30 131071) rfl rfl (by kernel_rfl) (fun _ _ _ h => h) (Or.inl ⟨by rfl, ?_⟩) ?_ ?_
                  rotate_left
                  · intro w'
                    go_simp
                    with_reducible rfl
                  rotate_left
                  · simp only [Act.put, List.setIfInBounds_toArray, List.set_cons_zero, List.set_cons_succ, i64_w, i32_w]
                    rfl
                  refine take_ (i := 17) (N := some 72) (v := .int .i64 (U X)) (fl 30 262143) rfl rfl (by kernel_rfl) (fun _ _ _ h => h) (Or.inl ⟨by rfl, fun w' s0 => ?_⟩) hHeld rfl ?_
                  · go_simp
                  simp only [Act.put, List.setIfInBounds_toArray, List.set_cons_zero, List.set_cons_succ]
                  refine pure_ (i := 18) (N := some 73) (v := ?_) (a' := ?_) (fl 30 524287) rfl rfl (by kernel_rfl) (fun _ _ _ h => h) (Or.inl ⟨by rfl, ?_⟩) ?_ ?_
                  rotate_left
                  · intro w'
                    go_simp
                    with_reducible rfl
                  rotate_left
                  · simp only [Act.put, List.setIfInBounds_toArray, List.set_cons_zero, List.set_cons_succ, i64_w, i32_w]
                    rfl
                  refine pure_ (i := 19) (N := some 74) (v := ?_) (a' := ?_) (fl 30 1048575) rfl rfl (by kernel_rfl) (fun _ _ _ h => h) (Or.inl ⟨by rfl, ?_⟩) ?_ ?_
                  rotate_left
                  · intro w'
                    go_simp
                    with_reducible rfl
                  rotate_left
                  · simp only [Act.put, List.setIfInBounds_toArray, List.set_cons_zero, List.set_cons_succ, i64_w, i32_w]
                    rfl
                  refine pure_ (i := 20) (N := some 75) (v := ?_) (a' := ?_) (fl 30 2097151) rfl rfl (by kernel_rfl) (fun _ _ _ h => h) (Or.inl ⟨by rfl, ?_⟩) ?_ ?_
                  rotate_left
                  · intro w'
                    go_simp
                    with_reducible rfl
                  rotate_left
                  · simp only [Act.put, List.setIfInBounds_toArray, List.set_cons_zero, List.set_cons_succ, i64_w, i32_w]
                    rfl
                  refine pure_ (i := 21) (N := some 76) (v := ?_) (a' := ?_) (fl 30 4194303) rfl rfl (by kernel_rfl) (fun _ _ _ h => h) (Or.inl ⟨by rfl, ?_⟩) ?_ ?_
                  rotate_left
                  · intro w'
                    go_simp
                    with_reducible rfl
                  rotate_left
                  · simp only [Act.put, List.setIfInBounds_toArray, List.set_cons_zero, List.set_cons_succ, i64_w, i32_w]
                    rfl
                  refine pure_ (i := 22) (N := some 77) (v := ?_) (a' := ?_) (fl 30 8388607) rfl rfl (by kernel_rfl) (fun _ _ _ h => h) (Or.inl ⟨by rfl, ?_⟩) ?_ ?_
                  rotate_left
                  · intro w'
                    go_simp
                    with_reducible rfl
                  rotate_left
                  · simp only [Act.put, List.setIfInBounds_toArray, List.set_cons_zero, List.set_cons_succ, i64_w, i32_w]
                    rfl
                  refine pure_ (i := 23) (N := some 78) (v := ?_) (a' := ?_) (fl 30 16777215) rfl rfl (by kernel_rfl) (fun _ _ _ h => h) (Or.inl ⟨by rfl, ?_⟩) ?_ ?_
                  rotate_left
                  · intro w'
                    go_simp
                    with_reducible rfl
                  rotate_left
                  · simp only [Act.put, List.setIfInBounds_toArray, List.set_cons_zero, List.set_cons_succ, i64_w, i32_w]
                    rfl
                  refine take_ (i := 24) (N := some 79) (v := .int .i64 (U X)) (fl 30 33554431) rfl rfl (by kernel_rfl) (fun _ _ _ h => h) (Or.inl ⟨by rfl, fun w' s0 => ?_⟩) hHeld rfl ?_
                  · go_simp
                  simp only [Act.put, List.setIfInBounds_toArray, List.set_cons_zero, List.set_cons_succ]
                  refine pure_ (i := 25) (N := some 80) (v := ?_) (a' := ?_) (fl 30 67108863) rfl rfl (by kernel_rfl) (fun _ _ _ h => h) (Or.inl ⟨by rfl, ?_⟩) ?_ ?_
                  rotate_left
                  · intro w'
                    go_simp
                    with_reducible rfl
                  rotate_left
                  · simp only [Act.put, List.setIfInBounds_toArray, List.set_cons_zero, List.set_cons_succ, i64_w, i32_w]
                    rfl
                  refine pure_ (i := 26) (N := some 81) (v := ?_) (a' := ?_) (fl 30 134217727) rfl rfl (by kernel_rfl) (fun _ _ _ h => h) (Or.inl ⟨by rfl, ?_⟩) ?_ ?_
                  rotate_left
                  · intro w'
                    go_simp
                    with_reducible rfl
                  rotate_left
                  · simp only [Act.put, List.setIfInBounds_toArray, List.set_cons_zero, List.set_cons_succ, i64_w, i32_w]
                    rfl
                  refine one_ (i := 27) (N := some 82) (fl 30 268435455) rfl rfl (by kernel_rfl) (by decide) (fun K hK => ?_)
                  refine value_ (w1 := ?_) (v := ?_) (by rfl) rfl ?_ ?_
                  rotate_left 2
                  · go_simp
                    constructor
                    · rfl
                    · rfl
                  refine hK.out _ _ ((World.cell?_alloc_lt _ _ _ (World.block_lt_of_cell? _ _ hHeld)).trans hHeld) (fun hHeld2 => ?_)
                  clear hK K hHeld
                  have hHeld := hHeld2
                  clear hHeld2
                  refine norm_ (a' := ?_) ?_ ?_
                  rotate_left
                  · show Act.put _ (some 82) _ = _
                    simp only [Act.put, List.setIfInBounds_toArray, List.set_cons_zero, List.set_cons_succ, i64_w, i32_w]
                    rfl
                  refine one_ (i := 28) (N := some 83) (fl 30 536870911) rfl rfl (by kernel_rfl) (by decide) (fun K hK => ?_)
                  refine append_own_step (by rfl) (.tmp 55) (.tmp 82) rfl HO1.out rfl HB1.out.size HB1.out (four X) _ ?_ 4 rfl rfl (by rw [outL_length]; omega) ?_
                  · rw [low_byte_16, low_byte_8, low_byte_0, wb_24]
                    rfl
                  intro v5 w5 h1 h2 h3
                  have hHeld5 := (HB1.out.size)
                  have HH5 := Lib.hid (R_over_own HH1.out HO1.out h3)
                  have HB5 := Lib.hid h2
                  have HO5 := Lib.hid (show w5.ownsRow w.heap.size 5 1 v5 (outL H2 (i + 1)).length (nums .u8 ((outL H2 (i + 1)).map UB)) by rw [outL_succ, ← HX.out]; exact h1)
                  clear h1 h2 h3 hHeld5
                  refine hK.out _ _ ?_ (fun hHeld2 => ?_)
                  · have hc := Kd.at_int (Kd.R_reads' HH5.out).2.2 (i : Int) z2 z3
                    obtain ⟨ad', eA, hcell⟩ := hc
                    cases eA
                    rw [rd_listU H2 hi8, Int.toNat_natCast, ← HX.out] at hcell
                    exact hcell
                  clear hK K hHeld
                  refine norm_ (a' := ?_) ?_ ?_
                  rotate_left
                  · show Act.put _ (some 83) _ = _
                    simp only [Act.put, List.setIfInBounds_toArray, List.set_cons_zero, List.set_cons_succ, i64_w, i32_w]
                    rfl
                  refine pure_ (i := 29) (N := some 8) (v := ?_) (a' := ?_) (fl 30 1073741823) rfl rfl (by kernel_rfl) (fun _ _ _ h => h) (Or.inl ⟨by rfl, ?_⟩) ?_ ?_
                  rotate_left
                  · intro w'
                    go_simp
                    with_reducible rfl
                  rotate_left
                  · simp only [Act.put, List.setIfInBounds_toArray, List.set_cons_zero, List.set_cons_succ, i64_w, i32_w]
                    rfl
                  refine done_ (by kernel_rfl) ?_
                  have e4 : wrap64 ((i : Int) + 1) = (i : Int) + 1 := by unfold wrap64; omega
                  go_wp2_with fail
                  go_roundg k1
                  case measure => omega
                  case rel => exact ⟨i + 1, by rw [show ((i + 1 : Nat) : Int) = (i : Int) + 1 by omega, ← e4], ⟨by have := Hi.out; omega⟩, ⟨HH5.out⟩, ⟨HB5.out⟩, ⟨HO5.out⟩⟩
                | zero =>
                  have hi8 : i = 8 := by have := Hi.out; omega
                  subst hi8
                  have hcv2 := own_string (P := Try.prog) Try.underlying69 Try.underlying5 Try.underlying9 HO.out
                  have HT9 := Lib.hid (show strOfNums ((outL H2 8).map UB) = bx (shaL Kc Hc s.data.toList) by rw [str_bx, HSH.out])
                  rw [HT9.out] at hcv2
                  have z1 : ¬ (((8 : Nat) : Int) < 8) := by decide
                  go_wp2_with fail
                  go_ret
                  exact ⟨rfl, HB.out⟩
end Go.Proofs.Ytpegefcpanijhaa
end
