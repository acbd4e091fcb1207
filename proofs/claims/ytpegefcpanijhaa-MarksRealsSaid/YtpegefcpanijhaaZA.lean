/- The words of SHA-256 as the machine's whole numbers. SHA-256's block in plain Lean. The walk of marks.word. Rows of words; how far mixer.block is. The walk of mixer.block. -/
import Derived.Test.YtpegefcpanijhaaF4
import Derived.Laws.BitsAllLaws
import Derived.Test.YtpegefcpanijhaaZO
import Derived.WalkKit
import Derived.Test.YtpegefcpanijhaaWLast
section
namespace Go.Proofs.Ytpegefcpanijhaa
set_option linter.unusedVariables false
set_option linter.unusedSimpArgs false
open Go.RowKit Go.Proofs.YtpegefcpanijhaaW.PrintWords Go.Proofs.YtpegefcpanijhaaW.PrintMore PF

abbrev W32 := BitVec 32
/-- A word as a whole number. -/
def U (x : W32) : Int := (x.toNat : Int)

theorem U_lt (x : W32) : 0 ≤ U x ∧ U x < 4294967296 := by
  have := x.isLt
  unfold U
  omega
theorem U_inj {x y : W32} (h : U x = U y) : x = y := by
  unfold U at h
  exact BitVec.eq_of_toNat_eq (by omega)
theorem ofInt_U (x : W32) : BitVec.ofInt 32 (U x) = x := by
  unfold U
  simp
theorem wrap_nat32 (n : Nat) (h : n < 4294967296) : IntKind.u32.wrap (n : Int) = (n : Int) := by
  rw [IntKind.wrap_u32']
  omega
theorem u_xor (x y : W32) : Go.bits .xor .u32 (U x) (U y) = U (x ^^^ y) := by
  show IntKind.u32.wrap (((BitVec.ofInt 32 (U x) ^^^ BitVec.ofInt 32 (U y)).toNat : Nat) : Int) = _
  rw [ofInt_U, ofInt_U]
  exact wrap_nat32 _ (x ^^^ y).isLt
theorem u_and (x y : W32) : Go.bits .and .u32 (U x) (U y) = U (x &&& y) := by
  show IntKind.u32.wrap (((BitVec.ofInt 32 (U x) &&& BitVec.ofInt 32 (U y)).toNat : Nat) : Int) = _
  rw [ofInt_U, ofInt_U]
  exact wrap_nat32 _ (x &&& y).isLt
theorem u_or (x y : W32) : Go.bits .or .u32 (U x) (U y) = U (x ||| y) := by
  show IntKind.u32.wrap (((BitVec.ofInt 32 (U x) ||| BitVec.ofInt 32 (U y)).toNat : Nat) : Int) = _
  rw [ofInt_U, ofInt_U]
  exact wrap_nat32 _ (x ||| y).isLt
theorem u_add (x y : W32) : IntKind.u32.wrap (U x + U y) = U (x + y) := by
  rw [IntKind.wrap_u32']
  unfold U
  rw [BitVec.toNat_add]
  omega
theorem u_shr (x : W32) (n : Nat) : U x / 2 ^ n = U (x >>> n) := by
  unfold U
  rw [BitVec.toNat_ushiftRight, Nat.shiftRight_eq_div_pow]
  push_cast
  rfl
theorem u_shr3 (x : W32) : U x / (8 : Int) = U (x >>> 3) := u_shr x 3
theorem u_shr10 (x : W32) : U x / (1024 : Int) = U (x >>> 10) := u_shr x 10

theorem rot_nat (x : W32) (n : Nat) (h0 : 0 < n) (h1 : n < 32) : (x.rotateRight n).toNat = x.toNat / 2 ^ n ||| x.toNat * 2 ^ (32 - n) % 4294967296 := by
  rw [BitVec.toNat_rotateRight, Nat.mod_eq_of_lt h1, Nat.shiftRight_eq_div_pow, Nat.shiftLeft_eq]

theorem turn_f (x : W32) (i : Int) (n : Nat) (h0 : 0 < n) (h1 : n < 32) (e : Go.bits .and .u64 (IntKind.u64.wrap (wrap64 (-i))) 31 = ((32 - n : Nat) : Int)) : marks_turn.f (U x) i = some (U (x.rotateRight n)) := by
  unfold marks_turn.f bits_RotateLeft32.f
  rw [e, if_pos (by omega)]
  have e2 : IntKind.u64.wrap (32 - ((32 - n : Nat) : Int)) = (n : Int) := by
    rw [show (32 : Int) - ((32 - n : Nat) : Int) = (n : Int) by omega]
    show (n : Int) % 18446744073709551616 = (n : Int)
    omega
  rw [e2, if_pos (by omega)]
  simp only [Option.bind_some]
  congr 1
  have e3 : shl .u32 (U x) ((32 - n : Nat) : Int) = ((x.toNat * 2 ^ (32 - n) % 4294967296 : Nat) : Int) := by
    unfold shl
    rw [IntKind.wrap_u32', Int.toNat_natCast, Nat.min_eq_left (by show 32 - n ≤ 32; omega), Int.natCast_emod, Int.natCast_mul, Int.natCast_pow]
    rfl
  have e4 : shr .u32 (U x) (n : Int) = ((x.toNat / 2 ^ n : Nat) : Int) := by
    unfold shr
    rw [Int.toNat_natCast, Nat.min_eq_left (by show n ≤ 32; omega), Int.natCast_ediv, Int.natCast_pow]
    rfl
  rw [e3, e4, u32_or_nat _ _ (Nat.mod_lt _ (by decide)) (Nat.lt_of_le_of_lt (Nat.div_le_self _ _) x.isLt)]
  unfold U
  rw [rot_nat x n h0 h1, Nat.or_comm]
theorem turn_calls (x : W32) (i : Int) (n : Nat) (h0 : 0 < n) (h1 : n < 32) (e : Go.bits .and .u64 (IntKind.u64.wrap (wrap64 (-i))) 31 = ((32 - n : Nat) : Int)) (w : World) :
    Calls Try.prog 96 #[.int .u32 (U x), .int .i64 i] w fun e w' => e = .returned (.int .u32 (U (x.rotateRight n))) ∧ Drawn0 w w' :=
  marks_turn.calls (U x) i _ w (turn_f x i n h0 h1 e)
end Go.Proofs.Ytpegefcpanijhaa
end
section
namespace Go.Proofs.Ytpegefcpanijhaa
set_option linter.unusedVariables false
set_option linter.unusedSimpArgs false

def ss0 (x : W32) : W32 := (x.rotateRight 7 ^^^ x.rotateRight 18) ^^^ (x >>> 3)
def ss1 (x : W32) : W32 := (x.rotateRight 17 ^^^ x.rotateRight 19) ^^^ (x >>> 10)
def bs0 (x : W32) : W32 := (x.rotateRight 2 ^^^ x.rotateRight 13) ^^^ x.rotateRight 22
def bs1 (x : W32) : W32 := (x.rotateRight 6 ^^^ x.rotateRight 11) ^^^ x.rotateRight 25
def chW (e f g : W32) : W32 := g ^^^ (e &&& (f ^^^ g))
def majW (a b c : W32) : W32 := (a &&& b) ||| (c &&& (a ||| b))

/-- The next word behind the words l. -/
def nextW (l : List W32) (n : Nat) : W32 := l.getD (n - 16) 0 + ((ss0 (l.getD (n - 15) 0) + l.getD (n - 7) 0) + ss1 (l.getD (n - 2) 0))
/-- The first n words of a block whose first sixteen are m. -/
def schL (m : Nat → W32) : Nat → List W32
  | 0 => []
  | n + 1 => schL m n ++ [if n < 16 then m n else nextW (schL m n) n]
def Wd (m : Nat → W32) (i : Nat) : W32 := (schL m (i + 1)).getD i 0

theorem getD_left {α : Type} (l r : List α) (i : Nat) (z : α) (h : i < l.length) : (l ++ r).getD i z = l.getD i z := by
  rw [List.getD_eq_getElem?_getD, List.getD_eq_getElem?_getD, List.getElem?_append_left h]
theorem getD_last {α : Type} (l : List α) (x : α) (i : Nat) (z : α) (h : l.length = i) : (l ++ [x]).getD i z = x := by
  rw [List.getD_eq_getElem?_getD, List.getElem?_append_right (by omega), h, Nat.sub_self]
  rfl
theorem schL_length (m : Nat → W32) : ∀ n, (schL m n).length = n := by
  intro n
  induction n with
  | zero => rfl
  | succ n ih => rw [schL, List.length_append, ih]; rfl
theorem schL_get (m : Nat → W32) : ∀ (n i : Nat), i < n → (schL m n).getD i 0 = Wd m i := by
  intro n
  induction n with
  | zero => intro i h; omega
  | succ n ih =>
    intro i h
    by_cases h1 : i < n
    · rw [schL, getD_left _ _ _ _ (by rw [schL_length]; exact h1)]
      exact ih i h1
    · obtain rfl : i = n := by omega
      rfl
theorem Wd_low (m : Nat → W32) (i : Nat) (h : i < 16) : Wd m i = m i := by
  unfold Wd
  rw [schL, getD_last _ _ _ _ (schL_length m i), if_pos h]
theorem Wd_next (m : Nat → W32) (i : Nat) (h : 16 ≤ i) : Wd m i = Wd m (i - 16) + ((ss0 (Wd m (i - 15)) + Wd m (i - 7)) + ss1 (Wd m (i - 2))) := by
  conv => lhs; unfold Wd
  rw [schL, getD_last _ _ _ _ (schL_length m i), if_neg (by omega)]
  show nextW (schL m i) i = _
  unfold nextW
  rw [schL_get m i _ (by omega), schL_get m i _ (by omega), schL_get m i _ (by omega), schL_get m i _ (by omega)]

/-- The eight words of a state. -/
abbrev V8 := Nat → W32
def tW (v : V8) (k w : W32) : W32 := (((v 7 + bs1 (v 4)) + chW (v 4) (v 5) (v 6)) + k) + w
def uW (v : V8) : W32 := bs0 (v 0) + majW (v 0) (v 1) (v 2)
def rnd (v : V8) (k w : W32) : V8 := fun j => match j with
  | 0 => tW v k w + uW v
  | 1 => v 0
  | 2 => v 1
  | 3 => v 2
  | 4 => v 3 + tW v k w
  | 5 => v 4
  | 6 => v 5
  | _ => v 6
def rnds (k w : Nat → W32) : Nat → V8 → V8
  | 0, v => v
  | n + 1, v => rnd (rnds k w n v) (k n) (w n)
def addV (x y : V8) : V8 := fun j => x j + y j
/-- Four bytes as a word. -/
def byteW (l : List UInt8) (i : Nat) : W32 := BitVec.ofNat 32 (l.getD i 0).toNat
def beW (l : List UInt8) (i : Nat) : W32 := ((byteW l (4 * i) <<< 24 ||| byteW l (4 * i + 1) <<< 16) ||| byteW l (4 * i + 2) <<< 8) ||| byteW l (4 * i + 3)
def blockV (k : Nat → W32) (h : V8) (l : List UInt8) : V8 := addV h (rnds k (Wd (beW l)) 64 h)
/-- n blocks. -/
def blks (k : Nat → W32) : Nat → V8 → List UInt8 → V8
  | 0, h, _ => h
  | n + 1, h, l => blks k n (blockV k h (l.take 64)) (l.drop 64)
end Go.Proofs.Ytpegefcpanijhaa
end
section
namespace Go.Proofs.Ytpegefcpanijhaa
set_option linter.unusedVariables false
set_option linter.unusedSimpArgs false
open Go.RowKit Go.Proofs.YtpegefcpanijhaaW.PrintWords Go.Proofs.YtpegefcpanijhaaW.PrintLast Go.Proofs.YtpegefcpanijhaaW.PrintMore PF

/-- Flags out of a number's bits. -/
def fl (n m : Nat) : Array Bool := (Array.range n).map fun i => m.testBit i

theorem run_load_at {o : Oper} {x : Operand} {a : Act} {w : World} {b j : Nat} {n : Int} (ho : o.op = .load 56 x) (hx : a.eval x = .pointer (some ⟨b, j, none⟩)) (hc : w.cell? ⟨b, j, none⟩ = some (.int .u32 n)) :
    (execOp a.eval o).run Try.prog w = .ok (.value (.int .u32 n)) w := by
  have h : (loadVar 56 ⟨b, j, none⟩).run Try.prog w = .ok (.int .u32 n) w := by go_simp
  unfold execOp
  simp only [ho, hx, Instr.loadAt, Instr.sureAddr, Sem.run_bind, Sem.run_pure, Result.andThen_ok, h]
theorem run_store_at {o : Oper} {x y : Operand} {a : Act} {w : World} {b j : Nat} {n : Int} {u : Value} (ho : o.op = .store 56 x y) (hx : a.eval x = .pointer (some ⟨b, j, none⟩)) (hy : a.eval y = .int .u32 n) (hc : w.cell? ⟨b, j, none⟩ = some u) (hf : w.frozen? ⟨b, j, none⟩ = false) :
    (execOp a.eval o).run Try.prog w = .ok .skip (w.setCell ⟨b, j, none⟩ (.int .u32 n)) := by
  have h : (storeVar 56 ⟨b, j, none⟩ (.int .u32 n)).run Try.prog w = .ok () (w.setCell ⟨b, j, none⟩ (.int .u32 n)) := by go_simp
  unfold execOp
  simp only [ho, hx, hy, Instr.storeAt, Instr.sureAddr, Sem.run_bind, Sem.run_pure, Result.andThen_ok, h]

/-- The window of the last sixteen words. -/
structure Win (m : Nat → W32) (i : Nat) (row : Array Value) : Prop where
  size : row.size = 16
  cell : ∀ t, t < max i 16 → max i 16 ≤ t + 16 → row[t % 16]? = some (.int .u32 (U (Wd m t)))
theorem Win.low {m : Nat → W32} {i : Nat} {row : Array Value} (h : Win m i row) (hi : i < 16) : Win m (i + 1) row := by
  have e1 : max i 16 = 16 := by omega
  have e2 : max (i + 1) 16 = 16 := by omega
  refine ⟨h.size, fun t => ?_⟩
  have := h.cell t
  rw [e1] at this
  rw [e2]
  exact this
theorem Win.next {m : Nat → W32} {i : Nat} {row : Array Value} (h : Win m i row) (hi : 16 ≤ i) : Win m (i + 1) (row.setIfInBounds (i % 16) (.int .u32 (U (Wd m i)))) := by
  have e1 : max i 16 = i := by omega
  have e2 : max (i + 1) 16 = i + 1 := by omega
  refine ⟨by rw [Array.size_setIfInBounds]; exact h.size, fun t h1 h2 => ?_⟩
  rw [e2] at h1 h2
  by_cases ht : t = i
  · subst ht
    rw [Array.getElem?_setIfInBounds_self_of_lt (by rw [h.size]; omega)]
  · rw [Array.getElem?_setIfInBounds_ne (by omega)]
    exact h.cell t (by rw [e1]; omega) (by rw [e1]; omega)
theorem tmod16 (n : Nat) : Int.tmod (n : Int) 16 = ((n % 16 : Nat) : Int) := rfl

set_option maxHeartbeats 4000000 in
set_option maxRecDepth 100000 in
theorem word_calls {m : Nat → W32} {w : World} {bw i : Nat} {row : Array Value} (hb : w.heap[bw]? = some (.cells row 118 (0, 0))) (hw : Win m i row) (hi : i < 64) :
    Calls Try.prog 97 #[.pointer (some ⟨bw, 0, none⟩), .int .i64 i] w fun e w' => e = .returned (.int .u32 (U (Wd m i))) ∧ ∃ row', w'.heap[bw]? = some (.cells row' 118 (0, 0)) ∧ Win m (i + 1) row' ∧ Only bw w w' := by
  have t0 : Int.tmod (i : Int) 16 = ((i % 16 : Nat) : Int) := rfl
  have p0 : (0 : Int) ≤ ((i % 16 : Nat) : Int) := by omega
  have q0 : ((i % 16 : Nat) : Int) < 16 := by omega
  by_cases h16 : i < 16
  · have z1 : ¬ (16 : Int) ≤ (i : Int) := by omega
    have hx := (blk_cell hb (i % 16)).trans (hw.cell i (by omega) (by omega))
    have HN := Lib.hid (hw.low h16)
    have t1 : (i : Int) % 16 = ((i % 16 : Nat) : Int) := by omega
    generalize i % 16 = j0 at t0 p0 q0 hx t1
    clear h16 hw
    go_enter Try.func97, Try.ntmps97
    go_wp2_with fail
    go_ret
    exact ⟨rfl, row, hb, HN.out, Only.refl _ _⟩
  · have hw1 : IntKind.i64.wrap ((i : Int) + 1) = ((i + 1 : Nat) : Int) := by rw [IntKind.wrap_i64]; omega
    have hw2 : IntKind.i64.wrap ((i : Int) + 14) = ((i + 14 : Nat) : Int) := by rw [IntKind.wrap_i64]; omega
    have hw3 : IntKind.i64.wrap ((i : Int) + 9) = ((i + 9 : Nat) : Int) := by rw [IntKind.wrap_i64]; omega
    have hz : row[i % 16]? = some (.int .u32 (U (Wd m (i - 16)))) := by
      have := hw.cell (i - 16) (by omega) (by omega)
      rwa [show (i - 16) % 16 = i % 16 by omega] at this
    have ha : row[(i + 1) % 16]? = some (.int .u32 (U (Wd m (i - 15)))) := by
      have := hw.cell (i - 15) (by omega) (by omega)
      rwa [show (i - 15) % 16 = (i + 1) % 16 by omega] at this
    have hbb : row[(i + 14) % 16]? = some (.int .u32 (U (Wd m (i - 2)))) := by
      have := hw.cell (i - 2) (by omega) (by omega)
      rwa [show (i - 2) % 16 = (i + 14) % 16 by omega] at this
    have hy : row[(i + 9) % 16]? = some (.int .u32 (U (Wd m (i - 7)))) := by
      have := hw.cell (i - 7) (by omega) (by omega)
      rwa [show (i - 7) % 16 = (i + 9) % 16 by omega] at this
    have HN := Lib.hid (hw.next (by omega))
    have HW := Lib.hid (Wd_next m i (by omega))
    have HSZ := Lib.hid hw.size
    have t1 : Int.tmod ((i + 1 : Nat) : Int) 16 = (((i + 1) % 16 : Nat) : Int) := rfl
    have t2 : Int.tmod ((i + 14 : Nat) : Int) 16 = (((i + 14) % 16 : Nat) : Int) := rfl
    have t3 : Int.tmod ((i + 9 : Nat) : Int) 16 = (((i + 9) % 16 : Nat) : Int) := rfl
    have p1 : (0 : Int) ≤ (((i + 1) % 16 : Nat) : Int) := by omega
    have p2 : (0 : Int) ≤ (((i + 14) % 16 : Nat) : Int) := by omega
    have p3 : (0 : Int) ≤ (((i + 9) % 16 : Nat) : Int) := by omega
    have q1 : (((i + 1) % 16 : Nat) : Int) < 16 := by omega
    have q2 : (((i + 14) % 16 : Nat) : Int) < 16 := by omega
    have q3 : (((i + 9) % 16 : Nat) : Int) < 16 := by omega
    have tt : (i : Int) % 16 = ((i % 16 : Nat) : Int) := by omega
    have z1 : (16 : Int) ≤ (i : Int) := by omega
    obtain ⟨X, hX⟩ : ∃ X, X = Wd m i := ⟨_, rfl⟩
    have HX := Lib.hid (hX.trans HW.out)
    rw [← hX] at HN ⊢
    clear hX HW
    generalize Wd m (i - 16) = xz at hz HX
    generalize Wd m (i - 15) = xa at ha HX
    generalize Wd m (i - 2) = xb at hbb HX
    generalize Wd m (i - 7) = xy at hy HX
    generalize ((i + 1 : Nat) : Int) = n1 at hw1 t1
    generalize ((i + 14 : Nat) : Int) = n2 at hw2 t2
    generalize ((i + 9 : Nat) : Int) = n3 at hw3 t3
    generalize (i + 1) % 16 = j1 at ha t1 p1 q1
    generalize (i + 14) % 16 = j2 at hbb t2 p2 q2
    generalize (i + 9) % 16 = j3 at hy t3 p3 q3
    generalize i % 16 = j0 at hz t0 p0 q0 tt HN
    have ca := (blk_cell hb j1).trans ha
    have cb := (blk_cell hb j2).trans hbb
    clear hw h16
    go_enter Try.func97, Try.ntmps97
    go_wp2_with fail
    go_quiet (fail)
    clear ca cb
    go_upto_region 3 with (fail)
    have ho : Only bw w (w.drewN nq) := (Only.refl bw w).drewN nq
    have hb2 : (w.drewN nq).heap[bw]? = some (.cells row 118 (0, 0)) := hb
    generalize w.drewN nq = w2 at hb2 ho ⊢
    clear hb
    refine start_ (n := 35) (S := fun w' => w'.heap[bw]? = some (.cells row 118 (0, 0))) (ds := [34]) (fl 35 0) (by kernel_rfl) rfl (by kernel_rfl) hb2 (fun hHeld => ?_)
    have ho2 : Only bw w w2.drew := ho.drew
    generalize w2.drew = w3 at hHeld ho2 ⊢
    clear hb2 ho w2
    refine pure_ (i := 0) (N := some 23) (v := ?_) (a' := ?_) (fl 35 1) rfl rfl (by kernel_rfl) (fun _ _ _ h => h) (Or.inl ⟨by rfl, ?_⟩) ?_ ?_
    rotate_left
    · intro w'
      go_simp
      with_reducible rfl
    rotate_left
    · simp only [Act.put, List.setIfInBounds_toArray, List.set_cons_zero, List.set_cons_succ, i64_w, i32_w]
      rfl
    refine pure_ (i := 1) (N := some 24) (v := ?_) (a' := ?_) (fl 35 3) rfl rfl (by kernel_rfl) (fun _ _ _ h => h) (Or.inl ⟨by rfl, ?_⟩) ?_ ?_
    rotate_left
    · intro w'
      go_simp
      with_reducible rfl
    rotate_left
    · simp only [Act.put, List.setIfInBounds_toArray, List.set_cons_zero, List.set_cons_succ, i64_w, i32_w]
      rfl
    refine pure_ (i := 2) (N := some 25) (v := ?_) (a' := ?_) (fl 35 7) rfl rfl (by kernel_rfl) (fun _ _ _ h => h) (Or.inl ⟨by rfl, ?_⟩) ?_ ?_
    rotate_left
    · intro w'
      go_simp
      with_reducible rfl
    rotate_left
    · simp only [Act.put, List.setIfInBounds_toArray, List.set_cons_zero, List.set_cons_succ, i64_w, i32_w]
      rfl
    refine pure_ (i := 3) (N := some 26) (v := ?_) (a' := ?_) (fl 35 15) rfl rfl (by kernel_rfl) (fun _ _ _ h => h) (Or.inl ⟨by rfl, ?_⟩) ?_ ?_
    rotate_left
    · intro w'
      go_simp
      with_reducible rfl
    rotate_left
    · simp only [Act.put, List.setIfInBounds_toArray, List.set_cons_zero, List.set_cons_succ, i64_w, i32_w]
      rfl
    refine pure_ (i := 4) (N := some 27) (v := ?_) (a' := ?_) (fl 35 31) rfl rfl (by kernel_rfl) (fun _ _ _ h => h) (Or.inl ⟨by rfl, ?_⟩) ?_ ?_
    rotate_left
    · intro w'
      go_simp
      with_reducible rfl
    rotate_left
    · simp only [Act.put, List.setIfInBounds_toArray, List.set_cons_zero, List.set_cons_succ, i64_w, i32_w]
      rfl
    refine take_ (i := 5) (N := some 28) (v := .int .u32 (U xz)) (fl 35 63) rfl rfl (by kernel_rfl) (fun _ _ _ h => h) (Or.inl ⟨by rfl, fun w' hS => run_load_at rfl rfl ((blk_cell hS _).trans hz)⟩) hHeld rfl ?_
    simp only [Act.put, List.setIfInBounds_toArray, List.set_cons_zero, List.set_cons_succ]
    refine pure_ (i := 6) (N := some 29) (v := ?_) (a' := ?_) (fl 35 127) rfl rfl (by kernel_rfl) (fun _ _ _ h => h) (Or.inl ⟨by rfl, ?_⟩) ?_ ?_
    rotate_left
    · intro w'
      go_simp
      with_reducible rfl
    rotate_left
    · simp only [Act.put, List.setIfInBounds_toArray, List.set_cons_zero, List.set_cons_succ, i64_w, i32_w]
      rfl
    refine pure_ (i := 8) (N := some 31) (v := ?_) (a' := ?_) (fl 35 383) rfl rfl (by kernel_rfl) (fun _ _ _ h => h) (Or.inl ⟨by rfl, ?_⟩) ?_ ?_
    rotate_left
    · intro w'
      go_simp
      with_reducible rfl
    rotate_left
    · simp only [Act.put, List.setIfInBounds_toArray, List.set_cons_zero, List.set_cons_succ, i64_w, i32_w]
      rfl
    refine pure_ (i := 11) (N := some 34) (v := ?_) (a' := ?_) (fl 35 2431) rfl rfl (by kernel_rfl) (fun _ _ _ h => h) (Or.inl ⟨by rfl, ?_⟩) ?_ ?_
    rotate_left
    · intro w'
      go_simp
      with_reducible rfl
    rotate_left
    · simp only [Act.put, List.setIfInBounds_toArray, List.set_cons_zero, List.set_cons_succ, i64_w, i32_w]
      rfl
    refine pure_ (i := 12) (N := some 35) (v := ?_) (a' := ?_) (fl 35 6527) rfl rfl (by kernel_rfl) (fun _ _ _ h => h) (Or.inl ⟨by rfl, ?_⟩) ?_ ?_
    rotate_left
    · intro w'
      go_simp
      try simp only [u_xor, u_add, u_shr3, u_shr10]
      with_reducible rfl
    rotate_left
    · simp only [Act.put, List.setIfInBounds_toArray, List.set_cons_zero, List.set_cons_succ, i64_w, i32_w]
      rfl
    refine pure_ (i := 14) (N := some 37) (v := ?_) (a' := ?_) (fl 35 22911) rfl rfl (by kernel_rfl) (fun _ _ _ h => h) (Or.inl ⟨by rfl, ?_⟩) ?_ ?_
    rotate_left
    · intro w'
      go_simp
      with_reducible rfl
    rotate_left
    · simp only [Act.put, List.setIfInBounds_toArray, List.set_cons_zero, List.set_cons_succ, i64_w, i32_w]
      rfl
    refine pure_ (i := 15) (N := some 38) (v := ?_) (a' := ?_) (fl 35 55679) rfl rfl (by kernel_rfl) (fun _ _ _ h => h) (Or.inl ⟨by rfl, ?_⟩) ?_ ?_
    rotate_left
    · intro w'
      go_simp
      with_reducible rfl
    rotate_left
    · simp only [Act.put, List.setIfInBounds_toArray, List.set_cons_zero, List.set_cons_succ, i64_w, i32_w]
      rfl
    refine pure_ (i := 16) (N := some 39) (v := ?_) (a' := ?_) (fl 35 121215) rfl rfl (by kernel_rfl) (fun _ _ _ h => h) (Or.inl ⟨by rfl, ?_⟩) ?_ ?_
    rotate_left
    · intro w'
      go_simp
      with_reducible rfl
    rotate_left
    · simp only [Act.put, List.setIfInBounds_toArray, List.set_cons_zero, List.set_cons_succ, i64_w, i32_w]
      rfl
    refine pure_ (i := 17) (N := some 40) (v := ?_) (a' := ?_) (fl 35 252287) rfl rfl (by kernel_rfl) (fun _ _ _ h => h) (Or.inl ⟨by rfl, ?_⟩) ?_ ?_
    rotate_left
    · intro w'
      go_simp
      with_reducible rfl
    rotate_left
    · simp only [Act.put, List.setIfInBounds_toArray, List.set_cons_zero, List.set_cons_succ, i64_w, i32_w]
      rfl
    refine pure_ (i := 18) (N := some 41) (v := ?_) (a' := ?_) (fl 35 514431) rfl rfl (by kernel_rfl) (fun _ _ _ h => h) (Or.inl ⟨by rfl, ?_⟩) ?_ ?_
    rotate_left
    · intro w'
      go_simp
      with_reducible rfl
    rotate_left
    · simp only [Act.put, List.setIfInBounds_toArray, List.set_cons_zero, List.set_cons_succ, i64_w, i32_w]
      rfl
    refine pure_ (i := 19) (N := some 42) (v := ?_) (a' := ?_) (fl 35 1038719) rfl rfl (by kernel_rfl) (fun _ _ _ h => h) (Or.inl ⟨by rfl, ?_⟩) ?_ ?_
    rotate_left
    · intro w'
      go_simp
      with_reducible rfl
    rotate_left
    · simp only [Act.put, List.setIfInBounds_toArray, List.set_cons_zero, List.set_cons_succ, i64_w, i32_w]
      rfl
    refine take_ (i := 20) (N := some 43) (v := .int .u32 (U xy)) (fl 35 2087295) rfl rfl (by kernel_rfl) (fun _ _ _ h => h) (Or.inl ⟨by rfl, fun w' hS => run_load_at rfl rfl ((blk_cell hS _).trans hy)⟩) hHeld rfl ?_
    simp only [Act.put, List.setIfInBounds_toArray, List.set_cons_zero, List.set_cons_succ]
    refine pure_ (i := 22) (N := some 45) (v := ?_) (a' := ?_) (fl 35 6281599) rfl rfl (by kernel_rfl) (fun _ _ _ h => h) (Or.inl ⟨by rfl, ?_⟩) ?_ ?_
    rotate_left
    · intro w'
      go_simp
      with_reducible rfl
    rotate_left
    · simp only [Act.put, List.setIfInBounds_toArray, List.set_cons_zero, List.set_cons_succ, i64_w, i32_w]
      rfl
    refine pure_ (i := 24) (N := some 47) (v := ?_) (a' := ?_) (fl 35 23058815) rfl rfl (by kernel_rfl) (fun _ _ _ h => h) (Or.inl ⟨by rfl, ?_⟩) ?_ ?_
    rotate_left
    · intro w'
      go_simp
      with_reducible rfl
    rotate_left
    · simp only [Act.put, List.setIfInBounds_toArray, List.set_cons_zero, List.set_cons_succ, i64_w, i32_w]
      rfl
    refine pure_ (i := 27) (N := some 50) (v := ?_) (a' := ?_) (fl 35 157276543) rfl rfl (by kernel_rfl) (fun _ _ _ h => h) (Or.inl ⟨by rfl, ?_⟩) ?_ ?_
    rotate_left
    · intro w'
      go_simp
      with_reducible rfl
    rotate_left
    · simp only [Act.put, List.setIfInBounds_toArray, List.set_cons_zero, List.set_cons_succ, i64_w, i32_w]
      rfl
    refine pure_ (i := 28) (N := some 51) (v := ?_) (a' := ?_) (fl 35 425711999) rfl rfl (by kernel_rfl) (fun _ _ _ h => h) (Or.inl ⟨by rfl, ?_⟩) ?_ ?_
    rotate_left
    · intro w'
      go_simp
      try simp only [u_xor, u_add, u_shr3, u_shr10]
      with_reducible rfl
    rotate_left
    · simp only [Act.put, List.setIfInBounds_toArray, List.set_cons_zero, List.set_cons_succ, i64_w, i32_w]
      rfl
    refine pure_ (i := 32) (N := some 55) (v := ?_) (a' := ?_) (fl 35 4720679295) rfl rfl (by kernel_rfl) (fun _ _ _ h => h) (Or.inl ⟨by rfl, ?_⟩) ?_ ?_
    rotate_left
    · intro w'
      go_simp
      with_reducible rfl
    rotate_left
    · simp only [Act.put, List.setIfInBounds_toArray, List.set_cons_zero, List.set_cons_succ, i64_w, i32_w]
      rfl
    refine one_ (i := 7) (N := some 30) (fl 35 4720679423) rfl rfl (by kernel_rfl) (by decide) (fun K hK => ?_)
    refine goes_ Try.func96 (by kernel_rfl) rfl #[.int .u32 (U xa), .int .i64 7] (by rfl) rfl rfl (by simp [Act.eval]) ?_
    refine (turn_calls xa 7 7 (by decide) (by decide) (by decide +kernel) _).mono ?_
    rintro e w4 ⟨rfl, hd⟩
    have ho3 := ho2.trans (Only.of_below hd.below)
    refine ⟨_, rfl, hK.out _ _ (blk_below hHeld hd.below) (fun hHeld2 => ?_)⟩
    clear hK K hHeld
    have hHeld := hHeld2
    clear hHeld2
    clear ho2
    simp only [Act.put, List.setIfInBounds_toArray, List.set_cons_zero, List.set_cons_succ]
    refine one_ (i := 9) (N := some 32) (fl 35 4720679935) rfl rfl (by kernel_rfl) (by decide) (fun K hK => ?_)
    refine goes_ Try.func96 (by kernel_rfl) rfl #[.int .u32 (U xa), .int .i64 18] (by rfl) rfl rfl (by simp [Act.eval]) ?_
    refine (turn_calls xa 18 18 (by decide) (by decide) (by decide +kernel) _).mono ?_
    rintro e w5 ⟨rfl, hd⟩
    have ho4 := ho3.trans (Only.of_below hd.below)
    refine ⟨_, rfl, hK.out _ _ (blk_below hHeld hd.below) (fun hHeld2 => ?_)⟩
    clear hK K hHeld
    have hHeld := hHeld2
    clear hHeld2
    clear ho3
    simp only [Act.put, List.setIfInBounds_toArray, List.set_cons_zero, List.set_cons_succ]
    refine pure_ (i := 10) (N := some 33) (v := ?_) (a' := ?_) (fl 35 4720680959) rfl rfl (by kernel_rfl) (fun _ _ _ h => h) (Or.inl ⟨by rfl, ?_⟩) ?_ ?_
    rotate_left
    · intro w'
      go_simp
      try simp only [u_xor, u_add, u_shr3, u_shr10]
      with_reducible rfl
    rotate_left
    · simp only [Act.put, List.setIfInBounds_toArray, List.set_cons_zero, List.set_cons_succ, i64_w, i32_w]
      rfl
    refine pure_ (i := 13) (N := some 36) (v := ?_) (a' := ?_) (fl 35 4720689151) rfl rfl (by kernel_rfl) (fun _ _ _ h => h) (Or.inl ⟨by rfl, ?_⟩) ?_ ?_
    rotate_left
    · intro w'
      go_simp
      try simp only [u_xor, u_add, u_shr3, u_shr10]
      with_reducible rfl
    rotate_left
    · simp only [Act.put, List.setIfInBounds_toArray, List.set_cons_zero, List.set_cons_succ, i64_w, i32_w]
      rfl
    refine pure_ (i := 21) (N := some 44) (v := ?_) (a' := ?_) (fl 35 4722786303) rfl rfl (by kernel_rfl) (fun _ _ _ h => h) (Or.inl ⟨by rfl, ?_⟩) ?_ ?_
    rotate_left
    · intro w'
      go_simp
      try simp only [u_xor, u_add, u_shr3, u_shr10]
      with_reducible rfl
    rotate_left
    · simp only [Act.put, List.setIfInBounds_toArray, List.set_cons_zero, List.set_cons_succ, i64_w, i32_w]
      rfl
    refine one_ (i := 23) (N := some 46) (fl 35 4731174911) rfl rfl (by kernel_rfl) (by decide) (fun K hK => ?_)
    refine goes_ Try.func96 (by kernel_rfl) rfl #[.int .u32 (U xb), .int .i64 17] (by rfl) rfl rfl (by simp [Act.eval]) ?_
    refine (turn_calls xb 17 17 (by decide) (by decide) (by decide +kernel) _).mono ?_
    rintro e w6 ⟨rfl, hd⟩
    have ho5 := ho4.trans (Only.of_below hd.below)
    refine ⟨_, rfl, hK.out _ _ (blk_below hHeld hd.below) (fun hHeld2 => ?_)⟩
    clear hK K hHeld
    have hHeld := hHeld2
    clear hHeld2
    clear ho4
    simp only [Act.put, List.setIfInBounds_toArray, List.set_cons_zero, List.set_cons_succ]
    refine one_ (i := 25) (N := some 48) (fl 35 4764729343) rfl rfl (by kernel_rfl) (by decide) (fun K hK => ?_)
    refine goes_ Try.func96 (by kernel_rfl) rfl #[.int .u32 (U xb), .int .i64 19] (by rfl) rfl rfl (by simp [Act.eval]) ?_
    refine (turn_calls xb 19 19 (by decide) (by decide) (by decide +kernel) _).mono ?_
    rintro e w7 ⟨rfl, hd⟩
    have ho6 := ho5.trans (Only.of_below hd.below)
    refine ⟨_, rfl, hK.out _ _ (blk_below hHeld hd.below) (fun hHeld2 => ?_)⟩
    clear hK K hHeld
    have hHeld := hHeld2
    clear hHeld2
    clear ho5
    simp only [Act.put, List.setIfInBounds_toArray, List.set_cons_zero, List.set_cons_succ]
    refine pure_ (i := 26) (N := some 49) (v := ?_) (a' := ?_) (fl 35 4831838207) rfl rfl (by kernel_rfl) (fun _ _ _ h => h) (Or.inl ⟨by rfl, ?_⟩) ?_ ?_
    rotate_left
    · intro w'
      go_simp
      try simp only [u_xor, u_add, u_shr3, u_shr10]
      with_reducible rfl
    rotate_left
    · simp only [Act.put, List.setIfInBounds_toArray, List.set_cons_zero, List.set_cons_succ, i64_w, i32_w]
      rfl
    refine pure_ (i := 29) (N := some 52) (v := ?_) (a' := ?_) (fl 35 5368709119) rfl rfl (by kernel_rfl) (fun _ _ _ h => h) (Or.inl ⟨by rfl, ?_⟩) ?_ ?_
    rotate_left
    · intro w'
      go_simp
      try simp only [u_xor, u_add, u_shr3, u_shr10]
      with_reducible rfl
    rotate_left
    · simp only [Act.put, List.setIfInBounds_toArray, List.set_cons_zero, List.set_cons_succ, i64_w, i32_w]
      rfl
    refine pure_ (i := 30) (N := some 53) (v := ?_) (a' := ?_) (fl 35 6442450943) rfl rfl (by kernel_rfl) (fun _ _ _ h => h) (Or.inl ⟨by rfl, ?_⟩) ?_ ?_
    rotate_left
    · intro w'
      go_simp
      try simp only [u_xor, u_add, u_shr3, u_shr10]
      with_reducible rfl
    rotate_left
    · simp only [Act.put, List.setIfInBounds_toArray, List.set_cons_zero, List.set_cons_succ, i64_w, i32_w]
      rfl
    refine pure_ (i := 31) (N := some 54) (v := ?_) (a' := ?_) (fl 35 8589934591) rfl rfl (by kernel_rfl) (fun _ _ _ h => h) (Or.inl ⟨by rfl, ?_⟩) ?_ ?_
    rotate_left
    · intro w'
      go_simp
      try simp only [u_xor, u_add, u_shr3, u_shr10]
      with_reducible rfl
    rotate_left
    · simp only [Act.put, List.setIfInBounds_toArray, List.set_cons_zero, List.set_cons_succ, i64_w, i32_w]
      rfl
    refine pure_ (i := 33) (N := some 56) (v := ?_) (a' := ?_) (fl 35 17179869183) rfl rfl (by kernel_rfl) (fun _ _ _ h => h) (Or.inl ⟨by rfl, ?_⟩) ?_ ?_
    rotate_left
    · intro w'
      go_simp
      with_reducible rfl
    rotate_left
    · simp only [Act.put, List.setIfInBounds_toArray, List.set_cons_zero, List.set_cons_succ, i64_w, i32_w]
      rfl
    refine last_ (i := 34) (N := none) (fl 35 34359738367) rfl rfl (by kernel_rfl) (by decide) (fun K hK => ?_)
    refine skip_ (by rfl) rfl (run_store_at (n := U X) rfl rfl (by rw [HX.out]; rfl) ((blk_cell hHeld _).trans hz) (blk_frozen hHeld _)) ?_
    refine hK.out _ _ ?_
    have hb9 := blk_put hHeld j0 (.int .u32 (U X)) rfl
    have ho9 := ho6.setCell j0 (.int .u32 (U X))
    clear hHeld
    clear hK K
    generalize w7.setCell ⟨bw, j0, none⟩ (.int .u32 (U X)) = w9 at hb9 ho9 ⊢
    clear ho6
    refine done_ (by kernel_rfl) ?_
    have hlt : j0 < row.size := by rw [HSZ.out]; omega
    have c9 : w9.cell? ⟨bw, j0, none⟩ = some (.int .u32 (U X)) := (blk_cell hb9 j0).trans (by rw [Array.getElem?_setIfInBounds_self_of_lt hlt])
    clear hlt
    go_wp2_with fail
    go_ret
    exact ⟨rfl, _, hb9, HN.out, ho9⟩
end Go.Proofs.Ytpegefcpanijhaa
end
section
namespace Go.Proofs.Ytpegefcpanijhaa
set_option linter.unusedVariables false
set_option linter.unusedSimpArgs false
open Go.RowKit Go.Proofs.YtpegefcpanijhaaW.PrintWords Go.Proofs.YtpegefcpanijhaaW.PrintLast Go.Proofs.YtpegefcpanijhaaW.PrintMore PF

/-- A word's cell. -/
abbrev cellU (x : W32) : Value := .int .u32 (U x)
/-- The first n words of a function as a row. -/
def rowN (n : Nat) (v : Nat → W32) : Array Value := ((List.range n).map fun j => cellU (v j)).toArray
/-- A mixer's cells. -/
def mixRow (k : Nat → W32) (h : V8) : Array Value := ((List.range 64).map (fun j => cellU (k j)) ++ (List.range 8).map fun j => cellU (h j)).toArray
theorem rowN_size (n : Nat) (v : Nat → W32) : (rowN n v).size = n := by simp [rowN]
theorem rowN_get {n : Nat} (v : Nat → W32) {j : Nat} (h : j < n) : (rowN n v)[j]? = some (cellU (v j)) := by
  simp [rowN, h]
theorem rowN_congr {n : Nat} {v u : Nat → W32} (h : ∀ j, j < n → v j = u j) : rowN n v = rowN n u := by
  unfold rowN
  congr 1
  apply List.map_congr_left
  intro j hj
  rw [h j (List.mem_range.1 hj)]
theorem mix_k (k : Nat → W32) (h : V8) {j : Nat} (hj : j < 64) : (mixRow k h)[j]? = some (cellU (k j)) := by
  simp [mixRow, hj, List.getElem?_append_left]
theorem mix_h (k : Nat → W32) (h : V8) {j : Nat} (hj : j < 8) : (mixRow k h)[64 + j]? = some (cellU (h j)) := by
  simp [mixRow, hj, List.getElem?_append_right]
theorem mix_congr {k : Nat → W32} {h g : V8} (e : ∀ j, j < 8 → h j = g j) : mixRow k h = mixRow k g := by
  unfold mixRow
  congr 2
  apply List.map_congr_left
  intro j hj
  rw [e j (List.mem_range.1 hj)]
theorem rowN_set {n : Nat} (v : Nat → W32) {j : Nat} (hj : j < n) (x : W32) : (rowN n v).setIfInBounds j (cellU x) = rowN n (fun i => if i = j then x else v i) := by
  apply Array.ext_getElem?
  intro i
  by_cases hi : i = j
  · subst hi
    rw [Array.getElem?_setIfInBounds_self_of_lt (by rw [rowN_size]; exact hj), rowN_get _ hj, if_pos rfl]
  · rw [Array.getElem?_setIfInBounds_ne (Ne.symm hi)]
    by_cases hn : i < n
    · rw [rowN_get _ hn, rowN_get _ hn, if_neg hi]
    · rw [Array.getElem?_eq_none (by rw [rowN_size]; omega), Array.getElem?_eq_none (by rw [rowN_size]; omega)]
theorem mix_size (k : Nat → W32) (h : V8) : (mixRow k h).size = 72 := by simp [mixRow]
theorem mix_set (k : Nat → W32) (h : V8) {j : Nat} (hj : j < 8) (x : W32) : (mixRow k h).setIfInBounds (64 + j) (cellU x) = mixRow k (fun i => if i = j then x else h i) := by
  apply Array.ext_getElem?
  intro i
  by_cases hi : i = 64 + j
  · subst hi
    rw [Array.getElem?_setIfInBounds_self_of_lt (by rw [mix_size]; omega), mix_h _ _ hj, if_pos rfl]
  · rw [Array.getElem?_setIfInBounds_ne (Ne.symm hi)]
    by_cases h64 : i < 64
    · rw [mix_k _ _ h64, mix_k _ _ h64]
    · by_cases h72 : i < 72
      · obtain ⟨q, rfl⟩ : ∃ q, i = 64 + q := ⟨i - 64, by omega⟩
        rw [mix_h _ _ (by omega), mix_h _ _ (by omega), if_neg (by omega)]
      · rw [Array.getElem?_eq_none (by rw [mix_size]; omega), Array.getElem?_eq_none (by rw [mix_size]; omega)]

/-- A byte as a whole number. -/
def UB (x : UInt8) : Int := (x.toNat : Int)
theorem UB_lt (x : UInt8) : 0 ≤ UB x ∧ UB x < 256 := by
  have := x.toNat_lt
  unfold UB
  omega
theorem ub_word (x : UInt8) : UB x = U (BitVec.ofNat 32 x.toNat) := by
  have := x.toNat_lt
  unfold UB U
  rw [BitVec.toNat_ofNat]
  omega
theorem ub_wrap (x : UInt8) : IntKind.u32.wrap (UB x) = U (BitVec.ofNat 32 x.toNat) := by
  rw [IntKind.wrap_u32', ub_word]
  have := U_lt (BitVec.ofNat 32 x.toNat)
  omega
theorem u_shl (x : W32) (n : Nat) : IntKind.u32.wrap (U x * 2 ^ n) = U (x <<< n) := by
  rw [IntKind.wrap_u32']
  unfold U
  rw [BitVec.toNat_shiftLeft, Nat.shiftLeft_eq, Int.natCast_emod, Int.natCast_mul, Int.natCast_pow]
  rfl
theorem u_shl24 (x : W32) : IntKind.u32.wrap (U x * (16777216 : Int)) = U (x <<< 24) := u_shl x 24
theorem u_shl16 (x : W32) : IntKind.u32.wrap (U x * (65536 : Int)) = U (x <<< 16) := u_shl x 16
theorem u_shl8 (x : W32) : IntKind.u32.wrap (U x * (256 : Int)) = U (x <<< 8) := u_shl x 8
theorem index_s (s : ByteArray) (n : Nat) (h : n < s.size) (hm : s.size ≤ 9223372036854775807) (w : World) : (Instr.index 9 (.string s) (.int .i64 n)).run Try.prog w = .ok (.int .u8 (UB (s.data.toList.getD n 0))) w := by
  have e : UB (s.data.toList.getD n 0) = ((s[n]'h).toNat : Int) := by
    unfold UB
    rw [List.getD_eq_getElem?_getD, Array.getElem?_toList, Array.getElem?_eq_getElem (by exact h)]
    rfl
  rw [e]
  have z1 : (n : Int) < (s.size : Int) := by omega
  have z2 : (0 : Int) ≤ (n : Int) := by omega
  go_simp
end Go.Proofs.Ytpegefcpanijhaa
end
section
namespace Go.Proofs.Ytpegefcpanijhaa
set_option linter.unusedVariables false
set_option linter.unusedSimpArgs false
open Go.RowKit Go.Proofs.YtpegefcpanijhaaW.PrintWords Go.Proofs.YtpegefcpanijhaaW.PrintLast Go.Proofs.YtpegefcpanijhaaW.PrintMore PF

/-- How far mixer.block is, in its rounds. -/
structure BlkSt (w wr : World) (bm bw bv : Nat) (m k : Nat → W32) (h : V8) (i : Nat) (rw_ : Array Value) (rv : Array Value) : Prop where
  win : wr.heap[bw]? = some (.cells rw_ 118 (0, 0))
  isW : Win m i rw_
  vec : wr.heap[bv]? = some (.cells rv 58 (0, 0))
  mix : wr.heap[bm]? = some (.cells (mixRow k h) 60 (0, 0))
  bel : Below w.heap.size w wr
  gew : w.heap.size ≤ bw
  gev : w.heap.size ≤ bv
  ne : bw ≠ bv
  lt : bm < w.heap.size
namespace BlkSt
variable {w wr w1 : World} {bm bw bv i : Nat} {m k : Nat → W32} {h : V8} {rw_ rv rw2 : Array Value}
theorem below (H : BlkSt w wr bm bw bv m k h i rw_ rv) (hb : Below wr.heap.size wr w1) : BlkSt w w1 bm bw bv m k h i rw_ rv :=
  ⟨blk_below H.win hb, H.isW, blk_below H.vec hb, blk_below H.mix hb, H.bel.trans (hb.mono H.bel.size), H.gew, H.gev, H.ne, H.lt⟩
theorem word (H : BlkSt w wr bm bw bv m k h i rw_ rv) (h1 : w1.heap[bw]? = some (.cells rw2 118 (0, 0))) (h2 : Win m (i + 1) rw2) (ho : Only bw wr w1) : BlkSt w w1 bm bw bv m k h (i + 1) rw2 rv :=
  ⟨h1, h2, (ho.block bv (blk_lt H.vec) H.ne.symm).trans H.vec, (ho.block bm (blk_lt H.mix) (by have := H.lt; have := H.gew; omega)).trans H.mix,
   ho.below H.bel H.gew, H.gew, H.gev, H.ne, H.lt⟩
theorem setV (H : BlkSt w wr bm bw bv m k h i rw_ rv) (j : Nat) (u : Value) : BlkSt w (wr.setCell ⟨bv, j, none⟩ u) bm bw bv m k h i rw_ (rv.setIfInBounds j u) :=
  ⟨blk_far H.win H.ne u, H.isW, blk_put H.vec j u rfl, blk_far H.mix (by have := H.lt; have := H.gev; show bm ≠ bv; omega) u, H.bel.setCell H.gev u, H.gew, H.gev, H.ne, H.lt⟩
theorem drew (H : BlkSt w wr bm bw bv m k h i rw_ rv) : BlkSt w wr.drew bm bw bv m k h i rw_ rv := ⟨H.win, H.isW, H.vec, H.mix, H.bel.drew, H.gew, H.gev, H.ne, H.lt⟩
end BlkSt

theorem row8_rnd (V : V8) (kk ww : W32) : ((((((((rowN 8 V).setIfInBounds 0 (cellU (tW V kk ww + uW V))).setIfInBounds 1 (cellU (V 0))).setIfInBounds 2 (cellU (V 1))).setIfInBounds 3 (cellU (V 2))).setIfInBounds 4 (cellU (V 3 + tW V kk ww))).setIfInBounds 5 (cellU (V 4))).setIfInBounds 6 (cellU (V 5))).setIfInBounds 7 (cellU (V 6)) = rowN 8 (rnd V kk ww) := by kernel_rfl

/-- The first j words added. -/
def addN (h V : V8) (j : Nat) : V8 := fun i => if i < j then h i + V i else h i
theorem index_arr (V : V8) (j : Nat) (hj : j < 8) (w : World) : (Instr.index 58 (.agg #[cellU (V 0), cellU (V 1), cellU (V 2), cellU (V 3), cellU (V 4), cellU (V 5), cellU (V 6), cellU (V 7)]) (.int .i64 (j : Int))).run Try.prog w = .ok (cellU (V j)) w := by
  obtain rfl | rfl | rfl | rfl | rfl | rfl | rfl | rfl : j = 0 ∨ j = 1 ∨ j = 2 ∨ j = 3 ∨ j = 4 ∨ j = 5 ∨ j = 6 ∨ j = 7 := by omega
  all_goals kernel_rfl
theorem addN_step (h V : V8) (j : Nat) : (fun i => if i = j then h j + V j else addN h V j i) = addN h V (j + 1) := by
  funext i
  unfold addN
  by_cases e : i = j
  · subst e
    rw [if_pos rfl, if_pos (Nat.lt_succ_self i)]
  · rw [if_neg e]
    by_cases h1 : i < j
    · rw [if_pos h1, if_pos (by omega)]
    · rw [if_neg h1, if_neg (by omega)]

set_option maxHeartbeats 8000000 in
set_option maxRecDepth 100000 in
theorem block_calls {w : World} {bm : Nat} {k : Nat → W32} {h : V8} {s : ByteArray} (hb : w.heap[bm]? = some (.cells (mixRow k h) 60 (0, 0))) (hs : s.size = 64) :
    Calls Try.prog 70 #[.pointer (some ⟨bm, 0, none⟩), .string s] w fun e w' => e = .returned (.tuple #[]) ∧ w'.heap[bm]? = some (.cells (mixRow k (blockV k h s.data.toList)) 60 (0, 0)) ∧ Only bm w w' := by
  have hlt := blk_lt hb
  have HS := Lib.hid hs
  clear hs
  go_enter Try.func70, Try.ntmps70
  go_upto_region 1 with (fail)
  have hbl : Below w.heap.size w (w.alloc (.cells (Array.replicate 16 (.int .u32 0)) 118)) := (Below.refl _ _).alloc (Nat.le_refl _) _
  have hw0 := heap_alloc_new w (.cells (Array.replicate 16 (.int .u32 0)) 118)
  have hm0 := blk_alloc hb (.cells (Array.replicate 16 (.int .u32 0)) 118)
  change Code.wp _ _ _ _ (w.alloc (.cells (Array.replicate 16 (.int .u32 0)) 118))
  generalize w.alloc (.cells (Array.replicate 16 (.int .u32 0)) 118) = w0 at hbl hw0 hm0 ⊢
  obtain ⟨bw, hbw⟩ : ∃ bw, bw = w.heap.size := ⟨_, rfl⟩
  rw [← hbw] at hw0 ⊢
  have HBW := Lib.hid hbw
  clear hbw
  go_wp2_with fail
  go_loopw [12] (fun i wr => ∃ (j : Nat) (row : Array Value), j ≤ 16 ∧ i = .int .i64 j ∧ wr.heap[bw]? = some (.cells row 118 (0, 0)) ∧ Hid (row.size = 16 ∧ ∀ t, t < j → row[t]? = some (cellU (beW s.data.toList t))) ∧ Below w.heap.size w wr) (fun i _ => 16 - (intOf i).toNat)
  case atStart => exact ⟨0, _, Nat.zero_le _, rfl, hw0, Lib.hid ⟨by simp, fun t h => by omega⟩, hbl⟩
  case round =>
    clear hbl hw0 hm0
    obtain ⟨j, row, hj, rfl, hw0, HR, hbl⟩ := hrel
    by_cases hlt2 : j < 16
    · have z0 : (0 : Int) ≤ (j : Int) := by omega
      have z1 : (j : Int) < 16 := by omega
      obtain ⟨N0, hN0⟩ : ∃ n : Int, n = ((4 * j : Nat) : Int) := ⟨_, rfl⟩
      obtain ⟨N1, hN1⟩ : ∃ n : Int, n = ((4 * j + 1 : Nat) : Int) := ⟨_, rfl⟩
      obtain ⟨N2, hN2⟩ : ∃ n : Int, n = ((4 * j + 2 : Nat) : Int) := ⟨_, rfl⟩
      obtain ⟨N3, hN3⟩ : ∃ n : Int, n = ((4 * j + 3 : Nat) : Int) := ⟨_, rfl⟩
      have e0 : IntKind.i64.wrap (4 * (j : Int)) = N0 := by rw [IntKind.wrap_i64]; omega
      have e1 : IntKind.i64.wrap (N0 + 1) = N1 := by rw [IntKind.wrap_i64]; omega
      have e2 : IntKind.i64.wrap (N0 + 2) = N2 := by rw [IntKind.wrap_i64]; omega
      have e3 : IntKind.i64.wrap (N0 + 3) = N3 := by rw [IntKind.wrap_i64]; omega
      have i0 := index_s s (4 * j) (by rw [HS.out]; omega) (by rw [HS.out]; omega)
      have i1 := index_s s (4 * j + 1) (by rw [HS.out]; omega) (by rw [HS.out]; omega)
      have i2 := index_s s (4 * j + 2) (by rw [HS.out]; omega) (by rw [HS.out]; omega)
      have i3 := index_s s (4 * j + 3) (by rw [HS.out]; omega) (by rw [HS.out]; omega)
      rw [← hN0] at i0
      rw [← hN1] at i1
      rw [← hN2] at i2
      rw [← hN3] at i3
      have HBE := Lib.hid (show beW s.data.toList j = ((BitVec.ofNat 32 (s.data.toList.getD (4 * j) 0).toNat <<< 24 ||| BitVec.ofNat 32 (s.data.toList.getD (4 * j + 1) 0).toNat <<< 16) ||| BitVec.ofNat 32 (s.data.toList.getD (4 * j + 2) 0).toNat <<< 8) ||| BitVec.ofNat 32 (s.data.toList.getD (4 * j + 3) 0).toNat from rfl)
      have HLT := Lib.hid hlt2
      clear hN0 hN1 hN2 hN3 hlt2
      generalize s.data.toList.getD (4 * j) 0 = x0 at i0 HBE
      generalize s.data.toList.getD (4 * j + 1) 0 = x1 at i1 HBE
      generalize s.data.toList.getD (4 * j + 2) 0 = x2 at i2 HBE
      generalize s.data.toList.getD (4 * j + 3) 0 = x3 at i3 HBE
      go_upto_region 4 with (fail)
      refine start_ (n := 32) (S := fun w' => w'.heap[bw]? = some (.cells row 118 (0, 0))) (ds := [31]) (fl 32 0) (by kernel_rfl) rfl (by kernel_rfl) hw0 (fun hHeld => ?_)
      have hbl2 := hbl.drew
      generalize wr.drew = w1 at hHeld hbl2 ⊢
      clear hw0 hbl
      refine pure_ (i := 0) (N := some 15) (v := ?_) (a' := ?_) (fl 32 1) rfl rfl (by kernel_rfl) (fun _ _ _ h => h) (Or.inl ⟨by rfl, ?_⟩) ?_ ?_
      rotate_left
      · intro w'
        go_simp
        with_reducible rfl
      rotate_left
      · simp only [Act.put, List.setIfInBounds_toArray, List.set_cons_zero, List.set_cons_succ, i64_w, i32_w]
        rfl
      refine pure_ (i := 1) (N := some 16) (v := ?_) (a' := ?_) (fl 32 3) rfl rfl (by kernel_rfl) (fun _ _ _ h => h) (Or.inl ⟨by rfl, ?_⟩) ?_ ?_
      rotate_left
      · intro w'
        go_simp
        with_reducible rfl
      rotate_left
      · simp only [Act.put, List.setIfInBounds_toArray, List.set_cons_zero, List.set_cons_succ, i64_w, i32_w]
        rfl
      refine pure_ (i := 2) (N := some 17) (v := ?_) (a' := ?_) (fl 32 7) rfl rfl (by kernel_rfl) (fun _ _ _ h => h) (Or.inl ⟨by rfl, ?_⟩) ?_ ?_
      rotate_left
      · intro w'
        go_simp
        with_reducible rfl
      rotate_left
      · simp only [Act.put, List.setIfInBounds_toArray, List.set_cons_zero, List.set_cons_succ, i64_w, i32_w]
        rfl
      refine pure_ (i := 3) (N := some 18) (v := ?_) (a' := ?_) (fl 32 15) rfl rfl (by kernel_rfl) (fun _ _ _ h => h) (Or.inl ⟨by rfl, ?_⟩) ?_ ?_
      rotate_left
      · intro w'
        go_simp
        with_reducible rfl
      rotate_left
      · simp only [Act.put, List.setIfInBounds_toArray, List.set_cons_zero, List.set_cons_succ, i64_w, i32_w]
        rfl
      refine pure_ (i := 4) (N := some 19) (v := ?_) (a' := ?_) (fl 32 31) rfl rfl (by kernel_rfl) (fun _ _ _ h => h) (Or.inl ⟨by rfl, ?_⟩) ?_ ?_
      rotate_left
      · intro w'
        go_simp
        with_reducible rfl
      rotate_left
      · simp only [Act.put, List.setIfInBounds_toArray, List.set_cons_zero, List.set_cons_succ, i64_w, i32_w]
        rfl
      refine pure_ (i := 5) (N := some 20) (v := ?_) (a' := ?_) (fl 32 63) rfl rfl (by kernel_rfl) (fun _ _ _ h => h) (Or.inl ⟨by rfl, ?_⟩) ?_ ?_
      rotate_left
      · intro w'
        go_simp
        first | simp only [ub_wrap] | simp only [ub_word] | skip
        with_reducible rfl
      rotate_left
      · simp only [Act.put, List.setIfInBounds_toArray, List.set_cons_zero, List.set_cons_succ, i64_w, i32_w]
        rfl
      refine pure_ (i := 6) (N := some 21) (v := ?_) (a' := ?_) (fl 32 127) rfl rfl (by kernel_rfl) (fun _ _ _ h => h) (Or.inl ⟨by rfl, ?_⟩) ?_ ?_
      rotate_left
      · intro w'
        go_simp
        try simp only [u_shl24, u_shl16, u_shl8]
        with_reducible rfl
      rotate_left
      · simp only [Act.put, List.setIfInBounds_toArray, List.set_cons_zero, List.set_cons_succ, i64_w, i32_w]
        rfl
      refine pure_ (i := 7) (N := some 22) (v := ?_) (a' := ?_) (fl 32 255) rfl rfl (by kernel_rfl) (fun _ _ _ h => h) (Or.inl ⟨by rfl, ?_⟩) ?_ ?_
      rotate_left
      · intro w'
        go_simp
        with_reducible rfl
      rotate_left
      · simp only [Act.put, List.setIfInBounds_toArray, List.set_cons_zero, List.set_cons_succ, i64_w, i32_w]
        rfl
      refine pure_ (i := 8) (N := some 23) (v := ?_) (a' := ?_) (fl 32 511) rfl rfl (by kernel_rfl) (fun _ _ _ h => h) (Or.inl ⟨by rfl, ?_⟩) ?_ ?_
      rotate_left
      · intro w'
        go_simp
        with_reducible rfl
      rotate_left
      · simp only [Act.put, List.setIfInBounds_toArray, List.set_cons_zero, List.set_cons_succ, i64_w, i32_w]
        rfl
      refine pure_ (i := 9) (N := some 24) (v := ?_) (a' := ?_) (fl 32 1023) rfl rfl (by kernel_rfl) (fun _ _ _ h => h) (Or.inl ⟨by rfl, ?_⟩) ?_ ?_
      rotate_left
      · intro w'
        go_simp
        with_reducible rfl
      rotate_left
      · simp only [Act.put, List.setIfInBounds_toArray, List.set_cons_zero, List.set_cons_succ, i64_w, i32_w]
        rfl
      refine pure_ (i := 10) (N := some 25) (v := ?_) (a' := ?_) (fl 32 2047) rfl rfl (by kernel_rfl) (fun _ _ _ h => h) (Or.inl ⟨by rfl, ?_⟩) ?_ ?_
      rotate_left
      · intro w'
        go_simp
        with_reducible rfl
      rotate_left
      · simp only [Act.put, List.setIfInBounds_toArray, List.set_cons_zero, List.set_cons_succ, i64_w, i32_w]
        rfl
      refine pure_ (i := 11) (N := some 26) (v := ?_) (a' := ?_) (fl 32 4095) rfl rfl (by kernel_rfl) (fun _ _ _ h => h) (Or.inl ⟨by rfl, ?_⟩) ?_ ?_
      rotate_left
      · intro w'
        go_simp
        with_reducible rfl
      rotate_left
      · simp only [Act.put, List.setIfInBounds_toArray, List.set_cons_zero, List.set_cons_succ, i64_w, i32_w]
        rfl
      refine pure_ (i := 12) (N := some 27) (v := ?_) (a' := ?_) (fl 32 8191) rfl rfl (by kernel_rfl) (fun _ _ _ h => h) (Or.inl ⟨by rfl, ?_⟩) ?_ ?_
      rotate_left
      · intro w'
        go_simp
        first | simp only [ub_wrap] | simp only [ub_word] | skip
        with_reducible rfl
      rotate_left
      · simp only [Act.put, List.setIfInBounds_toArray, List.set_cons_zero, List.set_cons_succ, i64_w, i32_w]
        rfl
      refine pure_ (i := 13) (N := some 28) (v := ?_) (a' := ?_) (fl 32 16383) rfl rfl (by kernel_rfl) (fun _ _ _ h => h) (Or.inl ⟨by rfl, ?_⟩) ?_ ?_
      rotate_left
      · intro w'
        go_simp
        try simp only [u_shl24, u_shl16, u_shl8]
        with_reducible rfl
      rotate_left
      · simp only [Act.put, List.setIfInBounds_toArray, List.set_cons_zero, List.set_cons_succ, i64_w, i32_w]
        rfl
      refine pure_ (i := 14) (N := some 29) (v := ?_) (a' := ?_) (fl 32 32767) rfl rfl (by kernel_rfl) (fun _ _ _ h => h) (Or.inl ⟨by rfl, ?_⟩) ?_ ?_
      rotate_left
      · intro w'
        go_simp
        try simp only [u_or]
        with_reducible rfl
      rotate_left
      · simp only [Act.put, List.setIfInBounds_toArray, List.set_cons_zero, List.set_cons_succ, i64_w, i32_w]
        rfl
      refine pure_ (i := 15) (N := some 30) (v := ?_) (a' := ?_) (fl 32 65535) rfl rfl (by kernel_rfl) (fun _ _ _ h => h) (Or.inl ⟨by rfl, ?_⟩) ?_ ?_
      rotate_left
      · intro w'
        go_simp
        with_reducible rfl
      rotate_left
      · simp only [Act.put, List.setIfInBounds_toArray, List.set_cons_zero, List.set_cons_succ, i64_w, i32_w]
        rfl
      refine pure_ (i := 16) (N := some 31) (v := ?_) (a' := ?_) (fl 32 131071) rfl rfl (by kernel_rfl) (fun _ _ _ h => h) (Or.inl ⟨by rfl, ?_⟩) ?_ ?_
      rotate_left
      · intro w'
        go_simp
        with_reducible rfl
      rotate_left
      · simp only [Act.put, List.setIfInBounds_toArray, List.set_cons_zero, List.set_cons_succ, i64_w, i32_w]
        rfl
      refine pure_ (i := 17) (N := some 32) (v := ?_) (a' := ?_) (fl 32 262143) rfl rfl (by kernel_rfl) (fun _ _ _ h => h) (Or.inl ⟨by rfl, ?_⟩) ?_ ?_
      rotate_left
      · intro w'
        go_simp
        with_reducible rfl
      rotate_left
      · simp only [Act.put, List.setIfInBounds_toArray, List.set_cons_zero, List.set_cons_succ, i64_w, i32_w]
        rfl
      refine pure_ (i := 18) (N := some 33) (v := ?_) (a' := ?_) (fl 32 524287) rfl rfl (by kernel_rfl) (fun _ _ _ h => h) (Or.inl ⟨by rfl, ?_⟩) ?_ ?_
      rotate_left
      · intro w'
        go_simp
        with_reducible rfl
      rotate_left
      · simp only [Act.put, List.setIfInBounds_toArray, List.set_cons_zero, List.set_cons_succ, i64_w, i32_w]
        rfl
      refine pure_ (i := 19) (N := some 34) (v := ?_) (a' := ?_) (fl 32 1048575) rfl rfl (by kernel_rfl) (fun _ _ _ h => h) (Or.inl ⟨by rfl, ?_⟩) ?_ ?_
      rotate_left
      · intro w'
        go_simp
        with_reducible rfl
      rotate_left
      · simp only [Act.put, List.setIfInBounds_toArray, List.set_cons_zero, List.set_cons_succ, i64_w, i32_w]
        rfl
      refine pure_ (i := 20) (N := some 35) (v := ?_) (a' := ?_) (fl 32 2097151) rfl rfl (by kernel_rfl) (fun _ _ _ h => h) (Or.inl ⟨by rfl, ?_⟩) ?_ ?_
      rotate_left
      · intro w'
        go_simp
        first | simp only [ub_wrap] | simp only [ub_word] | skip
        with_reducible rfl
      rotate_left
      · simp only [Act.put, List.setIfInBounds_toArray, List.set_cons_zero, List.set_cons_succ, i64_w, i32_w]
        rfl
      refine pure_ (i := 21) (N := some 36) (v := ?_) (a' := ?_) (fl 32 4194303) rfl rfl (by kernel_rfl) (fun _ _ _ h => h) (Or.inl ⟨by rfl, ?_⟩) ?_ ?_
      rotate_left
      · intro w'
        go_simp
        try simp only [u_shl24, u_shl16, u_shl8]
        with_reducible rfl
      rotate_left
      · simp only [Act.put, List.setIfInBounds_toArray, List.set_cons_zero, List.set_cons_succ, i64_w, i32_w]
        rfl
      refine pure_ (i := 22) (N := some 37) (v := ?_) (a' := ?_) (fl 32 8388607) rfl rfl (by kernel_rfl) (fun _ _ _ h => h) (Or.inl ⟨by rfl, ?_⟩) ?_ ?_
      rotate_left
      · intro w'
        go_simp
        try simp only [u_or]
        with_reducible rfl
      rotate_left
      · simp only [Act.put, List.setIfInBounds_toArray, List.set_cons_zero, List.set_cons_succ, i64_w, i32_w]
        rfl
      refine pure_ (i := 23) (N := some 38) (v := ?_) (a' := ?_) (fl 32 16777215) rfl rfl (by kernel_rfl) (fun _ _ _ h => h) (Or.inl ⟨by rfl, ?_⟩) ?_ ?_
      rotate_left
      · intro w'
        go_simp
        with_reducible rfl
      rotate_left
      · simp only [Act.put, List.setIfInBounds_toArray, List.set_cons_zero, List.set_cons_succ, i64_w, i32_w]
        rfl
      refine pure_ (i := 24) (N := some 39) (v := ?_) (a' := ?_) (fl 32 33554431) rfl rfl (by kernel_rfl) (fun _ _ _ h => h) (Or.inl ⟨by rfl, ?_⟩) ?_ ?_
      rotate_left
      · intro w'
        go_simp
        with_reducible rfl
      rotate_left
      · simp only [Act.put, List.setIfInBounds_toArray, List.set_cons_zero, List.set_cons_succ, i64_w, i32_w]
        rfl
      refine pure_ (i := 25) (N := some 40) (v := ?_) (a' := ?_) (fl 32 67108863) rfl rfl (by kernel_rfl) (fun _ _ _ h => h) (Or.inl ⟨by rfl, ?_⟩) ?_ ?_
      rotate_left
      · intro w'
        go_simp
        with_reducible rfl
      rotate_left
      · simp only [Act.put, List.setIfInBounds_toArray, List.set_cons_zero, List.set_cons_succ, i64_w, i32_w]
        rfl
      refine pure_ (i := 26) (N := some 41) (v := ?_) (a' := ?_) (fl 32 134217727) rfl rfl (by kernel_rfl) (fun _ _ _ h => h) (Or.inl ⟨by rfl, ?_⟩) ?_ ?_
      rotate_left
      · intro w'
        go_simp
        with_reducible rfl
      rotate_left
      · simp only [Act.put, List.setIfInBounds_toArray, List.set_cons_zero, List.set_cons_succ, i64_w, i32_w]
        rfl
      refine pure_ (i := 27) (N := some 42) (v := ?_) (a' := ?_) (fl 32 268435455) rfl rfl (by kernel_rfl) (fun _ _ _ h => h) (Or.inl ⟨by rfl, ?_⟩) ?_ ?_
      rotate_left
      · intro w'
        go_simp
        with_reducible rfl
      rotate_left
      · simp only [Act.put, List.setIfInBounds_toArray, List.set_cons_zero, List.set_cons_succ, i64_w, i32_w]
        rfl
      refine pure_ (i := 28) (N := some 43) (v := ?_) (a' := ?_) (fl 32 536870911) rfl rfl (by kernel_rfl) (fun _ _ _ h => h) (Or.inl ⟨by rfl, ?_⟩) ?_ ?_
      rotate_left
      · intro w'
        go_simp
        first | simp only [ub_wrap] | simp only [ub_word] | skip
        with_reducible rfl
      rotate_left
      · simp only [Act.put, List.setIfInBounds_toArray, List.set_cons_zero, List.set_cons_succ, i64_w, i32_w]
        rfl
      refine pure_ (i := 29) (N := some 44) (v := ?_) (a' := ?_) (fl 32 1073741823) rfl rfl (by kernel_rfl) (fun _ _ _ h => h) (Or.inl ⟨by rfl, ?_⟩) ?_ ?_
      rotate_left
      · intro w'
        go_simp
        try simp only [u_or]
        with_reducible rfl
      rotate_left
      · simp only [Act.put, List.setIfInBounds_toArray, List.set_cons_zero, List.set_cons_succ, i64_w, i32_w]
        rfl
      refine pure_ (i := 30) (N := some 45) (v := ?_) (a' := ?_) (fl 32 2147483647) rfl rfl (by kernel_rfl) (fun _ _ _ h => h) (Or.inl ⟨by rfl, ?_⟩) ?_ ?_
      rotate_left
      · intro w'
        go_simp
        with_reducible rfl
      rotate_left
      · simp only [Act.put, List.setIfInBounds_toArray, List.set_cons_zero, List.set_cons_succ, i64_w, i32_w]
        rfl
      refine last_ (i := 31) (N := none) (fl 32 4294967295) rfl rfl (by kernel_rfl) (by decide) (fun K hK => ?_)
      refine skip_ (by rfl) rfl (run_store_at (n := U (beW s.data.toList j)) rfl rfl (by rw [HBE.out]; rfl) ((blk_cell hHeld _).trans (Array.getElem?_eq_getElem (by rw [HR.out.1]; exact HLT.out))) (blk_frozen hHeld _)) ?_
      refine hK.out _ _ ?_
      have hw2 := blk_put hHeld j (cellU (beW s.data.toList j)) rfl
      have hbl3 := hbl2.setCell (p := ⟨bw, j, none⟩) (Nat.le_of_eq HBW.out.symm) (cellU (beW s.data.toList j))
      clear hHeld
      clear hK K
      generalize w1.setCell ⟨bw, j, none⟩ (cellU (beW s.data.toList j)) = w2 at hw2 hbl3 ⊢
      clear hbl2
      refine done_ (by kernel_rfl) ?_
      clear i0 i1 i2 i3 e0 e1 e2 e3
      go_wp2_with fail
      go_roundw
      case rel =>
        refine ⟨j + 1, _, HLT.out, by go_num, hw2, Lib.hid ⟨by rw [Array.size_setIfInBounds]; exact HR.out.1, fun t ht => ?_⟩, hbl3⟩
        by_cases e : t = j
        · subst e
          rw [Array.getElem?_setIfInBounds_self_of_lt (by rw [HR.out.1]; exact HLT.out)]
        · rw [Array.getElem?_setIfInBounds_ne (Ne.symm e)]
          exact HR.out.2 t (by omega)
      case measure =>
        have := HLT.out
        simp [intOf]; omega
    · obtain rfl : j = 16 := by omega
      have hWin : Win (beW s.data.toList) 0 row := ⟨HR.out.1, fun t h1 h2 => by
        have h3 : t < 16 := by omega
        rw [Nat.mod_eq_of_lt h3, HR.out.2 t h3, Wd_low _ _ h3]⟩
      have hmix := blk_below hb hbl
      obtain ⟨m, hm⟩ : ∃ m, m = beW s.data.toList := ⟨_, rfl⟩
      rw [← hm] at hWin
      have HM := Lib.hid hm
      clear hm
      have cm0 : wr.cell? ⟨bm, 64, none⟩ = some (cellU (h 0)) := (blk_cell hmix 64).trans (mix_h k h (j := 0) (by decide))
      have cm1 : wr.cell? ⟨bm, 65, none⟩ = some (cellU (h 1)) := (blk_cell hmix 65).trans (mix_h k h (j := 1) (by decide))
      have cm2 : wr.cell? ⟨bm, 66, none⟩ = some (cellU (h 2)) := (blk_cell hmix 66).trans (mix_h k h (j := 2) (by decide))
      have cm3 : wr.cell? ⟨bm, 67, none⟩ = some (cellU (h 3)) := (blk_cell hmix 67).trans (mix_h k h (j := 3) (by decide))
      have cm4 : wr.cell? ⟨bm, 68, none⟩ = some (cellU (h 4)) := (blk_cell hmix 68).trans (mix_h k h (j := 4) (by decide))
      have cm5 : wr.cell? ⟨bm, 69, none⟩ = some (cellU (h 5)) := (blk_cell hmix 69).trans (mix_h k h (j := 5) (by decide))
      have cm6 : wr.cell? ⟨bm, 70, none⟩ = some (cellU (h 6)) := (blk_cell hmix 70).trans (mix_h k h (j := 6) (by decide))
      have cm7 : wr.cell? ⟨bm, 71, none⟩ = some (cellU (h 7)) := (blk_cell hmix 71).trans (mix_h k h (j := 7) (by decide))
      clear hlt2
      go_upto_region 7 with (fail)
      change Code.wp _ _ _ _ (wr.alloc (.cells (rowN 8 h) 58))
      have hst0 : BlkSt w (wr.alloc (.cells (rowN 8 h) 58)) bm bw wr.heap.size m k h 0 row (rowN 8 h) :=
        ⟨blk_alloc hw0 _, hWin, heap_alloc_new wr _, blk_alloc hmix _, hbl.alloc hbl.size _, Nat.le_of_eq HBW.out.symm, hbl.size, Nat.ne_of_lt (blk_lt hw0), hlt⟩
      clear cm0 cm1 cm2 cm3 cm4 cm5 cm6 cm7 hmix hWin hw0 hbl HR
      generalize wr.alloc (.cells (rowN 8 h) 58) = w1 at hst0 ⊢
      generalize wr.heap.size = bv at hst0 ⊢
      go_wp2_with fail
      go_loopw [51] (fun i wr => ∃ (j : Nat) (rw_ : Array Value), j ≤ 64 ∧ i = .int .i64 j ∧ BlkSt w wr bm bw bv m k h j rw_ (rowN 8 (rnds k (Wd m) j h))) (fun i _ => 64 - (intOf i).toNat)
      case atStart => exact ⟨0, _, Nat.zero_le _, rfl, hst0⟩
      case round =>
        clear hst0
        obtain ⟨j, rw_, hj, rfl, hS⟩ := hrel
        by_cases hlt2 : j < 64
        · have z0 : (0 : Int) ≤ (j : Int) := by omega
          have z1 : (j : Int) < 64 := by omega
          have HLT := Lib.hid hlt2
          have HV := Lib.hid (show rnds k (Wd m) (j + 1) h = rnd (rnds k (Wd m) j h) (k j) (Wd m j) from rfl)
          clear hlt2
          generalize rnds k (Wd m) j h = V at hS HV
          go_upto_region 10 with (fail)
          refine start_ (n := 37) (S := fun w' => w'.heap[bv]? = some (.cells (rowN 8 V) 58 (0, 0)) ∧ w'.heap[bm]? = some (.cells (mixRow k h) 60 (0, 0))) (ds := []) (fl 37 0) (by kernel_rfl) rfl (by kernel_rfl) ⟨hS.vec, hS.mix⟩ (fun hHeld => ?_)
          have hS0 := hS.drew
          generalize wr.drew = w2 at hHeld hS0 ⊢
          clear hS
          refine pure_ (i := 0) (N := some 54) (v := ?_) (a' := ?_) (fl 37 1) rfl rfl (by kernel_rfl) (fun _ _ _ h => h) (Or.inl ⟨by rfl, ?_⟩) ?_ ?_
          rotate_left
          · intro w'
            go_simp
            with_reducible rfl
          rotate_left
          · simp only [Act.put, List.setIfInBounds_toArray, List.set_cons_zero, List.set_cons_succ, i64_w, i32_w]
            rfl
          refine pure_ (i := 2) (N := some 56) (v := ?_) (a' := ?_) (fl 37 5) rfl rfl (by kernel_rfl) (fun _ _ _ h => h) (Or.inl ⟨by rfl, ?_⟩) ?_ ?_
          rotate_left
          · intro w'
            go_simp
            with_reducible rfl
          rotate_left
          · simp only [Act.put, List.setIfInBounds_toArray, List.set_cons_zero, List.set_cons_succ, i64_w, i32_w]
            rfl
          refine pure_ (i := 5) (N := some 59) (v := ?_) (a' := ?_) (fl 37 37) rfl rfl (by kernel_rfl) (fun _ _ _ h => h) (Or.inl ⟨by rfl, ?_⟩) ?_ ?_
          rotate_left
          · intro w'
            go_simp
            with_reducible rfl
          rotate_left
          · simp only [Act.put, List.setIfInBounds_toArray, List.set_cons_zero, List.set_cons_succ, i64_w, i32_w]
            rfl
          refine pure_ (i := 9) (N := some 63) (v := ?_) (a' := ?_) (fl 37 549) rfl rfl (by kernel_rfl) (fun _ _ _ h => h) (Or.inl ⟨by rfl, ?_⟩) ?_ ?_
          rotate_left
          · intro w'
            go_simp
            with_reducible rfl
          rotate_left
          · simp only [Act.put, List.setIfInBounds_toArray, List.set_cons_zero, List.set_cons_succ, i64_w, i32_w]
            rfl
          refine pure_ (i := 14) (N := some 68) (v := ?_) (a' := ?_) (fl 37 16933) rfl rfl (by kernel_rfl) (fun _ _ _ h => h) (Or.inl ⟨by rfl, ?_⟩) ?_ ?_
          rotate_left
          · intro w'
            go_simp
            with_reducible rfl
          rotate_left
          · simp only [Act.put, List.setIfInBounds_toArray, List.set_cons_zero, List.set_cons_succ, i64_w, i32_w]
            rfl
          refine pure_ (i := 16) (N := some 70) (v := ?_) (a' := ?_) (fl 37 82469) rfl rfl (by kernel_rfl) (fun _ _ _ h => h) (Or.inl ⟨by rfl, ?_⟩) ?_ ?_
          rotate_left
          · intro w'
            go_simp
            with_reducible rfl
          rotate_left
          · simp only [Act.put, List.setIfInBounds_toArray, List.set_cons_zero, List.set_cons_succ, i64_w, i32_w]
            rfl
          refine pure_ (i := 18) (N := some 72) (v := ?_) (a' := ?_) (fl 37 344613) rfl rfl (by kernel_rfl) (fun _ _ _ h => h) (Or.inl ⟨by rfl, ?_⟩) ?_ ?_
          rotate_left
          · intro w'
            go_simp
            with_reducible rfl
          rotate_left
          · simp only [Act.put, List.setIfInBounds_toArray, List.set_cons_zero, List.set_cons_succ, i64_w, i32_w]
            rfl
          refine pure_ (i := 20) (N := some 74) (v := ?_) (a' := ?_) (fl 37 1393189) rfl rfl (by kernel_rfl) (fun _ _ _ h => h) (Or.inl ⟨by rfl, ?_⟩) ?_ ?_
          rotate_left
          · intro w'
            go_simp
            with_reducible rfl
          rotate_left
          · simp only [Act.put, List.setIfInBounds_toArray, List.set_cons_zero, List.set_cons_succ, i64_w, i32_w]
            rfl
          refine pure_ (i := 26) (N := some 80) (v := ?_) (a' := ?_) (fl 37 68502053) rfl rfl (by kernel_rfl) (fun _ _ _ h => h) (Or.inl ⟨by rfl, ?_⟩) ?_ ?_
          rotate_left
          · intro w'
            go_simp
            with_reducible rfl
          rotate_left
          · simp only [Act.put, List.setIfInBounds_toArray, List.set_cons_zero, List.set_cons_succ, i64_w, i32_w]
            rfl
          refine pure_ (i := 27) (N := some 81) (v := ?_) (a' := ?_) (fl 37 202719781) rfl rfl (by kernel_rfl) (fun _ _ _ h => h) (Or.inl ⟨by rfl, ?_⟩) ?_ ?_
          rotate_left
          · intro w'
            go_simp
            with_reducible rfl
          rotate_left
          · simp only [Act.put, List.setIfInBounds_toArray, List.set_cons_zero, List.set_cons_succ, i64_w, i32_w]
            rfl
          refine pure_ (i := 28) (N := some 82) (v := ?_) (a' := ?_) (fl 37 471155237) rfl rfl (by kernel_rfl) (fun _ _ _ h => h) (Or.inl ⟨by rfl, ?_⟩) ?_ ?_
          rotate_left
          · intro w'
            go_simp
            with_reducible rfl
          rotate_left
          · simp only [Act.put, List.setIfInBounds_toArray, List.set_cons_zero, List.set_cons_succ, i64_w, i32_w]
            rfl
          refine pure_ (i := 29) (N := some 83) (v := ?_) (a' := ?_) (fl 37 1008026149) rfl rfl (by kernel_rfl) (fun _ _ _ h => h) (Or.inl ⟨by rfl, ?_⟩) ?_ ?_
          rotate_left
          · intro w'
            go_simp
            with_reducible rfl
          rotate_left
          · simp only [Act.put, List.setIfInBounds_toArray, List.set_cons_zero, List.set_cons_succ, i64_w, i32_w]
            rfl
          refine pure_ (i := 30) (N := some 84) (v := ?_) (a' := ?_) (fl 37 2081767973) rfl rfl (by kernel_rfl) (fun _ _ _ h => h) (Or.inl ⟨by rfl, ?_⟩) ?_ ?_
          rotate_left
          · intro w'
            go_simp
            with_reducible rfl
          rotate_left
          · simp only [Act.put, List.setIfInBounds_toArray, List.set_cons_zero, List.set_cons_succ, i64_w, i32_w]
            rfl
          refine pure_ (i := 33) (N := some 87) (v := ?_) (a' := ?_) (fl 37 10671702565) rfl rfl (by kernel_rfl) (fun _ _ _ h => h) (Or.inl ⟨by rfl, ?_⟩) ?_ ?_
          rotate_left
          · intro w'
            go_simp
            with_reducible rfl
          rotate_left
          · simp only [Act.put, List.setIfInBounds_toArray, List.set_cons_zero, List.set_cons_succ, i64_w, i32_w]
            rfl
          refine take_ (i := 1) (N := some 55) (v := .int .u32 (U (V 7))) (fl 37 10671702567) rfl rfl (by kernel_rfl) (fun _ _ _ h => h) (Or.inl ⟨by rfl, fun w' hS => run_load_at rfl rfl ((blk_cell hS.1 7).trans rfl)⟩) hHeld rfl ?_
          simp only [Act.put, List.setIfInBounds_toArray, List.set_cons_zero, List.set_cons_succ]
          refine take_ (i := 3) (N := some 57) (v := .int .u32 (U (V 4))) (fl 37 10671702575) rfl rfl (by kernel_rfl) (fun _ _ _ h => h) (Or.inl ⟨by rfl, fun w' hS => run_load_at rfl rfl ((blk_cell hS.1 4).trans rfl)⟩) hHeld rfl ?_
          simp only [Act.put, List.setIfInBounds_toArray, List.set_cons_zero, List.set_cons_succ]
          refine take_ (i := 6) (N := some 60) (v := .int .u32 (U (V 4))) (fl 37 10671702639) rfl rfl (by kernel_rfl) (fun _ _ _ h => h) (Or.inl ⟨by rfl, fun w' hS => run_load_at rfl rfl ((blk_cell hS.1 4).trans rfl)⟩) hHeld rfl ?_
          simp only [Act.put, List.setIfInBounds_toArray, List.set_cons_zero, List.set_cons_succ]
          refine take_ (i := 10) (N := some 64) (v := .int .u32 (U (V 4))) (fl 37 10671703663) rfl rfl (by kernel_rfl) (fun _ _ _ h => h) (Or.inl ⟨by rfl, fun w' hS => run_load_at rfl rfl ((blk_cell hS.1 4).trans rfl)⟩) hHeld rfl ?_
          simp only [Act.put, List.setIfInBounds_toArray, List.set_cons_zero, List.set_cons_succ]
          refine take_ (i := 15) (N := some 69) (v := .int .u32 (U (V 6))) (fl 37 10671736431) rfl rfl (by kernel_rfl) (fun _ _ _ h => h) (Or.inl ⟨by rfl, fun w' hS => run_load_at rfl rfl ((blk_cell hS.1 6).trans rfl)⟩) hHeld rfl ?_
          simp only [Act.put, List.setIfInBounds_toArray, List.set_cons_zero, List.set_cons_succ]
          refine take_ (i := 17) (N := some 71) (v := .int .u32 (U (V 4))) (fl 37 10671867503) rfl rfl (by kernel_rfl) (fun _ _ _ h => h) (Or.inl ⟨by rfl, fun w' hS => run_load_at rfl rfl ((blk_cell hS.1 4).trans rfl)⟩) hHeld rfl ?_
          simp only [Act.put, List.setIfInBounds_toArray, List.set_cons_zero, List.set_cons_succ]
          refine take_ (i := 19) (N := some 73) (v := .int .u32 (U (V 5))) (fl 37 10672391791) rfl rfl (by kernel_rfl) (fun _ _ _ h => h) (Or.inl ⟨by rfl, fun w' hS => run_load_at rfl rfl ((blk_cell hS.1 5).trans rfl)⟩) hHeld rfl ?_
          simp only [Act.put, List.setIfInBounds_toArray, List.set_cons_zero, List.set_cons_succ]
          refine take_ (i := 21) (N := some 75) (v := .int .u32 (U (V 6))) (fl 37 10674488943) rfl rfl (by kernel_rfl) (fun _ _ _ h => h) (Or.inl ⟨by rfl, fun w' hS => run_load_at rfl rfl ((blk_cell hS.1 6).trans rfl)⟩) hHeld rfl ?_
          simp only [Act.put, List.setIfInBounds_toArray, List.set_cons_zero, List.set_cons_succ]
          refine pure_ (i := 22) (N := some 76) (v := ?_) (a' := ?_) (fl 37 10678683247) rfl rfl (by kernel_rfl) (fun _ _ _ h => h) (Or.inl ⟨by rfl, ?_⟩) ?_ ?_
          rotate_left
          · intro w'
            go_simp
            try simp only [u_xor, u_and, u_or, u_add]
            with_reducible rfl
          rotate_left
          · simp only [Act.put, List.setIfInBounds_toArray, List.set_cons_zero, List.set_cons_succ, i64_w, i32_w]
            rfl
          refine pure_ (i := 23) (N := some 77) (v := ?_) (a' := ?_) (fl 37 10687071855) rfl rfl (by kernel_rfl) (fun _ _ _ h => h) (Or.inl ⟨by rfl, ?_⟩) ?_ ?_
          rotate_left
          · intro w'
            go_simp
            try simp only [u_xor, u_and, u_or, u_add]
            with_reducible rfl
          rotate_left
          · simp only [Act.put, List.setIfInBounds_toArray, List.set_cons_zero, List.set_cons_succ, i64_w, i32_w]
            rfl
          refine pure_ (i := 24) (N := some 78) (v := ?_) (a' := ?_) (fl 37 10703849071) rfl rfl (by kernel_rfl) (fun _ _ _ h => h) (Or.inl ⟨by rfl, ?_⟩) ?_ ?_
          rotate_left
          · intro w'
            go_simp
            try simp only [u_xor, u_and, u_or, u_add]
            with_reducible rfl
          rotate_left
          · simp only [Act.put, List.setIfInBounds_toArray, List.set_cons_zero, List.set_cons_succ, i64_w, i32_w]
            rfl
          refine take_ (i := 31) (N := some 85) (v := .int .u32 (U (k j))) (fl 37 12851332719) rfl rfl (by kernel_rfl) (fun _ _ _ h => h) (Or.inl ⟨by rfl, fun w' hS => run_load_at rfl rfl ((blk_cell hS.2 j).trans (mix_k k h HLT.out))⟩) hHeld rfl ?_
          simp only [Act.put, List.setIfInBounds_toArray, List.set_cons_zero, List.set_cons_succ]
          refine one_ (i := 4) (N := some 58) (fl 37 12851332735) rfl rfl (by kernel_rfl) (by decide) (fun K hK => ?_)
          refine goes_ Try.func96 (by kernel_rfl) rfl #[.int .u32 (U (V 4)), .int .i64 6] (by rfl) rfl rfl (by simp [Act.eval]) ?_
          refine (turn_calls (V 4) 6 6 (by decide) (by decide) (by decide +kernel) _).mono ?_
          rintro e w3 ⟨rfl, hd⟩
          have hS1 := hS0.below hd.below
          refine ⟨_, rfl, hK.out _ _ ⟨hS1.vec, hS1.mix⟩ (fun hHeld2 => ?_)⟩
          clear hK K hHeld
          have hHeld := hHeld2
          clear hHeld2
          clear hS0 hd
          simp only [Act.put, List.setIfInBounds_toArray, List.set_cons_zero, List.set_cons_succ]
          refine one_ (i := 7) (N := some 61) (fl 37 12851332863) rfl rfl (by kernel_rfl) (by decide) (fun K hK => ?_)
          refine goes_ Try.func96 (by kernel_rfl) rfl #[.int .u32 (U (V 4)), .int .i64 11] (by rfl) rfl rfl (by simp [Act.eval]) ?_
          refine (turn_calls (V 4) 11 11 (by decide) (by decide) (by decide +kernel) _).mono ?_
          rintro e w4 ⟨rfl, hd⟩
          have hS2 := hS1.below hd.below
          refine ⟨_, rfl, hK.out _ _ ⟨hS2.vec, hS2.mix⟩ (fun hHeld2 => ?_)⟩
          clear hK K hHeld
          have hHeld := hHeld2
          clear hHeld2
          clear hS1 hd
          simp only [Act.put, List.setIfInBounds_toArray, List.set_cons_zero, List.set_cons_succ]
          refine pure_ (i := 8) (N := some 62) (v := ?_) (a' := ?_) (fl 37 12851333119) rfl rfl (by kernel_rfl) (fun _ _ _ h => h) (Or.inl ⟨by rfl, ?_⟩) ?_ ?_
          rotate_left
          · intro w'
            go_simp
            try simp only [u_xor, u_and, u_or, u_add]
            with_reducible rfl
          rotate_left
          · simp only [Act.put, List.setIfInBounds_toArray, List.set_cons_zero, List.set_cons_succ, i64_w, i32_w]
            rfl
          refine one_ (i := 11) (N := some 65) (fl 37 12851335167) rfl rfl (by kernel_rfl) (by decide) (fun K hK => ?_)
          refine goes_ Try.func96 (by kernel_rfl) rfl #[.int .u32 (U (V 4)), .int .i64 25] (by rfl) rfl rfl (by simp [Act.eval]) ?_
          refine (turn_calls (V 4) 25 25 (by decide) (by decide) (by decide +kernel) _).mono ?_
          rintro e w5 ⟨rfl, hd⟩
          have hS3 := hS2.below hd.below
          refine ⟨_, rfl, hK.out _ _ ⟨hS3.vec, hS3.mix⟩ (fun hHeld2 => ?_)⟩
          clear hK K hHeld
          have hHeld := hHeld2
          clear hHeld2
          clear hS2 hd
          simp only [Act.put, List.setIfInBounds_toArray, List.set_cons_zero, List.set_cons_succ]
          refine pure_ (i := 12) (N := some 66) (v := ?_) (a' := ?_) (fl 37 12851339263) rfl rfl (by kernel_rfl) (fun _ _ _ h => h) (Or.inl ⟨by rfl, ?_⟩) ?_ ?_
          rotate_left
          · intro w'
            go_simp
            try simp only [u_xor, u_and, u_or, u_add]
            with_reducible rfl
          rotate_left
          · simp only [Act.put, List.setIfInBounds_toArray, List.set_cons_zero, List.set_cons_succ, i64_w, i32_w]
            rfl
          refine pure_ (i := 13) (N := some 67) (v := ?_) (a' := ?_) (fl 37 12851347455) rfl rfl (by kernel_rfl) (fun _ _ _ h => h) (Or.inl ⟨by rfl, ?_⟩) ?_ ?_
          rotate_left
          · intro w'
            go_simp
            try simp only [u_xor, u_and, u_or, u_add]
            with_reducible rfl
          rotate_left
          · simp only [Act.put, List.setIfInBounds_toArray, List.set_cons_zero, List.set_cons_succ, i64_w, i32_w]
            rfl
          refine pure_ (i := 25) (N := some 79) (v := ?_) (a' := ?_) (fl 37 12884901887) rfl rfl (by kernel_rfl) (fun _ _ _ h => h) (Or.inl ⟨by rfl, ?_⟩) ?_ ?_
          rotate_left
          · intro w'
            go_simp
            try simp only [u_xor, u_and, u_or, u_add]
            with_reducible rfl
          rotate_left
          · simp only [Act.put, List.setIfInBounds_toArray, List.set_cons_zero, List.set_cons_succ, i64_w, i32_w]
            rfl
          refine pure_ (i := 32) (N := some 86) (v := ?_) (a' := ?_) (fl 37 17179869183) rfl rfl (by kernel_rfl) (fun _ _ _ h => h) (Or.inl ⟨by rfl, ?_⟩) ?_ ?_
          rotate_left
          · intro w'
            go_simp
            try simp only [u_xor, u_and, u_or, u_add]
            with_reducible rfl
          rotate_left
          · simp only [Act.put, List.setIfInBounds_toArray, List.set_cons_zero, List.set_cons_succ, i64_w, i32_w]
            rfl
          refine one_ (i := 34) (N := some 88) (fl 37 34359738367) rfl rfl (by kernel_rfl) (by decide) (fun K hK => ?_)
          refine goes_ Try.func97 (by kernel_rfl) rfl #[.pointer (some ⟨bw, 0, none⟩), .int .i64 j] (by rfl) rfl rfl (by simp [Act.eval]) ?_
          refine (word_calls hS3.win hS3.isW HLT.out).mono ?_
          rintro e w6 ⟨rfl, rw2, hr1, hr2, ho⟩
          have hS4 := hS3.word hr1 hr2 ho
          refine ⟨_, rfl, hK.out _ _ ⟨hS4.vec, hS4.mix⟩ (fun hHeld2 => ?_)⟩
          clear hK K hHeld
          have hHeld := hHeld2
          clear hHeld2
          clear hS3 hr1 hr2 ho
          simp only [Act.put, List.setIfInBounds_toArray, List.set_cons_zero, List.set_cons_succ]
          refine pure_ (i := 35) (N := some 89) (v := .int .u32 (U (tW V (k j) (Wd m j)))) (a' := ?_) (fl 37 68719476735) rfl rfl (by kernel_rfl) (fun _ _ _ h => h) (Or.inl ⟨by rfl, ?_⟩) ?_ ?_
          · intro w'
            go_simp
            try simp only [u_add]
            rfl
          rotate_left
          · simp only [Act.put, List.setIfInBounds_toArray, List.set_cons_zero, List.set_cons_succ, i64_w, i32_w]
            rfl
          refine pure_ (i := 36) (N := some 8) (v := ?_) (a' := ?_) (fl 37 137438953471) rfl rfl (by kernel_rfl) (fun _ _ _ h => h) (Or.inl ⟨by rfl, ?_⟩) ?_ ?_
          rotate_left
          · intro w'
            go_simp
            with_reducible rfl
          rotate_left
          · simp only [Act.put, List.setIfInBounds_toArray, List.set_cons_zero, List.set_cons_succ, i64_w, i32_w]
            rfl
          refine done_ (by kernel_rfl) ?_
          clear hHeld
          go_upto_region 11 with (fail)
          refine start_ (n := 27) (S := fun w' => w'.heap[bv]? = some (.cells (rowN 8 V) 58 (0, 0))) (ds := []) (fl 27 0) (by kernel_rfl) rfl (by kernel_rfl) hS4.vec (fun hHeld => ?_)
          have hT0 := hS4.drew
          generalize w6.drew = w20 at hHeld hT0 ⊢
          clear hS4
          refine pure_ (i := 0) (N := some 90) (v := ?_) (a' := ?_) (fl 27 1) rfl rfl (by kernel_rfl) (fun _ _ _ h => h) (Or.inl ⟨by rfl, ?_⟩) ?_ ?_
          rotate_left
          · intro w'
            go_simp
            with_reducible rfl
          rotate_left
          · simp only [Act.put, List.setIfInBounds_toArray, List.set_cons_zero, List.set_cons_succ, i64_w, i32_w]
            rfl
          refine pure_ (i := 3) (N := some 93) (v := ?_) (a' := ?_) (fl 27 9) rfl rfl (by kernel_rfl) (fun _ _ _ h => h) (Or.inl ⟨by rfl, ?_⟩) ?_ ?_
          rotate_left
          · intro w'
            go_simp
            with_reducible rfl
          rotate_left
          · simp only [Act.put, List.setIfInBounds_toArray, List.set_cons_zero, List.set_cons_succ, i64_w, i32_w]
            rfl
          refine pure_ (i := 7) (N := some 97) (v := ?_) (a' := ?_) (fl 27 137) rfl rfl (by kernel_rfl) (fun _ _ _ h => h) (Or.inl ⟨by rfl, ?_⟩) ?_ ?_
          rotate_left
          · intro w'
            go_simp
            with_reducible rfl
          rotate_left
          · simp only [Act.put, List.setIfInBounds_toArray, List.set_cons_zero, List.set_cons_succ, i64_w, i32_w]
            rfl
          refine pure_ (i := 11) (N := some 101) (v := ?_) (a' := ?_) (fl 27 2185) rfl rfl (by kernel_rfl) (fun _ _ _ h => h) (Or.inl ⟨by rfl, ?_⟩) ?_ ?_
          rotate_left
          · intro w'
            go_simp
            with_reducible rfl
          rotate_left
          · simp only [Act.put, List.setIfInBounds_toArray, List.set_cons_zero, List.set_cons_succ, i64_w, i32_w]
            rfl
          refine pure_ (i := 13) (N := some 103) (v := ?_) (a' := ?_) (fl 27 10377) rfl rfl (by kernel_rfl) (fun _ _ _ h => h) (Or.inl ⟨by rfl, ?_⟩) ?_ ?_
          rotate_left
          · intro w'
            go_simp
            with_reducible rfl
          rotate_left
          · simp only [Act.put, List.setIfInBounds_toArray, List.set_cons_zero, List.set_cons_succ, i64_w, i32_w]
            rfl
          refine pure_ (i := 16) (N := some 106) (v := ?_) (a' := ?_) (fl 27 75913) rfl rfl (by kernel_rfl) (fun _ _ _ h => h) (Or.inl ⟨by rfl, ?_⟩) ?_ ?_
          rotate_left
          · intro w'
            go_simp
            with_reducible rfl
          rotate_left
          · simp only [Act.put, List.setIfInBounds_toArray, List.set_cons_zero, List.set_cons_succ, i64_w, i32_w]
            rfl
          refine pure_ (i := 18) (N := some 108) (v := ?_) (a' := ?_) (fl 27 338057) rfl rfl (by kernel_rfl) (fun _ _ _ h => h) (Or.inl ⟨by rfl, ?_⟩) ?_ ?_
          rotate_left
          · intro w'
            go_simp
            with_reducible rfl
          rotate_left
          · simp only [Act.put, List.setIfInBounds_toArray, List.set_cons_zero, List.set_cons_succ, i64_w, i32_w]
            rfl
          refine pure_ (i := 20) (N := some 110) (v := ?_) (a' := ?_) (fl 27 1386633) rfl rfl (by kernel_rfl) (fun _ _ _ h => h) (Or.inl ⟨by rfl, ?_⟩) ?_ ?_
          rotate_left
          · intro w'
            go_simp
            with_reducible rfl
          rotate_left
          · simp only [Act.put, List.setIfInBounds_toArray, List.set_cons_zero, List.set_cons_succ, i64_w, i32_w]
            rfl
          refine take_ (i := 1) (N := some 91) (v := .int .u32 (U (V 0))) (fl 27 1386635) rfl rfl (by kernel_rfl) (fun _ _ _ h => h) (Or.inl ⟨by rfl, fun w' hS => run_load_at rfl rfl ((blk_cell hS 0).trans rfl)⟩) hHeld rfl ?_
          simp only [Act.put, List.setIfInBounds_toArray, List.set_cons_zero, List.set_cons_succ]
          refine take_ (i := 4) (N := some 94) (v := .int .u32 (U (V 0))) (fl 27 1386651) rfl rfl (by kernel_rfl) (fun _ _ _ h => h) (Or.inl ⟨by rfl, fun w' hS => run_load_at rfl rfl ((blk_cell hS 0).trans rfl)⟩) hHeld rfl ?_
          simp only [Act.put, List.setIfInBounds_toArray, List.set_cons_zero, List.set_cons_succ]
          refine take_ (i := 8) (N := some 98) (v := .int .u32 (U (V 0))) (fl 27 1386907) rfl rfl (by kernel_rfl) (fun _ _ _ h => h) (Or.inl ⟨by rfl, fun w' hS => run_load_at rfl rfl ((blk_cell hS 0).trans rfl)⟩) hHeld rfl ?_
          simp only [Act.put, List.setIfInBounds_toArray, List.set_cons_zero, List.set_cons_succ]
          refine take_ (i := 12) (N := some 102) (v := .int .u32 (U (V 0))) (fl 27 1391003) rfl rfl (by kernel_rfl) (fun _ _ _ h => h) (Or.inl ⟨by rfl, fun w' hS => run_load_at rfl rfl ((blk_cell hS 0).trans rfl)⟩) hHeld rfl ?_
          simp only [Act.put, List.setIfInBounds_toArray, List.set_cons_zero, List.set_cons_succ]
          refine take_ (i := 14) (N := some 104) (v := .int .u32 (U (V 1))) (fl 27 1407387) rfl rfl (by kernel_rfl) (fun _ _ _ h => h) (Or.inl ⟨by rfl, fun w' hS => run_load_at rfl rfl ((blk_cell hS 1).trans rfl)⟩) hHeld rfl ?_
          simp only [Act.put, List.setIfInBounds_toArray, List.set_cons_zero, List.set_cons_succ]
          refine pure_ (i := 15) (N := some 105) (v := ?_) (a' := ?_) (fl 27 1440155) rfl rfl (by kernel_rfl) (fun _ _ _ h => h) (Or.inl ⟨by rfl, ?_⟩) ?_ ?_
          rotate_left
          · intro w'
            go_simp
            try simp only [u_xor, u_and, u_or, u_add]
            with_reducible rfl
          rotate_left
          · simp only [Act.put, List.setIfInBounds_toArray, List.set_cons_zero, List.set_cons_succ, i64_w, i32_w]
            rfl
          refine take_ (i := 17) (N := some 107) (v := .int .u32 (U (V 2))) (fl 27 1571227) rfl rfl (by kernel_rfl) (fun _ _ _ h => h) (Or.inl ⟨by rfl, fun w' hS => run_load_at rfl rfl ((blk_cell hS 2).trans rfl)⟩) hHeld rfl ?_
          simp only [Act.put, List.setIfInBounds_toArray, List.set_cons_zero, List.set_cons_succ]
          refine take_ (i := 19) (N := some 109) (v := .int .u32 (U (V 0))) (fl 27 2095515) rfl rfl (by kernel_rfl) (fun _ _ _ h => h) (Or.inl ⟨by rfl, fun w' hS => run_load_at rfl rfl ((blk_cell hS 0).trans rfl)⟩) hHeld rfl ?_
          simp only [Act.put, List.setIfInBounds_toArray, List.set_cons_zero, List.set_cons_succ]
          refine take_ (i := 21) (N := some 111) (v := .int .u32 (U (V 1))) (fl 27 4192667) rfl rfl (by kernel_rfl) (fun _ _ _ h => h) (Or.inl ⟨by rfl, fun w' hS => run_load_at rfl rfl ((blk_cell hS 1).trans rfl)⟩) hHeld rfl ?_
          simp only [Act.put, List.setIfInBounds_toArray, List.set_cons_zero, List.set_cons_succ]
          refine pure_ (i := 22) (N := some 112) (v := ?_) (a' := ?_) (fl 27 8386971) rfl rfl (by kernel_rfl) (fun _ _ _ h => h) (Or.inl ⟨by rfl, ?_⟩) ?_ ?_
          rotate_left
          · intro w'
            go_simp
            try simp only [u_xor, u_and, u_or, u_add]
            with_reducible rfl
          rotate_left
          · simp only [Act.put, List.setIfInBounds_toArray, List.set_cons_zero, List.set_cons_succ, i64_w, i32_w]
            rfl
          refine pure_ (i := 23) (N := some 113) (v := ?_) (a' := ?_) (fl 27 16775579) rfl rfl (by kernel_rfl) (fun _ _ _ h => h) (Or.inl ⟨by rfl, ?_⟩) ?_ ?_
          rotate_left
          · intro w'
            go_simp
            try simp only [u_xor, u_and, u_or, u_add]
            with_reducible rfl
          rotate_left
          · simp only [Act.put, List.setIfInBounds_toArray, List.set_cons_zero, List.set_cons_succ, i64_w, i32_w]
            rfl
          refine pure_ (i := 24) (N := some 114) (v := ?_) (a' := ?_) (fl 27 33552795) rfl rfl (by kernel_rfl) (fun _ _ _ h => h) (Or.inl ⟨by rfl, ?_⟩) ?_ ?_
          rotate_left
          · intro w'
            go_simp
            try simp only [u_xor, u_and, u_or, u_add]
            with_reducible rfl
          rotate_left
          · simp only [Act.put, List.setIfInBounds_toArray, List.set_cons_zero, List.set_cons_succ, i64_w, i32_w]
            rfl
          refine one_ (i := 2) (N := some 92) (fl 27 33552799) rfl rfl (by kernel_rfl) (by decide) (fun K hK => ?_)
          refine goes_ Try.func96 (by kernel_rfl) rfl #[.int .u32 (U (V 0)), .int .i64 2] (by rfl) rfl rfl (by simp [Act.eval]) ?_
          refine (turn_calls (V 0) 2 2 (by decide) (by decide) (by decide +kernel) _).mono ?_
          rintro e w21 ⟨rfl, hd⟩
          have hT1 := hT0.below hd.below
          refine ⟨_, rfl, hK.out _ _ hT1.vec (fun hHeld2 => ?_)⟩
          clear hK K hHeld
          have hHeld := hHeld2
          clear hHeld2
          clear hT0 hd
          simp only [Act.put, List.setIfInBounds_toArray, List.set_cons_zero, List.set_cons_succ]
          refine one_ (i := 5) (N := some 95) (fl 27 33552831) rfl rfl (by kernel_rfl) (by decide) (fun K hK => ?_)
          refine goes_ Try.func96 (by kernel_rfl) rfl #[.int .u32 (U (V 0)), .int .i64 13] (by rfl) rfl rfl (by simp [Act.eval]) ?_
          refine (turn_calls (V 0) 13 13 (by decide) (by decide) (by decide +kernel) _).mono ?_
          rintro e w22 ⟨rfl, hd⟩
          have hT2 := hT1.below hd.below
          refine ⟨_, rfl, hK.out _ _ hT2.vec (fun hHeld2 => ?_)⟩
          clear hK K hHeld
          have hHeld := hHeld2
          clear hHeld2
          clear hT1 hd
          simp only [Act.put, List.setIfInBounds_toArray, List.set_cons_zero, List.set_cons_succ]
          refine pure_ (i := 6) (N := some 96) (v := ?_) (a' := ?_) (fl 27 33552895) rfl rfl (by kernel_rfl) (fun _ _ _ h => h) (Or.inl ⟨by rfl, ?_⟩) ?_ ?_
          rotate_left
          · intro w'
            go_simp
            try simp only [u_xor, u_and, u_or, u_add]
            with_reducible rfl
          rotate_left
          · simp only [Act.put, List.setIfInBounds_toArray, List.set_cons_zero, List.set_cons_succ, i64_w, i32_w]
            rfl
          refine one_ (i := 9) (N := some 99) (fl 27 33553407) rfl rfl (by kernel_rfl) (by decide) (fun K hK => ?_)
          refine goes_ Try.func96 (by kernel_rfl) rfl #[.int .u32 (U (V 0)), .int .i64 22] (by rfl) rfl rfl (by simp [Act.eval]) ?_
          refine (turn_calls (V 0) 22 22 (by decide) (by decide) (by decide +kernel) _).mono ?_
          rintro e w23 ⟨rfl, hd⟩
          have hT3 := hT2.below hd.below
          refine ⟨_, rfl, hK.out _ _ hT3.vec (fun hHeld2 => ?_)⟩
          clear hK K hHeld
          have hHeld := hHeld2
          clear hHeld2
          clear hT2 hd
          simp only [Act.put, List.setIfInBounds_toArray, List.set_cons_zero, List.set_cons_succ]
          refine pure_ (i := 10) (N := some 100) (v := ?_) (a' := ?_) (fl 27 33554431) rfl rfl (by kernel_rfl) (fun _ _ _ h => h) (Or.inl ⟨by rfl, ?_⟩) ?_ ?_
          rotate_left
          · intro w'
            go_simp
            try simp only [u_xor, u_and, u_or, u_add]
            with_reducible rfl
          rotate_left
          · simp only [Act.put, List.setIfInBounds_toArray, List.set_cons_zero, List.set_cons_succ, i64_w, i32_w]
            rfl
          refine pure_ (i := 25) (N := some 115) (v := .int .u32 (U (uW V))) (a' := ?_) (fl 27 67108863) rfl rfl (by kernel_rfl) (fun _ _ _ h => h) (Or.inl ⟨by rfl, ?_⟩) ?_ ?_
          · intro w'
            go_simp
            try simp only [u_add]
            rfl
          rotate_left
          · simp only [Act.put, List.setIfInBounds_toArray, List.set_cons_zero, List.set_cons_succ, i64_w, i32_w]
            rfl
          refine pure_ (i := 26) (N := some 9) (v := ?_) (a' := ?_) (fl 27 134217727) rfl rfl (by kernel_rfl) (fun _ _ _ h => h) (Or.inl ⟨by rfl, ?_⟩) ?_ ?_
          rotate_left
          · intro w'
            go_simp
            with_reducible rfl
          rotate_left
          · simp only [Act.put, List.setIfInBounds_toArray, List.set_cons_zero, List.set_cons_succ, i64_w, i32_w]
            rfl
          refine done_ (by kernel_rfl) ?_
          clear hHeld
          have HR8 := Lib.hid (row8_rnd V (k j) (Wd m j))
          generalize tW V (k j) (Wd m j) = t at HR8 ⊢
          generalize uW V = u at HR8 ⊢
          have a1 := u_add t u
          have a2 := u_add (V 3) t
          have v0 : w23.cell? ⟨bv, 0, none⟩ = some (cellU (V 0)) := (blk_cell hT3.vec 0).trans rfl
          have g0 : w23.frozen? ⟨bv, 0, none⟩ = false := blk_frozen hT3.vec 0
          have v1 : w23.cell? ⟨bv, 1, none⟩ = some (cellU (V 1)) := (blk_cell hT3.vec 1).trans rfl
          have g1 : w23.frozen? ⟨bv, 1, none⟩ = false := blk_frozen hT3.vec 1
          have v2 : w23.cell? ⟨bv, 2, none⟩ = some (cellU (V 2)) := (blk_cell hT3.vec 2).trans rfl
          have g2 : w23.frozen? ⟨bv, 2, none⟩ = false := blk_frozen hT3.vec 2
          have v3 : w23.cell? ⟨bv, 3, none⟩ = some (cellU (V 3)) := (blk_cell hT3.vec 3).trans rfl
          have g3 : w23.frozen? ⟨bv, 3, none⟩ = false := blk_frozen hT3.vec 3
          have v4 : w23.cell? ⟨bv, 4, none⟩ = some (cellU (V 4)) := (blk_cell hT3.vec 4).trans rfl
          have g4 : w23.frozen? ⟨bv, 4, none⟩ = false := blk_frozen hT3.vec 4
          have v5 : w23.cell? ⟨bv, 5, none⟩ = some (cellU (V 5)) := (blk_cell hT3.vec 5).trans rfl
          have g5 : w23.frozen? ⟨bv, 5, none⟩ = false := blk_frozen hT3.vec 5
          have v6 : w23.cell? ⟨bv, 6, none⟩ = some (cellU (V 6)) := (blk_cell hT3.vec 6).trans rfl
          have g6 : w23.frozen? ⟨bv, 6, none⟩ = false := blk_frozen hT3.vec 6
          have v7 : w23.cell? ⟨bv, 7, none⟩ = some (cellU (V 7)) := (blk_cell hT3.vec 7).trans rfl
          have g7 : w23.frozen? ⟨bv, 7, none⟩ = false := blk_frozen hT3.vec 7
          have hfin := Lib.hid (((((((((hT3).setV 0 (cellU (t + u))).setV 1 (cellU (V 0))).setV 2 (cellU (V 1))).setV 3 (cellU (V 2))).setV 4 (cellU (V 3 + t))).setV 5 (cellU (V 4))).setV 6 (cellU (V 5))).setV 7 (cellU (V 6)))
          clear hT3
          go_wp2_with fail
          go_roundw
          case rel =>
            refine ⟨j + 1, rw2, HLT.out, by go_num, ?_⟩
            rw [HV.out, ← HR8.out]
            exact hfin.out
          case measure =>
            have := HLT.out
            simp [intOf]; omega
        · obtain rfl : j = 64 := by omega
          clear hlt2
          obtain ⟨V, hV⟩ : ∃ V, V = rnds k (Wd m) 64 h := ⟨_, rfl⟩
          rw [← hV] at hS
          have HV := Lib.hid hV
          clear hV
          have v0 : wr.cell? ⟨bv, 0, none⟩ = some (cellU (V 0)) := (blk_cell hS.vec 0).trans rfl
          have v1 : wr.cell? ⟨bv, 1, none⟩ = some (cellU (V 1)) := (blk_cell hS.vec 1).trans rfl
          have v2 : wr.cell? ⟨bv, 2, none⟩ = some (cellU (V 2)) := (blk_cell hS.vec 2).trans rfl
          have v3 : wr.cell? ⟨bv, 3, none⟩ = some (cellU (V 3)) := (blk_cell hS.vec 3).trans rfl
          have v4 : wr.cell? ⟨bv, 4, none⟩ = some (cellU (V 4)) := (blk_cell hS.vec 4).trans rfl
          have v5 : wr.cell? ⟨bv, 5, none⟩ = some (cellU (V 5)) := (blk_cell hS.vec 5).trans rfl
          have v6 : wr.cell? ⟨bv, 6, none⟩ = some (cellU (V 6)) := (blk_cell hS.vec 6).trans rfl
          have v7 : wr.cell? ⟨bv, 7, none⟩ = some (cellU (V 7)) := (blk_cell hS.vec 7).trans rfl
          have hmix := hS.mix
          have ho : Only bm w wr := Only.of_below hS.bel
          have hmix0 : wr.heap[bm]? = some (.cells (mixRow k (addN h V 0)) 60 (0, 0)) := hmix
          clear hmix hS
          go_wp2_with fail
          clear v0 v1 v2 v3 v4 v5 v6 v7
          go_loopw [138] (fun i wr => ∃ j : Nat, j ≤ 8 ∧ i = .int .i64 j ∧ wr.heap[bm]? = some (.cells (mixRow k (addN h V j)) 60 (0, 0)) ∧ Only bm w wr) (fun i _ => 8 - (intOf i).toNat)
          case atStart => exact ⟨0, Nat.zero_le _, rfl, hmix0, ho⟩
          case round =>
            clear hmix0 ho
            obtain ⟨j, hj, rfl, hmix, ho⟩ := hrel
            by_cases hlt2 : j < 8
            · have z0 : (0 : Int) ≤ (j : Int) := by omega
              have z1 : (j : Int) < 8 := by omega
              have HLT := Lib.hid hlt2
              have ix := index_arr V j hlt2
              clear hlt2
              have HJ := Lib.hid (show (mixRow k (addN h V j))[64 + j]? = some (cellU (h j)) by
                rw [mix_h k (addN h V j) HLT.out]
                unfold addN
                rw [if_neg (Nat.lt_irrefl j)])
              go_upto_region 17 with (fail)
              clear ix
              refine start_ (n := 12) (S := fun w' => w'.heap[bm]? = some (.cells (mixRow k (addN h V j)) 60 (0, 0))) (ds := [11]) (fl 12 0) (by kernel_rfl) rfl (by kernel_rfl) hmix (fun hHeld => ?_)
              have ho2 := ho.drew
              generalize wr.drew = w2 at hHeld ho2 ⊢
              clear hmix ho
              refine pure_ (i := 0) (N := some 142) (v := ?_) (a' := ?_) (fl 12 1) rfl rfl (by kernel_rfl) (fun _ _ _ h => h) (Or.inl ⟨by rfl, ?_⟩) ?_ ?_
              rotate_left
              · intro w'
                go_simp
                with_reducible rfl
              rotate_left
              · simp only [Act.put, List.setIfInBounds_toArray, List.set_cons_zero, List.set_cons_succ, i64_w, i32_w]
                rfl
              refine pure_ (i := 1) (N := some 143) (v := ?_) (a' := ?_) (fl 12 3) rfl rfl (by kernel_rfl) (fun _ _ _ h => h) (Or.inl ⟨by rfl, ?_⟩) ?_ ?_
              rotate_left
              · intro w'
                go_simp
                with_reducible rfl
              rotate_left
              · simp only [Act.put, List.setIfInBounds_toArray, List.set_cons_zero, List.set_cons_succ, i64_w, i32_w]
                rfl
              refine pure_ (i := 2) (N := some 144) (v := ?_) (a' := ?_) (fl 12 7) rfl rfl (by kernel_rfl) (fun _ _ _ h => h) (Or.inl ⟨by rfl, ?_⟩) ?_ ?_
              rotate_left
              · intro w'
                go_simp
                with_reducible rfl
              rotate_left
              · simp only [Act.put, List.setIfInBounds_toArray, List.set_cons_zero, List.set_cons_succ, i64_w, i32_w]
                rfl
              refine pure_ (i := 3) (N := some 145) (v := ?_) (a' := ?_) (fl 12 15) rfl rfl (by kernel_rfl) (fun _ _ _ h => h) (Or.inl ⟨by rfl, ?_⟩) ?_ ?_
              rotate_left
              · intro w'
                go_simp
                with_reducible rfl
              rotate_left
              · simp only [Act.put, List.setIfInBounds_toArray, List.set_cons_zero, List.set_cons_succ, i64_w, i32_w]
                rfl
              refine pure_ (i := 4) (N := some 146) (v := ?_) (a' := ?_) (fl 12 31) rfl rfl (by kernel_rfl) (fun _ _ _ h => h) (Or.inl ⟨by rfl, ?_⟩) ?_ ?_
              rotate_left
              · intro w'
                go_simp
                with_reducible rfl
              rotate_left
              · simp only [Act.put, List.setIfInBounds_toArray, List.set_cons_zero, List.set_cons_succ, i64_w, i32_w]
                rfl
              refine pure_ (i := 6) (N := some 148) (v := ?_) (a' := ?_) (fl 12 95) rfl rfl (by kernel_rfl) (fun _ _ _ h => h) (Or.inl ⟨by rfl, ?_⟩) ?_ ?_
              rotate_left
              · intro w'
                go_simp
                with_reducible rfl
              rotate_left
              · simp only [Act.put, List.setIfInBounds_toArray, List.set_cons_zero, List.set_cons_succ, i64_w, i32_w]
                rfl
              refine pure_ (i := 8) (N := some 150) (v := ?_) (a' := ?_) (fl 12 351) rfl rfl (by kernel_rfl) (fun _ _ _ h => h) (Or.inl ⟨by rfl, ?_⟩) ?_ ?_
              rotate_left
              · intro w'
                go_simp
                with_reducible rfl
              rotate_left
              · simp only [Act.put, List.setIfInBounds_toArray, List.set_cons_zero, List.set_cons_succ, i64_w, i32_w]
                rfl
              refine pure_ (i := 9) (N := some 151) (v := ?_) (a' := ?_) (fl 12 863) rfl rfl (by kernel_rfl) (fun _ _ _ h => h) (Or.inl ⟨by rfl, ?_⟩) ?_ ?_
              rotate_left
              · intro w'
                go_simp
                with_reducible rfl
              rotate_left
              · simp only [Act.put, List.setIfInBounds_toArray, List.set_cons_zero, List.set_cons_succ, i64_w, i32_w]
                rfl
              refine take_ (i := 5) (N := some 147) (v := .int .u32 (U (h j))) (fl 12 895) rfl rfl (by kernel_rfl) (fun _ _ _ h => h) (Or.inl ⟨by rfl, fun w' hS => run_load_at rfl rfl ((blk_cell hS _).trans HJ.out)⟩) hHeld rfl ?_
              simp only [Act.put, List.setIfInBounds_toArray, List.set_cons_zero, List.set_cons_succ]
              refine pure_ (i := 7) (N := some 149) (v := ?_) (a' := ?_) (fl 12 1023) rfl rfl (by kernel_rfl) (fun _ _ _ h => h) (Or.inl ⟨by rfl, ?_⟩) ?_ ?_
              rotate_left
              · intro w'
                go_simp
                try simp only [u_add]
                with_reducible rfl
              rotate_left
              · simp only [Act.put, List.setIfInBounds_toArray, List.set_cons_zero, List.set_cons_succ, i64_w, i32_w]
                rfl
              refine pure_ (i := 10) (N := some 152) (v := ?_) (a' := ?_) (fl 12 2047) rfl rfl (by kernel_rfl) (fun _ _ _ h => h) (Or.inl ⟨by rfl, ?_⟩) ?_ ?_
              rotate_left
              · intro w'
                go_simp
                with_reducible rfl
              rotate_left
              · simp only [Act.put, List.setIfInBounds_toArray, List.set_cons_zero, List.set_cons_succ, i64_w, i32_w]
                rfl
              refine last_ (i := 11) (N := none) (fl 12 4095) rfl rfl (by kernel_rfl) (by decide) (fun K hK => ?_)
              refine skip_ (by rfl) rfl (run_store_at (n := U (h j + V j)) rfl rfl (by rfl) ((blk_cell hHeld _).trans HJ.out) (blk_frozen hHeld _)) ?_
              refine hK.out _ _ ?_
              have hm2 := blk_put hHeld (64 + j) (cellU (h j + V j)) (mix_set k (addN h V j) HLT.out (h j + V j))
              rw [addN_step] at hm2
              have ho3 := ho2.setCell (64 + j) (cellU (h j + V j))
              clear hHeld ho2
              clear hK K
              generalize w2.setCell ⟨bm, 64 + j, none⟩ (cellU (h j + V j)) = w3 at hm2 ho3 ⊢
              refine done_ (by kernel_rfl) ?_
              go_wp2_with fail
              go_roundw
              case rel => exact ⟨j + 1, HLT.out, by go_num, hm2, ho3⟩
              case measure =>
                have := HLT.out
                simp [intOf]; omega
            · obtain rfl : j = 8 := by omega
              clear hlt2
              go_wp2_with fail
              go_end0
              refine ⟨rfl, ?_, ho⟩
              rw [hmix]
              congr 2
              refine mix_congr (fun i hi => ?_)
              show (if i < 8 then h i + V i else h i) = h i + rnds k (Wd (beW s.data.toList)) 64 h i
              rw [if_pos hi, HV.out, HM.out]
end Go.Proofs.Ytpegefcpanijhaa
end
