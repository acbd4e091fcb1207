/- SHA-256 of a text in plain Lean: blocks, what stands behind a text, the bytes of the words. The walk of mixer.sum. The walks of marks.cubed and marks.squared: a root's test. The walk of marks.root: a search by halves. The walk of marks.primes. The walk of marks.tables. The walks of marks.Sum and marks.Real. The walks of marks.Real, and of Mark and Is of a real book. -/
import Derived.Test.YtpegefcpanijhaaZA
import Derived.Test.YtpegefcpanijhaaF4
import Derived.Laws.BitsAllLaws
import Derived.Laws.Externs
import Derived.Lib.Mul64
import Derived.Lib.Hide
import Derived.Deep.LoopGhost
import Derived.WalkMore
import Derived.Deep.WholeRow
import Derived.Test.YtpegefcpanijhaaZB
section
namespace Go.Proofs.Ytpegefcpanijhaa
set_option linter.unusedVariables false
set_option linter.unusedSimpArgs false
open Go.RowKit Go.Proofs.YtpegefcpanijhaaW.PrintWords Go.Proofs.YtpegefcpanijhaaW.PrintMore PF

theorem blks_succ (k : Nat → W32) : ∀ (n : Nat) (h : V8) (l : List UInt8), blks k (n + 1) h l = blockV k (blks k n h l) ((l.drop (64 * n)).take 64) := by
  intro n
  induction n with
  | zero => intro h l; rfl
  | succ n ih =>
    intro h l
    show blks k (n + 1) (blockV k h (l.take 64)) (l.drop 64) = _
    rw [ih, List.drop_drop]
    show _ = blockV k (blks k n (blockV k h (l.take 64)) (l.drop 64)) _
    rw [show 64 + 64 * n = 64 * (n + 1) by omega]
theorem blks_add (k : Nat → W32) : ∀ (n m : Nat) (h : V8) (l : List UInt8), blks k (n + m) h l = blks k m (blks k n h l) (l.drop (64 * n)) := by
  intro n
  induction n with
  | zero => intro m h l; rw [Nat.zero_add]; rfl
  | succ n ih =>
    intro m h l
    rw [show n + 1 + m = (n + m) + 1 by omega]
    show blks k (n + m) (blockV k h (l.take 64)) (l.drop 64) = _
    rw [ih, List.drop_drop, show 64 + 64 * n = 64 * (n + 1) by omega]
    rfl
theorem blks_left (k : Nat → W32) : ∀ (n : Nat) (h : V8) (l r : List UInt8), 64 * n ≤ l.length → blks k n h (l ++ r) = blks k n h l := by
  intro n
  induction n with
  | zero => intro h l r _; rfl
  | succ n ih =>
    intro h l r hl
    show blks k n (blockV k h ((l ++ r).take 64)) ((l ++ r).drop 64) = _
    rw [List.take_append_of_le_length (by omega), List.drop_append_of_le_length (by omega), ih _ _ _ (by rw [List.length_drop]; omega)]
    rfl

/-- A list of bytes as a text. -/
abbrev bx (l : List UInt8) : ByteArray := ⟨l.toArray⟩
theorem bx_size (l : List UInt8) : (bx l).size = l.length := by
  show l.toArray.size = _
  simp
theorem str_bx (l : List UInt8) : strOfNums (l.map UB) = bx l := by
  apply ByteArray.ext
  apply Array.toList_inj.1
  rw [strOfNums_data]
  simp [bx, List.map_map, Function.comp_def, UB]
theorem u8_wrap (n : Nat) : IntKind.u8.wrap (n : Int) = UB n.toUInt8 := by
  rw [IntKind.wrap_u8']
  unfold UB
  rw [show n.toUInt8.toNat = n % 256 from by simp]
  rfl
/-- A word's byte. -/
def wb (x : W32) (n : Nat) : UInt8 := (x.toNat / 2 ^ n).toUInt8
theorem wb_wrap (x : W32) (n : Nat) : IntKind.u8.wrap (U x / 2 ^ n) = UB (wb x n) := by
  unfold wb
  rw [← u8_wrap]
  rfl
theorem wb_24 (x : W32) : IntKind.u8.wrap (U x / (16777216 : Int)) = UB (wb x 24) := wb_wrap x 24
theorem wb_16 (x : W32) : IntKind.u8.wrap (U x / (65536 : Int)) = UB (wb x 16) := wb_wrap x 16
theorem wb_8 (x : W32) : IntKind.u8.wrap (U x / (256 : Int)) = UB (wb x 8) := wb_wrap x 8
theorem wb_0 (x : W32) : IntKind.u8.wrap (U x) = UB (wb x 0) := by
  have := wb_wrap x 0
  rw [← this]
  congr 1
  show U x = U x / 1
  rw [Int.ediv_one]
def four (x : W32) : List UInt8 := [wb x 24, wb x 16, wb x 8, wb x 0]
/-- The bytes of the first n words. -/
def outL (h : V8) (n : Nat) : List UInt8 := (List.range n).flatMap fun j => four (h j)
theorem outL_succ (h : V8) (n : Nat) : outL h (n + 1) = outL h n ++ four (h n) := by
  unfold outL
  rw [List.range_succ, List.flatMap_append]
  simp
theorem outL_length (h : V8) : ∀ n, (outL h n).length = 4 * n := by
  intro n
  induction n with
  | zero => rfl
  | succ n ih => rw [outL_succ, List.length_append, ih]; show 4 * n + 4 = _; omega

/-- How many noughts stand behind a text of n bytes. -/
def zeros (n : Nat) : Nat := (119 - n % 64) % 64
def lenByte (n i : Nat) : UInt8 := (n * 8 / 2 ^ (8 * i)).toUInt8
/-- The length's bytes from place i on, the highest first. -/
def lenL (n : Nat) : Nat → List UInt8
  | 0 => []
  | i + 1 => lenByte n i :: lenL n i
/-- What stands behind a text of n bytes. -/
def padL (n : Nat) : List UInt8 := (128 :: List.replicate (zeros n) 0) ++ lenL n 8
theorem lenL_length (n : Nat) : ∀ i, (lenL n i).length = i := by
  intro i
  induction i with
  | zero => rfl
  | succ i ih => rw [lenL, List.length_cons, ih]
theorem padL_length (n : Nat) : (padL n).length = zeros n + 9 := by
  unfold padL
  rw [List.length_append, List.length_cons, List.length_replicate, lenL_length]
theorem pad_whole (n : Nat) : (n + (padL n).length) % 64 = 0 := by
  rw [padL_length]
  unfold zeros
  omega
def shaL (k : Nat → W32) (h : V8) (l : List UInt8) : List UInt8 := outL (blks k ((l.length + (padL l.length).length) / 64) h (l ++ padL l.length)) 8

theorem ending_l1 (n : Nat) (hn : n ≤ 1125899906842624) : ∀ (i k : Nat) (acc : List UInt8), i ≤ 8 → acc.length + i ≤ 1000 → i < k →
    marks_ending.l1 k (n : Int) (acc.map UB) ((i : Int) - 1) = some (bx (acc ++ lenL n i)) := by
  intro i
  induction i with
  | zero =>
    intro k acc hi ha hk
    obtain ⟨k, rfl⟩ : ∃ f, k = f + 1 := ⟨k - 1, by omega⟩
    rw [marks_ending.l1, if_neg (by omega), str_bx, lenL, List.append_nil]
  | succ i ih =>
    intro k acc hi ha hk
    obtain ⟨k, rfl⟩ : ∃ f, k = f + 1 := ⟨k - 1, by omega⟩
    have e1 : ((i + 1 : Nat) : Int) - 1 = (i : Int) := by omega
    have e2 : wrap64 (8 * (i : Int)) = ((8 * i : Nat) : Int) := by unfold wrap64; omega
    have e3 : wrap64 ((i : Int) - 1) = (i : Int) - 1 := by unfold wrap64; omega
    have e4 : IntKind.u64.wrap (IntKind.u64.wrap (n : Int) * 8) = ((n * 8 : Nat) : Int) := by
      show (n : Int) % 18446744073709551616 * 8 % 18446744073709551616 = _
      omega
    have e5 : (shr .u64 ((n * 8 : Nat) : Int) ((8 * i : Nat) : Int)) % 256 = UB (lenByte n i) := by
      unfold shr lenByte
      rw [Int.toNat_natCast, Nat.min_eq_left (by show 8 * i ≤ 64; omega), ← u8_wrap, IntKind.wrap_u8', Int.natCast_ediv, Int.natCast_pow]
      rfl
    rw [marks_ending.l1, e1, if_pos (by omega), e2, if_pos (by omega), if_pos (by rw [List.length_map]; omega), e4, e5, e3]
    have := ih k (acc ++ [lenByte n i]) (by omega) (by rw [List.length_append]; simp; omega) (by omega)
    rw [List.map_append] at this
    rw [show (List.map UB [lenByte n i]) = [UB (lenByte n i)] from rfl] at this
    rw [this, lenL, List.append_assoc]
    rfl
theorem ending_l0 (n : Nat) (hn : n ≤ 1125899906842624) : ∀ (d k : Nat) (z : Nat), z + d = zeros n → d + 20 < k →
    marks_ending.l0 k (n : Int) ((128 :: List.replicate z (0 : UInt8)).map UB) = some (bx (padL n)) := by
  intro d
  induction d with
  | zero =>
    intro k z hz hk
    obtain ⟨k, rfl⟩ : ∃ f, k = f + 1 := ⟨k - 1, by omega⟩
    have hlen : ((128 :: List.replicate z (0 : UInt8)).map UB).length = z + 1 := by simp
    have hz2 : zeros n < 64 := Nat.mod_lt _ (by decide)
    have e : Int.tmod (wrap64 ((n : Int) + (((128 :: List.replicate z (0 : UInt8)).map UB).length : Int))) 64 = 56 := by
      rw [hlen]
      have : wrap64 ((n : Int) + ((z + 1 : Nat) : Int)) = ((n + z + 1 : Nat) : Int) := by unfold wrap64; omega
      rw [this]
      show (((n + z + 1) % 64 : Nat) : Int) = 56
      have : (n + z + 1) % 64 = 56 := by
        unfold zeros at hz
        omega
      rw [this]
      rfl
    rw [marks_ending.l0, if_pos e]
    have := ending_l1 n hn 8 k (128 :: List.replicate z 0) (by omega) (by simp; omega) (by omega)
    rw [show ((8 : Nat) : Int) - 1 = 7 from rfl] at this
    rw [this]
    unfold padL
    rw [← hz]
    rfl
  | succ d ih =>
    intro k z hz hk
    obtain ⟨k, rfl⟩ : ∃ f, k = f + 1 := ⟨k - 1, by omega⟩
    have hlen : ((128 :: List.replicate z (0 : UInt8)).map UB).length = z + 1 := by simp
    have hz2 : zeros n < 64 := Nat.mod_lt _ (by decide)
    have e : ¬ Int.tmod (wrap64 ((n : Int) + (((128 :: List.replicate z (0 : UInt8)).map UB).length : Int))) 64 = 56 := by
      rw [hlen]
      have : wrap64 ((n : Int) + ((z + 1 : Nat) : Int)) = ((n + z + 1 : Nat) : Int) := by unfold wrap64; omega
      rw [this]
      intro h
      have h : (((n + z + 1) % 64 : Nat) : Int) = 56 := h
      have h2 : (n + z + 1) % 64 = 56 := by omega
      unfold zeros at hz hz2
      omega
    rw [marks_ending.l0, if_neg e, if_pos (by rw [hlen]; omega)]
    have := ih k (z + 1) (by omega) (by omega)
    rw [List.replicate_succ', List.map_cons, List.map_append] at this
    rw [List.map_cons, List.cons_append]
    exact this
theorem ending_val (n : Nat) (hn : n ≤ 1125899906842624) : marks_ending.f 100 (n : Int) = some (bx (padL n)) := by
  have hz2 : zeros n < 64 := Nat.mod_lt _ (by decide)
  exact ending_l0 n hn (zeros n) 100 0 (by omega) (by omega)
theorem ending_calls (n : Nat) (hn : n ≤ 1125899906842624) (w : World) : Calls Try.prog 71 #[.int .i64 n] w fun e w' => e = .returned (.string (bx (padL n))) ∧ Below w.heap.size w w' :=
  marks_ending.calls 100 (n : Int) _ w (ending_val n hn)
end Go.Proofs.Ytpegefcpanijhaa
end
section
namespace Go.Proofs.Ytpegefcpanijhaa
set_option linter.unusedVariables false
set_option linter.unusedSimpArgs false
open Go.RowKit Go.Proofs.YtpegefcpanijhaaW.PrintWords Go.Proofs.YtpegefcpanijhaaW.PrintLast Go.Proofs.YtpegefcpanijhaaW.PrintMore PF

theorem ext_list (s : ByteArray) (a n : Nat) : (s.extract a (a + n)).data.toList = (s.data.toList.drop a).take n := by
  rw [ByteArray.data_extract, Array.toList_extract, List.extract_eq_take_drop]
  congr 1
  omega
theorem ext_end (s : ByteArray) (a : Nat) : (s.extract a s.size).data.toList = s.data.toList.drop a := by
  rw [ByteArray.data_extract, Array.toList_extract, List.extract_eq_take_drop]
  apply List.take_of_length_le
  rw [List.length_drop, Array.length_toList]
  exact Nat.le_refl _
theorem ext_size {s : ByteArray} {a n : Nat} (h : a + n ≤ s.size) : (s.extract a (a + n)).size = n := by
  rw [ByteArray.size_extract]
  omega
theorem news_list (w : World) (xs : List Value) (t : TypeId) : ∀ (j : Nat) (u : Value), xs[j]? = some u → (w.alloc (.cells xs.toArray t)).cell? ((⟨w.heap.size, 0, none⟩ : Addr).add j) = some u := by
  intro j u hu
  have e1 : (⟨w.heap.size, 0, none⟩ : Addr).add j = ⟨w.heap.size, j, none⟩ := by unfold Addr.add; split <;> simp_all
  rw [e1, cell_of_row _ _ j _ _ _ (heap_alloc_new w _), ← hu]
  simp
theorem info5' : (Try.prog.info? 5).map (fun i => (i.zero, i.size, i.bytes)) = some (some (.int .u8 0), 1, 1) := by kernel_rfl

set_option maxHeartbeats 8000000 in
set_option maxRecDepth 100000 in
theorem sum_calls {w : World} {k : Nat → W32} {h : V8} {s : ByteArray} (hs : s.size ≤ 1125899906842624) :
    Calls Try.prog 42 #[.agg (mixRow k h), .string s] w fun e w' => e = .returned (.string (bx (shaL k h s.data.toList))) ∧ Below w.heap.size w w' := by
  obtain ⟨i0, hi, hz0, hz1, hz2⟩ := info_parts info5'
  have HZ0 := Lib.hid hz0; have HZ1 := Lib.hid hz1; have HZ2 := Lib.hid hz2; have HI0 := Lib.hid hi
  clear hz0 hz1 hz2 hi
  have HS := Lib.hid hs
  go_enter Try.func42, Try.ntmps42
  go_upto_region 1 with (fail)
  obtain ⟨Q, hQ⟩ : ∃ Q, Q = s.size / 64 := ⟨_, rfl⟩
  obtain ⟨N, hN⟩ : ∃ N, N = 64 * Q := ⟨_, rfl⟩
  have t1 : Int.tdiv (s.size : Int) 64 = (Q : Int) := by rw [hQ]; rfl
  have t2 : (s.size : Int) / 64 = (Q : Int) := by omega
  have t3 : (Q : Int) * 64 = (N : Int) := by omega
  have t4 : wrap64 ((Q : Int) * 64) = (N : Int) := by rw [wr64 (by omega) (by omega)]; exact t3
  have HQ := Lib.hid (And.intro hQ hN)
  clear hQ hN
  have hb := heap_alloc_new w (.cells (mixRow k h) 60)
  have hbl : Below w.heap.size w (w.alloc (.cells (mixRow k h) 60)) := (Below.refl _ _).alloc (Nat.le_refl _) _
  generalize w.alloc (.cells (mixRow k h) 60) = w0 at hb hbl ⊢
  obtain ⟨bm, hbm⟩ : ∃ bm, bm = w.heap.size := ⟨_, rfl⟩
  rw [← hbm] at hb ⊢
  have HBM := Lib.hid hbm
  clear hbm
  go_wp2_with fail
  clear t1 t2 t3 t4
  go_loopw [6] (fun i wr => ∃ j : Nat, j ≤ Q ∧ i = .int .i64 ((64 * j : Nat) : Int) ∧ wr.heap[bm]? = some (.cells (mixRow k (blks k j h s.data.toList)) 60 (0, 0)) ∧ Below w.heap.size w wr) (fun i _ => N - (intOf i).toNat)
  case atStart => exact ⟨0, Nat.zero_le _, rfl, hb, hbl⟩
  case round =>
    clear hb hbl
    obtain ⟨j, hj, rfl, hb, hbl⟩ := hrel
    by_cases hlt : j < Q
    · obtain ⟨A, hA⟩ : ∃ A, A = 64 * j := ⟨_, rfl⟩
      rw [← hA]
      have hA64 : A + 64 ≤ s.size := by have := HQ.out; omega
      have z1 : (A : Int) < (N : Int) := by have := HQ.out; omega
      have z2 : (0 : Int) ≤ (A : Int) := by omega
      have z3 : (A : Int) + 64 ≤ (s.size : Int) := by omega
      have z4 : (A : Int) ≤ (A : Int) + 64 := by omega
      have z5 : (A : Int) ≤ 1125899906843000 := by have := HS.out; omega
      have z6 : ((A : Int) + 64).toNat = A + 64 := by omega
      have hsz := ext_size hA64
      have HSZ := Lib.hid hsz
      have HLT := Lib.hid (And.intro hlt (And.intro hA hA64))
      have HBV := Lib.hid (show blks k (j + 1) h s.data.toList = blockV k (blks k j h s.data.toList) (s.extract A (A + 64)).data.toList by rw [blks_succ, ext_list, hA])
      clear hlt hA hA64 hsz
      go_wp2_with fail
      refine (block_calls hb HSZ.out).mono ?_
      rintro e w2 ⟨rfl, hb2, ho⟩
      have hbl2 := ho.below hbl (Nat.le_of_eq HBM.out.symm)
      clear z1 z3 z4 z6 hb hbl ho
      go_wp2_with fail
      go_roundw
      case rel => exact ⟨j + 1, HLT.out.1, by rw [show ((64 * (j + 1) : Nat) : Int) = (A : Int) + 64 by have := HLT.out.2; omega], by rw [HBV.out]; exact hb2, hbl2⟩
      case measure =>
        have := HLT.out
        have := HQ.out
        simp [intOf]; omega
    · obtain ⟨A, hA⟩ : ∃ A, A = 64 * j := ⟨_, rfl⟩
      rw [← hA]
      have z1 : decide ((A : Int) < (N : Int)) = false := decide_eq_false (by have := HQ.out; omega)
      have z1' : ¬ ((A : Int) < (N : Int)) := by have := HQ.out; omega
      clear hA
      obtain rfl : Q = j := by omega
      obtain ⟨H1, hH1⟩ : ∃ H1, H1 = blks k Q h s.data.toList := ⟨_, rfl⟩
      rw [← hH1] at hb
      have HH1 := Lib.hid hH1
      clear hH1 hj hlt
      have z2 : (0 : Int) ≤ (N : Int) := by omega
      have z3 : (N : Int) ≤ (s.size : Int) := by have := HQ.out; omega
      have hsum : ¬ 9223372036854775807 < s.size - N + (padL s.size).length := by
        have h1 : zeros s.size < 64 := Nat.mod_lt _ (by decide)
        have h2 := HS.out
        rw [padL_length]
        omega
      have HRL := Lib.hid (show (s.extract N s.size ++ bx (padL s.size)).data.toList = s.data.toList.drop N ++ padL s.size by
        rw [ByteArray.data_append, Array.toList_append, ext_end])
      have HRS := Lib.hid (show (s.extract N s.size ++ bx (padL s.size)).size = s.size - N + (padL s.size).length by
        rw [ByteArray.size_append, bx_size (padL s.size), ByteArray.size_extract]
        omega)
      go_upto_region 6 with (fail)
      refine start_ (n := 8) (S := fun w' => w'.heap[bm]? = some (.cells (mixRow k H1) 60 (0, 0))) (ds := []) (fl 8 0) (by kernel_rfl) rfl (by kernel_rfl) hb (fun hHeld => ?_)
      have hbl0 := hbl.drew
      generalize wr.drew = w1 at hHeld hbl0 ⊢
      clear hb hbl
      refine pure_ (i := 0) (N := some 27) (v := ?_) (a' := ?_) (fl 8 1) rfl rfl (by kernel_rfl) (fun _ _ _ h => h) (Or.inl ⟨by rfl, ?_⟩) ?_ ?_
      rotate_left
      · intro w'
        go_simp
        with_reducible rfl
      rotate_left
      · simp only [Act.put, List.setIfInBounds_toArray, List.set_cons_zero, List.set_cons_succ, i64_w, i32_w]
        rfl
      refine pure_ (i := 1) (N := some 28) (v := ?_) (a' := ?_) (fl 8 3) rfl rfl (by kernel_rfl) (fun _ _ _ h => h) (Or.inl ⟨by rfl, ?_⟩) ?_ ?_
      rotate_left
      · intro w'
        go_simp
        with_reducible rfl
      rotate_left
      · simp only [Act.put, List.setIfInBounds_toArray, List.set_cons_zero, List.set_cons_succ, i64_w, i32_w]
        rfl
      refine pure_ (i := 2) (N := some 29) (v := ?_) (a' := ?_) (fl 8 7) rfl rfl (by kernel_rfl) (fun _ _ _ h => h) (Or.inl ⟨by rfl, ?_⟩) ?_ ?_
      rotate_left
      · intro w'
        go_simp
        with_reducible rfl
      rotate_left
      · simp only [Act.put, List.setIfInBounds_toArray, List.set_cons_zero, List.set_cons_succ, i64_w, i32_w]
        rfl
      refine pure_ (i := 3) (N := some 30) (v := ?_) (a' := ?_) (fl 8 15) rfl rfl (by kernel_rfl) (fun _ _ _ h => h) (Or.inl ⟨by rfl, ?_⟩) ?_ ?_
      rotate_left
      · intro w'
        go_simp
        with_reducible rfl
      rotate_left
      · simp only [Act.put, List.setIfInBounds_toArray, List.set_cons_zero, List.set_cons_succ, i64_w, i32_w]
        rfl
      refine pure_ (i := 4) (N := some 31) (v := ?_) (a' := ?_) (fl 8 31) rfl rfl (by kernel_rfl) (fun _ _ _ h => h) (Or.inl ⟨by rfl, ?_⟩) ?_ ?_
      rotate_left
      · intro w'
        go_simp
        with_reducible rfl
      rotate_left
      · simp only [Act.put, List.setIfInBounds_toArray, List.set_cons_zero, List.set_cons_succ, i64_w, i32_w]
        rfl
      refine one_ (i := 5) (N := some 32) (fl 8 63) rfl rfl (by kernel_rfl) (by decide) (fun K hK => ?_)
      refine goes_ Try.func71 (by kernel_rfl) rfl #[.int .i64 s.size] (by rfl) rfl rfl (by simp [Act.eval]) ?_
      refine (ending_calls s.size HS.out _).mono ?_
      rintro e w2 ⟨rfl, hd⟩
      have hbl2 := hbl0.trans (hd.mono hbl0.size)
      refine ⟨_, rfl, hK.out _ _ (blk_below hHeld hd) (fun hHeld2 => ?_)⟩
      clear hK K hHeld
      have hHeld := hHeld2
      clear hHeld2
      clear hbl0 hd
      simp only [Act.put, List.setIfInBounds_toArray, List.set_cons_zero, List.set_cons_succ]
      refine pure_ (i := 6) (N := some 33) (v := ?_) (a' := ?_) (fl 8 127) rfl rfl (by kernel_rfl) (fun _ _ _ h => h) (Or.inl ⟨by rfl, ?_⟩) ?_ ?_
      rotate_left
      · intro w'
        go_simp
        with_reducible rfl
      rotate_left
      · simp only [Act.put, List.setIfInBounds_toArray, List.set_cons_zero, List.set_cons_succ, i64_w, i32_w]
        rfl
      refine pure_ (i := 7) (N := some 7) (v := ?_) (a' := ?_) (fl 8 255) rfl rfl (by kernel_rfl) (fun _ _ _ h => h) (Or.inl ⟨by rfl, ?_⟩) ?_ ?_
      rotate_left
      · intro w'
        go_simp
        with_reducible rfl
      rotate_left
      · simp only [Act.put, List.setIfInBounds_toArray, List.set_cons_zero, List.set_cons_succ, i64_w, i32_w]
        rfl
      refine done_ (by kernel_rfl) ?_
      clear hsum z1 z1' z2 z3
      generalize s.extract N s.size ++ bx (padL s.size) = R at HRL HRS ⊢
      have hb := hHeld
      have hbl := hbl2
      clear hHeld hbl2
      obtain ⟨r, hr⟩ : ∃ r, R.size = 64 * r := ⟨R.size / 64, by
        have h1 := pad_whole s.size
        have h2 := HRS.out
        have h3 := HQ.out
        omega⟩
      have HQ2 := Lib.hid hr
      have HS2 := Lib.hid (show R.size ≤ 1125899906843000 by
        have h1 : zeros s.size < 64 := Nat.mod_lt _ (by decide)
        have h2 := HRS.out
        have h3 := HS.out
        rw [padL_length] at h2
        omega)
      clear hr
      go_wp2_with fail
      go_loopw [8] (fun i wr => ∃ j : Nat, j ≤ r ∧ i = .int .i64 ((64 * j : Nat) : Int) ∧ wr.heap[bm]? = some (.cells (mixRow k (blks k j H1 R.data.toList)) 60 (0, 0)) ∧ Below w.heap.size w wr) (fun i _ => R.size - (intOf i).toNat)
      case atStart => exact ⟨0, Nat.zero_le _, rfl, hb, hbl⟩
      case round =>
        clear hb hbl
        obtain ⟨j, hj, rfl, hb, hbl⟩ := hrel
        by_cases hlt : j < r
        · obtain ⟨A, hA⟩ : ∃ A, A = 64 * j := ⟨_, rfl⟩
          rw [← hA]
          have hA64 : A + 64 ≤ R.size := by have := HQ2.out; omega
          have z1 : (A : Int) < (R.size : Int) := by have := HQ2.out; omega
          have z2 : (0 : Int) ≤ (A : Int) := by omega
          have z3 : (A : Int) + 64 ≤ (R.size : Int) := by omega
          have z4 : (A : Int) ≤ (A : Int) + 64 := by omega
          have z5 : (A : Int) ≤ 1125899906843000 := by have := HS2.out; omega
          have z6 : ((A : Int) + 64).toNat = A + 64 := by omega
          have hsz := ext_size hA64
          have HSZ := Lib.hid hsz
          have HLT := Lib.hid (And.intro hlt (And.intro hA hA64))
          have HBV := Lib.hid (show blks k (j + 1) H1 R.data.toList = blockV k (blks k j H1 R.data.toList) (R.extract A (A + 64)).data.toList by rw [blks_succ, ext_list, hA])
          clear hlt hA hA64 hsz
          go_wp2_with fail
          refine (block_calls hb HSZ.out).mono ?_
          rintro e w2 ⟨rfl, hb2, ho⟩
          have hbl2 := ho.below hbl (Nat.le_of_eq HBM.out.symm)
          clear z1 z3 z4 z6 hb hbl ho
          go_wp2_with fail
          go_roundw
          case rel => exact ⟨j + 1, HLT.out.1, by rw [show ((64 * (j + 1) : Nat) : Int) = (A : Int) + 64 by have := HLT.out.2; omega], by rw [HBV.out]; exact hb2, hbl2⟩
          case measure =>
            have := HLT.out
            have := HQ2.out
            simp [intOf]; omega
        · obtain ⟨A, hA⟩ : ∃ A, A = 64 * j := ⟨_, rfl⟩
          rw [← hA]
          have z1 : decide ((A : Int) < (R.size : Int)) = false := decide_eq_false (by have := HQ2.out; omega)
          have z1' : ¬ ((A : Int) < (R.size : Int)) := by have := HQ2.out; omega
          clear hA
          obtain rfl : r = j := by omega
          obtain ⟨H2, hH2⟩ : ∃ H2, H2 = blks k r H1 R.data.toList := ⟨_, rfl⟩
          rw [← hH2] at hb
          have HSH := Lib.hid (show outL H2 8 = shaL k h s.data.toList by
            have hl : s.data.toList.length = s.size := by rw [Array.length_toList]; rfl
            have e1 := HQ.out
            have e2 := HQ2.out
            have e3 := HRS.out
            have e4 := HH1.out
            unfold shaL
            rw [hl, show (s.size + (padL s.size).length) / 64 = Q + r by omega, blks_add, blks_left k Q h s.data.toList (padL s.size) (by rw [hl]; omega), List.drop_append_of_le_length (by rw [hl]; omega), ← e1.2, ← HRL.out, ← e4, ← hH2])
          clear hH2 hj hlt
          have cm0 : wr.cell? ⟨bm, 64, none⟩ = some (cellU (H2 0)) := (blk_cell hb 64).trans (mix_h k H2 (j := 0) (by decide))
          have cm1 : wr.cell? ⟨bm, 65, none⟩ = some (cellU (H2 1)) := (blk_cell hb 65).trans (mix_h k H2 (j := 1) (by decide))
          have cm2 : wr.cell? ⟨bm, 66, none⟩ = some (cellU (H2 2)) := (blk_cell hb 66).trans (mix_h k H2 (j := 2) (by decide))
          have cm3 : wr.cell? ⟨bm, 67, none⟩ = some (cellU (H2 3)) := (blk_cell hb 67).trans (mix_h k H2 (j := 3) (by decide))
          have cm4 : wr.cell? ⟨bm, 68, none⟩ = some (cellU (H2 4)) := (blk_cell hb 68).trans (mix_h k H2 (j := 4) (by decide))
          have cm5 : wr.cell? ⟨bm, 69, none⟩ = some (cellU (H2 5)) := (blk_cell hb 69).trans (mix_h k H2 (j := 5) (by decide))
          have cm6 : wr.cell? ⟨bm, 70, none⟩ = some (cellU (H2 6)) := (blk_cell hb 70).trans (mix_h k H2 (j := 6) (by decide))
          have cm7 : wr.cell? ⟨bm, 71, none⟩ = some (cellU (H2 7)) := (blk_cell hb 71).trans (mix_h k H2 (j := 7) (by decide))
          clear hb
          go_wp2_with fail
          clear cm0 cm1 cm2 cm3 cm4 cm5 cm6 cm7 z1 z1'
          go_loopw [9, 48] (fun bv i wr => ∃ (j : Nat) (v : Value), j ≤ 8 ∧ bv = v ∧ i = .int .i64 j ∧ wr.ownsRow w.heap.size 5 1 v (outL H2 j).length (nums .u8 ((outL H2 j).map UB)) ∧ Below w.heap.size w wr) (fun bv i _ => 8 - (intOf i).toNat)
          case atStart => exact ⟨0, _, Nat.zero_le _, rfl, rfl, World.ownsRow_nil _ _ _ _, hbl⟩
          case round =>
            clear hbl
            obtain ⟨j, v, hj, rfl, rfl, hown, hbl⟩ := hrel
            have hln := outL_length H2 j
            by_cases hlt : j < 8
            · have z1 : (j : Int) < 8 := by omega
              have z2 : (0 : Int) ≤ (j : Int) := by omega
              have ix := index_arr H2 j hlt
              have HLT := Lib.hid hlt
              have HLN := Lib.hid hln
              have HOS := Lib.hid (outL_succ H2 j)
              clear hlt hln
              generalize H2 j = X at ix HOS
              have a1 := wb_24 X
              have a2 := wb_16 X
              have a3 := wb_8 X
              have a4 := wb_0 X
              go_upto_region 15 with (fail)
              clear ix
              have hbase : w.heap.size ≤ (wr.alloc (.cells #[.int .u8 (UB (wb X 24)), .int .u8 (UB (wb X 16)), .int .u8 (UB (wb X 8)), .int .u8 (UB (wb X 0))] 5)).heap.size := by have := hbl.size; simp; omega
              go_wp2_with (at_builtin; refine wpList_append_own _ rfl (.tmp 51) (.tmp 63) 69 rfl w.heap.size 5 i0 _ 1 1 Try.underlying69 HI0.out HZ0.out HZ1.out HZ2.out rfl (by decide) _ _ _ rfl (hown.alloc _) ⟨wr.heap.size, 0, none⟩ 4 4 [.int .u8 (UB (wb X 24)), .int .u8 (UB (wb X 16)), .int .u8 (UB (wb X 8)), .int .u8 (UB (wb X 0))] rfl rfl (news_list wr _ 5) (by simp [Value.oneCell']) (by have := HLN.out; have := HLT.out; unfold maxLen; omega) (by have := HLN.out; have := HLT.out; omega) hbase ?_; intro v5 w5 hown5 hg5 _)
              have hB5 := Lib.hid ((hbl.alloc hbl.size (.cells #[.int .u8 (UB (wb X 24)), .int .u8 (UB (wb X 16)), .int .u8 (UB (wb X 8)), .int .u8 (UB (wb X 0))] 5)).grown hg5 hbase (fun g hg => ((hown.alloc (.cells #[.int .u8 (UB (wb X 24)), .int .u8 (UB (wb X 16)), .int .u8 (UB (wb X 8)), .int .u8 (UB (wb X 0))] 5)).lt g hg).1))
              have hO5 := Lib.hid (show w5.ownsRow w.heap.size 5 1 v5 (outL H2 (j + 1)).length (nums .u8 ((outL H2 (j + 1)).map UB)) by
                rw [HOS.out]
                simpa [nums, four] using hown5)
              clear hown5 hg5 hbase a1 a2 a3 a4 hown hbl
              go_roundw
              case rel => exact ⟨j + 1, _, HLT.out, rfl, by go_num, hO5.out, hB5.out⟩
              case measure =>
                have := HLT.out
                simp [intOf]; omega
            · obtain rfl : j = 8 := by omega
              have hcv := Go.Proofs.YtpegefcpanijhaaW.PrintWords.own_string (P := Try.prog) Try.underlying69 Try.underlying5 Try.underlying9 hown
              have HT := Lib.hid (show strOfNums ((outL H2 8).map UB) = bx (shaL k h s.data.toList) by rw [str_bx, HSH.out])
              rw [HT.out] at hcv
              clear hlt hln hj
              go_wp2_with fail
              go_ret
              exact ⟨rfl, hbl⟩
end Go.Proofs.Ytpegefcpanijhaa
end
section
namespace Go.Proofs.Ytpegefcpanijhaa
set_option linter.unusedVariables false
set_option linter.unusedSimpArgs false
open Go.RowKit Go.Proofs.YtpegefcpanijhaaW.PrintWords Go.Proofs.YtpegefcpanijhaaW.PrintMore PF

theorem m_mask (a : Nat) (ha : a < 18446744073709551616) : Go.bits .and .u64 (a : Int) 4294967295 = ((a % 4294967296 : Nat) : Int) := by
  have h := u64_and_nat a 4294967295 ha (by omega)
  have e : a &&& 4294967295 = a % 4294967296 := Nat.and_two_pow_sub_one_eq_mod a 32
  rw [e] at h
  exact h
theorem m_div (a : Nat) : (a : Int) / 4294967296 = ((a / 4294967296 : Nat) : Int) := by omega
theorem m_mul (a b : Nat) : (a : Int) * (b : Int) = ((a * b : Nat) : Int) := (Int.natCast_mul a b).symm
theorem m_add (a b : Nat) : (a : Int) + (b : Int) = ((a + b : Nat) : Int) := (Int.natCast_add a b).symm
theorem m_wrap (a : Nat) (ha : a < 18446744073709551616) : IntKind.u64.wrap (a : Int) = (a : Int) := by show (a : Int) % 18446744073709551616 = _; omega
theorem m_wrapM (a : Nat) : IntKind.u64.wrap (a : Int) = ((a % 18446744073709551616 : Nat) : Int) := by show (a : Int) % 18446744073709551616 = _; omega

theorem mul64_f (x y : Nat) (hx : x < 18446744073709551616) (hy : y < 18446744073709551616) : bits_Mul64.f (x : Int) (y : Int) = some (((x * y / 18446744073709551616 : Nat) : Int), ((x * y % 18446744073709551616 : Nat) : Int)) := by
  obtain ⟨bd, bt, bw, hhi⟩ := Lib.mul64_hi x y hx hy
  have ba := Lib.half_mul_le (a := x / 4294967296) (b := y / 4294967296) (by omega) (by omega)
  have bb := Lib.half_mul_le (a := x / 4294967296) (b := y % 4294967296) (by omega) (by omega)
  have bc := Lib.half_mul_le (a := x % 4294967296) (b := y / 4294967296) (by omega) (by omega)
  unfold bits_Mul64.f
  rw [m_mask x hx, m_mask y hy, m_div x, m_div y, m_mul (x / 4294967296) (y / 4294967296), m_mul (x / 4294967296) (y % 4294967296), m_mul (x % 4294967296) (y % 4294967296), m_mul (x % 4294967296) (y / 4294967296), m_mul x y]
  rw [m_wrap (x / 4294967296 * (y / 4294967296)) (by omega), m_wrap (x / 4294967296 * (y % 4294967296)) (by omega), m_wrap (x % 4294967296 * (y % 4294967296)) bd, m_wrap (x % 4294967296 * (y / 4294967296)) (by omega), m_div (x % 4294967296 * (y % 4294967296)), m_add (x / 4294967296 * (y % 4294967296)), m_wrap _ bt, m_div, m_mask _ bt, m_add (_ % 4294967296), m_wrap _ bw, m_div, m_add (x / 4294967296 * (y / 4294967296)), m_wrap _ (by omega), m_add, m_wrap _ (by omega), m_wrapM, hhi]
theorem mul64_calls (x y : Nat) (hx : x < 18446744073709551616) (hy : y < 18446744073709551616) (w : World) :
    Calls Try.prog 100 #[.int .u64 x, .int .u64 y] w fun e w' => e = .returned (.tuple #[.int .u64 ((x * y / 18446744073709551616 : Nat) : Int), .int .u64 ((x * y % 18446744073709551616 : Nat) : Int)]) ∧ Drawn0 w w' :=
  bits_Mul64.calls _ _ _ _ w (mul64_f x y hx hy)

theorem add64_run (x y : Nat) (h : x + y < 18446744073709551616) (w : World) : (callFunc 101 #[.int .u64 x, .int .u64 y, .int .u64 0]).run Try.prog w = .ok (.value (.tuple #[.int .u64 ((x + y : Nat) : Int), .int .u64 0])) w := by
  rw [run_callFunc_extern (e := add64Entry) Try.func101 (by kernel_rfl) (by kernel_rfl) (by kernel_rfl) (by kernel_rfl), run_add64 _ _ _ (by omega) (by omega) (by omega) (by omega)]
  have e1 : ((x : Int) + y + 0) % 18446744073709551616 = ((x + y : Nat) : Int) := by omega
  have e2 : ((x : Int) + y + 0) / 18446744073709551616 = 0 := by omega
  rw [e1, e2]
  rfl
/-! cubed -/
theorem drawn_trans {w w1 w2 : World} (h : Drawn0 w w1) (h' : Drawn0 w1 w2) : Drawn0 w w2 := by
  obtain ⟨n, rfl⟩ := h'
  exact h.step n
theorem cube_split (x : Nat) : x * x * x = (x * x % 18446744073709551616 * x / 18446744073709551616 + x * x / 18446744073709551616 * x) * 18446744073709551616 + x * x % 18446744073709551616 * x % 18446744073709551616 := by
  have h1 := Nat.div_add_mod (x * x) 18446744073709551616
  have h2 := Nat.div_add_mod (x * x % 18446744073709551616 * x) 18446744073709551616
  have h3 : x * x * x = (18446744073709551616 * (x * x / 18446744073709551616) + x * x % 18446744073709551616) * x := by rw [h1]
  rw [h3, Nat.add_mul, Nat.mul_assoc]
  generalize x * x / 18446744073709551616 * x = P at *
  generalize x * x % 18446744073709551616 * x = R at *
  omega
theorem cube_le {M B p V : Nat} (hB : B < 18446744073709551616) (hV : V = M / 4294967296) : (M * 18446744073709551616 + B ≤ p * 79228162514264337593543950336) ↔ (V < p ∨ (V = p ∧ M % 4294967296 = 0 ∧ B = 0)) := by
  subst hV
  omega

set_option maxHeartbeats 4000000 in
set_option maxRecDepth 100000 in
theorem cubed_calls (x p : Nat) (hx : x ≤ 68719476736) (hp : p < 4294967296) (w : World) :
    Calls Try.prog 87 #[.int .u64 x, .int .u64 p] w fun e w' => e = .returned (.bool (decide (x * x * x ≤ p * 79228162514264337593543950336))) ∧ Drawn0 w w' := by
  have hxx : x * x ≤ 68719476736 * 68719476736 := Nat.mul_le_mul hx hx
  have hdec := Lib.hid (cube_split x)
  obtain ⟨HI, hHI⟩ : ∃ n, n = x * x / 18446744073709551616 := ⟨_, rfl⟩
  obtain ⟨LO, hLO⟩ : ∃ n, n = x * x % 18446744073709551616 := ⟨_, rfl⟩
  have hLO2 : LO < 18446744073709551616 := by rw [hLO]; exact Nat.mod_lt _ (by decide)
  have hHI2 : HI ≤ 256 := by rw [hHI]; omega
  have hLx : LO * x ≤ 18446744073709551616 * 68719476736 := Nat.mul_le_mul (Nat.le_of_lt hLO2) hx
  have hHx : HI * x ≤ 256 * 68719476736 := Nat.mul_le_mul hHI2 hx
  have c1 := fun w => mul64_calls x x (by omega) (by omega) w
  have c2 := fun w => mul64_calls LO x (by omega) (by omega) w
  have c3 := fun w => mul64_calls HI x (by omega) (by omega) w
  rw [← hHI, ← hLO] at c1
  rw [← hHI, ← hLO] at hdec
  have e0 : HI * x / 18446744073709551616 = 0 := by omega
  have e1 : HI * x % 18446744073709551616 = HI * x := by omega
  rw [e0, e1] at c3
  obtain ⟨A, hA⟩ : ∃ n, n = LO * x / 18446744073709551616 := ⟨_, rfl⟩
  obtain ⟨B, hB⟩ : ∃ n, n = LO * x % 18446744073709551616 := ⟨_, rfl⟩
  obtain ⟨D, hD⟩ : ∃ n, n = HI * x := ⟨_, rfl⟩
  have hA2 : A ≤ 68719476736 := by rw [hA]; omega
  have hB2 : B < 18446744073709551616 := by rw [hB]; exact Nat.mod_lt _ (by decide)
  have hD2 : D ≤ 17592186044416 := by rw [hD]; omega
  rw [← hA, ← hB] at c2 hdec
  rw [← hD] at c3 hdec
  clear hHI hLO hLO2 hHI2 hLx hHx hxx e0 e1 hA hB hD
  have ha := fun w => add64_run A D (by omega) w
  obtain ⟨M, hM⟩ : ∃ n, n = A + D := ⟨_, rfl⟩
  have hM2 : M < 18446744073709551616 := by rw [hM]; omega
  rw [← hM] at ha hdec
  clear hA2 hD2 hM
  obtain ⟨V, hV⟩ : ∃ n, n = M / 4294967296 := ⟨_, rfl⟩
  have hV2 : V < 18446744073709551616 := by omega
  have eV : (M : Int) / 4294967296 = (V : Int) := by omega
  have eO : Go.bits .or .u64 0 (V : Int) = (V : Int) := by
    have := u64_or_nat 0 V (by omega) hV2
    rw [Nat.zero_or] at this
    exact this
  obtain ⟨Z, hZ⟩ : ∃ n, n = M % 4294967296 * 4294967296 := ⟨_, rfl⟩
  have eS : IntKind.u64.wrap ((M : Int) * 4294967296) = (Z : Int) := by
    show (M : Int) * 4294967296 % 18446744073709551616 = (Z : Int)
    omega
  have hle := cube_le (p := p) hB2 hV
  rw [← hdec.out] at hle
  have HZ := Lib.hid hZ
  have HL := Lib.hid hle
  clear hle hZ hV hdec hM2 hB2 hV2 hx hp
  have key : ∀ r1 r2 r3 r4 : Bool, ((Z : Int) != 0) = r1 → ((B : Int) != 0) = r2 → decide ((V : Int) < (p : Int)) = r3 → ((V : Int) == (p : Int)) = r4 → decide (x * x * x ≤ p * 79228162514264337593543950336) = (r3 || (r4 && !(r1 || r2))) := by
    intro r1 r2 r3 r4 h1 h2 h3 h4
    have hl := HL.out
    have hz := HZ.out
    rw [← h1, ← h2, ← h3, ← h4, Bool.eq_iff_iff]
    simp only [decide_eq_true_iff, Bool.or_eq_true, Bool.and_eq_true, Bool.not_eq_true', Bool.or_eq_false_iff, beq_iff_eq, bne_eq_false_iff_eq]
    rw [hl]
    omega
  have HK := Lib.hid key
  clear key HL HZ
  cases h1 : ((Z : Int) != 0) <;> cases h2 : ((B : Int) != 0) <;> cases h3 : decide ((V : Int) < (p : Int)) <;> cases h4 : ((V : Int) == (p : Int))
  all_goals
    rw [HK.out _ _ _ _ h1 h2 h3 h4]
    simp only [Bool.or_false, Bool.or_true, Bool.and_false, Bool.and_true, Bool.not_true, Bool.not_false, Bool.false_or, Bool.true_or, Bool.false_and, Bool.true_and]
    have h3n := (show decide (V < p) = decide ((V : Int) < (p : Int)) from decide_eq_decide.2 (by omega)).trans h3
    have h4n := (show (V == p) = ((V : Int) == (p : Int)) from by rw [Bool.eq_iff_iff, beq_iff_eq, beq_iff_eq]; omega).trans h4
    go_enter Try.func87, Try.ntmps87
    go_wp2_with fail
    refine (c1 _).mono ?_
    rintro e w1 ⟨rfl, hd1⟩
    go_wp2_with fail
    refine (c2 _).mono ?_
    rintro e w2 ⟨rfl, hd2⟩
    go_wp2_with fail
    refine (c3 _).mono ?_
    rintro e w3 ⟨rfl, hd3⟩
    have hd := drawn_trans (drawn_trans hd1 hd2) hd3
    clear hd1 hd2 hd3
    go_wp2_with fail
    go_ret
    exact ⟨rfl, hd⟩

theorem squared_calls (x p : Nat) (hx : x ≤ 68719476736) (hp : p < 4294967296) (w : World) :
    Calls Try.prog 88 #[.int .u64 x, .int .u64 p] w fun e w' => e = .returned (.bool (decide (x * x ≤ p * 18446744073709551616))) ∧ Drawn0 w w' := by
  refine marks_squared.calls _ _ _ w ?_
  unfold marks_squared.f
  rw [mul64_f x x (by omega) (by omega)]
  simp only [Option.bind_some]
  generalize x * x = X
  by_cases h1 : ((X / 18446744073709551616 : Nat) : Int) < (p : Int)
  · rw [if_pos h1, decide_eq_true (by omega)]
  · rw [if_neg h1]
    by_cases h2 : ((X / 18446744073709551616 : Nat) : Int) = (p : Int)
    · rw [if_pos h2]
      congr 1
      rw [Bool.eq_iff_iff, beq_iff_eq, decide_eq_true_iff]
      omega
    · rw [if_neg h2, decide_eq_false (by omega)]
end Go.Proofs.Ytpegefcpanijhaa
end
section
namespace Go.Proofs.Ytpegefcpanijhaa
set_option linter.unusedVariables false
set_option linter.unusedSimpArgs false
open Go.RowKit Go.Proofs.YtpegefcpanijhaaW.PrintWords Go.Proofs.YtpegefcpanijhaaW.PrintMore PF

/-- The search's bounds behind i halvings. -/
def bsI (f : Nat → Bool) : Nat → Nat × Nat
  | 0 => (0, 68719476736)
  | i + 1 => if f (((bsI f i).1 + (bsI f i).2) / 2) then (((bsI f i).1 + (bsI f i).2) / 2, (bsI f i).2) else ((bsI f i).1, ((bsI f i).1 + (bsI f i).2) / 2)
theorem bs_gap (f : Nat → Bool) : ∀ i, i ≤ 36 → (bsI f i).2 = (bsI f i).1 + 2 ^ (36 - i) ∧ (bsI f i).2 ≤ 68719476736 := by
  intro i
  induction i with
  | zero => intro _; exact ⟨by show 68719476736 = 0 + 2 ^ 36; decide, Nat.le_refl _⟩
  | succ i ih =>
    intro h
    obtain ⟨h1, h2⟩ := ih (by omega)
    have h3 : 2 ^ (36 - i) = 2 * 2 ^ (36 - (i + 1)) := by rw [show 36 - i = (36 - (i + 1)) + 1 by omega, Nat.pow_succ]; omega
    generalize 2 ^ (36 - i) = P at h1 h3
    generalize 2 ^ (36 - (i + 1)) = Q at h3 ⊢
    unfold bsI
    split
    · exact ⟨by show _ = _ + _; simp only; omega, by simp only; omega⟩
    · exact ⟨by show _ = _ + _; simp only; omega, by simp only; omega⟩
def rootC (p : Nat) : W32 := BitVec.ofNat 32 (bsI (fun x => decide (x * x * x ≤ p * 79228162514264337593543950336)) 36).1
def rootS (p : Nat) : W32 := BitVec.ofNat 32 (bsI (fun x => decide (x * x ≤ p * 18446744073709551616)) 36).1
theorem low_word (n : Nat) : (n : Int) % (4294967296 : Int) = U (BitVec.ofNat 32 n) := by
  unfold U
  rw [BitVec.toNat_ofNat]
  omega

set_option maxHeartbeats 400000 in
set_option maxRecDepth 100000 in
theorem rootC_calls (p : Nat) (hp : p < 4294967296) (w : World) :
    Calls Try.prog 86 #[.int .u64 p, .func (.func 87) #[] #[]] w fun e w' => e = .returned (.int .u32 (U (rootC p))) ∧ Drawn0 w w' := by
  have hc := fun (x : Nat) (hx : x ≤ 68719476736) (w : World) => cubed_calls x p hx hp w
  have HR := Lib.hid (show rootC p = BitVec.ofNat 32 (bsI (fun x => decide (x * x * x ≤ p * 79228162514264337593543950336)) 36).1 from rfl)
  rw [HR.out]
  obtain ⟨f, hf⟩ : ∃ f : Nat → Bool, f = fun x => decide (x * x * x ≤ p * 79228162514264337593543950336) := ⟨_, rfl⟩
  replace hc : ∀ (x : Nat), x ≤ 68719476736 → ∀ w : World, Calls Try.prog 87 #[.int .u64 x, .int .u64 p] w fun e w' => e = .returned (.bool (f x)) ∧ Drawn0 w w' := by rw [hf]; exact hc
  rw [← hf]
  clear hf HR hp
  go_enter Try.func86, Try.ntmps86
  go_wp2_with fail
  go_loopw [5, 6] (fun lo hi wr => ∃ i : Nat, i ≤ 36 ∧ lo = .int .u64 ((bsI f i).1 : Int) ∧ hi = .int .u64 ((bsI f i).2 : Int) ∧ Drawn0 w wr) (fun lo hi _ => ((intOf hi) - (intOf lo)).toNat)
  case atStart => exact ⟨0, Nat.zero_le _, rfl, rfl, Drawn0.refl w⟩
  case round =>
    obtain ⟨i, hi, rfl, rfl, hd⟩ := hrel
    obtain ⟨g1, g2⟩ := bs_gap f i hi
    have HN : i < 36 → Hid (bsI f (i + 1) = if f (((bsI f i).1 + (bsI f i).2) / 2) then (((bsI f i).1 + (bsI f i).2) / 2, (bsI f i).2) else ((bsI f i).1, ((bsI f i).1 + (bsI f i).2) / 2)) := fun _ => Lib.hid rfl
    by_cases hlt : i < 36
    · have g3 : 2 ≤ 2 ^ (36 - i) := by
        rw [show 36 - i = (36 - (i + 1)) + 1 by omega, Nat.pow_succ]
        have := Nat.one_le_two_pow (n := 36 - (i + 1))
        omega
      have HN := HN hlt
      have HLT := Lib.hid hlt
      generalize (bsI f i).1 = L at g1 HN ⊢
      generalize (bsI f i).2 = H at g1 g2 HN ⊢
      generalize 2 ^ (36 - i) = G at g1 g3
      have e1 : IntKind.u64.wrap (G : Int) = (G : Int) := by show (G : Int) % 18446744073709551616 = _; omega
      have e2 : (H : Int) - (L : Int) = (G : Int) := by omega
      have z1 : (1 : Int) < (G : Int) := by omega
      obtain ⟨S, hS⟩ : ∃ S, S = L + H := ⟨_, rfl⟩
      have e3 : IntKind.u64.wrap (S : Int) = (S : Int) := by show (S : Int) % 18446744073709551616 = _; omega
      have e4 : (L : Int) + (H : Int) = (S : Int) := by omega
      rw [← hS] at HN
      obtain ⟨M, hM⟩ : ∃ M, M = S / 2 := ⟨_, rfl⟩
      have e5 : (S : Int) / 2 = (M : Int) := by omega
      have e6 : Int.tdiv (S : Int) 2 = (M : Int) := by rw [hM]; rfl
      have e7 : IntKind.u64.wrap (M : Int) = (M : Int) := by show (M : Int) % 18446744073709551616 = _; omega
      have hcM := hc M (by omega)
      have hmeas := Lib.hid (show L < M ∧ M < H by omega)
      rw [← hM] at HN
      clear g1 g2 g3 hS hM hlt
      go_wp2_with fail
      (with_reducible refine (hcM _).mono ?_)
      rintro e w1 ⟨rfl, hd1⟩
      have hd2 := drawn_trans hd hd1
      clear hd1 hd hcM
      cases hb : f M
      · have HE := Lib.hid (show bsI f (i + 1) = (L, M) by rw [HN.out, hb]; rfl)
        go_wp2_with fail
        go_roundw
        case rel => exact ⟨i + 1, HLT.out, by rw [HE.out], by rw [HE.out], hd2⟩
        case measure =>
          have := hmeas.out
          simp [intOf]; omega
      · have HE := Lib.hid (show bsI f (i + 1) = (M, H) by rw [HN.out, hb]; rfl)
        go_wp2_with fail
        go_roundw
        case rel => exact ⟨i + 1, HLT.out, by rw [HE.out], by rw [HE.out], hd2⟩
        case measure =>
          have := hmeas.out
          simp [intOf]; omega
    · obtain rfl : i = 36 := by omega
      obtain ⟨L, hL⟩ : ∃ L, L = (bsI f 36).1 := ⟨_, rfl⟩
      have HW := Lib.hid (show (L : Int) % (4294967296 : Int) = U (BitVec.ofNat 32 (bsI f 36).1) by rw [hL]; exact low_word _)
      rw [← hL] at g1 HN ⊢
      clear hL
      generalize (bsI f 36).2 = H at g1 g2 HN ⊢
      have e1 : IntKind.u64.wrap 1 = 1 := by decide
      have e2 : (H : Int) - (L : Int) = 1 := by omega
      clear g1 g2 hlt HN
      go_wp2_with fail
      go_ret
      exact ⟨congrArg (fun v => Ending.returned (.int .u32 v)) HW.out, hd⟩

set_option maxHeartbeats 400000 in
set_option maxRecDepth 100000 in
theorem rootS_calls (p : Nat) (hp : p < 4294967296) (w : World) :
    Calls Try.prog 86 #[.int .u64 p, .func (.func 88) #[] #[]] w fun e w' => e = .returned (.int .u32 (U (rootS p))) ∧ Drawn0 w w' := by
  have hc := fun (x : Nat) (hx : x ≤ 68719476736) (w : World) => squared_calls x p hx hp w
  have HR := Lib.hid (show rootS p = BitVec.ofNat 32 (bsI (fun x => decide (x * x ≤ p * 18446744073709551616)) 36).1 from rfl)
  rw [HR.out]
  obtain ⟨f, hf⟩ : ∃ f : Nat → Bool, f = fun x => decide (x * x ≤ p * 18446744073709551616) := ⟨_, rfl⟩
  replace hc : ∀ (x : Nat), x ≤ 68719476736 → ∀ w : World, Calls Try.prog 88 #[.int .u64 x, .int .u64 p] w fun e w' => e = .returned (.bool (f x)) ∧ Drawn0 w w' := by rw [hf]; exact hc
  rw [← hf]
  clear hf HR hp
  go_enter Try.func86, Try.ntmps86
  go_wp2_with fail
  go_loopw [5, 6] (fun lo hi wr => ∃ i : Nat, i ≤ 36 ∧ lo = .int .u64 ((bsI f i).1 : Int) ∧ hi = .int .u64 ((bsI f i).2 : Int) ∧ Drawn0 w wr) (fun lo hi _ => ((intOf hi) - (intOf lo)).toNat)
  case atStart => exact ⟨0, Nat.zero_le _, rfl, rfl, Drawn0.refl w⟩
  case round =>
    obtain ⟨i, hi, rfl, rfl, hd⟩ := hrel
    obtain ⟨g1, g2⟩ := bs_gap f i hi
    have HN : i < 36 → Hid (bsI f (i + 1) = if f (((bsI f i).1 + (bsI f i).2) / 2) then (((bsI f i).1 + (bsI f i).2) / 2, (bsI f i).2) else ((bsI f i).1, ((bsI f i).1 + (bsI f i).2) / 2)) := fun _ => Lib.hid rfl
    by_cases hlt : i < 36
    · have g3 : 2 ≤ 2 ^ (36 - i) := by
        rw [show 36 - i = (36 - (i + 1)) + 1 by omega, Nat.pow_succ]
        have := Nat.one_le_two_pow (n := 36 - (i + 1))
        omega
      have HN := HN hlt
      have HLT := Lib.hid hlt
      generalize (bsI f i).1 = L at g1 HN ⊢
      generalize (bsI f i).2 = H at g1 g2 HN ⊢
      generalize 2 ^ (36 - i) = G at g1 g3
      have e1 : IntKind.u64.wrap (G : Int) = (G : Int) := by show (G : Int) % 18446744073709551616 = _; omega
      have e2 : (H : Int) - (L : Int) = (G : Int) := by omega
      have z1 : (1 : Int) < (G : Int) := by omega
      obtain ⟨S, hS⟩ : ∃ S, S = L + H := ⟨_, rfl⟩
      have e3 : IntKind.u64.wrap (S : Int) = (S : Int) := by show (S : Int) % 18446744073709551616 = _; omega
      have e4 : (L : Int) + (H : Int) = (S : Int) := by omega
      rw [← hS] at HN
      obtain ⟨M, hM⟩ : ∃ M, M = S / 2 := ⟨_, rfl⟩
      have e5 : (S : Int) / 2 = (M : Int) := by omega
      have e6 : Int.tdiv (S : Int) 2 = (M : Int) := by rw [hM]; rfl
      have e7 : IntKind.u64.wrap (M : Int) = (M : Int) := by show (M : Int) % 18446744073709551616 = _; omega
      have hcM := hc M (by omega)
      have hmeas := Lib.hid (show L < M ∧ M < H by omega)
      rw [← hM] at HN
      clear g1 g2 g3 hS hM hlt
      go_wp2_with fail
      (with_reducible refine (hcM _).mono ?_)
      rintro e w1 ⟨rfl, hd1⟩
      have hd2 := drawn_trans hd hd1
      clear hd1 hd hcM
      cases hb : f M
      · have HE := Lib.hid (show bsI f (i + 1) = (L, M) by rw [HN.out, hb]; rfl)
        go_wp2_with fail
        go_roundw
        case rel => exact ⟨i + 1, HLT.out, by rw [HE.out], by rw [HE.out], hd2⟩
        case measure =>
          have := hmeas.out
          simp [intOf]; omega
      · have HE := Lib.hid (show bsI f (i + 1) = (M, H) by rw [HN.out, hb]; rfl)
        go_wp2_with fail
        go_roundw
        case rel => exact ⟨i + 1, HLT.out, by rw [HE.out], by rw [HE.out], hd2⟩
        case measure =>
          have := hmeas.out
          simp [intOf]; omega
    · obtain rfl : i = 36 := by omega
      obtain ⟨L, hL⟩ : ∃ L, L = (bsI f 36).1 := ⟨_, rfl⟩
      have HW := Lib.hid (show (L : Int) % (4294967296 : Int) = U (BitVec.ofNat 32 (bsI f 36).1) by rw [hL]; exact low_word _)
      rw [← hL] at g1 HN ⊢
      clear hL
      generalize (bsI f 36).2 = H at g1 g2 HN ⊢
      have e1 : IntKind.u64.wrap 1 = 1 := by decide
      have e2 : (H : Int) - (L : Int) = 1 := by omega
      clear g1 g2 hlt HN
      go_wp2_with fail
      go_ret
      exact ⟨congrArg (fun v => Ending.returned (.int .u32 v)) HW.out, hd⟩
end Go.Proofs.Ytpegefcpanijhaa
end
section
namespace Go.Proofs.Ytpegefcpanijhaa
set_option linter.unusedVariables false
set_option linter.unusedSimpArgs false
open Go.RowKit Go.Proofs.YtpegefcpanijhaaW.PrintWords Go.Proofs.YtpegefcpanijhaaW.PrintMore PF

def stepP (acc : List Nat) (x : Nat) : List Nat := if acc.all (fun p => decide (x % p ≠ 0)) then acc ++ [x] else acc
/-- The primes below t + 2. -/
def seqP : Nat → List Nat
  | 0 => []
  | t + 1 => stepP (seqP t) (t + 2)
theorem seqP_le (t : Nat) : (seqP t).length ≤ (seqP (t + 1)).length := by
  show _ ≤ (stepP (seqP t) (t + 2)).length
  unfold stepP
  split
  · rw [List.length_append]; omega
  · exact Nat.le_refl _
theorem seqP_mono {s t : Nat} (h : s ≤ t) : (seqP s).length ≤ (seqP t).length := by
  induction h with
  | refl => exact Nat.le_refl _
  | step _ ih => exact Nat.le_trans ih (seqP_le _)
theorem seqP_ge (t : Nat) : ∀ p ∈ seqP t, 2 ≤ p ∧ p < t + 2 := by
  induction t with
  | zero => intro p h; simp [seqP] at h
  | succ t ih =>
    intro p h
    change p ∈ stepP (seqP t) (t + 2) at h
    unfold stepP at h
    split at h
    · rcases List.mem_append.1 h with h | h
      · have := ih p h; omega
      · have := List.mem_singleton.1 h; omega
    · have := ih p h; omega
theorem seqP_309 : (seqP 309).length = 63 := by decide +kernel
theorem seqP_310 : (seqP 310).length = 64 := by decide +kernel
theorem seqP_lt {t : Nat} (h : t ≤ 310) (h2 : (seqP t).length < 64) : t < 310 := by
  apply Classical.byContradiction
  intro h3
  obtain rfl : t = 310 := by omega
  rw [seqP_310] at h2
  omega
theorem seqP_end {t : Nat} (h : t ≤ 310) (h2 : (seqP t).length = 64) : t = 310 := by
  apply Classical.byContradiction
  intro h3
  have := seqP_mono (s := t) (t := 309) (by omega)
  rw [seqP_309] at this
  omega

def cellP (p : Nat) : Value := .int .u64 (p : Int)
def outRow (acc : List Nat) : Array Value := (acc.map cellP ++ List.replicate (64 - acc.length) (Value.int .u64 0)).toArray
theorem outRow_size {acc : List Nat} (h : acc.length ≤ 64) : (outRow acc).size = 64 := by
  simp [outRow]
  omega
theorem outRow_get {acc : List Nat} {i : Nat} (h : i < acc.length) : (outRow acc)[i]? = some (.int .u64 ((acc[i] : Nat) : Int)) := by
  simp [outRow, List.getElem?_append_left, h, cellP]
theorem outRow_next {acc : List Nat} (h : acc.length < 64) : (outRow acc)[acc.length]? = some (.int .u64 0) := by
  unfold outRow
  rw [List.getElem?_toArray, List.getElem?_append_right (by rw [List.length_map]; exact Nat.le_refl _), List.length_map, Nat.sub_self, List.getElem?_replicate, if_pos (by omega)]
theorem outRow_zero {acc : List Nat} {i : Nat} (h : acc.length ≤ i) (h2 : i < 64) : (outRow acc)[i]? = some (.int .u64 0) := by
  unfold outRow
  rw [List.getElem?_toArray, List.getElem?_append_right (by rw [List.length_map]; exact h), List.length_map, List.getElem?_replicate, if_pos (by omega)]
theorem outRow_set {acc : List Nat} (h : acc.length < 64) (x : Nat) : (outRow acc).setIfInBounds acc.length (.int .u64 (x : Int)) = outRow (acc ++ [x]) := by
  apply Array.ext_getElem?
  intro i
  by_cases hi : i = acc.length
  · subst hi
    rw [Array.getElem?_setIfInBounds_self_of_lt (by rw [outRow_size (Nat.le_of_lt h)]; exact h), outRow_get (by rw [List.length_append]; simp)]
    simp
  · rw [Array.getElem?_setIfInBounds_ne (Ne.symm hi)]
    by_cases h1 : i < acc.length
    · rw [outRow_get h1, outRow_get (by rw [List.length_append]; omega), List.getElem_append_left h1]
    · by_cases h2 : i < 64
      · rw [outRow_zero (by omega) h2, outRow_zero (by rw [List.length_append]; simp; omega) h2]
      · rw [Array.getElem?_eq_none (by rw [outRow_size (Nat.le_of_lt h)]; omega), Array.getElem?_eq_none (by rw [outRow_size (by rw [List.length_append]; simp; omega)]; omega)]

theorem arow_one (l : List Nat) : (outRow l).all (·.oneCell') = true := by
  rw [Array.all_eq_true_iff_forall_mem]
  intro x hx
  unfold outRow at hx
  rw [List.mem_toArray, List.mem_append] at hx
  rcases hx with h | h
  · obtain ⟨p, _, rfl⟩ := List.mem_map.1 h
    rfl
  · rw [(List.mem_replicate.1 h).2]
    rfl
theorem sr_below {n b : Nat} {w0 w : World} (h : Below n w0 w) (hn : n ≤ b) (cs : Array Value) : Below n w0 (w.setRow b cs) :=
  ⟨h.os, h.tape, h.output, by rw [setRow_size]; exact h.size, fun k hk => (setRow_other w b k cs (by omega)).trans (h.block k hk)⟩
theorem ret_arr {fn : Func} {R : Ending → World → Prop} {tm : Array Value} {w : World} {p : Tmp} {g : Nat} {ty t : TypeId} {cs : Array Value} {fr : Nat × Nat} {n : Nat} {e : TypeId} (h : fn.results = #[.cell p ty]) (hp : tm.getD p undef = .pointer (some ⟨g, 0, none⟩)) (hg : w.heap[g]? = some (.cells cs t fr))
    (hu : Try.prog.underlying ty = some (.array n e)) (hi : (Try.prog.info? ty).map (·.size) = some cs.size) (hR : R (.returned (.agg cs)) w) : bodyPost Try.prog fn R .ret { tmps := tm, defers := [] } w :=
  bodyPost_ret (results_cell_row h tm w g t cs fr _ hp hg hu rfl hi) rfl hR

set_option maxHeartbeats 1000000 in
set_option maxRecDepth 100000 in
theorem primes_calls (w : World) :
    Calls Try.prog 85 #[] w fun e w' => e = .returned (.agg (outRow (seqP 310))) ∧ Below w.heap.size w w' := by
  go_enter Try.func85, Try.ntmps85
  go_wp2
  go_step3
  go_wp2
  go_step3
  go_wp2
  have hz : outRow [] = Array.replicate 64 (Value.int .u64 0) := by kernel_rfl
  have e2 : ((w.alloc (.cells (outRow []) 111)).alloc (.cells (outRow []) 111)).heap.size = w.heap.size + 1 + 1 := by simp
  change Code.wp _ _ _ _ ((w.alloc (.cells (outRow []) 111)).alloc (.cells (outRow []) 111))
  have hR := blk_alloc (heap_alloc_new w (.cells (outRow []) 111)) (.cells (outRow []) 111)
  have hb : ((w.alloc (.cells (outRow []) 111)).alloc (.cells (outRow []) 111)).heap[w.heap.size + 1]? = some (.cells (outRow []) 111 (0, 0)) := by
    have h := heap_alloc_new (w.alloc (.cells (outRow []) 111)) (.cells (outRow []) 111)
    rwa [show (w.alloc (.cells (outRow []) 111)).heap.size = w.heap.size + 1 by simp] at h
  have hB : Below w.heap.size w ((w.alloc (.cells (outRow []) 111)).alloc (.cells (outRow []) 111)) := ((Below.refl _ _).alloc (Nat.le_refl _) _).alloc (by simp) _
  generalize (w.alloc (.cells (outRow []) 111)).alloc (.cells (outRow []) 111) = w0 at hR hb hB ⊢
  obtain ⟨R, hRR⟩ : ∃ R, R = w.heap.size := ⟨_, rfl⟩
  obtain ⟨b, hbb⟩ : ∃ b, b = w.heap.size + 1 := ⟨_, rfl⟩
  rw [← hbb, ← hRR]
  rw [← hRR] at hR
  rw [← hbb] at hb
  have hne : R ≠ b := by omega
  have HG := Lib.hid (show w.heap.size ≤ R ∧ w.heap.size ≤ b by omega)
  clear hRR hbb e2 hz
  go_loopg [2, 3] 310 (fun g n x wr => ∃ (t : Nat) (acc : List Nat), t + g = 310 ∧ Hid (acc = seqP t) ∧ acc.length ≤ 64 ∧ n = .int .i64 (acc.length : Int) ∧ x = .int .u64 ((t + 2 : Nat) : Int) ∧ wr.heap[R]? = some (.cells (outRow []) 111 (0, 0)) ∧ wr.heap[b]? = some (.cells (outRow acc) 111 (0, 0)) ∧ Below w.heap.size w wr)
  case atStart => exact ⟨0, [], rfl, Lib.hid rfl, by decide, rfl, rfl, hR, hb, hB⟩
  case round =>
    clear hR hb hB
    obtain ⟨t, acc, htg, HA, hl, rfl, rfl, hR, hb, hB⟩ := hrel
    by_cases hlt : acc.length < 64
    · have ht : t < 310 := seqP_lt (by omega) (by rw [← HA.out]; exact hlt)
      cases gk with
      | zero => omega
      | succ g1 =>
        have HGE := Lib.hid (show ∀ p ∈ acc, 2 ≤ p ∧ p < t + 2 by rw [HA.out]; exact seqP_ge t)
        have HT := Lib.hid (And.intro ht htg)
        have HL := Lib.hid hlt
        have z0 : (0 : Int) ≤ (acc.length : Int) := by omega
        have z1 : (acc.length : Int) < 64 := by omega
        have z2 : (acc.length : Int) ≤ 64 := by omega
        obtain ⟨X, hX⟩ : ∃ X, X = t + 2 := ⟨_, rfl⟩
        rw [← hX]
        have HX := Lib.hid hX
        clear ht htg hlt hl hX
        go_upto_region 7 with (fail)
        obtain ⟨wo, hwo⟩ : ∃ wo : World, wo = wr := ⟨_, rfl⟩
        subst hwo
        go_loopg [13] acc.length (fun g2 i w' => ∃ k : Nat, k + g2 = acc.length ∧ i = .int .i64 k ∧ Hid (∀ p ∈ acc.take k, X % p ≠ 0) ∧ w' = wo)
        case atStart => exact ⟨0, by omega, rfl, Lib.hid (by simp), rfl⟩
        case round =>
          obtain ⟨k, hk, rfl, HD, rfl⟩ := hrel
          have hw3 : IntKind.u64.wrap ((X : Int) + 1) = ((t + 1 + 2 : Nat) : Int) := by
            have h1 := HX.out
            have h2 := HT.out
            show ((X : Int) + 1) % 18446744073709551616 = _
            omega
          by_cases hk2 : k < acc.length
          · obtain ⟨g3, rfl⟩ : ∃ m, gk = m + 1 := ⟨gk - 1, by omega⟩
            obtain ⟨P, hP⟩ : ∃ P, P = acc[k] := ⟨_, rfl⟩
            have hP2 : 2 ≤ P := by rw [hP]; exact (HGE.out _ (List.getElem_mem hk2)).1
            have HTK := Lib.hid (show acc.take (k + 1) = acc.take k ++ [P] by rw [List.take_succ_eq_append_getElem hk2, hP])
            have hc := (blk_cell hb k).trans (outRow_get hk2)
            rw [← hP] at hc
            have z3 : (k : Int) < (acc.length : Int) := by omega
            have z4 : (0 : Int) ≤ (k : Int) := by omega
            have z5 : ((P : Int) == 0) = false := by rw [beq_eq_false_iff_ne]; omega
            obtain ⟨D, hD⟩ : ∃ D, D = X % P := ⟨_, rfl⟩
            have z6 : Int.tmod (X : Int) (P : Int) = (D : Int) := by rw [hD]; rfl
            have z7 : (X : Int) % (P : Int) = (D : Int) := by rw [hD]; exact (Int.natCast_emod X P).symm
            have z8 : ¬ (P : Int) = 0 := by omega
            have z9 : ¬ P = 0 := by omega
            have hk9 : k + 1 + g3 = acc.length := by omega
            clear hP hP2 hk hk2
            by_cases hr : X % P = 0
            · have e1 : ((D : Int) == 0) = true := by rw [hD, hr]; rfl
              have e1' : (D == 0) = true := by rw [hD, hr]; rfl
              have HE := Lib.hid (show acc = seqP (t + 1) by
                show acc = stepP (seqP t) (t + 2)
                unfold stepP
                rw [← HA.out, ← HX.out, if_neg]
                intro h
                have := List.all_eq_true.1 h P (List.mem_of_mem_take (i := k + 1) (by rw [HTK.out]; simp))
                simp [hr] at this)
              clear hr hD
              go_wp2_with fail
              go_roundg g1
              case measure => omega
              case rel => exact ⟨t + 1, acc, by have := HT.out; omega, HE, Nat.le_of_lt HL.out, rfl, by go_num, hR, hb, hB⟩
            · have e1 : ((D : Int) == 0) = false := by rw [beq_eq_false_iff_ne]; omega
              have e1' : (D == 0) = false := by rw [beq_eq_false_iff_ne]; omega
              have HD2 := Lib.hid (show ∀ p ∈ acc.take (k + 1), X % p ≠ 0 by
                rw [HTK.out]
                intro p hp
                rcases List.mem_append.1 hp with h | h
                · exact HD.out p h
                · rw [List.mem_singleton.1 h]; exact hr)
              clear hr hD
              go_wp2_with fail
              go_roundg g3
              case measure => omega
              case rel => exact ⟨k + 1, hk9, by go_num, HD2, rfl⟩
          · obtain rfl : k = acc.length := by omega
            have HE := Lib.hid (show acc ++ [X] = seqP (t + 1) by
              show acc ++ [X] = stepP (seqP t) (t + 2)
              unfold stepP
              rw [← HA.out, ← HX.out, if_pos]
              rw [List.all_eq_true]
              intro p hp
              have := HD.out p (by rw [List.take_length]; exact hp)
              simpa using this)
            have hc := (blk_cell hb acc.length).trans (outRow_next HL.out)
            have hf := blk_frozen hb acc.length
            have hb2 := Lib.hid (blk_put hb acc.length (.int .u64 (X : Int)) (outRow_set HL.out X))
            have hR2 := Lib.hid (blk_far (p := ⟨b, acc.length, none⟩) hR hne (.int .u64 (X : Int)))
            have hB2 := Lib.hid (hB.setCell (p := ⟨b, acc.length, none⟩) HG.out.2 (.int .u64 (X : Int)))
            have z9 : ¬ (acc.length : Int) < (acc.length : Int) := by omega
            clear hk hk2 hb hR hB
            go_wp2_with fail
            go_roundg g1
            case measure => omega
            case rel => exact ⟨t + 1, acc ++ [X], by have := HT.out; omega, HE, by have := HL.out; rw [List.length_append]; simp; omega, by rw [List.length_append]; go_num, by go_num, hR2.out, hb2.out, hB2.out⟩
    · have h64 : acc.length = 64 := by omega
      obtain rfl : t = 310 := seqP_end (by omega) (by rw [← HA.out]; exact h64)
      have hsz : (outRow acc).size = 64 := outRow_size (by omega)
      have hi : (Try.prog.info? 111).map (·.size) = some (outRow acc).size := by rw [hsz]; kernel_rfl
      have HI := Lib.hid hi
      have z1 : ¬ (acc.length : Int) < 64 := by omega
      have HSZ := Lib.hid hsz
      clear hi hsz hlt hl htg h64
      go_upto_region 13 with (fail)
      go_wp2_with (first | (refine wpList_load_row rfl 111 (.tmp 1) rfl b rfl 111 (outRow acc) (0, 0) _ hb Try.underlying111 rfl HI.out ?_) | (refine wpList_store_row rfl 111 (.tmp 0) (.tmp 27) rfl R (outRow acc) rfl rfl 111 (outRow []) hR HI.out (by rw [HSZ.out]; exact outRow_size (by decide)) (arow_one _) ?_))
      refine ret_arr (p := 0) (g := R) rfl rfl (setRow_heap wr R _ _ _ _ hR) Try.underlying111 HI.out ?_
      rw [HA.out]
      exact ⟨rfl, sr_below hB HG.out.1 _⟩
end Go.Proofs.Ytpegefcpanijhaa
end
section
namespace Go.Proofs.Ytpegefcpanijhaa
set_option linter.unusedVariables false
set_option linter.unusedSimpArgs false
open Go.RowKit Go.Proofs.YtpegefcpanijhaaW.PrintWords Go.Proofs.YtpegefcpanijhaaW.PrintLast Go.Proofs.YtpegefcpanijhaaW.PrintMore PF

/-- The j-th prime. -/
def prN (j : Nat) : Nat := (seqP 310).getD j 0
/-- The words that each round adds, and those at first. -/
def Kc : Nat → W32 := fun j => rootC (prN j)
def Hc : V8 := fun j => rootS (prN j)
theorem prN_lt (j : Nat) : prN j < 4294967296 := by
  unfold prN
  have hg := seqP_ge 310
  generalize seqP 310 = l at hg ⊢
  by_cases h : j < l.length
  · rw [List.getD_eq_getElem?_getD, List.getElem?_eq_getElem h, Option.getD_some]
    have := (hg _ (List.getElem_mem h)).2
    omega
  · rw [List.getD_eq_getElem?_getD, List.getElem?_eq_none (by omega), Option.getD_none]
    decide
/-- The primes' row. -/
def PR : Array Value := outRow (seqP 310)
theorem primes_row (w : World) : Calls Try.prog 85 #[] w fun e w' => e = .returned (.agg PR) ∧ Below w.heap.size w w' := primes_calls w
theorem PR_size : PR.size = 64 := outRow_size (by rw [seqP_310]; exact Nat.le_refl _)
theorem PR_one : PR.all (·.oneCell') = true := arow_one _
theorem pr_cell {j : Nat} (h : j < 64) : PR[j]? = some (.int .u64 (prN j : Int)) := by
  unfold PR
  have hl := seqP_310
  unfold prN
  generalize seqP 310 = l at hl ⊢
  have h2 : j < l.length := by omega
  rw [outRow_get h2, List.getD_eq_getElem?_getD, List.getElem?_eq_getElem h2, Option.getD_some]
/-- The first i words of a table. -/
def part (K : Nat → W32) (i : Nat) : Nat → W32 := fun j => if j < i then K j else 0
theorem part_step (K : Nat → W32) (j : Nat) : (fun i => if i = j then K j else part K j i) = part K (j + 1) := by
  funext i
  unfold part
  by_cases e : i = j
  · subst e
    rw [if_pos rfl, if_pos (Nat.lt_succ_self i)]
  · rw [if_neg e]
    by_cases h1 : i < j
    · rw [if_pos h1, if_pos (by omega)]
    · rw [if_neg h1, if_neg (by omega)]
theorem part_full (K : Nat → W32) (n : Nat) : rowN n (part K n) = rowN n K := rowN_congr (fun j h => by unfold part; rw [if_pos h])
theorem rowN_one (n : Nat) (v : Nat → W32) : (rowN n v).all (·.oneCell') = true := by
  rw [Array.all_eq_true_iff_forall_mem]
  intro x hx
  unfold rowN at hx
  rw [List.mem_toArray] at hx
  obtain ⟨p, _, rfl⟩ := List.mem_map.1 hx
  rfl

theorem results_two {fn : Func} {p q : Tmp} {ty ty2 : TypeId} (h : fn.results = #[.cell p ty, .cell q ty2]) (tmps : Array Value) (w : World) (g g2 : Nat) (t t2 : TypeId) (cs cs2 : Array Value) (n n2 : Nat) (e e2 : TypeId)
    (hp : tmps.getD p undef = .pointer (some ⟨g, 0, none⟩)) (hg : w.heap[g]? = some (.cells cs t (0, 0))) (hu : Try.prog.underlying ty = some (.array n e)) (hi : (Try.prog.info? ty).map (·.size) = some cs.size)
    (hq : tmps.getD q undef = .pointer (some ⟨g2, 0, none⟩)) (hg2 : w.heap[g2]? = some (.cells cs2 t2 (0, 0))) (hu2 : Try.prog.underlying ty2 = some (.array n2 e2)) (hi2 : (Try.prog.info? ty2).map (·.size) = some cs2.size) :
    (results fn tmps).run Try.prog w = .ok (.tuple #[.agg cs, .agg cs2]) w := by
  have hp' : tmps[p]?.getD undef = .pointer (some ⟨g, 0, none⟩) := by simpa using hp
  have hq' : tmps[q]?.getD undef = .pointer (some ⟨g2, 0, none⟩) := by simpa using hq
  simp [results, h, hp', hq', asAddr, run_loadVar_row w g t ty cs (0, 0) _ hg hu rfl hi, run_loadVar_row w g2 t2 ty2 cs2 (0, 0) _ hg2 hu2 rfl hi2]
theorem run_load_arr {o : Oper} {x : Operand} {a : Act} {w : World} {g n : Nat} {ty e : TypeId} {cs : Array Value} (ho : o.op = .load ty x) (hx : a.eval x = .pointer (some ⟨g, 0, none⟩)) (hg : w.heap[g]? = some (.cells cs ty (0, 0)))
    (hu : Try.prog.underlying ty = some (.array n e)) (hi : (Try.prog.info? ty).map (·.size) = some cs.size) :
    (execOp a.eval o).run Try.prog w = .ok (.value (.agg cs)) w := by
  have h := run_loadVar_row (P := Try.prog) w g ty ty cs (0, 0) _ hg hu rfl hi
  unfold execOp
  simp only [ho, hx, Instr.loadAt, Instr.sureAddr, Sem.run_bind, Sem.run_pure, Result.andThen_ok, h]
theorem run_store_arr {o : Oper} {x y : Operand} {a : Act} {w : World} {g : Nat} {ty : TypeId} {cs old : Array Value} (ho : o.op = .store ty x y) (hx : a.eval x = .pointer (some ⟨g, 0, none⟩)) (hy : a.eval y = .agg cs) (hg : w.heap[g]? = some (.cells old ty (0, 0)))
    (hi : (Try.prog.info? ty).map (·.size) = some cs.size) (hold : old.size = cs.size) (h1 : cs.all (·.oneCell') = true) :
    (execOp a.eval o).run Try.prog w = .ok .skip (w.setRow g cs) := by
  have h := run_storeVar_row (P := Try.prog) w g ty ty old cs hg hi hold h1
  unfold execOp
  simp only [ho, hx, hy, Instr.storeAt, Instr.sureAddr, Sem.run_bind, Sem.run_pure, Result.andThen_ok, h]

/-- How far tables is. -/
structure TabSt (w wr : World) (a b p i j : Nat) : Prop where
  ka : wr.heap[a]? = some (.cells (rowN 64 (part Kc i)) 57 (0, 0))
  hb : wr.heap[b]? = some (.cells (rowN 8 (part Hc j)) 58 (0, 0))
  pp : wr.heap[p]? = some (.cells PR 111 (0, 0))
  bel : Below w.heap.size w wr
  ga : w.heap.size ≤ a
  gb : w.heap.size ≤ b
  ab : a ≠ b
  ap : a ≠ p
  bp : b ≠ p
namespace TabSt
variable {w wr w1 : World} {a b p i j : Nat}
theorem below (h : TabSt w wr a b p i j) (hb : Below wr.heap.size wr w1) : TabSt w w1 a b p i j :=
  ⟨blk_below h.ka hb, blk_below h.hb hb, blk_below h.pp hb, h.bel.trans (hb.mono h.bel.size), h.ga, h.gb, h.ab, h.ap, h.bp⟩
theorem setK (h : TabSt w wr a b p i j) (hi : i < 64) : TabSt w (wr.setCell ⟨a, i, none⟩ (cellU (Kc i))) a b p (i + 1) j :=
  ⟨blk_put h.ka i _ (by rw [rowN_set _ hi, part_step]), blk_far h.hb h.ab.symm _, blk_far h.pp h.ap.symm _, h.bel.setCell h.ga _, h.ga, h.gb, h.ab, h.ap, h.bp⟩
theorem setH (h : TabSt w wr a b p i j) (hj : j < 8) : TabSt w (wr.setCell ⟨b, j, none⟩ (cellU (Hc j))) a b p i (j + 1) :=
  ⟨blk_far h.ka h.ab _, blk_put h.hb j _ (by rw [rowN_set _ hj, part_step]), blk_far h.pp h.bp.symm _, h.bel.setCell h.gb _, h.ga, h.gb, h.ab, h.ap, h.bp⟩
theorem putK (h : TabSt w wr a b p i j) : TabSt w (wr.setRow a (rowN 64 (part Kc i))) a b p i j :=
  ⟨setRow_heap wr a _ _ _ _ h.ka, (setRow_other wr a b _ h.ab.symm).trans h.hb, (setRow_other wr a p _ h.ap.symm).trans h.pp, sr_below h.bel h.ga _, h.ga, h.gb, h.ab, h.ap, h.bp⟩
theorem putH (h : TabSt w wr a b p i j) : TabSt w (wr.setRow b (rowN 8 (part Hc j))) a b p i j :=
  ⟨(setRow_other wr b a _ h.ab).trans h.ka, setRow_heap wr b _ _ _ _ h.hb, (setRow_other wr b p _ h.bp.symm).trans h.pp, sr_below h.bel h.gb _, h.ga, h.gb, h.ab, h.ap, h.bp⟩
theorem drew (h : TabSt w wr a b p i j) : TabSt w wr.drew a b p i j := ⟨h.ka, h.hb, h.pp, h.bel.drew, h.ga, h.gb, h.ab, h.ap, h.bp⟩
end TabSt

set_option maxHeartbeats 1000000 in
set_option maxRecDepth 100000 in
theorem tables_calls (w : World) :
    Calls Try.prog 54 #[] w fun e w' => e = .returned (.tuple #[.agg (rowN 64 Kc), .agg (rowN 8 Hc)]) ∧ Below w.heap.size w w' := by
  go_enter Try.func54, Try.ntmps54
  go_upto_region 1 with (fail)
  have z57 : rowN 64 (part Kc 0) = Array.replicate 64 (Value.int .u32 0) := by kernel_rfl
  have z58 : rowN 8 (part Hc 0) = Array.replicate 8 (Value.int .u32 0) := by kernel_rfl
  change Code.wp _ _ _ _ ((w.alloc (.cells (Array.replicate 64 (.int .u32 0)) 57)).alloc (.cells (Array.replicate 8 (.int .u32 0)) 58))
  rw [← z57, ← z58]
  clear z57 z58
  have ha := blk_alloc (heap_alloc_new w (.cells (rowN 64 (part Kc 0)) 57)) (.cells (rowN 8 (part Hc 0)) 58)
  have hb : ((w.alloc (.cells (rowN 64 (part Kc 0)) 57)).alloc (.cells (rowN 8 (part Hc 0)) 58)).heap[w.heap.size + 1]? = some (.cells (rowN 8 (part Hc 0)) 58 (0, 0)) := by
    have h := heap_alloc_new (w.alloc (.cells (rowN 64 (part Kc 0)) 57)) (.cells (rowN 8 (part Hc 0)) 58)
    rwa [show (w.alloc (.cells (rowN 64 (part Kc 0)) 57)).heap.size = w.heap.size + 1 by simp] at h
  have hB : Below w.heap.size w ((w.alloc (.cells (rowN 64 (part Kc 0)) 57)).alloc (.cells (rowN 8 (part Hc 0)) 58)) := ((Below.refl _ _).alloc (Nat.le_refl _) _).alloc (by simp) _
  generalize (w.alloc (.cells (rowN 64 (part Kc 0)) 57)).alloc (.cells (rowN 8 (part Hc 0)) 58) = w0 at ha hb hB ⊢
  obtain ⟨a, haa⟩ : ∃ a, a = w.heap.size := ⟨_, rfl⟩
  obtain ⟨b, hbb⟩ : ∃ b, b = w.heap.size + 1 := ⟨_, rfl⟩
  rw [← hbb, ← haa]
  rw [← haa] at ha
  rw [← hbb] at hb
  have HAB := Lib.hid (show w.heap.size ≤ a ∧ w.heap.size ≤ b ∧ a ≠ b by omega)
  clear haa hbb
  go_wp2_with fail
  refine (primes_row _).mono ?_
  rintro e w1 ⟨rfl, hd⟩
  have hst0 : TabSt w (w1.alloc (.cells PR 111)) a b w1.heap.size 0 0 := by
    have ha1 := blk_below ha hd
    have hb1 := blk_below hb hd
    have hB1 := hB.trans (hd.mono hB.size)
    exact ⟨blk_alloc ha1 _, blk_alloc hb1 _, heap_alloc_new w1 _, hB1.alloc hB1.size _, HAB.out.1, HAB.out.2.1, HAB.out.2.2, Nat.ne_of_lt (blk_lt ha1), Nat.ne_of_lt (blk_lt hb1)⟩
  have hnew := heap_alloc_new w1 (.cells (Array.replicate 64 (Value.int .u64 0)) 111)
  have HI := Lib.hid (show (Try.prog.info? 111).map (·.size) = some PR.size by rw [PR_size]; kernel_rfl)
  clear ha hb hB hd
  go_wp2_with (refine wpList_store_row rfl 111 (.tmp 2) (.tmp 5) rfl w1.heap.size PR rfl rfl 111 (Array.replicate 64 (Value.int .u64 0)) hnew HI.out (by rw [PR_size]; rfl) PR_one ?_; (change wpList _ _ _ _ _ ((w1.alloc (.cells (Array.replicate 64 (Value.int .u64 0)) 111)).setRow w1.heap.size PR)); rw [World.setRow_alloc_new])
  generalize w1.alloc (.cells PR 111) = w2 at hst0 ⊢
  generalize w1.heap.size = p at hst0 ⊢
  clear hnew HI
  go_loopw [6] (fun i wr => ∃ j : Nat, j ≤ 64 ∧ i = .int .i64 j ∧ TabSt w wr a b p j 0) (fun i _ => 64 - (intOf i).toNat)
  case atStart => exact ⟨0, Nat.zero_le _, rfl, hst0⟩
  case round =>
    clear hst0
    obtain ⟨j, hj, rfl, hS⟩ := hrel
    by_cases hlt : j < 64
    · have z0 : (0 : Int) ≤ (j : Int) := by omega
      have z1 : (j : Int) < 64 := by omega
      have c1 := (blk_cell hS.pp j).trans (pr_cell hlt)
      have HLT := Lib.hid hlt
      clear hlt
      go_wp2_with fail
      refine (rootC_calls (prN j) (prN_lt j) _).mono ?_
      rintro e w3 ⟨rfl, hd⟩
      have hS2 := hS.below hd.below
      have c2 := (blk_cell hS2.ka j).trans (rowN_get _ HLT.out)
      have f2 := blk_frozen hS2.ka j
      have hS3 := Lib.hid (hS2.setK HLT.out)
      clear hS hd hS2 c1
      go_wp2_with fail
      go_roundw
      case rel => exact ⟨j + 1, HLT.out, by go_num, hS3.out⟩
      case measure =>
        have := HLT.out
        simp [intOf]; omega
    · have e64 : ((j : Nat) : Int) = 64 := by omega
      have hS : TabSt w wr a b p 64 0 := by rw [show 64 = j by omega]; exact hS
      rw [e64]
      clear hlt e64 hj
      go_wp2_with fail
      go_loopw [16] (fun i wr => ∃ j : Nat, j ≤ 8 ∧ i = .int .i64 j ∧ TabSt w wr a b p 64 j) (fun i _ => 8 - (intOf i).toNat)
      case atStart => exact ⟨0, Nat.zero_le _, rfl, hS⟩
      case round =>
        clear hS
        obtain ⟨j, hj, rfl, hS⟩ := hrel
        by_cases hlt : j < 8
        · have z0 : (0 : Int) ≤ (j : Int) := by omega
          have z1 : (j : Int) < 8 := by omega
          have z2 : (j : Int) < 64 := by omega
          have c1 := (blk_cell hS.pp j).trans (pr_cell (j := j) (by omega))
          have HLT := Lib.hid hlt
          clear hlt
          go_wp2_with fail
          refine (rootS_calls (prN j) (prN_lt j) _).mono ?_
          rintro e w3 ⟨rfl, hd⟩
          have hS2 := hS.below hd.below
          have c2 := (blk_cell hS2.hb j).trans (rowN_get _ HLT.out)
          have f2 := blk_frozen hS2.hb j
          have hS3 := Lib.hid (hS2.setH HLT.out)
          clear hS hd hS2 c1
          go_wp2_with fail
          go_roundw
          case rel => exact ⟨j + 1, HLT.out, by go_num, hS3.out⟩
          case measure =>
            have := HLT.out
            simp [intOf]; omega
        · obtain rfl : j = 8 := by omega
          clear hlt
          go_upto_region 12 with (fail)
          refine start_ (n := 4) (S := fun w' => w'.heap[a]? = some (.cells (rowN 64 (part Kc 64)) 57 (0, 0)) ∧ w'.heap[b]? = some (.cells (rowN 8 (part Hc 8)) 58 (0, 0))) (ds := [3]) (fl 4 0) (by kernel_rfl) rfl (by kernel_rfl) ⟨hS.ka, hS.hb⟩ (fun hHeld => ?_)
          have hS0 := hS.drew
          generalize wr.drew = w4 at hHeld hS0 ⊢
          clear hS
          refine take_ (i := 0) (N := some 26) (v := .agg (rowN 64 (part Kc 64))) (fl 4 1) rfl rfl (by kernel_rfl) (fun _ _ _ h => h) (Or.inl ⟨by rfl, fun w' hS => run_load_arr rfl rfl hS.1 Try.underlying57 (by rw [rowN_size]; kernel_rfl)⟩) hHeld rfl ?_
          simp only [Act.put, List.setIfInBounds_toArray, List.set_cons_zero, List.set_cons_succ]
          refine take_ (i := 1) (N := some 27) (v := .agg (rowN 8 (part Hc 8))) (fl 4 3) rfl rfl (by kernel_rfl) (fun _ _ _ h => h) (Or.inl ⟨by rfl, fun w' hS => run_load_arr rfl rfl hS.2 Try.underlying58 (by rw [rowN_size]; kernel_rfl)⟩) hHeld rfl ?_
          simp only [Act.put, List.setIfInBounds_toArray, List.set_cons_zero, List.set_cons_succ]
          refine one_ (i := 2) (N := none) (fl 4 7) rfl rfl (by kernel_rfl) (by decide) (fun K hK => ?_)
          refine skip_ (by rfl) rfl (run_store_arr (cs := rowN 64 (part Kc 64)) rfl rfl rfl hS0.ka (by rw [rowN_size]; kernel_rfl) rfl (rowN_one _ _)) ?_
          have hS1 := hS0.putK
          refine hK.out _ _ ⟨hS1.ka, hS1.hb⟩ (fun hHeld2 => ?_)
          clear hK K hHeld hHeld2
          refine last_ (i := 3) (N := none) (fl 4 15) rfl rfl (by kernel_rfl) (by decide) (fun K hK => ?_)
          refine skip_ (by rfl) rfl (run_store_arr (cs := rowN 8 (part Hc 8)) rfl rfl rfl hS1.hb (by rw [rowN_size]; kernel_rfl) rfl (rowN_one _ _)) ?_
          refine hK.out _ _ ?_
          have hS2 := hS1.putH
          clear hK K
          generalize (w4.setRow a (rowN 64 (part Kc 64))).setRow b (rowN 8 (part Hc 8)) = w5 at hS2 ⊢
          refine done_ (by kernel_rfl) ?_
          go_wp2_with fail
          refine bodyPost_ret (results_two (p := 0) (q := 1) rfl _ _ a b 57 58 (rowN 64 (part Kc 64)) (rowN 8 (part Hc 8)) _ _ _ _ rfl hS2.ka Try.underlying57 (by rw [rowN_size]; kernel_rfl) rfl hS2.hb Try.underlying58 (by rw [rowN_size]; kernel_rfl)) rfl ?_
          rw [part_full, part_full]
          exact ⟨rfl, hS2.bel⟩
end Go.Proofs.Ytpegefcpanijhaa
end
section
namespace Go.Proofs.Ytpegefcpanijhaa
set_option linter.unusedVariables false
set_option linter.unusedSimpArgs false
open Go.RowKit Go.Proofs.YtpegefcpanijhaaW.PrintWords Go.Proofs.YtpegefcpanijhaaW.PrintLast Go.Proofs.YtpegefcpanijhaaW.PrintMore PF

theorem build_mix (K : Nat → W32) (H : V8) : Array.foldl (fun cs x => cs.setIfInBounds (64 + x.snd) x.fst) (Array.foldl (fun cs x => cs.setIfInBounds x.snd x.fst) Try.zeroCells60 (rowN 64 K).zipIdx 0 (rowN 64 K).size) (rowN 8 H).zipIdx 0 (rowN 8 H).size = mixRow K H := by kernel_rfl

set_option maxHeartbeats 1000000 in
set_option maxRecDepth 100000 in
theorem Sum_calls (w : World) (s : ByteArray) (hs : s.size ≤ 1125899906842624) :
    Calls Try.prog 35 #[.string s] w fun e w' => e = .returned (.string (bx (shaL Kc Hc s.data.toList))) ∧ Below w.heap.size w w' := by
  have H57 := Lib.hid (show (Try.prog.info? 57).map (·.size) = some (rowN 64 Kc).size by rw [rowN_size]; kernel_rfl)
  have H58 := Lib.hid (show (Try.prog.info? 58).map (·.size) = some (rowN 8 Hc).size by rw [rowN_size]; kernel_rfl)
  have HS := Lib.hid hs
  clear hs
  go_enter Try.func35, Try.ntmps35
  go_wp2_with fail
  refine (tables_calls _).mono ?_
  rintro e w1 ⟨rfl, hd⟩
  have q1 : ((w1.alloc (.cells (Array.replicate 64 (Value.int .u32 0)) 57)).alloc (.cells (Array.replicate 8 (Value.int .u32 0)) 58)).heap[w1.heap.size]? = some (.cells (Array.replicate 64 (Value.int .u32 0)) 57 (0, 0)) := blk_alloc (heap_alloc_new w1 (.cells (Array.replicate 64 (Value.int .u32 0)) 57)) _
  have q2 : ((w1.alloc (.cells (Array.replicate 64 (Value.int .u32 0)) 57)).alloc (.cells (Array.replicate 8 (Value.int .u32 0)) 58)).heap[w1.heap.size + 1]? = some (.cells (Array.replicate 8 (Value.int .u32 0)) 58 (0, 0)) := by
    have h := heap_alloc_new (w1.alloc (.cells (Array.replicate 64 (Value.int .u32 0)) 57)) (.cells (Array.replicate 8 (Value.int .u32 0)) 58)
    rwa [show (w1.alloc (.cells (Array.replicate 64 (Value.int .u32 0)) 57)).heap.size = w1.heap.size + 1 by simp] at h
  have hB0 : Below w.heap.size w ((w1.alloc (.cells (Array.replicate 64 (Value.int .u32 0)) 57)).alloc (.cells (Array.replicate 8 (Value.int .u32 0)) 58)) := ((hd.alloc hd.size _).alloc (by have := hd.size; simp; omega) _)
  have HG := Lib.hid (show w.heap.size ≤ w1.heap.size by exact hd.size)
  clear hd
  go_wp2_with (first | (refine wpList_store_row rfl 57 (.tmp 3) (.tmp 7) rfl w1.heap.size (rowN 64 Kc) rfl rfl 57 (Array.replicate 64 (Value.int .u32 0)) q1 H57.out (by rw [rowN_size]; rfl) (rowN_one _ _) ?_; (change wpList _ _ _ _ _ (((w1.alloc (.cells (Array.replicate 64 (Value.int .u32 0)) 57)).alloc (.cells (Array.replicate 8 (Value.int .u32 0)) 58)).setRow w1.heap.size (rowN 64 Kc))); have r1 := setRow_heap ((w1.alloc (.cells (Array.replicate 64 (Value.int .u32 0)) 57)).alloc (.cells (Array.replicate 8 (Value.int .u32 0)) 58)) w1.heap.size _ (rowN 64 Kc) _ _ q1; have r2 := (setRow_other ((w1.alloc (.cells (Array.replicate 64 (Value.int .u32 0)) 57)).alloc (.cells (Array.replicate 8 (Value.int .u32 0)) 58)) w1.heap.size (w1.heap.size + 1) (rowN 64 Kc) (by omega)).trans q2; have hB1 := sr_below hB0 HG.out (rowN 64 Kc); clear q1 q2 hB0; generalize ((w1.alloc (.cells (Array.replicate 64 (Value.int .u32 0)) 57)).alloc (.cells (Array.replicate 8 (Value.int .u32 0)) 58)).setRow w1.heap.size (rowN 64 Kc) = w2 at r1 r2 hB1 ⊢) | (refine wpList_store_row rfl 58 (.tmp 4) (.tmp 8) rfl (w1.heap.size + 1) (rowN 8 Hc) rfl rfl 58 (Array.replicate 8 (Value.int .u32 0)) r2 H58.out (by rw [rowN_size]; rfl) (rowN_one _ _) ?_; have s2 := setRow_heap w2 (w1.heap.size + 1) _ (rowN 8 Hc) _ _ r2; have s1 := (setRow_other w2 (w1.heap.size + 1) w1.heap.size (rowN 8 Hc) (by omega)).trans r1; have hB2 := sr_below hB1 (Nat.le_succ_of_le HG.out) (rowN 8 Hc); clear r1 r2 hB1; generalize w2.setRow (w1.heap.size + 1) (rowN 8 Hc) = w3 at s1 s2 hB2 ⊢) | (refine wpList_load_row rfl 57 (.tmp 3) rfl w1.heap.size rfl 57 (rowN 64 Kc) (0, 0) _ s1 Try.underlying57 rfl H57.out ?_) | (refine wpList_load_row rfl 58 (.tmp 4) rfl (w1.heap.size + 1) rfl 58 (rowN 8 Hc) (0, 0) _ s2 Try.underlying58 rfl H58.out ?_))
  rw [build_mix]
  refine (sum_calls HS.out).mono ?_
  rintro e w4 ⟨rfl, hd⟩
  have hB3 := hB2.trans (hd.mono hB2.size)
  clear s1 s2 hB2 hd
  go_wp2_with fail
  go_ret
  exact ⟨rfl, hB3⟩
end Go.Proofs.Ytpegefcpanijhaa
end
section
namespace Go.Proofs.Ytpegefcpanijhaa
set_option linter.unusedVariables false
set_option linter.unusedSimpArgs false
open Go.RowKit Go.Proofs.YtpegefcpanijhaaW.PrintWords Go.Proofs.YtpegefcpanijhaaW.PrintLast Go.Proofs.YtpegefcpanijhaaW.PrintMore PF

/-- A real book's cells. -/
def realRow (K : Nat → W32) (H : V8) : Array Value := mixRow K H ++ #[.bool true, .map none, .bool false]
theorem real_low (K : Nat → W32) (H : V8) {j : Nat} {v : Value} (h : (mixRow K H)[j]? = some v) : (realRow K H)[j]? = some v := by
  unfold realRow
  rw [Array.getElem?_append_left (Array.getElem?_eq_some_iff.1 h).1]
  exact h
theorem real72 (K : Nat → W32) (H : V8) : (realRow K H)[72]? = some (.bool true) := by
  unfold realRow
  rw [Array.getElem?_append_right (by rw [mix_size]; exact Nat.le_refl _), mix_size]
  rfl
theorem real74 (K : Nat → W32) (H : V8) : (realRow K H)[74]? = some (.bool false) := by
  unfold realRow
  rw [Array.getElem?_append_right (by rw [mix_size]; decide), mix_size]
  rfl
/-- A real book at block b. -/
abbrev IsReal (w : World) (b : Nat) : Prop := w.heap[b]? = some (.cells (realRow Kc Hc) 63 (0, 0))

theorem wpList_built {ops : Array Oper} {rest : List Oper} {o : Oper} {a : Act} {w : World} {Q : Exit → Act → World → Prop} {parts : Array (Nat × Operand)} {cells : Array Value} (hgd : o.guard = none) (t : TypeId) (ho : o.op = .build t parts)
    (l : List (Nat × Value)) (hl : (parts.toList.map fun p => (p.1, a.eval p.2)) = l)
    (hb : Try.prog.built t l = some cells) (h : wpList Try.prog ops Q rest (a.put o.dst (.agg cells)) w) : wpList Try.prog ops Q (o :: rest) a w := by
  have e : (parts.map fun (i, x) => (i, a.eval x)).toList = l := by rw [Array.toList_map, ← hl]
  exact wpList_plain hgd fun K hK => wp_build t parts ho (by rw [e, hb]; rfl) (by rw [e, hb]; exact hK _ _ h)
theorem add0 (g j : Nat) : (⟨g, 0, none⟩ : Addr).add j = ⟨g, j, none⟩ := by unfold Addr.add; split <;> simp_all
theorem built_mix (K : Nat → W32) (H : V8) : Try.prog.built 60 [(0, .agg (rowN 64 K)), (1, .agg (rowN 8 H))] = some (mixRow K H) := by kernel_rfl
theorem built_book (K : Nat → W32) (H : V8) : Try.prog.built 63 [(0, .agg (mixRow K H)), (1, .bool true)] = some (realRow K H) := by kernel_rfl
theorem run_loadVar_part {w : World} {g : Nat} {ty : TypeId} {cs : Array Value} {d : TypeDesc} (hg : ∀ (j : Nat) (v : Value), cs[j]? = some v → w.cell? ⟨g, j, none⟩ = some v)
    (hu : Try.prog.underlying ty = some d) (hd : (match d with | .struct _ | .array _ _ => true | _ => false) = true) (hi : (Try.prog.info? ty).map (·.size) = some cs.size) :
    (loadVar ty ⟨g, 0, none⟩).run Try.prog w = .ok (.agg cs) w := by
  have hl : (loadCells ⟨g, 0, none⟩ cs.toList.length).run Try.prog w = .ok cs.toList.toArray w :=
    run_loadCells_list (P := Try.prog) w ⟨g, 0, none⟩ cs.toList (fun j v hv => by
      rw [add0]
      exact hg j v (by simpa using hv))
  cases hq : Try.prog.info? ty with
  | none => simp [hq] at hi
  | some i =>
    have hs : i.size = cs.size := by simpa [hq] using hi
    have hagg : (isAgg ty).run Try.prog w = .ok true w := by
      unfold isAgg
      rw [Sem.run_bind, run_underlying hu w]
      cases d <;> simp_all
    simp only [Array.length_toList, Array.toArray_toList] at hl
    simp [loadVar, Sem.run_bind, hagg, sizeOf, typeInfo, hq, hs, hl]
theorem wpList_load_part {ops : Array Oper} {rest : List Oper} {o : Oper} {a : Act} {w : World} {Q : Exit → Act → World → Prop} {g : Nat} {ty : TypeId} {cs : Array Value} {d : TypeDesc} {x : Operand} (hgd : o.guard = none) (ho : o.op = .load ty x) (hx : a.eval x = .pointer (some ⟨g, 0, none⟩))
    (hg : ∀ (j : Nat) (v : Value), cs[j]? = some v → w.cell? ⟨g, j, none⟩ = some v)
    (hu : Try.prog.underlying ty = some d) (hd : (match d with | .struct _ | .array _ _ => true | _ => false) = true) (hi : (Try.prog.info? ty).map (·.size) = some cs.size)
    (h : wpList Try.prog ops Q rest (a.put o.dst (.agg cs)) w) : wpList Try.prog ops Q (o :: rest) a w := by
  refine wpList_plain hgd fun K hK => ?_
  unfold Oper.wp execOp
  simp only [ho, hx, Instr.loadAt, Instr.sureAddr, Sem.run_bind, Sem.run_pure, Result.andThen_ok, run_loadVar_part hg hu hd hi]
  exact hK _ _ h

set_option maxHeartbeats 400000 in
set_option maxRecDepth 100000 in
theorem Real_of {kk : Nat → W32} {hh : V8} (htab : ∀ w, Calls Try.prog 54 #[] w fun e w' => e = .returned (.tuple #[.agg (rowN 64 kk), .agg (rowN 8 hh)]) ∧ Below w.heap.size w w') (w : World) :
    Calls Try.prog 31 #[] w fun e w' => ∃ b, e = .returned (.pointer (some ⟨b, 0, none⟩)) ∧ w'.heap[b]? = some (.cells (realRow kk hh) 63 (0, 0)) ∧ Below w.heap.size w w' ∧ w.heap.size ≤ b := by
  have H57 := Lib.hid (show (Try.prog.info? 57).map (·.size) = some (rowN 64 kk).size by rw [rowN_size]; kernel_rfl)
  have H58 := Lib.hid (show (Try.prog.info? 58).map (·.size) = some (rowN 8 hh).size by rw [rowN_size]; kernel_rfl)
  have HT := Lib.hid htab
  clear htab
  go_enter Try.func31, Try.ntmps31
  go_wp2_with fail
  refine (HT.out _).mono ?_
  rintro e w1 ⟨rfl, hd⟩
  have q1 : ((w1.alloc (.cells (Array.replicate 64 (Value.int .u32 0)) 57)).alloc (.cells (Array.replicate 8 (Value.int .u32 0)) 58)).heap[w1.heap.size]? = some (.cells (Array.replicate 64 (Value.int .u32 0)) 57 (0, 0)) := blk_alloc (heap_alloc_new w1 (.cells (Array.replicate 64 (Value.int .u32 0)) 57)) _
  have q2 : ((w1.alloc (.cells (Array.replicate 64 (Value.int .u32 0)) 57)).alloc (.cells (Array.replicate 8 (Value.int .u32 0)) 58)).heap[w1.heap.size + 1]? = some (.cells (Array.replicate 8 (Value.int .u32 0)) 58 (0, 0)) := by
    have h := heap_alloc_new (w1.alloc (.cells (Array.replicate 64 (Value.int .u32 0)) 57)) (.cells (Array.replicate 8 (Value.int .u32 0)) 58)
    rwa [show (w1.alloc (.cells (Array.replicate 64 (Value.int .u32 0)) 57)).heap.size = w1.heap.size + 1 by simp] at h
  have hB0 : Below w.heap.size w ((w1.alloc (.cells (Array.replicate 64 (Value.int .u32 0)) 57)).alloc (.cells (Array.replicate 8 (Value.int .u32 0)) 58)) := ((hd.alloc hd.size _).alloc (by have := hd.size; simp; omega) _)
  have HG := Lib.hid (show w.heap.size ≤ w1.heap.size by exact hd.size)
  clear hd
  go_upto_region 2 with (first | (refine wpList_store_row rfl 57 (.tmp 1) (.tmp 5) rfl w1.heap.size (rowN 64 kk) rfl rfl 57 (Array.replicate 64 (Value.int .u32 0)) q1 H57.out (by rw [rowN_size]; rfl) (rowN_one _ _) ?_; (change wpList _ _ _ _ _ (((w1.alloc (.cells (Array.replicate 64 (Value.int .u32 0)) 57)).alloc (.cells (Array.replicate 8 (Value.int .u32 0)) 58)).setRow w1.heap.size (rowN 64 kk))); have r1 := setRow_heap ((w1.alloc (.cells (Array.replicate 64 (Value.int .u32 0)) 57)).alloc (.cells (Array.replicate 8 (Value.int .u32 0)) 58)) w1.heap.size _ (rowN 64 kk) _ _ q1; have r2 := (setRow_other ((w1.alloc (.cells (Array.replicate 64 (Value.int .u32 0)) 57)).alloc (.cells (Array.replicate 8 (Value.int .u32 0)) 58)) w1.heap.size (w1.heap.size + 1) (rowN 64 kk) (by omega)).trans q2; have hB1 := sr_below hB0 HG.out (rowN 64 kk); clear q1 q2 hB0; generalize ((w1.alloc (.cells (Array.replicate 64 (Value.int .u32 0)) 57)).alloc (.cells (Array.replicate 8 (Value.int .u32 0)) 58)).setRow w1.heap.size (rowN 64 kk) = w2 at r1 r2 hB1 ⊢) | (refine wpList_store_row rfl 58 (.tmp 2) (.tmp 6) rfl (w1.heap.size + 1) (rowN 8 hh) rfl rfl 58 (Array.replicate 8 (Value.int .u32 0)) r2 H58.out (by rw [rowN_size]; rfl) (rowN_one _ _) ?_; have s2 := setRow_heap w2 (w1.heap.size + 1) _ (rowN 8 hh) _ _ r2; have s1 := (setRow_other w2 (w1.heap.size + 1) w1.heap.size (rowN 8 hh) (by omega)).trans r1; have hB2 := sr_below hB1 (Nat.le_succ_of_le HG.out) (rowN 8 hh); clear r1 r2 hB1; generalize w2.setRow (w1.heap.size + 1) (rowN 8 hh) = w3 at s1 s2 hB2 ⊢))
  refine wp_region_lit ?_
  refine wpList_load_row rfl 57 (.tmp 1) rfl w1.heap.size rfl 57 (rowN 64 kk) (0, 0) _ s1 Try.underlying57 rfl H57.out ?_
  refine wpList_load_row rfl 58 (.tmp 2) rfl (w1.heap.size + 1) rfl 58 (rowN 8 hh) (0, 0) _ s2 Try.underlying58 rfl H58.out ?_
  refine wpList_built rfl 60 rfl _ rfl (built_mix kk hh) ?_
  refine wpList_built rfl 63 rfl _ rfl (built_book kk hh) ?_
  simp only [Act.put, List.setIfInBounds_toArray, List.set_cons_zero, List.set_cons_succ]
  clear H57 H58 HT s1 s2
  go_wp2_with fail
  go_ret
  exact ⟨_, rfl, heap_alloc_new _ _, hB2.alloc hB2.size _, hB2.size⟩
theorem Real_calls (w : World) : Calls Try.prog 31 #[] w fun e w' => ∃ b, e = .returned (.pointer (some ⟨b, 0, none⟩)) ∧ IsReal w' b ∧ Below w.heap.size w w' ∧ w.heap.size ≤ b := Real_of tables_calls w

set_option maxHeartbeats 400000 in
set_option maxRecDepth 100000 in
theorem mark_of {kk : Nat → W32} {hh : V8} {w : World} {b : Nat} {s : ByteArray} (h : w.heap[b]? = some (.cells (realRow kk hh) 63 (0, 0))) (hs : s.size ≤ 1125899906842624) :
    Calls Try.prog 20 #[.pointer (some ⟨b, 0, none⟩), .string s] w fun e w' => e = .returned (.string (bx (shaL kk hh s.data.toList))) ∧ Below w.heap.size w w' := by
  have c72 : w.cell? ⟨b, 72, none⟩ = some (.bool true) := (blk_cell h 72).trans (real72 kk hh)
  have c74 : w.cell? ⟨b, 74, none⟩ = some (.bool false) := (blk_cell h 74).trans (real74 kk hh)
  have HP := Lib.hid (show ∀ (j : Nat) (v : Value), (mixRow kk hh)[j]? = some v → w.cell? ⟨b, j, none⟩ = some v from fun j v hj => (blk_cell h j).trans (real_low kk hh hj))
  have H60 := Lib.hid (show (Try.prog.info? 60).map (·.size) = some (mixRow kk hh).size by rw [mix_size]; kernel_rfl)
  have HS := Lib.hid hs
  clear h hs
  go_enter Try.func20, Try.ntmps20
  go_wp2_with fail
  refine (none_any _ b true false c72 c74).mono ?_
  rintro e w1 ⟨rfl, rfl⟩
  go_wp2_with (refine wpList_load_part rfl rfl rfl HP.out Try.underlying60 rfl H60.out ?_)
  refine (sum_calls HS.out).mono ?_
  rintro e w2 ⟨rfl, hd⟩
  go_wp2_with fail
  go_ret
  exact ⟨rfl, hd⟩
set_option maxHeartbeats 400000 in
set_option maxRecDepth 100000 in
theorem is_of {kk : Nat → W32} {hh : V8} {w : World} {b : Nat} {s mark : ByteArray} (h : w.heap[b]? = some (.cells (realRow kk hh) 63 (0, 0))) (hs : s.size ≤ 1125899906842624) :
    Calls Try.prog 21 #[.pointer (some ⟨b, 0, none⟩), .string s, .string mark] w fun e w' => e = .returned (.bool (decide (bx (shaL kk hh s.data.toList) = mark))) ∧ Below w.heap.size w w' := by
  have c72 : w.cell? ⟨b, 72, none⟩ = some (.bool true) := (blk_cell h 72).trans (real72 kk hh)
  have c74 : w.cell? ⟨b, 74, none⟩ = some (.bool false) := (blk_cell h 74).trans (real74 kk hh)
  have HP := Lib.hid (show ∀ (j : Nat) (v : Value), (mixRow kk hh)[j]? = some v → w.cell? ⟨b, j, none⟩ = some v from fun j v hj => (blk_cell h j).trans (real_low kk hh hj))
  have H60 := Lib.hid (show (Try.prog.info? 60).map (·.size) = some (mixRow kk hh).size by rw [mix_size]; kernel_rfl)
  have HS := Lib.hid hs
  clear h hs
  go_enter Try.func21, Try.ntmps21
  go_wp2_with fail
  refine (none_any _ b true false c72 c74).mono ?_
  rintro e w1 ⟨rfl, rfl⟩
  go_wp2_with (refine wpList_load_part rfl rfl rfl HP.out Try.underlying60 rfl H60.out ?_)
  refine (sum_calls HS.out).mono ?_
  rintro e w2 ⟨rfl, hd⟩
  obtain ⟨t, ht⟩ : ∃ t, t = bx (shaL kk hh s.data.toList) := ⟨_, rfl⟩
  rw [← ht]
  have HT := Lib.hid ht
  clear ht
  go_wp2_with fail
  go_ret
  rw [← HT.out]
  exact ⟨congrArg (fun v => Ending.returned (.bool v)) (beq_toList t mark), hd⟩
end Go.Proofs.Ytpegefcpanijhaa
end
