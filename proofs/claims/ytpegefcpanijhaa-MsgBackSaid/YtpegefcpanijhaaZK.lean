/- The shelf's contracts of strings.Builder's String at this dump, in plain words: lay-shelf.mjs and lay-plain.mjs wrote the declarations (part of their text, unchanged). strings.Builder at this program: copyCheck and WriteString (turned to this program after the shelf's contracts over any program). A number's bytes in plain Lean; the walk of code.Num. The builder that a message's bytes are built in; the closure of msg.body. A message's bytes in plain Lean; the walk of msg.body. The walk of msg.Bytes; of barquelaw17.few and awake. The walks of barquelaw17.few and awake. -/
import Derived.Shelf.Strings.Builder1
import Derived.Test.YtpegefcpanijhaaProg
import Derived.Test.YtpegefcpanijhaaZM
import Derived.Laws.Bits128
import Derived.Laws.IdiomStrings
import Derived.Laws.AppendOwn
import Derived.Test.YtpegefcpanijhaaZB
section
namespace Go.Proofs
open Go.Shelf
def Try.lays169_ren : Go.Shelf.Ren := ⟨fun | 169 => 76 | n => n, fun | 70 => 97 | 9 => 9 | 0 => 0 | 72 => 99 | 37 => 69 | 127 => 122 | 3 => 3 | 5 => 5 | n => n, fun | n => n⟩
theorem Try.lays169 : Go.Proofs.Lays.n169 Try.prog Try.lays169_ren := {
  mixed := by kernel_rfl
  f169 := Try.func76.trans (congrArg some (by kernel_rfl))
  t0 := Try.underlying0
  a0 := Try.isAgg0
  z0 := Try.sizeOf0
  v0 := Try.zeroValue0
  t3 := Try.underlying3
  a3 := Try.isAgg3
  z3 := Try.sizeOf3
  v3 := Try.zeroValue3
  t9 := Try.underlying9
  a9 := Try.isAgg9
  z9 := Try.sizeOf9
  v9 := Try.zeroValue9
  t37 := Try.underlying69
  a37 := Try.isAgg69
  z37 := Try.sizeOf69
  v37 := Try.zeroValue69
  t70 := Try.underlying97
  a70 := Try.isAgg97
  z70 := Try.sizeOf97
  v70 := Try.zeroValue97
  t72 := Try.underlying99
  a72 := Try.isAgg99
  z72 := Try.sizeOf99
  v72 := Try.zeroValue99
  t127 := Try.underlying122
  a127 := Try.isAgg122
  z127 := Try.sizeOf122
  v127 := Try.zeroValue122 }
theorem Try.Builder_Extra_169 : Builder.Extra Try.prog Try.lays169_ren := {
  sizeBuilder := by kernel_rfl
  liesBuilder := by kernel_rfl
  t5 := Try.underlying5
  a5 := Try.isAgg5
  z5 := Try.sizeOf5
  v5 := Try.zeroValue5
  infoByte := by kernel_rfl
  cellsByte := by kernel_rfl
  sizeByte := by kernel_rfl
  neB5 := by decide }
open Go.RowKit in
/-- (*strings.Builder).String: "String returns the accumulated string.": OF A BUILDER THAT HOLDS AT LEAST ONE BYTE. ✋ THE MODEL FREEZES THOSE BYTES IN THE BUFFER (unsafe.String): a later write INTO them ends the model's run without an answer; a later append BEHIND them goes on. The statement's order of evaluation is drawn: one draw. (LAID: no walk: one application.) -/
theorem Try.Builder_String (B b : Nat) (l : List UInt8) (w : World) (h : Lib.IsBuilder 99 5 B b (Lib.byteCells l) w) (h0 : l ≠ []) :
    Calls Try.prog 76 #[.pointer (some ⟨b, 0, none⟩)] w fun e w' => e = .returned (.string ⟨l.toArray⟩) ∧ Below B w w' := Any.Builder_String Try.lays169 Try.Builder_Extra_169 B b l w h h0
open Go.RowKit in
/-- (*strings.Builder).String OF A BUILDER THAT HOLDS NO BYTE: the empty string. (Its buffer is nil, or a row of which it has taken nothing yet; where that row has NO capacity the model lays one new block for unsafe.SliceData's 'some address'.) One draw. (LAID: no walk: one application.) -/
theorem Try.Builder_String_empty (B b : Nat) (w : World) (h : Lib.IsBuilder 99 5 B b [] w) (hBw : B ≤ w.heap.size) :
    Calls Try.prog 76 #[.pointer (some ⟨b, 0, none⟩)] w fun e w' => e = .returned (.string ⟨#[]⟩) ∧ Below B w w' := Any.Builder_String_empty Try.lays169 Try.Builder_Extra_169 B b w h hBw
open Go.RowKit in
/-- (*strings.Builder).String: "String returns the accumulated string.": WHATEVER THE BUILDER HOLDS. (LAID: no walk: one application.) -/
theorem Try.Builder_String_any (B b : Nat) (l : List UInt8) (w : World) (h : Lib.IsBuilder 99 5 B b (Lib.byteCells l) w) (hBw : B ≤ w.heap.size) :
    Calls Try.prog 76 #[.pointer (some ⟨b, 0, none⟩)] w fun e w' => e = .returned (.string ⟨l.toArray⟩) ∧ Below B w w' := Any.Builder_String_any Try.lays169 Try.Builder_Extra_169 B b l w h hBw
end Go.Proofs
end
section
namespace Go.Proofs.Ytpegefcpanijhaa
set_option linter.unusedVariables false
set_option linter.unusedSimpArgs false
open Go.RowKit Go.Proofs.YtpegefcpanijhaaW.PrintWords PF

theorem sizeBld : (Try.prog.info? 99).map (·.size) = some 2 := by kernel_rfl
theorem infoU8 : (Try.prog.info? 5).map (fun i => (i.zero, i.size, i.bytes)) = some (some (.int .u8 0), 1, 1) := by kernel_rfl

set_option maxHeartbeats 1000000 in
set_option maxRecDepth 100000 in
theorem copyCheck_used (b : Nat) (w : World) (h0 : w.cell? ⟨b, 0, none⟩ = some (.pointer (some ⟨b, 0, none⟩))) :
    Calls Try.prog 98 #[.pointer (some ⟨b, 0, none⟩)] w fun e w' => e = .returned (.tuple #[]) ∧ w' = w := by
  obtain ⟨j, hj, _⟩ := Option.map_eq_some_iff.1 sizeBld
  go_enter Try.func98, Try.ntmps98
  go_wp2
  rw [Lib.run_neq_ptr_same w _ Try.underlying97 hj]
  go_wp2
  go_end0
  exact ⟨rfl, rfl⟩

set_option maxHeartbeats 1000000 in
set_option maxRecDepth 100000 in
theorem copyCheck_fresh (b : Nat) (w : World) (h0 : w.cell? ⟨b, 0, none⟩ = some (.pointer none)) (hsh : w.shape? b = some (99, 2)) (hfz : w.frozen? ⟨b, 0, none⟩ = false) :
    Calls Try.prog 98 #[.pointer (some ⟨b, 0, none⟩)] w fun e w' => e = .returned (.tuple #[]) ∧ w' = w.setCell ⟨b, 0, none⟩ (.pointer (some ⟨b, 0, none⟩)) := by
  obtain ⟨j, hj, hjs⟩ := Option.map_eq_some_iff.1 sizeBld
  go_enter Try.func98, Try.ntmps98
  go_wp2
  rw [Lib.run_to_unsafe w ⟨b, 0, none⟩ Try.underlying97 Try.underlying128 hj (by rw [hjs]; decide) hsh (Nat.zero_lt_succ 1)]
  simp only [Result.andThen]
  rw [Oper.upon_value]
  go_wp2
  rw [run_callFunc_extern Try.func105 (by kernel_rfl) (by kernel_rfl) (by kernel_rfl) (e := Extern.AbiNoEscape.same) (by kernel_rfl)]
  rw [Lib.run_noEscape]
  simp only [Result.andThen]
  rw [Oper.upon_value]
  go_wp2
  rw [Lib.run_from_unsafe w ⟨b, 0, none⟩ Try.underlying128 Try.underlying97 hj hsh Try.Builder_Extra_169.liesBuilder]
  simp only [Result.andThen]
  rw [Oper.upon_value]
  go_wp2
  go_end0
  exact ⟨rfl, rfl⟩

theorem copyCheck_calls (B b : Nat) (bs : List Value) (w : World) (h : Lib.IsBuilder 99 5 B b bs w) :
    Calls Try.prog 98 #[.pointer (some ⟨b, 0, none⟩)] w fun e w' => e = .returned (.tuple #[]) ∧ (Lib.BuilderAt 99 5 B b (.pointer (some ⟨b, 0, none⟩)) bs w' ∧ Below B w w') := by
  rcases h with h | h
  · refine (copyCheck_fresh b w h.cell0 h.shape h.frozen0).mono ?_
    rintro e w' ⟨rfl, rfl⟩
    exact ⟨rfl, h.used _, (Below.refl B w).setCell (p := ⟨b, 0, none⟩) h.1 _⟩
  · refine (copyCheck_used b w h.cell0).mono ?_
    rintro e w' ⟨rfl, rfl⟩
    exact ⟨rfl, h, Below.refl B _⟩

set_option maxHeartbeats 2000000 in
theorem writeString_calls (B b : Nat) (bs : List Value) (s : ByteArray) (w : World) (h : Lib.IsBuilder 99 5 B b bs w) (hlen : bs.length + s.size ≤ 140737488355328) (hBw : B ≤ w.heap.size) :
    Calls Try.prog 75 #[.pointer (some ⟨b, 0, none⟩), .string s] w fun e w' => e = .returned (.tuple #[.int .i64 s.size, .nilIface]) ∧ (Lib.BuilderAt 99 5 B b (.pointer (some ⟨b, 0, none⟩)) (bs ++ Lib.strCells s) w' ∧ Below B w w') := by
  obtain ⟨i0, hi, hz0, hz1, hz2⟩ := info_parts infoU8
  go_enter Try.func75, Try.ntmps75
  go_wp2_with fail
  refine (copyCheck_calls B b bs _ h).mono ?_
  rintro e w1 ⟨rfl, h1, hb1⟩
  obtain ⟨hB, v, hbk, hown, hne⟩ := h1
  have c0 : w1.cell? ⟨b, 0, none⟩ = some (.pointer (some ⟨b, 0, none⟩)) := by rw [Lib.cell_of_heap hbk]; rfl
  have c1 : w1.cell? ⟨b, 1, none⟩ = some v := by rw [Lib.cell_of_heap hbk]; rfl
  go_wp2_with (at_builtin; refine Lib.wpList_append_own_string _ rfl _ _ 69 9 rfl B 5 i0 Try.underlying69 Try.underlying9 hi hz0 hz1 hz2 _ _ _ rfl hown s rfl ?c3 ?c4 ?c5 ?_)
  case c3 => unfold maxLen; omega
  case c4 => omega
  case c5 => have := hb1.size; omega
  intro v' w2 hown' hgrow _
  have hlt : b < w1.heap.size := by
    rcases Nat.lt_or_ge b w1.heap.size with h' | h'
    · exact h'
    · simp [Array.getElem?_eq_none h'] at hbk
  have hb2 : w2.heap[b]? = some (.cells #[.pointer (some ⟨b, 0, none⟩), v] 99 (0, 0)) := by
    rw [hgrow.block b hlt (fun e => hne e.symm)]
    exact hbk
  have d0 : w2.cell? ⟨b, 0, none⟩ = some (.pointer (some ⟨b, 0, none⟩)) := by rw [Lib.cell_of_heap hb2]; rfl
  have d1 : w2.cell? ⟨b, 1, none⟩ = some v := by rw [Lib.cell_of_heap hb2]; rfl
  have f1 : w2.frozen? ⟨b, 1, none⟩ = false := Lib.frozen_of_heap hb2 1
  obtain ⟨ao, n', cap, rfl⟩ : ∃ ao n' cap, v' = .slice ao n' cap := by
    rcases hown'.2 with ⟨hv, _⟩ | ⟨g, cap, cur, hv, _⟩
    · exact ⟨_, _, _, hv⟩
    · exact ⟨_, _, _, hv⟩
  go_wp2
  go_ret2
  refine ⟨rfl, ?_, ?_⟩
  · exact Lib.BuilderAt.put (T := 99) (e := 5) hB hb2 (bs' := bs ++ Lib.strCells s) (by simpa [Lib.strCells_length] using hown') (by decide)
  · exact (hb1.grown hgrow (by have := hb1.size; omega) (fun k hk => (hown.lt k hk).1)).setCell (p := ⟨b, 1, none⟩) hB _
end Go.Proofs.Ytpegefcpanijhaa
end
section
namespace Go.Proofs.Ytpegefcpanijhaa
set_option linter.unusedVariables false
set_option linter.unusedSimpArgs false
open Go.RowKit Go.Proofs.YtpegefcpanijhaaW.PrintWords PF

/-- A number's bytes: seven bits each, the lowest first. -/
def numF : Nat → Nat → List UInt8
  | 0, _ => []
  | k + 1, n => if n < 128 then [n.toUInt8] else (n % 128 + 128).toUInt8 :: numF k (n / 128)
def numL (n : Nat) : List UInt8 := numF 9 n

theorem numF_length (k n : Nat) : (numF k n).length ≤ k := by
  induction k generalizing n with
  | zero => simp [numF]
  | succ k ih =>
    unfold numF
    split
    · simp
    · simp; exact ih _
theorem numL_length (n : Nat) : (numL n).length ≤ 9 := numF_length 9 n

theorem or128 {n : Int} (h0 : 0 ≤ n) (h1 : n < 128) : Go.bits .or .i64 n 128 = n + 128 := by
  have hc : bits .or .i64 n 128 = bits .or .i64 128 n := by simp only [bits, BitVec.or_comm]
  rw [hc, bits_join .i64 63 (by decide) (fun n _ _ => by rw [IntKind.wrap_i64]; omega) 7 128 n (by decide) (by decide) (by decide) h0 h1 (by omega)]
  omega

/-- A row of bytes that a call has made itself, as a text. -/
theorem own_string {w : World} {base n : Nat} {v : Value} {l : List UInt8} (h : w.ownsRow base 5 1 v n (Lib.byteCells l)) (hn : n ≠ 0) :
    ∃ g cap, v = .slice (some ⟨g, 0, none⟩) n cap ∧ (convert 69 9 (.slice (some ⟨g, 0, none⟩) n cap)).run Try.prog w = .ok (.string ⟨l.toArray⟩) w := by
  have hl : l.length = n := by have := h.1; rw [Lib.byteCells_length] at this; omega
  rcases h.2 with ⟨_, h0⟩ | ⟨g, cap, cur, rfl, _⟩
  · exact absurd h0 hn
  · refine ⟨g, cap, rfl, ?_⟩
    have hc := h.cells (g := g) rfl
    subst hl
    refine run_convert_bytes_back w 69 9 5 ⟨g, 0, none⟩ cap l Try.underlying69 Try.underlying5 Try.underlying9 fun j hj => hc j _ ?_
    simp [Lib.byteCells, List.getElem?_eq_getElem hj]

theorem below_own {B : Nat} {W w w' : World} {e n sz : Nat} {v : Value} {xs : List Value} (hB : Below B W w) (hg : w.grownBy w' v.ownBlock) (hown : w.ownsRow B e sz v n xs) (hw : B ≤ w.heap.size) : Below B W w' :=
  hB.grown hg hw (fun k hk => (hown.lt k hk).1)
theorem byteCells_snoc (xs : List UInt8) (c : UInt8) : Lib.byteCells xs ++ [.int .u8 c.toNat] = Lib.byteCells (xs ++ [c]) := by simp [Lib.byteCells]
theorem numF_more {k q : Nat} (h : 127 < q) : numF (k + 1) q = (q % 128 + 128).toUInt8 :: numF k (q / 128) := by
  conv => lhs; unfold numF
  rw [if_neg (by omega)]
theorem numF_last {k q : Nat} (h : ¬ 127 < q) : numF (k + 1) q = [q.toUInt8] := by
  conv => lhs; unfold numF
  rw [if_pos (by omega)]
theorem toUInt8_small {n : Nat} (h : n < 256) : n.toUInt8.toNat = n := by simp; omega

set_option maxHeartbeats 2000000 in
set_option maxRecDepth 100000 in
theorem num_calls (n : Int) (h0 : 0 ≤ n) (h1 : n ≤ 4611686018427387903) (w : World) : Calls Try.prog 74 #[.int .i64 n] w fun e w' => e = .returned (.tuple #[.string ⟨(numL n.toNat).toArray⟩, .int .i64 0]) ∧ Below w.heap.size w w' := by
  obtain ⟨i0, hi, hz0, hz1, hz2⟩ := info_parts infoU8
  have HI0 := Lib.hid hi
  have HZ0 := Lib.hid hz0
  have HZ1 := Lib.hid hz1
  have HZ2 := Lib.hid hz2
  clear hi hz0 hz1 hz2
  go_enter Try.func74, Try.ntmps74
  have hz : ¬ n < 0 := by omega
  have hy : ¬ 4611686018427387903 < n := by omega
  go_wp2_with fail
  go_loopw [0, 4] (fun nv bv wr => ∃ (q i : Nat) (v : Value) (xs : List UInt8), nv = .int .i64 q ∧ bv = v ∧ i ≤ 8 ∧ Hid (q < 128 ^ (9 - i)) ∧ wr.ownsRow w.heap.size 5 1 v i (Lib.byteCells xs) ∧ Below w.heap.size w wr ∧ Hid (numL n.toNat = xs ++ numF (9 - i) q)) (fun nv _ _ => (intOf nv).toNat)
  case atStart => exact ⟨n.toNat, 0, _, [], by rw [Int.toNat_of_nonneg h0], rfl, by omega, Lib.hid (by omega), World.ownsRow_nil _ _ _ _, Below.refl _ _, Lib.hid rfl⟩
  case round =>
    obtain ⟨q, i, v, xs, rfl, rfl, hi8, HQ, hown, hB, HX⟩ := hrel
    by_cases hlt : 127 < q
    · have z1 : Go.bits .and .i64 (q : Int) 127 = (q : Int) % 128 := i64_and127 _
      have z2 : Go.bits .or .i64 ((q : Int) % 128) 128 = (q : Int) % 128 + 128 := or128 (by omega) (by omega)
      have z3 : ((q : Int) % 128 + 128) % 256 = (q : Int) % 128 + 128 := by omega
      have z4 : shr .i64 (q : Int) 7 = ((q / 128 : Nat) : Int) := by unfold shr; rw [Nat.min_eq_left (by decide)]; show (q : Int) / 128 = _; omega
      have hbw : w.heap.size ≤ (wr.alloc (.cells #[.int .u8 ((q : Int) % 128 + 128)] 5)).heap.size := by have := hB.size; simp; omega
      go_wp2_with (at_builtin; refine wpList_append_own _ rfl (.tmp 13) (.tmp 18) 69 rfl w.heap.size 5 i0 _ 1 1 Try.underlying69 HI0.out HZ0.out HZ1.out HZ2.out rfl (by decide) _ _ _ rfl (hown.alloc _) ⟨wr.heap.size, 0, none⟩ 1 1 [.int .u8 ((q : Int) % 128 + 128)] rfl rfl (cell_one_new _ _ _) (by simp [Value.oneCell']) (by unfold maxLen; omega) (by omega) hbw ?_; intro v5 w5 hown5 hg5 _)
      go_roundw
      case rel =>
        have e8 : i < 8 := by
          rcases Nat.lt_or_ge i 8 with h | h
          · exact h
          · have := HQ.out
            have e : i = 8 := by omega
            subst e
            omega
        have eb : (.int .u8 ((q : Int) % 128 + 128) : Value) = .int .u8 ((q % 128 + 128).toUInt8.toNat : Nat) := by rw [toUInt8_small (by omega)]; congr 1
        rw [eb, byteCells_snoc] at hown5
        refine ⟨q / 128, i + 1, v5, xs ++ [(q % 128 + 128).toUInt8], rfl, rfl, by omega, Lib.hid ?_, hown5, ?_, Lib.hid ?_⟩
        · have h1 := HQ.out
          have h2 : 128 ^ (9 - i) = 128 ^ (9 - (i + 1)) * 128 := by rw [← Nat.pow_succ]; congr 1; omega
          rw [h2] at h1
          exact Nat.div_lt_of_lt_mul (by omega)
        · exact below_own (hB.alloc hB.size _) hg5 (hown.alloc _) hbw
        · have h3 : 9 - i = (9 - (i + 1)) + 1 := by omega
          rw [HX.out, h3, numF_more hlt, List.append_assoc]
          rfl
      case measure => simp [intOf]; omega
    · have hbw : w.heap.size ≤ (wr.alloc (.cells #[.int .u8 (q : Int)] 5)).heap.size := by have := hB.size; simp; omega
      have z3 : (q : Int) % 256 = (q : Int) := by omega
      go_wp2_with (at_builtin; refine wpList_append_own _ rfl (.tmp 22) (.tmp 25) 69 rfl w.heap.size 5 i0 _ 1 1 Try.underlying69 HI0.out HZ0.out HZ1.out HZ2.out rfl (by decide) _ _ _ rfl (hown.alloc _) ⟨wr.heap.size, 0, none⟩ 1 1 [.int .u8 (q : Int)] rfl rfl (cell_one_new _ _ _) (by simp [Value.oneCell']) (by unfold maxLen; omega) (by omega) hbw ?_; intro v5 w5 hown5 hg5 _)
      have eb : (.int .u8 (q : Int) : Value) = .int .u8 (q.toUInt8.toNat : Nat) := by rw [toUInt8_small (by omega)]
      rw [eb, byteCells_snoc] at hown5
      obtain ⟨g, cap, rfl, hcv⟩ := own_string hown5 (by omega)
      have hn : numL n.toNat = xs ++ [q.toUInt8] := by
        have h3 : 9 - i = (8 - i) + 1 := by omega
        rw [HX.out, h3, numF_last hlt]
      have HN := Lib.hid hn
      clear hn eb
      go_wp2_with fail
      rw [hcv]
      simp only [Result.andThen]
      rw [Oper.upon_value]
      go_wp2_with fail
      go_ret2
      exact ⟨by rw [HN.out]; simp, below_own (hB.alloc hB.size _) hg5 (hown.alloc _) hbw⟩
end Go.Proofs.Ytpegefcpanijhaa
end
section
namespace Go.Proofs.Ytpegefcpanijhaa
set_option linter.unusedVariables false
set_option linter.unusedSimpArgs false
open Go.RowKit Go.Proofs.YtpegefcpanijhaaW.PrintWords PF

/-- A builder in block b, holding bytes. -/
def Bld (b : Nat) (l : List UInt8) (w : World) : Prop := Lib.IsBuilder 99 5 b b (Lib.byteCells l) w

/-- Whatever is not the builder, nor a plain row of bytes, stands as it stood. -/
def Keeps (b : Nat) (w w' : World) : Prop := w.heap.size ≤ w'.heap.size ∧ ∀ k, k < w.heap.size → k ≠ b → (∀ cs, w.heap[k]? ≠ some (.cells cs 5 (0, 0))) → w'.heap[k]? = w.heap[k]?

theorem Keeps.refl (b : Nat) (w : World) : Keeps b w w := ⟨Nat.le_refl _, fun _ _ _ _ => rfl⟩
theorem Keeps.trans {b : Nat} {w w' w'' : World} (h : Keeps b w w') (h' : Keeps b w' w'') : Keeps b w w'' :=
  ⟨Nat.le_trans h.1 h'.1, fun k hk hb hc => (h'.2 k (Nat.lt_of_lt_of_le hk h.1) hb (fun cs => by rw [h.2 k hk hb hc]; exact hc cs)).trans (h.2 k hk hb hc)⟩
theorem Keeps.of_below {b : Nat} {w w' : World} (h : Below w.heap.size w w') : Keeps b w w' := ⟨h.size, fun k hk _ _ => h.block k hk⟩
theorem Keeps.setCell (b i : Nat) (w : World) (v : Value) : Keeps b w (w.setCell ⟨b, i, none⟩ v) :=
  ⟨by simp [World.setCell], fun k hk hb _ => Below.heap_setCell _ _ _ _ hb⟩
theorem Keeps.grown {b : Nat} {w w' : World} {base n : Nat} {v : Value} {xs : List Value} (hg : w.grownBy w' v.ownBlock) (hown : w.ownsRow base 5 1 v n xs) : Keeps b w w' := by
  refine ⟨hg.size, fun k hk hb hc => hg.block k hk ?_⟩
  intro e
  rcases hown.2 with ⟨rfl, _⟩ | ⟨g, cap, cur, rfl, _, hgg, _⟩
  · simp [Value.ownBlock] at e
  · simp only [Value.ownBlock, Option.some.injEq] at e
    subst e
    exact hc _ hgg

theorem own_below {w w' : World} {base e sz n : Nat} {v : Value} {xs : List Value} (h : w.ownsRow base e sz v n xs) (hb : Below w.heap.size w w') : w'.ownsRow base e sz v n xs := by
  refine ⟨h.1, ?_⟩
  rcases h.2 with ⟨rfl, h0⟩ | ⟨g, cap, cur, rfl, hg, hgg, r⟩
  · exact .inl ⟨rfl, h0⟩
  · refine .inr ⟨g, cap, cur, rfl, hg, ?_, r⟩
    have hl : g < w.heap.size := by rw [Array.getElem?_eq_some_iff] at hgg; exact hgg.1
    exact (hb.block g hl).trans hgg
theorem Bld.at_ {b : Nat} {l : List UInt8} {w : World} (h : Bld b l w) : ∃ p, Lib.BuilderAt 99 5 b b p (Lib.byteCells l) w := by
  rcases h with h | h
  · exact ⟨_, h⟩
  · exact ⟨_, h⟩
theorem bat_below {b : Nat} {p : Value} {xs : List Value} {w w' : World} (h : Lib.BuilderAt 99 5 b b p xs w) (hb : Below w.heap.size w w') : Lib.BuilderAt 99 5 b b p xs w' := by
  have hl := h.lt
  obtain ⟨hB, v, hbk, hown, hne⟩ := h
  exact ⟨hB, v, (hb.block b hl).trans hbk, own_below hown hb, hne⟩
theorem Bld.below {b : Nat} {l : List UInt8} {w w' : World} (h : Bld b l w) (hb : Below w.heap.size w w') : Bld b l w' := by
  rcases h with h | h
  · exact .inl (bat_below h hb)
  · exact .inr (bat_below h hb)
theorem Bld.lt {b : Nat} {l : List UInt8} {w : World} (h : Bld b l w) : b < w.heap.size := by
  obtain ⟨p, h⟩ := h.at_
  exact h.lt

theorem copyCheck_keeps (B b : Nat) (bs : List Value) (w : World) (h : Lib.IsBuilder 99 5 B b bs w) :
    Calls Try.prog 98 #[.pointer (some ⟨b, 0, none⟩)] w fun e w' => e = .returned (.tuple #[]) ∧ (Lib.BuilderAt 99 5 B b (.pointer (some ⟨b, 0, none⟩)) bs w' ∧ Below B w w' ∧ Keeps b w w') := by
  rcases h with h | h
  · refine (copyCheck_fresh b w h.cell0 h.shape h.frozen0).mono ?_
    rintro e w' ⟨rfl, rfl⟩
    exact ⟨rfl, h.used _, (Below.refl B w).setCell (p := ⟨b, 0, none⟩) h.1 _, Keeps.setCell _ _ _ _⟩
  · refine (copyCheck_used b w h.cell0).mono ?_
    rintro e w' ⟨rfl, rfl⟩
    exact ⟨rfl, h, Below.refl B _, Keeps.refl _ _⟩

set_option maxHeartbeats 2000000 in
theorem writeS_calls (b : Nat) (l : List UInt8) (s : ByteArray) (w : World) (h : Bld b l w) (hlen : l.length + s.size ≤ 140737488355328) :
    Calls Try.prog 75 #[.pointer (some ⟨b, 0, none⟩), .string s] w fun e w' => e = .returned (.tuple #[.int .i64 s.size, .nilIface]) ∧ Bld b (l ++ s.data.toList) w' ∧ Below b w w' ∧ Keeps b w w' := by
  obtain ⟨i0, hi, hz0, hz1, hz2⟩ := info_parts infoU8
  have hBw := h.lt
  have hcl := Lib.byteCells_length l
  go_enter Try.func75, Try.ntmps75
  go_wp2_with fail
  refine (copyCheck_keeps b b _ _ h).mono ?_
  rintro e w1 ⟨rfl, h1, hb1, hk1⟩
  obtain ⟨hB, v, hbk, hown, hne⟩ := h1
  have c0 : w1.cell? ⟨b, 0, none⟩ = some (.pointer (some ⟨b, 0, none⟩)) := by rw [Lib.cell_of_heap hbk]; rfl
  have c1 : w1.cell? ⟨b, 1, none⟩ = some v := by rw [Lib.cell_of_heap hbk]; rfl
  go_wp2_with (at_builtin; refine Lib.wpList_append_own_string _ rfl _ _ 69 9 rfl b 5 i0 Try.underlying69 Try.underlying9 hi hz0 hz1 hz2 _ _ _ rfl hown s rfl ?c3 ?c4 ?c5 ?_)
  case c3 => unfold maxLen; omega
  case c4 => omega
  case c5 => have := hb1.size; omega
  intro v' w2 hown' hgrow _
  have hlt : b < w1.heap.size := by
    rcases Nat.lt_or_ge b w1.heap.size with h' | h'
    · exact h'
    · simp [Array.getElem?_eq_none h'] at hbk
  have hb2 : w2.heap[b]? = some (.cells #[.pointer (some ⟨b, 0, none⟩), v] 99 (0, 0)) := by
    rw [hgrow.block b hlt (fun e => hne e.symm)]
    exact hbk
  have d0 : w2.cell? ⟨b, 0, none⟩ = some (.pointer (some ⟨b, 0, none⟩)) := by rw [Lib.cell_of_heap hb2]; rfl
  have d1 : w2.cell? ⟨b, 1, none⟩ = some v := by rw [Lib.cell_of_heap hb2]; rfl
  have f1 : w2.frozen? ⟨b, 1, none⟩ = false := Lib.frozen_of_heap hb2 1
  obtain ⟨ao, n', cap, rfl⟩ : ∃ ao n' cap, v' = .slice ao n' cap := by
    rcases hown'.2 with ⟨hv, _⟩ | ⟨g, cap, cur, hv, _⟩
    · exact ⟨_, _, _, hv⟩
    · exact ⟨_, _, _, hv⟩
  go_wp2
  go_ret2
  refine ⟨rfl, ?_, ?_, ?_⟩
  · refine .inr ?_
    have e : Lib.byteCells (l ++ s.data.toList) = Lib.byteCells l ++ Lib.strCells s := by simp [Lib.byteCells, Lib.strCells]
    rw [e]
    exact Lib.BuilderAt.put (T := 99) (e := 5) hB hb2 (bs' := Lib.byteCells l ++ Lib.strCells s) (by simpa [Lib.strCells_length, Lib.byteCells_length] using hown') (by decide)
  · exact (hb1.grown hgrow (by have := hb1.size; omega) (fun k hk => (hown.lt k hk).1)).setCell (p := ⟨b, 1, none⟩) hB _
  · exact (hk1.trans (Keeps.grown hgrow hown)).trans (Keeps.setCell _ _ _ _)

set_option maxHeartbeats 2000000 in
theorem num1_calls (b : Nat) (l : List UInt8) (n : Int) (w : World) (h : Bld b l w) (h0 : 0 ≤ n) (h1 : n ≤ 4611686018427387903) (hlen : l.length ≤ 1000000000) :
    Calls Try.prog 73 #[.int .i64 n, .pointer (some ⟨b, 0, none⟩)] w fun e w' => e = .returned (.tuple #[]) ∧ Bld b (l ++ numL n.toNat) w' ∧ Below b w w' ∧ Keeps b w w' := by
  go_enter Try.func73, Try.ntmps73
  go_wp2_with fail
  refine (num_calls n h0 h1 _).mono ?_
  rintro e w1 ⟨rfl, hb⟩
  have hB := h.below hb
  go_wp2_with fail
  refine (writeS_calls b l _ _ hB ?_).mono ?_
  · have := numL_length n.toNat
    show l.length + (numL n.toNat).toArray.size ≤ _
    simp; omega
  rintro e w2 ⟨rfl, h2, hb2, hk2⟩
  go_wp2_with fail
  go_end0
  exact ⟨rfl, h2, (hb.mono (Nat.le_of_lt h.lt)).trans hb2, (Keeps.of_below hb).trans hk2⟩
end Go.Proofs.Ytpegefcpanijhaa
end
section
namespace Go.Proofs.Ytpegefcpanijhaa
set_option linter.unusedVariables false
set_option linter.unusedSimpArgs false
open Go.RowKit Go.Proofs.YtpegefcpanijhaaW.PrintWords PF

def entL (x : S80) : List UInt8 := numL x.f0.toNat ++ numL x.f1.toNat ++ x.f2.data.toList
def fieldL (m : MsgD) : Fd → List UInt8
  | .b => numL m.ballot.toNat
  | .g => numL m.gen.toNat
  | .s => numL m.basis.toNat
  | .f => numL m.floor.toNat
  | .t => numL m.top.toNat
  | .r => numL m.read.toNat
  | .m => m.mark.data.toList
  | .p => numL m.pat.toNat ++ numL m.pof.toNat ++ numL m.ptext.size ++ m.ptext.data.toList
  | .l => numL m.list.length ++ m.list.flatMap entL
def preL (m : MsgD) (j : Nat) : List UInt8 := numL m.kind.toNat ++ numL m.frm.toNat ++ numL m.dst.toNat ++ ((fieldsOf m.kind).take j).flatMap (fieldL m)
/-- A message's bytes without their mark. -/
def bodyL (m : MsgD) : List UInt8 := preL m (fieldsOf m.kind).length

/-- What a message that may be is like. -/
structure MsgD.Fit (m : MsgD) : Prop where
  some_ : fieldsOf m.kind ≠ []
  frm : 0 ≤ m.frm ∧ m.frm ≤ 255
  dst : 0 ≤ m.dst ∧ m.dst ≤ 255
  num : ∀ x ∈ six, x ∈ fieldsOf m.kind → 0 ≤ m.num x ∧ m.num x ≤ 4611686018427387903
  mark : Fd.m ∈ fieldsOf m.kind → m.mark.size = 32
  part : Fd.p ∈ fieldsOf m.kind → 0 ≤ m.pat ∧ m.pat ≤ 4096 ∧ 0 ≤ m.pof ∧ m.pof ≤ 4096 ∧ m.ptext.size ≤ 1024
  list : Fd.l ∈ fieldsOf m.kind → m.list.length ≤ 64 ∧ ∀ x ∈ m.list, 0 ≤ x.f0 ∧ x.f0 ≤ 4611686018427387903 ∧ 0 ≤ x.f1 ∧ x.f1 ≤ 4611686018427387903 ∧ x.f2.size = 32

theorem hasB_iff (k : Int) (x : Fd) : hasB k x = true ↔ x ∈ fieldsOf k := by simp [hasB]
theorem fitsB_iff (n : Int) : fitsB n = true ↔ 0 ≤ n ∧ n ≤ 4611686018427387903 := by simp [fitsB]
theorem entAt_ent {l : List S80} {i : Nat} {x : S80} (h : l[i]? = some x) (he : entAt l i = true) : entB x = true := by
  unfold entAt at he
  rw [h] at he
  simp only [Bool.and_eq_true] at he
  exact he.1
theorem MsgD.Fit.of {m : MsgD} (h : rightB m = true) : m.Fit := by
  simp only [rightB, headB, Bool.and_eq_true, decide_eq_true_eq] at h
  obtain ⟨⟨⟨⟨⟨⟨hk, hf⟩, hd⟩, hn⟩, hm⟩, hp⟩, hl⟩ := h
  refine ⟨hk, hf, hd, ?_, ?_, ?_, ?_⟩
  · intro x hx hin
    have h1 := (hasB_iff _ _).2 hin
    simp only [numsB, Bool.and_eq_true] at hn
    obtain ⟨⟨⟨⟨⟨n1, n2⟩, n3⟩, n4⟩, n5⟩, n6⟩ := hn
    unfold numB at n1 n2 n3 n4 n5 n6
    rw [← fitsB_iff]
    cases x
    · rw [h1, if_pos rfl] at n1; exact n1
    · rw [h1, if_pos rfl] at n2; exact n2
    · rw [h1, if_pos rfl] at n3; exact n3
    · rw [h1, if_pos rfl] at n4; exact n4
    · rw [h1, if_pos rfl] at n5; exact n5
    · rw [h1, if_pos rfl] at n6; exact n6
    all_goals exact absurd hx (by decide)
  · intro hin
    unfold markB at hm
    rw [(hasB_iff _ _).2 hin, if_pos rfl] at hm
    exact of_decide_eq_true hm
  · intro hin
    unfold partB at hp
    rw [(hasB_iff _ _).2 hin, if_pos rfl] at hp
    simp only [Bool.and_eq_true, decide_eq_true_eq] at hp
    omega
  · intro hin
    unfold listB at hl
    rw [(hasB_iff _ _).2 hin, if_pos rfl] at hl
    simp only [Bool.and_eq_true, decide_eq_true_eq, List.all_eq_true, List.mem_range] at hl
    refine ⟨hl.1, fun x hx => ?_⟩
    obtain ⟨i, hi, rfl⟩ := List.getElem_of_mem hx
    have h1 := entAt_ent (List.getElem?_eq_getElem hi) (hl.2 i hi)
    simp only [entB, fitsB, Bool.and_eq_true, decide_eq_true_eq] at h1
    omega

theorem fields_short (k : Int) : (fieldsOf k).length ≤ 5 := by
  rcases kind_cases k with rfl | rfl | rfl | rfl | rfl | rfl | rfl | rfl | rfl | rfl | rfl | rfl | rfl | rfl | rfl | rfl | rfl | ⟨h0, hh⟩
  any_goals decide
  rw [h0]; decide
theorem kind_range {k : Int} (h : fieldsOf k ≠ []) : 1 ≤ k ∧ k ≤ 17 := by
  rcases kind_cases k with rfl | rfl | rfl | rfl | rfl | rfl | rfl | rfl | rfl | rfl | rfl | rfl | rfl | rfl | rfl | rfl | rfl | ⟨h0, hh⟩
  any_goals omega
  exact absurd h0 h
theorem entL_length {x : S80} (h : x.f2.size = 32) : (entL x).length ≤ 50 := by
  have h1 := numL_length x.f0.toNat
  have h2 := numL_length x.f1.toNat
  have h3 : x.f2.data.toList.length = 32 := h
  simp only [entL, List.length_append]
  omega
theorem ents_length {l : List S80} (h : ∀ x ∈ l, x.f2.size = 32) : (l.flatMap entL).length ≤ 50 * l.length := by
  induction l with
  | nil => simp
  | cons x l ih =>
    have h1 := entL_length (h x (.head _))
    have h2 := ih (fun y hy => h y (.tail _ hy))
    simp only [List.flatMap_cons, List.length_append, List.length_cons]
    omega
theorem fieldL_length {m : MsgD} (h : m.Fit) {x : Fd} (hx : x ∈ fieldsOf m.kind) : (fieldL m x).length ≤ 4000 := by
  cases x
  case m =>
    have h1 := h.mark hx
    have h2 : m.mark.data.toList.length = m.mark.size := rfl
    simp only [fieldL]
    omega
  case p =>
    have h1 := numL_length m.pat.toNat
    have h2 := numL_length m.pof.toNat
    have h3 := numL_length m.ptext.size
    have h4 := (h.part hx).2.2.2.2
    have h5 : m.ptext.data.toList.length = m.ptext.size := rfl
    simp only [fieldL, List.length_append]
    omega
  case l =>
    have h1 := numL_length m.list.length
    have h2 := (h.list hx).1
    have h3 := ents_length (fun x hx' => ((h.list hx).2 x hx').2.2.2.2)
    simp only [fieldL, List.length_append]
    omega
  all_goals
    have := fun n => numL_length n
    simp only [fieldL]
    have h1 := this m.ballot.toNat
    have h2 := this m.gen.toNat
    have h3 := this m.basis.toNat
    have h4 := this m.floor.toNat
    have h5 := this m.top.toNat
    have h6 := this m.read.toNat
    omega
theorem preL_succ {m : MsgD} {j : Nat} {x : Fd} (h : (fieldsOf m.kind)[j]? = some x) : preL m (j + 1) = preL m j ++ fieldL m x := by
  unfold preL
  rw [List.take_add_one, h]
  simp
theorem preL_length {m : MsgD} (h : m.Fit) (j : Nat) (hj : j ≤ (fieldsOf m.kind).length) : (preL m j).length ≤ 27 + 4000 * j := by
  induction j with
  | zero =>
    have h1 := numL_length m.kind.toNat
    have h2 := numL_length m.frm.toNat
    have h3 := numL_length m.dst.toNat
    simp [preL]
    omega
  | succ j ih =>
    have h0 : j < (fieldsOf m.kind).length := hj
    have h1 := List.getElem?_eq_getElem h0
    have h2 := fieldL_length h (List.getElem_mem h0)
    rw [preL_succ h1, List.length_append]
    have := ih (by omega)
    omega

theorem Keeps.cells {b : Nat} {w w' : World} (h : Keeps b w w') {k : Nat} {cs : Array Value} {t : Nat} {fr : Nat × Nat} (hk : w.heap[k]? = some (.cells cs t fr)) (hb : k ≠ b) (ht : t ≠ 5 ∨ fr ≠ (0, 0)) : w'.heap[k]? = some (.cells cs t fr) := by
  have hl : k < w.heap.size := by rw [Array.getElem?_eq_some_iff] at hk; exact hk.1
  refine (h.2 k hl hb (fun cs' e => ?_)).trans hk
  rw [hk] at e
  injection e with e
  injection e with _ e1 e2
  rcases ht with h | h
  · exact h e1
  · exact h e2

theorem conv_bytes (w : World) (s : ByteArray) : ∃ (w' : World) (cap n1 : Nat) (row : Array Value) (g : Nat), g = w.heap.size ∧ (convert 9 69 (.string s)).run Try.prog w = .ok (.slice (some ⟨g, 0, none⟩) s.size cap) w' ∧ Below w.heap.size w w' ∧
    w'.heap[g]? = some (.cells row 5 (n1, n1 + 1)) ∧ ∀ j (hj : j < s.data.size), row[j]? = some (.int .u8 (s.data[j].toNat : Int)) := by
  refine ⟨w.drew.alloc (.cells (bytesRow s (grownCap w s.size 0 5)) 5 ((bytesRow s (grownCap w s.size 0 5)).size, (bytesRow s (grownCap w s.size 0 5)).size + 1)), grownCap w s.size 0 5, (bytesRow s (grownCap w s.size 0 5)).size, bytesRow s (grownCap w s.size 0 5), w.heap.size, rfl, run_bytes_of_string w 9 69 5 s Try.underlying9 Try.underlying69 Try.underlying5, ?_, ?_, fun j hj => bytesRow_at s _ j hj⟩
  · exact ((Below.refl _ _).drew).alloc (Nat.le_refl _) _
  · show (w.heap.push _)[w.heap.size]? = _
    simp
theorem bytesLo_size (l : List Fd) : (bytesLo l).size = l.length := by simp [bytesLo, ByteArray.size]
theorem row_cell {w : World} {g n1 : Nat} {row : Array Value} {l : List Fd} (h : w.heap[g]? = some (.cells row 5 (n1, n1 + 1))) (hr : ∀ j (hj : j < (bytesLo l).data.size), row[j]? = some (.int .u8 ((bytesLo l).data[j].toNat : Int))) {j : Nat} {x : Fd} (hx : l[j]? = some x) :
    w.cell? ⟨g, j, none⟩ = some (.int .u8 (x.lo.toNat : Nat)) := by
  have hj : j < l.length := (List.getElem?_eq_some_iff.1 hx).1
  have hj2 : j < (bytesLo l).data.size := by simpa [bytesLo] using hj
  rw [cell_of_row w g j row 5 _ h, hr j hj2]
  have e : (bytesLo l).data[j] = x.lo := by
    have h2 := (List.getElem?_eq_some_iff.1 hx).2
    simp [bytesLo, h2]
  rw [e]

/-- In the midst of msg.body: the message's box, the builder behind it. -/
structure BodySt (w : World) (m : MsgD) (A : Option Addr) (c : Nat) (l : List UInt8) (wr : World) : Prop where
  bld : Bld (w.heap.size + 1) l wr
  box : wr.heap[w.heap.size]? = some (.cells (m.cells A c) 44 (0, 0))
  low : Below w.heap.size w wr

theorem BodySt.step {w : World} {m : MsgD} {A : Option Addr} {c : Nat} {l l' : List UInt8} {wr w' : World} (h : BodySt w m A c l wr) (hb : Bld (w.heap.size + 1) l' w') (hB : Below (w.heap.size + 1) wr w') (hk : Keeps (w.heap.size + 1) wr w') : BodySt w m A c l' w' :=
  ⟨hb, hk.cells h.box (by omega) (.inl (by decide)), h.low.trans (hB.mono (by omega))⟩
theorem BodySt.below {w : World} {m : MsgD} {A : Option Addr} {c : Nat} {l : List UInt8} {wr w' : World} (h : BodySt w m A c l wr) (hb : Below wr.heap.size wr w') : BodySt w m A c l w' :=
  h.step (h.bld.below hb) (hb.mono (Nat.le_of_lt h.bld.lt)) (Keeps.of_below hb)
theorem num_st {w : World} {m : MsgD} {A : Option Addr} {c : Nat} {l : List UInt8} {wr : World} (h : BodySt w m A c l wr) {n : Int} (h0 : 0 ≤ n ∧ n ≤ 4611686018427387903) (hl : l.length ≤ 1000000000) :
    Calls Try.prog 73 #[.int .i64 n, .pointer (some ⟨w.heap.size + 1, 0, none⟩)] wr fun e w' => e = .returned (.tuple #[]) ∧ BodySt w m A c (l ++ numL n.toNat) w' ∧ Keeps (w.heap.size + 1) wr w' :=
  (num1_calls _ _ _ _ h.bld h0.1 h0.2 hl).mono fun e w' ⟨he, hb, hB, hk⟩ => ⟨he, h.step hb hB hk, hk⟩
theorem str_st {w : World} {m : MsgD} {A : Option Addr} {c : Nat} {l : List UInt8} {wr : World} (h : BodySt w m A c l wr) {s : ByteArray} (hs : s.size ≤ 1000000000) (hl : l.length ≤ 1000000000) :
    Calls Try.prog 75 #[.pointer (some ⟨w.heap.size + 1, 0, none⟩), .string s] wr fun e w' => e = .returned (.tuple #[.int .i64 s.size, .nilIface]) ∧ BodySt w m A c (l ++ s.data.toList) w' ∧ Keeps (w.heap.size + 1) wr w' :=
  (writeS_calls _ _ _ _ h.bld (by omega)).mono fun e w' ⟨he, hb, hB, hk⟩ => ⟨he, h.step hb hB hk, hk⟩
theorem BodySt.new (w : World) (m : MsgD) (A : Option Addr) (c : Nat) : BodySt w m A c [] ((w.alloc (.cells (m.cells A c) 44)).alloc (.cells #[.pointer none, .slice none 0 0] 99)) := by
  have e : (w.alloc (.cells (m.cells A c) 44)).heap.size = w.heap.size + 1 := by simp
  refine ⟨?_, ?_, ?_⟩
  · have h := Lib.fresh_isBuilder 99 5 (w.alloc (.cells (m.cells A c) 44))
    rw [e] at h
    exact h
  · exact (Lib.alloc_old _ _ _ (show w.heap.size < (w.alloc (.cells (m.cells A c) 44)).heap.size by rw [e]; omega)).trans (heap_alloc_new _ _)
  · exact ((Below.refl _ _).alloc (Nat.le_refl _) _).alloc (by rw [e]; omega) _

set_option maxHeartbeats 4000000 in
set_option maxRecDepth 100000 in
theorem body_calls (m : MsgD) (A : Option Addr) (c : Nat) (w : World) (hL : ListAt w A c m.list) (hR : rightB m = true) :
    Calls Try.prog 46 #[.agg (m.cells A c)] w fun e w' => e = .returned (.string ⟨(bodyL m).toArray⟩) ∧ Below w.heap.size w w' := by
  have HF := Lib.hid (MsgD.Fit.of hR)
  clear hR
  have hkr := kind_range HF.out.some_
  go_enter Try.func46, Try.ntmps46
  go_wp2_with fail
  refine (num_st (BodySt.new w m A c) (n := m.kind) (by omega) (by simp)).mono ?_
  rintro e w1 ⟨rfl, h1, -⟩
  obtain ⟨c0, c1, c2, -, -, -, -, -, -, -, -, -, -, -⟩ := MsgBox.of h1.box
  go_wp2_with fail
  refine (num_st h1 (n := m.frm) (by have := HF.out.frm; omega) (by have := numL_length m.kind.toNat; simp only [List.length_append, List.length_nil]; omega)).mono ?_
  rintro e w2 ⟨rfl, h2, -⟩
  clear c0 c1 c2 h1
  obtain ⟨c0, c1, c2, -, -, -, -, -, -, -, -, -, -, -⟩ := MsgBox.of h2.box
  go_wp2_with fail
  refine (num_st h2 (n := m.dst) (by have := HF.out.dst; omega) (by have := numL_length m.kind.toNat; have := numL_length m.frm.toNat; simp only [List.length_append, List.length_nil]; omega)).mono ?_
  rintro e w3 ⟨rfl, h3, -⟩
  clear c0 c1 c2 h2
  obtain ⟨c0, -, -, -, -, -, -, -, -, -, -, -, -, -⟩ := MsgBox.of h3.box
  go_wp2_with fail
  refine (form_calls m.kind _).mono ?_
  rintro e w4 ⟨rfl, hb4⟩
  have h4 := h3.below hb4
  obtain ⟨w5, cap, n1, row, g, hg, hcv, hb5, hrow, hrc⟩ := conv_bytes w4 (bytesLo (fieldsOf m.kind))
  have hbl := h4.bld.lt
  have hne : g ≠ w.heap.size + 1 := by omega
  clear hg
  have h5 := h4.below hb5
  have hsz := bytesLo_size (fieldsOf m.kind)
  clear c0 h3 hb4
  go_wp2_with fail
  clear hcv hsz
  clear hbl hb5 h4
  have HRC := Lib.hid hrc
  clear hrc
  have hfl := fields_short m.kind
  go_loopw [27] (fun i wr => ∃ (j : Nat) (l : List UInt8), j ≤ (fieldsOf m.kind).length ∧ i = .int .i64 j ∧ BodySt w m A c l wr ∧ wr.heap[g]? = some (.cells row 5 (n1, n1 + 1)) ∧ Hid (l = preL m j)) (fun i _ => 5 - (intOf i).toNat)
  case atStart => exact ⟨0, _, Nat.zero_le _, rfl, h5, hrow, Lib.hid (by simp [preL])⟩
  case round =>
    clear h5 hrow
    obtain ⟨j, l, hj, rfl, hS, hrow, HPL⟩ := hrel
    have hll : l.length ≤ 27 + 4000 * j := by rw [HPL.out]; exact preL_length HF.out j hj
    obtain ⟨c0, c1, c2, c3, c4, c5, c6, c7, c8, c9, c10, c11, c12, c13⟩ := MsgBox.of hS.box
    by_cases hlt : j < (fieldsOf m.kind).length
    · obtain ⟨x, hx⟩ : ∃ x, (fieldsOf m.kind)[j]? = some x := ⟨_, List.getElem?_eq_getElem hlt⟩
      have hcx := row_cell hrow HRC.out hx
      have HX := Lib.hid hx
      have HM := Lib.hid (List.mem_of_getElem? hx)
      clear hx
      have z1 : (0 : Int) ≤ (j : Int) := by omega
      have z2 : (j : Int) < ((fieldsOf m.kind).length : Int) := by omega
      cases x
      · replace hcx : wr.cell? ⟨g, j, none⟩ = some (.int .u8 98) := hcx
        go_wp2_with fail
        refine (num_st hS (n := m.ballot) (HF.out.num .b (by decide) HM.out) (by omega)).mono ?_
        rintro e v1 ⟨rfl, k1, q1⟩
        go_wp2_with fail
        go_roundw
        case rel => exact ⟨j + 1, _, by omega, by go_num, k1, q1.cells hrow hne (.inr (by simp)), Lib.hid (by rw [preL_succ HX.out, HPL.out]; rfl)⟩
        case measure => simp [intOf]; omega
      · replace hcx : wr.cell? ⟨g, j, none⟩ = some (.int .u8 103) := hcx
        go_wp2_with fail
        refine (num_st hS (n := m.gen) (HF.out.num .g (by decide) HM.out) (by omega)).mono ?_
        rintro e v1 ⟨rfl, k1, q1⟩
        go_wp2_with fail
        go_roundw
        case rel => exact ⟨j + 1, _, by omega, by go_num, k1, q1.cells hrow hne (.inr (by simp)), Lib.hid (by rw [preL_succ HX.out, HPL.out]; rfl)⟩
        case measure => simp [intOf]; omega
      · replace hcx : wr.cell? ⟨g, j, none⟩ = some (.int .u8 115) := hcx
        go_wp2_with fail
        refine (num_st hS (n := m.basis) (HF.out.num .s (by decide) HM.out) (by omega)).mono ?_
        rintro e v1 ⟨rfl, k1, q1⟩
        go_wp2_with fail
        go_roundw
        case rel => exact ⟨j + 1, _, by omega, by go_num, k1, q1.cells hrow hne (.inr (by simp)), Lib.hid (by rw [preL_succ HX.out, HPL.out]; rfl)⟩
        case measure => simp [intOf]; omega
      · replace hcx : wr.cell? ⟨g, j, none⟩ = some (.int .u8 102) := hcx
        go_wp2_with fail
        refine (num_st hS (n := m.floor) (HF.out.num .f (by decide) HM.out) (by omega)).mono ?_
        rintro e v1 ⟨rfl, k1, q1⟩
        go_wp2_with fail
        go_roundw
        case rel => exact ⟨j + 1, _, by omega, by go_num, k1, q1.cells hrow hne (.inr (by simp)), Lib.hid (by rw [preL_succ HX.out, HPL.out]; rfl)⟩
        case measure => simp [intOf]; omega
      · replace hcx : wr.cell? ⟨g, j, none⟩ = some (.int .u8 116) := hcx
        go_wp2_with fail
        refine (num_st hS (n := m.top) (HF.out.num .t (by decide) HM.out) (by omega)).mono ?_
        rintro e v1 ⟨rfl, k1, q1⟩
        go_wp2_with fail
        go_roundw
        case rel => exact ⟨j + 1, _, by omega, by go_num, k1, q1.cells hrow hne (.inr (by simp)), Lib.hid (by rw [preL_succ HX.out, HPL.out]; rfl)⟩
        case measure => simp [intOf]; omega
      · replace hcx : wr.cell? ⟨g, j, none⟩ = some (.int .u8 114) := hcx
        go_wp2_with fail
        refine (num_st hS (n := m.read) (HF.out.num .r (by decide) HM.out) (by omega)).mono ?_
        rintro e v1 ⟨rfl, k1, q1⟩
        go_wp2_with fail
        go_roundw
        case rel => exact ⟨j + 1, _, by omega, by go_num, k1, q1.cells hrow hne (.inr (by simp)), Lib.hid (by rw [preL_succ HX.out, HPL.out]; rfl)⟩
        case measure => simp [intOf]; omega
      · replace hcx : wr.cell? ⟨g, j, none⟩ = some (.int .u8 109) := hcx
        go_wp2_with fail
        have hms := HF.out.mark HM.out
        refine (str_st hS (s := m.mark) (by omega) (by omega)).mono ?_
        rintro e v1 ⟨rfl, k1, q1⟩
        go_wp2_with fail
        go_roundw
        case rel => exact ⟨j + 1, _, by omega, by go_num, k1, q1.cells hrow hne (.inr (by simp)), Lib.hid (by rw [preL_succ HX.out, HPL.out]; rfl)⟩
        case measure => simp [intOf]; omega
      · replace hcx : wr.cell? ⟨g, j, none⟩ = some (.int .u8 112) := hcx
        go_wp2_with fail
        have hps := HF.out.part HM.out
        have y1 := numL_length m.pat.toNat
        have y2 := numL_length m.pof.toNat
        have y3 := numL_length (m.ptext.size : Int).toNat
        refine (num_st hS (n := m.pat) (by omega) (by omega)).mono ?_
        rintro e v1 ⟨rfl, k1, q1⟩
        clear c0 c1 c2 c3 c4 c5 c6 c7 c8 c9 c10 c11 c12 c13
        obtain ⟨c0, c1, c2, c3, c4, c5, c6, c7, c8, c9, c10, c11, c12, c13⟩ := MsgBox.of k1.box
        go_wp2_with fail
        refine (num_st k1 (n := m.pof) (by omega) (by simp only [List.length_append]; omega)).mono ?_
        rintro e v2 ⟨rfl, k2, q2⟩
        clear c0 c1 c2 c3 c4 c5 c6 c7 c8 c9 c10 c11 c12 c13
        obtain ⟨c0, c1, c2, c3, c4, c5, c6, c7, c8, c9, c10, c11, c12, c13⟩ := MsgBox.of k2.box
        go_wp2_with fail
        refine (num_st k2 (n := m.ptext.size) (by omega) (by simp only [List.length_append]; omega)).mono ?_
        rintro e v3 ⟨rfl, k3, q3⟩
        clear c0 c1 c2 c3 c4 c5 c6 c7 c8 c9 c10 c11 c12 c13
        obtain ⟨c0, c1, c2, c3, c4, c5, c6, c7, c8, c9, c10, c11, c12, c13⟩ := MsgBox.of k3.box
        go_wp2_with fail
        refine (str_st k3 (s := m.ptext) (by omega) (by simp only [List.length_append]; omega)).mono ?_
        rintro e v4 ⟨rfl, k4, q4⟩
        clear c0 c1 c2 c3 c4 c5 c6 c7 c8 c9 c10 c11 c12 c13 y1 y2 y3
        go_wp2_with fail
        go_roundw
        case rel => exact ⟨j + 1, _, by omega, by go_num, k4, (((q1.trans q2).trans q3).trans q4).cells hrow hne (.inr (by simp)), Lib.hid (by rw [preL_succ HX.out, HPL.out]; simp [fieldL])⟩
        case measure => simp [intOf]; omega
      · replace hcx : wr.cell? ⟨g, j, none⟩ = some (.int .u8 108) := hcx
        go_wp2_with fail
        have hls := HF.out.list HM.out
        have y1 := numL_length (m.list.length : Int).toNat
        refine (num_st hS (n := m.list.length) (by omega) (by omega)).mono ?_
        rintro e v1 ⟨rfl, k1, q1⟩
        clear c0 c1 c2 c3 c4 c5 c6 c7 c8 c9 c10 c11 c12 c13
        obtain ⟨-, -, -, -, -, -, -, -, -, -, -, -, -, c13⟩ := MsgBox.of k1.box
        have hrow1 := q1.cells hrow hne (.inr (by simp))
        have HLS := Lib.hid hls.2
        have hls1 := hls.1
        clear hls hrow q1
        go_wp2_with fail
        go_loopw [105, 8] (fun i x wr => ∃ (k : Nat) (l' : List UInt8), k ≤ m.list.length ∧ i = .int .i64 k ∧ BodySt w m A c l' wr ∧ wr.heap[g]? = some (.cells row 5 (n1, n1 + 1)) ∧ l'.length ≤ 27 + 4000 * j + 9 + 50 * k ∧ Hid (l' = l ++ numL m.list.length ++ (m.list.take k).flatMap entL)) (fun i _ _ => 64 - (intOf i).toNat)
        case atStart => exact ⟨0, _, Nat.zero_le _, rfl, k1, hrow1, by simp only [List.length_append]; omega, Lib.hid (by simp)⟩
        case round =>
          clear k1 hrow1 c13
          obtain ⟨k, l', hk, rfl, hS, hrow, hl', HL'⟩ := hrel
          obtain ⟨-, -, -, -, -, -, -, -, -, -, -, -, -, c13⟩ := MsgBox.of hS.box
          by_cases hlt2 : k < m.list.length
          · obtain ⟨ad, x, ea, hx, d0, d1, d2⟩ := hL.at_ hS.low hlt2
            subst ea
            have hf := HLS.out x (List.mem_of_getElem? hx)
            have HX2 := Lib.hid hx
            have z3 : (0 : Int) ≤ (k : Int) := by omega
            have z4 : (k : Int) < (m.list.length : Int) := by omega
            have y2 := numL_length x.f0.toNat
            have y3 := numL_length x.f1.toNat
            have hS1 := hS.below ((Below.refl wr.heap.size wr).alloc (Nat.le_refl _) (.cells #[.int .i64 x.f0, .int .i64 x.f1, .string x.f2] 80))
            have hq0 := Keeps.of_below (b := w.heap.size + 1) ((Below.refl wr.heap.size wr).alloc (Nat.le_refl _) (.cells #[.int .i64 x.f0, .int .i64 x.f1, .string x.f2] 80))
            have hen := heap_alloc_new wr (.cells #[.int .i64 x.f0, .int .i64 x.f1, .string x.f2] 80)
            have hne2 : wr.heap.size ≠ w.heap.size + 1 := by have := hS.bld.lt; omega
            clear hx
            go_wp2_with fail
            refine (num_st hS1 (n := x.f0) (by omega) (by omega)).mono ?_
            rintro e u1 ⟨rfl, k1, q1⟩
            have hen1 := q1.cells hen hne2 (.inl (by decide))
            have e1 := cell_of_row _ _ 1 _ _ _ hen1
            clear d0 d1 d2 c13 hS1 hen
            go_wp2_with fail
            refine (num_st k1 (n := x.f1) (by omega) (by simp only [List.length_append]; omega)).mono ?_
            rintro e u2 ⟨rfl, k2, q2⟩
            have hen2 := q2.cells hen1 hne2 (.inl (by decide))
            have e2 := cell_of_row _ _ 2 _ _ _ hen2
            clear e1 k1 hen1
            go_wp2_with fail
            refine (str_st k2 (s := x.f2) (by omega) (by simp only [List.length_append]; omega)).mono ?_
            rintro e u3 ⟨rfl, k3, q3⟩
            have hrow3 := (((hq0.trans q1).trans q2).trans q3).cells hrow hne (.inr (by simp))
            have e5 : x.f2.data.toList.length = x.f2.size := rfl
            clear e2 k2 hen2 hrow
            go_wp2_with fail
            go_roundw
            case rel => exact ⟨k + 1, _, by omega, by go_num, k3, hrow3, by simp only [List.length_append]; omega, Lib.hid (by rw [HL'.out, List.take_add_one, HX2.out]; simp [entL])⟩
            case measure => simp [intOf]; omega
          · have ek : k = m.list.length := by omega
            subst ek
            clear hlt2 c13
            go_wp2_with fail
            go_roundw
            case rel => exact ⟨j + 1, _, by omega, by go_num, hS, hrow, Lib.hid (by rw [preL_succ HX.out, HL'.out, HPL.out, List.take_length]; simp [fieldL])⟩
            case measure => simp [intOf]; omega
    · have ej : j = (fieldsOf m.kind).length := by omega
      subst ej
      have HBL : Hid (bodyL m = l) := Lib.hid HPL.out.symm
      clear c0 c1 c2 c3 c4 c5 c6 c7 c8 c9 c10 c11 c12 c13 hlt
      go_wp2_with fail
      refine (Try.Builder_String_any _ _ _ _ hS.bld (Nat.le_of_lt hS.bld.lt)).mono ?_
      rintro e w9 ⟨rfl, hb9⟩
      go_wp2_with fail
      go_ret
      exact ⟨by rw [HBL.out]; simp, hS.low.trans (hb9.mono (by omega))⟩
end Go.Proofs.Ytpegefcpanijhaa
end
section
namespace Go.Proofs.Ytpegefcpanijhaa
set_option linter.unusedVariables false
set_option linter.unusedSimpArgs false
open Go.RowKit Go.Proofs.YtpegefcpanijhaaW.PrintWords PF

/-- A message's text. -/
def txt (m : MsgD) : ByteArray := ⟨(bodyL m).toArray⟩
theorem txt_size {m : MsgD} (h : rightB m = true) : (txt m).size ≤ 20100 := by
  have h1 := preL_length (MsgD.Fit.of h) _ (Nat.le_refl _)
  have h2 := fields_short m.kind
  show (bodyL m).toArray.size ≤ _
  rw [List.size_toArray]
  unfold bodyL
  omega

/-- What a message must be like to be an argument. -/
structure MsgAt (w : World) (A : Option Addr) (c : Nat) (m : MsgD) : Prop where
  ptext : m.ptext.size ≤ maxLen
  mark : m.mark.size ≤ maxLen
  list : ListAt w A c m.list
theorem MsgAt.below {w w' : World} {A : Option Addr} {c : Nat} {m : MsgD} (h : MsgAt w A c m) (hb : Below w.heap.size w w') : MsgAt w' A c m := ⟨h.ptext, h.mark, h.list.below hb⟩

set_option maxHeartbeats 1000000 in
theorem bytes_bad {w : World} (bv : Value) {m : MsgD} {A : Option Addr} {c : Nat} (h : MsgAt w A c m) (hR : rightB m = false) :
    Calls Try.prog 26 #[bv, .agg (m.cells A c)] w fun e w' => e = .returned (.tuple #[.string ⟨#[]⟩, .int .i64 1]) ∧ Below w.heap.size w w' := by
  have HR := Lib.hid hR
  clear hR
  go_enter Try.func26, Try.ntmps26
  have hb0 : Below w.heap.size w (w.alloc (.cells (m.cells A c) 44)) := (Below.refl _ _).alloc (Nat.le_refl _) _
  obtain ⟨c0, c1, c2, c3, c4, c5, c6, c7, c8, c9, c10, c11, c12, c13⟩ := MsgBox.of (heap_alloc_new w (.cells (m.cells A c) 44))
  go_wp2_with fail
  refine (Right_calls m A c _ h.ptext h.mark (h.list.below hb0)).mono ?_
  rintro e w1 ⟨rfl, hb⟩
  rw [HR.out]
  go_wp2_with fail
  go_ret2
  exact ⟨rfl, hb0.trans (hb.mono hb0.size)⟩

set_option maxHeartbeats 1000000 in
theorem bytes_nil {w : World} {m : MsgD} {A : Option Addr} {c : Nat} (h : MsgAt w A c m) (hR : rightB m = true) :
    Calls Try.prog 26 #[.pointer none, .agg (m.cells A c)] w fun e w' => e = .returned (.tuple #[.string ⟨#[]⟩, .int .i64 15]) ∧ Below w.heap.size w w' := by
  have HR := Lib.hid hR
  clear hR
  go_enter Try.func26, Try.ntmps26
  have hb0 : Below w.heap.size w (w.alloc (.cells (m.cells A c) 44)) := (Below.refl _ _).alloc (Nat.le_refl _) _
  obtain ⟨c0, c1, c2, c3, c4, c5, c6, c7, c8, c9, c10, c11, c12, c13⟩ := MsgBox.of (heap_alloc_new w (.cells (m.cells A c) 44))
  go_wp2_with fail
  refine (Right_calls m A c _ h.ptext h.mark (h.list.below hb0)).mono ?_
  rintro e w1 ⟨rfl, hb⟩
  rw [HR.out]
  have hblk := blk_later hb
  have hB1 : Below w.heap.size w w1 := hb0.trans (hb.mono hb0.size)
  clear hb hb0 c0 c1 c2 c3 c4 c5 c6 c7 c8 c9 c10 c11 c12 c13
  obtain ⟨c0, c1, c2, c3, c4, c5, c6, c7, c8, c9, c10, c11, c12, c13⟩ := MsgBox.of hblk
  go_wp2_with fail
  refine (body_calls m A c _ (h.list.below hB1) HR.out).mono ?_
  rintro e w2 ⟨rfl, hb2⟩
  have hB2 : Below w.heap.size w w2 := hB1.trans (hb2.mono hB1.size)
  clear hb2 hB1 hblk c0 c1 c2 c3 c4 c5 c6 c7 c8 c9 c10 c11 c12 c13
  go_wp2_with fail
  refine (mark_nil _ _).mono ?_
  rintro e w3 ⟨rfl, rfl⟩
  go_wp2_with fail
  go_ret2
  exact ⟨rfl, hB2⟩

theorem mk_ne (n : Int) : ¬ (mk n).toList = [] := by
  intro h
  have h1 := mk_size n
  rw [toList_nil] at h
  omega

set_option maxHeartbeats 1000000 in
theorem bytes_ideal {W w : World} {b mm : Nat} {l : List ByteArray} (hI : IsIdeal w b mm l) (hB : Below W.heap.size W w) (hW : W.heap.size ≤ mm) (hl : l.length ≤ 2000) {m : MsgD} {A : Option Addr} {c : Nat} (h : MsgAt w A c m) (hR : rightB m = true) :
    Calls Try.prog 26 #[.pointer (some ⟨b, 0, none⟩), .agg (m.cells A c)] w fun e w' => e = .returned (.tuple #[.string (txt m ++ mk (l.idxOf (txt m) + 1)), .int .i64 0]) ∧ IsIdeal w' b mm (seen l (txt m)) ∧ Below W.heap.size W w' := by
  have HR := Lib.hid hR
  have hts := txt_size hR
  clear hR
  have HNE := Lib.hid (mk_ne (l.idxOf (txt m) + 1))
  go_enter Try.func26, Try.ntmps26
  have hb0 : Below w.heap.size w (w.alloc (.cells (m.cells A c) 44)) := (Below.refl _ _).alloc (Nat.le_refl _) _
  obtain ⟨c0, c1, c2, c3, c4, c5, c6, c7, c8, c9, c10, c11, c12, c13⟩ := MsgBox.of (heap_alloc_new w (.cells (m.cells A c) 44))
  go_wp2_with fail
  refine (Right_calls m A c _ h.ptext h.mark (h.list.below hb0)).mono ?_
  rintro e w1 ⟨rfl, hb⟩
  rw [HR.out]
  have hblk := blk_later hb
  have hB1 : Below w.heap.size w w1 := hb0.trans (hb.mono hb0.size)
  clear hb hb0 c0 c1 c2 c3 c4 c5 c6 c7 c8 c9 c10 c11 c12 c13
  obtain ⟨c0, c1, c2, c3, c4, c5, c6, c7, c8, c9, c10, c11, c12, c13⟩ := MsgBox.of hblk
  go_wp2_with fail
  refine (body_calls m A c _ (h.list.below hB1) HR.out).mono ?_
  rintro e w2 ⟨rfl, hb2⟩
  have hB2 : Below w.heap.size w w2 := hB1.trans (hb2.mono hB1.size)
  clear hb2 hB1 hblk c0 c1 c2 c3 c4 c5 c6 c7 c8 c9 c10 c11 c12 c13
  have hI2 := hI.below hB2
  have hBW : Below W.heap.size W w2 := hB.trans (hB2.mono hB.size)
  go_wp2_with fail
  refine (mark_to hI2 hBW hW (s := txt m) (by unfold maxLen; omega) hl rfl rfl).mono ?_
  rintro e w3 ⟨rfl, hI3, hB3⟩
  have hms := mk_size ((l.idxOf (txt m) : Int) + 1)
  have hts2 : (bodyL m).length = (txt m).size := by show _ = (bodyL m).toArray.size; simp
  have hsum : ¬ 9223372036854775807 < (bodyL m).length + (mk ((l.idxOf (txt m) : Int) + 1)).size := by omega
  clear hms hts2 hts
  go_wp2_with fail
  · rename (mk _).toList.isEmpty = true => hq
    exact absurd (List.isEmpty_iff.1 hq) HNE.out
  go_ret2
  exact ⟨rfl, hI3, hB3⟩
end Go.Proofs.Ytpegefcpanijhaa
end
section
namespace Go.Proofs.Ytpegefcpanijhaa
set_option linter.unusedVariables false
set_option linter.unusedSimpArgs false
open Go.RowKit Go.Proofs.YtpegefcpanijhaaW.PrintWords PF

/-- A message of at most 80 entries. -/
def cutM (m : MsgD) : MsgD := { m with list := m.list.take 80 }

theorem ListAt.take {w : World} {A : Option Addr} {c : Nat} {l : List S80} (h : ListAt w A c l) (k : Nat) : ListAt w A c (l.take k) := by
  rcases Nat.le_total k l.length with hk | hk
  · exact ⟨by rw [List.length_take]; have := h.le; omega, h.max, Kd.C_take h.cells hk⟩
  · rw [List.take_of_length_le hk]; exact h
theorem MsgAt.cut {w : World} {A : Option Addr} {c : Nat} {m : MsgD} (h : MsgAt w A c m) : MsgAt w A c (cutM m) := ⟨h.ptext, h.mark, h.list.take 80⟩

theorem ret_row {fn : Func} {R : Ending → World → Prop} {tm : Array Value} {w : World} {p : Tmp} {g : Nat} {ty t : TypeId} {cs : Array Value} {fr : Nat × Nat} {fs : Array Field} (h : fn.results = #[.cell p ty]) (hp : tm.getD p undef = .pointer (some ⟨g, 0, none⟩)) (hg : w.heap[g]? = some (.cells cs t fr))
    (hu : Try.prog.underlying ty = some (.struct fs)) (hi : (Try.prog.info? ty).map (·.size) = some cs.size) (hR : R (.returned (.agg cs)) w) : bodyPost Try.prog fn R .ret { tmps := tm, defers := [] } w :=
  bodyPost_ret (results_cell_row h tm w g t cs fr _ hp hg hu rfl hi) rfl hR
theorem heap_two (w : World) (o o' : Obj) : ((w.alloc o).alloc o').heap[w.heap.size + 1]? = some o' := by
  have h := heap_alloc_new (w.alloc o) o'
  rwa [show (w.alloc o).heap.size = w.heap.size + 1 by simp] at h
theorem below_two (w : World) (o o' : Obj) : Below w.heap.size w ((w.alloc o).alloc o') := ((Below.refl _ _).alloc (Nat.le_refl _) _).alloc (by simp) _
theorem few_row {m : MsgD} {A : Option Addr} {c : Nat} (hl : 80 < m.list.length) : (cutM m).cells A c = #[.int .i64 m.kind, .int .i64 m.frm, .int .i64 m.dst, .int .i64 m.ballot, .int .i64 m.gen, .int .i64 m.basis, .int .i64 m.floor, .int .i64 m.top, .int .i64 m.read, .string m.mark, .int .i64 m.pat, .int .i64 m.pof, .string m.ptext, .slice A 80 c] := by
  have h : (m.list.take 80).length = 80 := by rw [List.length_take]; omega
  show #[_, _, _, _, _, _, _, _, _, _, _, _, _, Value.slice A (m.list.take 80).length c] = _
  rw [h]
  rfl

set_option maxHeartbeats 1000000 in
theorem few_long {w : World} {m : MsgD} {A : Option Addr} {c : Nat} (h : MsgAt w A c m) (hl : 80 < m.list.length) :
    Calls Try.prog 25 #[.agg (m.cells A c)] w fun e w' => e = .returned (.agg ((cutM m).cells A c)) ∧ Below w.heap.size w w' := by
  have h1 := h.list.le
  have h2 := h.list.max
  unfold maxLen at h2
  have h80 : ((m.list.length : Int) > 80) := by omega
  go_enter Try.func25, Try.ntmps25
  obtain ⟨c0, c1, c2, c3, c4, c5, c6, c7, c8, c9, c10, c11, c12, c13⟩ := MsgBox.of (heap_alloc_new w (.cells (m.cells A c) 44))
  go_wp2_with fail
  rw [few_row hl]
  refine ret_row (p := 2) (g := w.heap.size + 1) rfl rfl (heap_two _ _ _) Try.underlying44 (by kernel_rfl) ?_
  exact ⟨rfl, below_two _ _ _⟩

set_option maxHeartbeats 1000000 in
theorem few_short {w : World} {m : MsgD} {A : Option Addr} {c : Nat} (h : MsgAt w A c m) (hl : m.list.length ≤ 80) :
    Calls Try.prog 25 #[.agg (m.cells A c)] w fun e w' => e = .returned (.agg (m.cells A c)) ∧ Below w.heap.size w w' := by
  have h80 : ¬ ((m.list.length : Int) > 80) := by omega
  go_enter Try.func25, Try.ntmps25
  obtain ⟨c0, c1, c2, c3, c4, c5, c6, c7, c8, c9, c10, c11, c12, c13⟩ := MsgBox.of (heap_alloc_new w (.cells (m.cells A c) 44))
  go_wp2_with fail
  refine ret_row (p := 2) (g := w.heap.size + 1) rfl rfl (heap_two _ _ _) Try.underlying44 (by kernel_rfl) ?_
  exact ⟨rfl, below_two _ _ _⟩

def tHi : ByteArray := ⟨#[1, 1, 2, 5]⟩
def mA : MsgD := ⟨1, 1, 2, 5, 0, 0, 0, 0, 0, ⟨#[]⟩, 0, 0, ⟨#[]⟩, []⟩
theorem mA_right : rightB mA = true := by decide +kernel
theorem txt_mA : txt mA = tHi := by decide +kernel
theorem mA_at (w : World) : MsgAt w none 0 mA := ⟨by decide, by decide, ⟨by decide, by decide, ⟨rfl, Nat.zero_le _, fun h => absurd h (by decide)⟩⟩⟩

def aS : ByteArray := tHi ++ mk 1
theorem aS_eq : txt mA ++ mk (([] : List ByteArray).idxOf (txt mA) + 1) = aS := by rw [txt_mA]; rfl
theorem aS_size : aS.size = 36 := by decide +kernel
theorem aS_hi : aS.extract 0 4 = ⟨#[1, 1, 2, 5]⟩ := by decide +kernel
attribute [irreducible] aS

set_option maxHeartbeats 1000000 in
theorem awake17_to {W w : World} (hB : Below W.heap.size W w) : Calls Try.prog 29 #[] w fun e w' => e = .returned (.bool true) ∧ Below W.heap.size W w' := by
  go_enter Try.func29, Try.ntmps29
  go_wp2_with fail
  refine (ideal_to (W := w) (Below.refl _ _)).mono ?_
  rintro e w1 ⟨b, mm, rfl, hI, hB1, hm, -⟩
  go_wp2_with fail
  refine (bytes_ideal hI hB1 hm (by decide) (mA_at _) mA_right).mono ?_
  rintro e w2 ⟨rfl, hI2, hB2⟩
  rw [aS_eq]
  have hs := aS_size
  have ha := aS_hi
  go_wp2_with fail
  go_ret
  exact ⟨rfl, hB.trans (hB2.mono hB.size)⟩
end Go.Proofs.Ytpegefcpanijhaa
end
