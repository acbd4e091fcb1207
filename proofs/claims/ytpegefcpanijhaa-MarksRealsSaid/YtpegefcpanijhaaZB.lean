/- A number as a mark: what 'numbered' and the reference's 'Number' come to: the number's eight bytes, four times; two numbers below 2^64 have not one mark. Plain Lean over the printed functions. The ideal book's table, in plain words: what a map that shows a list of texts tells of each text. No walk. The walks of the ideal book: Ideal, none, Ready, Mark, Is: what each call hands back and what becomes of the book. Conditions: texts no longer than a slice's greatest length, fewer than 2000 texts marked. The walk of barquelaw03's 'awake' (chapter 3's second example): it answers true, and nothing that was there has turned. A slice of texts as it is read, and the walk of barquelaw03.MarksAsks: it answers true; nothing that was there has turned. What the rows of this seat share: a slice of texts that came in, opened. -/
import Derived.Test.YtpegefcpanijhaaF1
import Derived.Maps.OwnSet
import Derived.Test.YtpegefcpanijhaaRows
import Derived.WalkKit
import Derived.WalkSpells
import Derived.WalkLawsBesides
import Derived.Lib.Hide
import Derived.ProofKit
import Derived.OpenShut
import Derived.ShutString
import Derived.ChangeOld
import Derived.SizedLaws
import Derived.SliceStrings
import Derived.ChangeSlices
section
namespace Go.Proofs.Ytpegefcpanijhaa
set_option linter.unusedVariables false
set_option linter.unusedSimpArgs false
open Go.RowKit Go.Proofs.YtpegefcpanijhaaW.PrintWords Go.Proofs.YtpegefcpanijhaaW.PrintLast Go.Proofs.YtpegefcpanijhaaW.PrintMore
open PF

/-- The byte of the place j of a number's mark. -/
def byteOf (n : Int) (j : Nat) : Int := n / 2 ^ (8 * (j % 8)) % 256
def mkList (n : Int) : List Int := (List.range 32).map (byteOf n)
/-- The number n as a mark. -/
def mk (n : Int) : ByteArray := strOfNums (mkList n)

theorem mkList_four (n : Int) : mkList n = (List.range 8).map (byteOf n) ++ (List.range 8).map (byteOf n) ++ (List.range 8).map (byteOf n) ++ (List.range 8).map (byteOf n) := rfl
theorem mkList_length (n : Int) : (mkList n).length = 32 := rfl
theorem mk_size (n : Int) : (mk n).size = 32 := by unfold mk; rw [strOfNums_size]; rfl

theorem wrap_small {x : Int} (h : -9223372036854775808 ≤ x ∧ x ≤ 9223372036854775807) : wrap64 x = x := by unfold wrap64; omega

theorem numbered_loop (n : Int) : ∀ (d i k : Nat) (xs : List Int), xs.length = 32 → i + d = 32 → d < k →
    marks_numbered.l0 k n xs 32 i = some (strOfNums (xs.take i ++ (List.range' i d).map (byteOf n))) := by
  intro d
  induction d with
  | zero =>
    intro i k xs hx hi hk
    obtain ⟨k, rfl⟩ : ∃ m, k = m + 1 := ⟨k - 1, by omega⟩
    have hi' : i = 32 := by omega
    subst hi'
    simp only [marks_numbered.l0]
    rw [if_neg (by omega)]
    simp [List.take_of_length_le (Nat.le_of_eq hx)]
  | succ d ih =>
    intro i k xs hx hi hk
    obtain ⟨k, rfl⟩ : ∃ m, k = m + 1 := ⟨k - 1, by omega⟩
    have hm : Int.tmod (i : Int) 8 = ((i % 8 : Nat) : Int) := by rw [Int.tmod_eq_emod_of_nonneg (by omega)]; omega
    have hw : wrap64 (8 * Int.tmod (i : Int) 8) = ((8 * (i % 8) : Nat) : Int) := by rw [hm, wrap_small (by omega)]; omega
    simp only [marks_numbered.l0]
    rw [if_pos (by omega), hw, if_pos (by omega), if_pos (by omega), if_pos (by omega)]
    rw [show wrap64 ((i : Int) + 1) = ((i + 1 : Nat) : Int) by rw [wrap_small (by omega)]; omega]
    rw [ih (i + 1) k _ (by simp [hx]) (by omega) (by omega)]
    have hs : shr .i64 n ((8 * (i % 8) : Nat) : Int) % 256 = byteOf n i := by
      unfold shr byteOf
      rw [Int.toNat_natCast, Nat.min_eq_left (by have := Nat.mod_lt i (show 0 < 8 by omega); simp [IntKind.bits]; omega)]
    rw [hs, Int.toNat_natCast]
    congr 2
    rw [List.range'_succ, List.map_cons]
    have hlt : i < xs.length := by omega
    rw [List.take_succ_eq_append_getElem (by simpa using hlt)]
    simp [List.take_set_of_le]

/-- 'numbered'. -/
theorem numbered_is (n : Int) : ∃ k, marks_numbered.f k n = some (mk n) := by
  refine ⟨33, ?_⟩
  unfold marks_numbered.f
  rw [if_pos (by omega), Option.bind_some]
  have h := numbered_loop n 32 0 33 (List.replicate 32 0) (by simp) (by omega) (by omega)
  simp only [List.length_replicate]
  refine h.trans ?_
  rw [List.take_zero, List.nil_append]
  rfl

/-- What the reference's number becomes, byte for byte. -/
def shrunk (n : Int) : Nat → Int
  | 0 => n
  | j + 1 => wrap64 (Int.tdiv (shrunk n j) 256)
def refByte (n : Int) (j : Nat) : Int := (Int.tmod (shrunk n j) 256) % 256

theorem Number_inner (n : Int) (x4 : Int) : ∀ (d j k : Nat) (xs : List Int), xs.length + d ≤ 1000 → j + d = 8 → d < k →
    barqueref03_Number.l1 k n xs x4 (shrunk n j) j = barqueref03_Number.l0 (k - (d + 1)) n (xs ++ (List.range' j d).map (refByte n)) (wrap64 (x4 + 1)) := by
  intro d
  induction d with
  | zero =>
    intro j k xs hx hj hk
    obtain ⟨k, rfl⟩ : ∃ m, k = m + 1 := ⟨k - 1, by omega⟩
    simp only [barqueref03_Number.l1]
    rw [if_neg (by omega)]
    simp
  | succ d ih =>
    intro j k xs hx hj hk
    obtain ⟨k, rfl⟩ : ∃ m, k = m + 1 := ⟨k - 1, by omega⟩
    simp only [barqueref03_Number.l1]
    rw [if_pos (by omega), if_pos (by omega)]
    rw [show wrap64 ((j : Int) + 1) = ((j + 1 : Nat) : Int) by rw [wrap_small (by omega)]; omega]
    rw [show wrap64 (Int.tdiv (shrunk n j) 256) = shrunk n (j + 1) from rfl]
    rw [ih (j + 1) k _ (by simp; omega) (by omega) (by omega), List.range'_succ, List.map_cons]
    rw [show k + 1 - (d + 1 + 1) = k - (d + 1) by omega]
    simp [refByte]

def refEight (n : Int) : List Int := (List.range 8).map (refByte n)
def refMark (n : Int) : ByteArray := strOfNums (refEight n ++ refEight n ++ refEight n ++ refEight n)

theorem Number_outer (n : Int) (i k : Nat) (xs : List Int) (hx : xs.length ≤ 100) (hi : i < 4) (hk : 11 ≤ k) :
    barqueref03_Number.l0 k n xs i = barqueref03_Number.l0 (k - 10) n (xs ++ refEight n) ((i + 1 : Nat) : Int) := by
  obtain ⟨k, rfl⟩ : ∃ m, k = m + 1 := ⟨k - 1, by omega⟩
  conv => lhs; simp only [barqueref03_Number.l0]
  rw [if_pos (by omega)]
  have h := Number_inner n i 8 0 k xs (by omega) (by omega) (by omega)
  rw [show wrap64 ((i : Int) + 1) = ((i + 1 : Nat) : Int) by rw [wrap_small (by omega)]; omega] at h
  refine h.trans ?_
  rw [show k - (8 + 1) = k + 1 - 10 by omega]
  rfl

theorem Number_some (n : Int) : ∃ k, barqueref03_Number.f k n = some (refMark n) := by
  refine ⟨60, ?_⟩
  unfold barqueref03_Number.f
  have h0 := Number_outer n 0 60 [] (by simp) (by omega) (by omega)
  have h1 := Number_outer n 1 50 ([] ++ refEight n) (by simp [refEight]) (by omega) (by omega)
  have h2 := Number_outer n 2 40 ([] ++ refEight n ++ refEight n) (by simp [refEight]) (by omega) (by omega)
  have h3 := Number_outer n 3 30 ([] ++ refEight n ++ refEight n ++ refEight n) (by simp [refEight]) (by omega) (by omega)
  refine h0.trans (h1.trans (h2.trans (h3.trans ?_)))
  rfl

theorem shrunk_nat (n : Int) (h0 : 0 ≤ n) (h : n ≤ 9223372036854775807) : ∀ j, shrunk n j = n / 2 ^ (8 * j) ∧ 0 ≤ shrunk n j ∧ shrunk n j ≤ n := by
  intro j
  induction j with
  | zero => simp [shrunk]; omega
  | succ j ih =>
    obtain ⟨e, a, b⟩ := ih
    have e1 : Int.tdiv (shrunk n j) 256 = shrunk n j / 256 := Int.tdiv_eq_ediv_of_nonneg a
    have e2 : shrunk n (j + 1) = shrunk n j / 256 := by
      show wrap64 (Int.tdiv (shrunk n j) 256) = _
      rw [e1, wrap_small (by omega)]
    refine ⟨?_, by rw [e2]; omega, by rw [e2]; omega⟩
    rw [e2, e, Int.ediv_ediv_of_nonneg (Int.pow_nonneg (by omega))]
    rw [show 8 * (j + 1) = 8 * j + 8 by omega, Int.pow_add]
    rfl

theorem refMark_is (n : Int) (h0 : 0 ≤ n) (h : n ≤ 9223372036854775807) : refMark n = mk n := by
  unfold refMark mk
  rw [mkList_four]
  have e : refEight n = (List.range 8).map (byteOf n) := by
    unfold refEight
    apply List.map_congr_left
    intro j hj
    have hj' : j < 8 := by simpa using hj
    obtain ⟨e, a, b⟩ := shrunk_nat n h0 h j
    unfold refByte byteOf
    rw [Int.tmod_eq_emod_of_nonneg a, e, Nat.mod_eq_of_lt hj']
    omega
  rw [e]

/-- 'Number'. -/
theorem Number_is (n : Int) (h0 : 0 ≤ n) (h : n ≤ 9223372036854775807) : ∃ k, barqueref03_Number.f k n = some (mk n) := by
  rw [← refMark_is n h0 h]; exact Number_some n

/-- Two numbers below 2^64 have not one mark. -/
theorem mk_inj {a b : Int} (ha : 0 ≤ a) (ha' : a < 18446744073709551616) (hb : 0 ≤ b) (hb' : b < 18446744073709551616) (h : mk a = mk b) : a = b := by
  have h1 : (mk a).data.toList = (mk b).data.toList := by rw [h]
  unfold mk at h1
  rw [strOfNums_data, strOfNums_data] at h1
  have g : ∀ j, j < 8 → byteOf a j = byteOf b j := by
    intro j hj
    have h2 : ((mkList a).map fun n => UInt8.ofNat n.toNat)[j]? = ((mkList b).map fun n => UInt8.ofNat n.toNat)[j]? := by rw [h1]
    have hl : j < 32 := by omega
    simp only [mkList, List.getElem?_map, List.getElem?_range hl, Option.map_some, Option.some.injEq] at h2
    have h3 := congrArg UInt8.toNat h2
    have ra : 0 ≤ byteOf a j ∧ byteOf a j < 256 := by unfold byteOf; omega
    have rb : 0 ≤ byteOf b j ∧ byteOf b j < 256 := by unfold byteOf; omega
    simp at h3
    omega
  have g0 := g 0 (by omega); have g1 := g 1 (by omega); have g2 := g 2 (by omega); have g3 := g 3 (by omega)
  have g4 := g 4 (by omega); have g5 := g 5 (by omega); have g6 := g 6 (by omega); have g7 := g 7 (by omega)
  simp only [byteOf, Nat.reduceMod, Nat.reduceMul] at g0 g1 g2 g3 g4 g5 g6 g7
  omega
end Go.Proofs.Ytpegefcpanijhaa
end
section
namespace Go.Proofs.Ytpegefcpanijhaa
set_option linter.unusedVariables false
set_option linter.unusedSimpArgs false
open Go.RowKit Go.Maps

instance bytesLawful : LawfulBEq ByteArray where
  rfl := by
    intro a
    show (a.data == a.data) = true
    simp
  eq_of_beq := by
    intro a b h
    have h' : (a.data == b.data) = true := h
    exact ByteArray.ext (by simpa using h')

abbrev ikey (s : ByteArray) : Lit := .string s.data.toList
abbrev inum (n : Int) : DataW Unit := .lit (.int .i64 n)

theorem ikey_inj {s t : ByteArray} (h : ikey s = ikey t) : s = t := by
  injection h with h
  exact ByteArray.ext (Array.toList_inj.1 h)

/-- The texts that are known behind 'Mark s'. -/
def seen (l : List ByteArray) (s : ByteArray) : List ByteArray := if s ∈ l then l else l ++ [s]

/-- The map's datum shows the list: each text stands at its place, counted from 1. -/
structure Shows (D : DataW Unit) (l : List ByteArray) : Prop where
  tidy : Tidy D
  size : Maps.size D = l.length
  has : ∀ s, Maps.has D (ikey s) = decide (s ∈ l)
  at_ : ∀ s, s ∈ l → D.atKey (ikey s) (inum 0) = inum (l.idxOf s + 1)

theorem Shows.empty : Shows (.map []) [] := ⟨tidy_empty, rfl, fun s => by simp [Maps.has], fun s h => by simp at h⟩

theorem Shows.add {D : DataW Unit} {l : List ByteArray} (h : Shows D l) {s : ByteArray} (hs : s ∉ l) : Shows (D.put (ikey s) (inum (l.length + 1))) (l ++ [s]) := by
  have hk : WideAt.IsKeyLit (ikey s) := trivial
  refine ⟨h.tidy.put hk _, ?_, fun t => ?_, fun t ht => ?_⟩
  · rw [size_put h.tidy, h.has s, decide_eq_false hs, h.size]
    simp
  · by_cases e : t = s
    · subst e
      rw [has_put_same h.tidy.isMap hk]
      simp
    · rw [has_put_other (fun e' => e (ikey_inj e')), h.has t]
      simp [e]
  · by_cases e : t = s
    · subst e
      rw [atKey_put_same h.tidy.isMap hk, List.idxOf_append, if_neg hs]
      simp
    · have ht' : t ∈ l := by simpa [e] using ht
      rw [atKey_put_other (fun e' => e (ikey_inj e')), h.at_ t ht', List.idxOf_append, if_pos ht']

theorem seen_of_mem {l : List ByteArray} {s : ByteArray} (h : s ∈ l) : seen l s = l := if_pos h
theorem seen_of_not {l : List ByteArray} {s : ByteArray} (h : s ∉ l) : seen l s = l ++ [s] := if_neg h
theorem idxOf_of_not {l : List ByteArray} {s : ByteArray} (h : s ∉ l) : l.idxOf s = l.length := List.idxOf_eq_length h
theorem mem_seen (l : List ByteArray) (s : ByteArray) : s ∈ seen l s := by
  unfold seen; split
  · assumption
  · simp
theorem seen_length (l : List ByteArray) (s : ByteArray) : (seen l s).length ≤ l.length + 1 := by
  unfold seen; split <;> simp
end Go.Proofs.Ytpegefcpanijhaa
end
section
namespace Go.Proofs.Ytpegefcpanijhaa
set_option linter.unusedVariables false
set_option linter.unusedSimpArgs false
open Go.RowKit Go.Maps Go.WideMaps

noncomputable def idealCells (m : Nat) : Array Value := (Try.zeroCells63.setIfInBounds 74 (.bool true)).setIfInBounds 73 (.map (some m))
theorem ideal72 (m : Nat) : (idealCells m)[72]? = some (.bool false) := by kernel_rfl
theorem ideal73 (m : Nat) : (idealCells m)[73]? = some (.map (some m)) := by kernel_rfl
theorem ideal74 (m : Nat) : (idealCells m)[74]? = some (.bool true) := by kernel_rfl

theorem ideal_new (w : World) :
    Calls Try.prog 19 #[] w fun e w' => e = .returned (.pointer (some ⟨w.heap.size + 1, 0, none⟩)) ∧ w' = (w.alloc (.map #[] 0)).alloc (.cells (idealCells w.heap.size) 63) := by
  have hmm := @run_makeMap Try.prog
  go_enter Try.func19, Try.ntmps19
  go_wp2
  go_ret
  exact ⟨rfl, rfl⟩

theorem none_any (w : World) (b : Nat) (r i : Bool) (hr : w.cell? ⟨b, 72, none⟩ = some (.bool r)) (hi : w.cell? ⟨b, 74, none⟩ = some (.bool i)) :
    Calls Try.prog 41 #[.pointer (some ⟨b, 0, none⟩)] w fun e w' => e = .returned (.bool (!r && !i)) ∧ w = w' := by
  cases r
  all_goals
    go_enter Try.func41, Try.ntmps41
    go_wp2
    go_ret
    exact ⟨by simp, rfl⟩

theorem none_nil (w : World) : Calls Try.prog 41 #[.pointer none] w fun e w' => e = .returned (.bool true) ∧ w = w' := by
  go_enter Try.func41, Try.ntmps41
  go_wp2
  go_ret
  exact ⟨rfl, rfl⟩

/-- Block b is an ideal book whose table is block m and which knows the texts l in this order. -/
structure IsIdeal (w : World) (b m : Nat) (l : List ByteArray) : Prop where
  blk : w.heap[b]? = some (.cells (idealCells m) 63 (0, 0))
  own : ∃ D : DataW Unit, w.ownsMap Try.prog 9 (plainElem Try.prog 3) m l.length D ∧ Shows D l

namespace IsIdeal
variable {w w' : World} {b m : Nat} {l : List ByteArray}
theorem c72 (h : IsIdeal w b m l) : w.cell? ⟨b, 72, none⟩ = some (.bool false) := (cell_of_row w b 72 _ _ _ h.blk).trans (ideal72 m)
theorem c73 (h : IsIdeal w b m l) : w.cell? ⟨b, 73, none⟩ = some (.map (some m)) := (cell_of_row w b 73 _ _ _ h.blk).trans (ideal73 m)
theorem c74 (h : IsIdeal w b m l) : w.cell? ⟨b, 74, none⟩ = some (.bool true) := (cell_of_row w b 74 _ _ _ h.blk).trans (ideal74 m)
theorem lt (h : IsIdeal w b m l) : b < w.heap.size := (Array.getElem?_eq_some_iff.1 h.blk).1
theorem ltm (h : IsIdeal w b m l) : m < w.heap.size := by obtain ⟨D, ho, _⟩ := h.own; exact ho.lt
theorem ne (h : IsIdeal w b m l) : b ≠ m := by
  obtain ⟨D, ⟨es, clock, hb, _⟩, _⟩ := h.own
  rintro rfl
  rw [h.blk] at hb
  cases hb
/-- It lives on while other blocks are written. -/
theorem kept (h : IsIdeal w b m l) {row : Option Nat} (hg : w.grownBy w' row) (hb : some b ≠ row) (hm : some m ≠ row) : IsIdeal w' b m l := by
  refine ⟨(hg.block b h.lt hb).trans h.blk, ?_⟩
  obtain ⟨D, ho, hs⟩ := h.own
  exact ⟨D, ho.kept hg hm, hs⟩
theorem below (h : IsIdeal w b m l) (hb : Below w.heap.size w w') : IsIdeal w' b m l :=
  h.kept (row := none) ⟨hb.os, hb.tape, hb.output, hb.size, fun k hk _ => hb.block k hk⟩ (by simp) (by simp)
theorem drew (h : IsIdeal w b m l) : IsIdeal w.drew b m l := ⟨h.blk, h.own⟩
theorem drewN (h : IsIdeal w b m l) (n : Nat) : IsIdeal (w.drewN n) b m l := ⟨h.blk, h.own⟩
theorem alloc (h : IsIdeal w b m l) (o : Obj) : IsIdeal (w.alloc o) b m l := h.kept (World.grownBy_alloc w o none) (by simp) (by simp)
end IsIdeal

theorem isIdeal_new (w : World) : IsIdeal ((w.alloc (.map #[] 0)).alloc (.cells (idealCells w.heap.size) 63)) (w.heap.size + 1) w.heap.size [] := by
  refine ⟨by simpa using heap_alloc_new (w.alloc (.map #[] 0)) (.cells (idealCells w.heap.size) 63), .map [], ?_, Shows.empty⟩
  exact (World.ownsMap_made w Try.prog 9 (plainElem Try.prog 3)).alloc _

theorem law9 : Keyed Try.prog 9 := string_keyed Try.underlying9
theorem zero3 (w : World) : (zeroValue 3).run Try.prog w = .ok (.int .i64 0) w := by kernel_rfl

theorem numbered_calls (n : Int) (w : World) : Calls Try.prog 43 #[.int .i64 n] w fun e w' => e = .returned (.string (mk n)) ∧ Below w.heap.size w w' := by
  obtain ⟨k, hk⟩ := numbered_is n
  exact PF.marks_numbered.calls k n _ w hk

theorem Number_calls (n : Int) (h0 : 0 ≤ n) (h : n ≤ 9223372036854775807) (w : World) : Calls Try.prog 24 #[.int .i64 n] w fun e w' => e = .returned (.string (mk n)) ∧ Below w.heap.size w w' := by
  obtain ⟨k, hk⟩ := Number_is n h0 h
  exact PF.barqueref03_Number.calls k n _ w hk

theorem Number_calls_any (n : Int) (w : World) : Calls Try.prog 24 #[.int .i64 n] w fun e w' => e = .returned (.string (refMark n)) ∧ Below w.heap.size w w' := by
  obtain ⟨k, hk⟩ := Number_some n
  exact PF.barqueref03_Number.calls k n _ w hk

set_option maxHeartbeats 400000 in
/-- Mark of a text that is known: nothing turns. -/
theorem mark_known {w : World} {b m : Nat} {l : List ByteArray} {s : ByteArray} (h : IsIdeal w b m l) (hs : s.size ≤ maxLen) (hm : s ∈ l) :
    Calls Try.prog 20 #[.pointer (some ⟨b, 0, none⟩), .string s] w fun e w' => e = .returned (.string (mk (l.idxOf s + 1))) ∧ Below w.heap.size w w' := by
  have c72 := h.c72
  have c73 := h.c73
  have c74 := h.c74
  obtain ⟨D, hown, hsh⟩ := h.own
  have hkey := keyOf_string_mk Try.underlying9 hs
  have HH := Lib.hid (hsh.has s)
  have HA := Lib.hid (hsh.at_ s hm)
  have HM := Lib.hid hm
  clear hm hsh h
  go_enter Try.func20, Try.ntmps20
  go_wp2_with (first
    | (go_at_call 41; refine (none_any _ b false true c72 c74).mono ?_; rintro e w' ⟨rfl, rfl⟩)
    | (at_lookup; refine wpList_lookup_own_ok_int _ rfl _ _ 61 rfl 9 3 .i64 law9 Try.underlying61 Try.underlying3 (zero3 _) m l.length D rfl hown _ _ rfl hkey ?_; intro c hat hwc; rw [HH.out, decide_eq_true HM.out]; rw [HA.out] at hat; (injection hat with hat); (injection hat with _ hat); subst hat)
    | (go_at_call 43; refine (numbered_calls _ _).mono ?_; rintro e w' ⟨rfl, hb⟩))
  go_ret
  exact ⟨rfl, hb⟩

set_option maxRecDepth 100000 in
set_option maxHeartbeats 400000 in
/-- Mark of a text that is not known: it gets the next number. -/
theorem mark_new {w : World} {b m : Nat} {l : List ByteArray} {s : ByteArray} (h : IsIdeal w b m l) (hs : s.size ≤ maxLen) (hm : s ∉ l) (hl : l.length ≤ 2000) :
    Calls Try.prog 20 #[.pointer (some ⟨b, 0, none⟩), .string s] w fun e w' => e = .returned (.string (mk (l.length + 1))) ∧ IsIdeal w' b m (l ++ [s]) ∧ w.grownBy w' (some m) := by
  have c72 := h.c72
  have c73 := h.c73
  have c74 := h.c74
  obtain ⟨D, hown, hsh⟩ := h.own
  have hkey := keyOf_string_mk Try.underlying9 hs
  have HH := Lib.hid (hsh.has s)
  have HM := Lib.hid hm
  have HS := Lib.hid hsh
  have HI := Lib.hid h
  have hwv : (Lit.int .i64 ((l.length : Int) + 1)).wf = true := WalkArith.wf_i64 (by omega)
  have HZ := Lib.hid hsh.size
  have hsz : Maps.size D ≤ 2000 := by rw [hsh.size]; exact hl
  clear hm hsh h
  go_enter Try.func20, Try.ntmps20
  go_wp2_with (first
    | (go_at_call 41; refine (none_any _ b false true c72 c74).mono ?_; rintro e w' ⟨rfl, rfl⟩)
    | (at_lookup; refine wpList_lookup_own_ok_int _ rfl _ _ 61 rfl 9 3 .i64 law9 Try.underlying61 Try.underlying3 (zero3 _) m l.length D rfl hown _ _ rfl hkey ?_; intro c hat hwc; rw [HH.out, decide_eq_false HM.out]; clear hat hwc)
    | (at_len; refine wpList_len_own _ rfl _ 61 rfl 9 3 Try.underlying61 (plainElem Try.prog 3) m l.length D rfl hown ?_; rw [HZ.out])
    | (at_mapUpdate; refine wpList_mapUpdate_own _ rfl _ _ _ 61 rfl 9 3 law9 Try.underlying61 _ m l.length D rfl hown (by unfold maxLen; omega) _ _ _ rfl rfl hkey _ [] (plainElem_int Try.underlying3 hwv) ?_; intro w1 hown1 hgrow1)
    | (go_at_call 43; refine (numbered_calls _ _).mono ?_; rintro e w' ⟨rfl, hb⟩))
  go_ret
  refine ⟨rfl, ?_, ?_⟩
  · refine IsIdeal.below ⟨(hgrow1.block b HI.out.lt (by simpa using HI.out.ne)).trans HI.out.blk, _, ?_, HS.out.add HM.out⟩ hb
    simpa using hown1
  · exact ⟨hb.os.trans hgrow1.os, hb.tape.trans hgrow1.tape, hb.output.trans hgrow1.output, Nat.le_trans hgrow1.size hb.size, fun k hk hne => (hb.block k (Nat.lt_of_lt_of_le hk hgrow1.size)).trans (hgrow1.block k hk hne)⟩

theorem grown_of_below' {w w' : World} (h : Below w.heap.size w w') (row : Option Nat) : w.grownBy w' row := ⟨h.os, h.tape, h.output, h.size, fun k hk _ => h.block k hk⟩

/-- Mark, whatever text. -/
theorem mark_ideal {w : World} {b m : Nat} {l : List ByteArray} {s : ByteArray} (h : IsIdeal w b m l) (hs : s.size ≤ maxLen) (hl : l.length ≤ 2000) :
    Calls Try.prog 20 #[.pointer (some ⟨b, 0, none⟩), .string s] w fun e w' => e = .returned (.string (mk (l.idxOf s + 1))) ∧ IsIdeal w' b m (seen l s) ∧ w.grownBy w' (some m) := by
  by_cases hm : s ∈ l
  · refine (mark_known h hs hm).mono fun e w' ⟨he, hb⟩ => ⟨he, ?_, grown_of_below' hb _⟩
    rw [seen_of_mem hm]
    exact h.below hb
  · refine (mark_new h hs hm hl).mono fun e w' ⟨he, hi, hg⟩ => ⟨?_, ?_, hg⟩
    · rw [idxOf_of_not hm]; exact he
    · rw [seen_of_not hm]; exact hi

theorem beq_toList (a b : ByteArray) : (a.toList == b.toList) = decide (a = b) := by
  rw [Bool.eq_iff_iff, beq_iff_eq, decide_eq_true_iff, ByteArray.toList_eq, ByteArray.toList_eq]
  exact ⟨fun h => ByteArray.ext (Array.toList_inj.1 h), fun h => by rw [h]⟩

/-- What an ideal book that knows l answers to 'Is s mark'. -/
def isB (l : List ByteArray) (s mark : ByteArray) : Bool := decide (s ∈ l) && decide (mk (l.idxOf s + 1) = mark)

set_option maxHeartbeats 400000 in
theorem is_known {w : World} {b m : Nat} {l : List ByteArray} {s mark : ByteArray} (h : IsIdeal w b m l) (hs : s.size ≤ maxLen) (hm : s ∈ l) :
    Calls Try.prog 21 #[.pointer (some ⟨b, 0, none⟩), .string s, .string mark] w fun e w' => e = .returned (.bool (decide (mk (l.idxOf s + 1) = mark))) ∧ Below w.heap.size w w' := by
  have c72 := h.c72
  have c73 := h.c73
  have c74 := h.c74
  obtain ⟨D, hown, hsh⟩ := h.own
  have hkey := keyOf_string_mk Try.underlying9 hs
  have HH := Lib.hid (hsh.has s)
  have HA := Lib.hid (hsh.at_ s hm)
  have HM := Lib.hid hm
  clear hm hsh h
  go_enter Try.func21, Try.ntmps21
  go_wp2_with (first
    | (go_at_call 41; refine (none_any _ b false true c72 c74).mono ?_; rintro e w' ⟨rfl, rfl⟩)
    | (at_lookup; refine wpList_lookup_own_ok_int _ rfl _ _ 61 rfl 9 3 .i64 law9 Try.underlying61 Try.underlying3 (zero3 _) m l.length D rfl hown _ _ rfl hkey ?_; intro c hat hwc; rw [HH.out, decide_eq_true HM.out]; rw [HA.out] at hat; (injection hat with hat); (injection hat with _ hat); subst hat)
    | (go_at_call 43; refine (numbered_calls _ _).mono ?_; rintro e w' ⟨rfl, hb⟩))
  go_ret
  refine ⟨?_, hb⟩
  rw [← beq_toList]
  rfl

set_option maxHeartbeats 400000 in
theorem is_new {w : World} {b m : Nat} {l : List ByteArray} {s mark : ByteArray} (h : IsIdeal w b m l) (hs : s.size ≤ maxLen) (hm : s ∉ l) :
    Calls Try.prog 21 #[.pointer (some ⟨b, 0, none⟩), .string s, .string mark] w fun e w' => e = .returned (.bool false) ∧ Below w.heap.size w w' := by
  have c72 := h.c72
  have c73 := h.c73
  have c74 := h.c74
  obtain ⟨D, hown, hsh⟩ := h.own
  have hkey := keyOf_string_mk Try.underlying9 hs
  have HH := Lib.hid (hsh.has s)
  have HM := Lib.hid hm
  clear hm hsh h
  go_enter Try.func21, Try.ntmps21
  go_wp2_with (first
    | (go_at_call 41; refine (none_any _ b false true c72 c74).mono ?_; rintro e w' ⟨rfl, rfl⟩)
    | (at_lookup; refine wpList_lookup_own_ok_int _ rfl _ _ 61 rfl 9 3 .i64 law9 Try.underlying61 Try.underlying3 (zero3 _) m l.length D rfl hown _ _ rfl hkey ?_; intro c hat hwc; rw [HH.out, decide_eq_false HM.out]; clear hat hwc))
  go_ret
  exact ⟨rfl, Below.refl _ _⟩

/-- Is, whatever text and mark: nothing is numbered. -/
theorem is_ideal {w : World} {b m : Nat} {l : List ByteArray} {s mark : ByteArray} (h : IsIdeal w b m l) (hs : s.size ≤ maxLen) :
    Calls Try.prog 21 #[.pointer (some ⟨b, 0, none⟩), .string s, .string mark] w fun e w' => e = .returned (.bool (isB l s mark)) ∧ Below w.heap.size w w' := by
  unfold isB
  by_cases hm : s ∈ l
  · refine (is_known h hs hm).mono fun e w' ⟨he, hb⟩ => ⟨?_, hb⟩
    rw [decide_eq_true hm, Bool.true_and]; exact he
  · refine (is_new h hs hm).mono fun e w' ⟨he, hb⟩ => ⟨?_, hb⟩
    rw [decide_eq_false hm, Bool.false_and]; exact he

theorem ready_any (w : World) (b : Nat) (r i : Bool) (hr : w.cell? ⟨b, 72, none⟩ = some (.bool r)) (hi : w.cell? ⟨b, 74, none⟩ = some (.bool i)) :
    Calls Try.prog 30 #[.pointer (some ⟨b, 0, none⟩)] w fun e w' => e = .returned (.bool (r || i)) ∧ w = w' := by
  go_enter Try.func30, Try.ntmps30
  go_wp2_with (go_at_call 41; refine (none_any _ b r i hr hi).mono ?_; rintro e w' ⟨rfl, rfl⟩)
  go_ret
  exact ⟨by cases r <;> cases i <;> rfl, rfl⟩

theorem ready_nil (w : World) : Calls Try.prog 30 #[.pointer none] w fun e w' => e = .returned (.bool false) ∧ w = w' := by
  go_enter Try.func30, Try.ntmps30
  go_wp2_with (go_at_call 41; refine (none_nil _).mono ?_; rintro e w' ⟨rfl, rfl⟩)
  go_ret
  exact ⟨rfl, rfl⟩

theorem mark_nil (w : World) (s : ByteArray) : Calls Try.prog 20 #[.pointer none, .string s] w fun e w' => e = .returned (.string ⟨#[]⟩) ∧ w = w' := by
  go_enter Try.func20, Try.ntmps20
  go_wp2_with (go_at_call 41; refine (none_nil _).mono ?_; rintro e w' ⟨rfl, rfl⟩)
  go_ret
  exact ⟨rfl, rfl⟩

theorem is_nil (w : World) (s mark : ByteArray) : Calls Try.prog 21 #[.pointer none, .string s, .string mark] w fun e w' => e = .returned (.bool false) ∧ w = w' := by
  go_enter Try.func21, Try.ntmps21
  go_wp2_with (go_at_call 41; refine (none_nil _).mono ?_; rintro e w' ⟨rfl, rfl⟩)
  go_ret
  exact ⟨rfl, rfl⟩

theorem mark_zero (w : World) (b : Nat) (s : ByteArray) (hr : w.cell? ⟨b, 72, none⟩ = some (.bool false)) (hi : w.cell? ⟨b, 74, none⟩ = some (.bool false)) :
    Calls Try.prog 20 #[.pointer (some ⟨b, 0, none⟩), .string s] w fun e w' => e = .returned (.string ⟨#[]⟩) ∧ w = w' := by
  go_enter Try.func20, Try.ntmps20
  go_wp2_with (go_at_call 41; refine (none_any _ b false false hr hi).mono ?_; rintro e w' ⟨rfl, rfl⟩)
  go_ret
  exact ⟨rfl, rfl⟩

theorem is_zero (w : World) (b : Nat) (s mark : ByteArray) (hr : w.cell? ⟨b, 72, none⟩ = some (.bool false)) (hi : w.cell? ⟨b, 74, none⟩ = some (.bool false)) :
    Calls Try.prog 21 #[.pointer (some ⟨b, 0, none⟩), .string s, .string mark] w fun e w' => e = .returned (.bool false) ∧ w = w' := by
  go_enter Try.func21, Try.ntmps21
  go_wp2_with (go_at_call 41; refine (none_any _ b false false hr hi).mono ?_; rintro e w' ⟨rfl, rfl⟩)
  go_ret
  exact ⟨rfl, rfl⟩
end Go.Proofs.Ytpegefcpanijhaa
end
section
namespace Go.Proofs.Ytpegefcpanijhaa
set_option linter.unusedVariables false
set_option linter.unusedSimpArgs false
open Go.RowKit Go.Maps

def tx : ByteArray := ⟨#[120]⟩
def ty : ByteArray := ⟨#[121]⟩

theorem below_of_grown {w w' : World} {m : Nat} {W : World} (hb : Below W.heap.size W w) (hg : w.grownBy w' (some m)) (hm : W.heap.size ≤ m) : Below W.heap.size W w' :=
  hb.grown hg hb.size (fun k hk => by injection hk with hk; omega)

/-- Mark, the number and the list behind it being known. -/
theorem mark_to {W w : World} {b m : Nat} {l l' : List ByteArray} {s : ByteArray} {n : Int} (h : IsIdeal w b m l) (hB : Below W.heap.size W w) (hW : W.heap.size ≤ m) (hs : s.size ≤ maxLen) (hl : l.length ≤ 2000)
    (hn : (l.idxOf s + 1 : Int) = n) (hl' : seen l s = l') :
    Calls Try.prog 20 #[.pointer (some ⟨b, 0, none⟩), .string s] w fun e w' => e = .returned (.string (mk n)) ∧ IsIdeal w' b m l' ∧ Below W.heap.size W w' := by
  subst hn hl'
  exact (mark_ideal h hs hl).mono fun e w' ⟨he, hi, hg⟩ => ⟨he, hi, below_of_grown hB hg hW⟩

theorem Number_to {W w : World} {b m : Nat} {l : List ByteArray} (h : IsIdeal w b m l) (hB : Below W.heap.size W w) (n : Int) (h0 : 0 ≤ n) (hn : n ≤ 9223372036854775807) :
    Calls Try.prog 24 #[.int .i64 n] w fun e w' => e = .returned (.string (mk n)) ∧ IsIdeal w' b m l ∧ Below W.heap.size W w' :=
  (Number_calls n h0 hn w).mono fun e w' ⟨he, hb⟩ => ⟨he, h.below hb, hB.trans (hb.mono hB.size)⟩

set_option maxHeartbeats 400000 in
theorem awake3 (w : World) : Calls Try.prog 22 #[] w fun e w' => e = .returned (.bool true) ∧ Below w.heap.size w w' := by
  have hx : tx.size ≤ maxLen := by decide
  have hy : ty.size ≤ maxLen := by decide
  go_enter Try.func22, Try.ntmps22
  go_wp2_with fail
  refine (ideal_new _).mono ?_
  rintro e w' ⟨rfl, rfl⟩
  have hI := isIdeal_new w
  have hB : Below w.heap.size w ((w.alloc (.map #[] 0)).alloc (.cells (idealCells w.heap.size) 63)) := ((Below.refl _ _).alloc (Nat.le_refl _) _).alloc (by simp) _
  generalize ((w.alloc (.map #[] 0)).alloc (.cells (idealCells w.heap.size) 63)) = w1 at *
  go_wp2_with fail
  refine (mark_to (s := tx) (n := 1) (l' := [tx]) hI hB (Nat.le_refl _) hx (by simp) rfl rfl).mono ?_
  rintro e w2 ⟨rfl, hI2, hB2⟩
  go_wp2_with fail
  refine (Number_to hI2 hB2 1 (by omega) (by omega)).mono ?_
  rintro e w3 ⟨rfl, hI3, hB3⟩
  go_wp2_with fail
  refine (mark_to (s := ty) (n := 2) (l' := [tx, ty]) hI3 hB3 (Nat.le_refl _) hy (by simp) (by decide) (by decide)).mono ?_
  rintro e w4 ⟨rfl, hI4, hB4⟩
  go_wp2_with fail
  refine (Number_to hI4 hB4 2 (by omega) (by omega)).mono ?_
  rintro e w5 ⟨rfl, hI5, hB5⟩
  go_wp2_with fail
  refine (mark_to (s := tx) (n := 1) (l' := [tx, ty]) hI5 hB5 (Nat.le_refl _) hx (by simp) (by decide) (by decide)).mono ?_
  rintro e w6 ⟨rfl, hI6, hB6⟩
  go_wp2_with fail
  refine (Number_to hI6 hB6 1 (by omega) (by omega)).mono ?_
  rintro e w7 ⟨rfl, hI7, hB7⟩
  go_wp2_with fail
  go_ret
  exact ⟨rfl, hB7⟩
end Go.Proofs.Ytpegefcpanijhaa
end
section
namespace Go.Proofs.Ytpegefcpanijhaa
set_option linter.unusedVariables false
set_option linter.unusedSimpArgs false
open Go.RowKit Go.Maps

/-- A slice value (its address, its length, its capacity) that reads as the texts l. -/
structure StrsAt (w : World) (A : Option Addr) (n c : Nat) (l : List ByteArray) : Prop where
  len : l.length = n
  le : n ≤ c
  max : c ≤ maxLen
  small : ∀ s ∈ l, s.size ≤ maxLen
  cell : ∀ k (h : k < l.length), ∃ a, A = some a ∧ w.cell? (a.add k) = some (.string l[k])

namespace StrsAt
variable {w w' : World} {A : Option Addr} {n c : Nat} {l : List ByteArray}
theorem at_ (h : StrsAt w A n c l) {k : Nat} (hk : k < n) : ∃ a s, A = some a ∧ s ∈ l ∧ l[k]? = some s ∧ s.size ≤ maxLen ∧ a.block < w.heap.size ∧ w.cell? (a.add k) = some (.string s) := by
  have hk' : k < l.length := by rw [h.len]; exact hk
  obtain ⟨a, e, hc⟩ := h.cell k hk'
  refine ⟨a, l[k], e, List.getElem_mem hk', List.getElem?_eq_getElem hk', h.small _ (List.getElem_mem hk'), ?_, hc⟩
  have hb := World.block_lt_of_cell? w _ hc
  have e2 : (a.add k).block = a.block := by unfold Addr.add; split <;> rfl
  rwa [e2] at hb
theorem below (h : StrsAt w A n c l) (hb : Below w.heap.size w w') : StrsAt w' A n c l := by
  refine ⟨h.len, h.le, h.max, h.small, fun k hk => ?_⟩
  obtain ⟨a, e, hc⟩ := h.cell k hk
  exact ⟨a, e, (hb.cell (World.block_lt_of_cell? w _ hc)).trans hc⟩
theorem take (h : StrsAt w A n c l) {m : Nat} (hm : m ≤ n) : StrsAt w A m c (l.take m) := by
  refine ⟨by rw [List.length_take, h.len]; omega, Nat.le_trans hm h.le, h.max, fun s hs => h.small s (List.mem_of_mem_take hs), fun k hk => ?_⟩
  have hk' : k < l.length := by simp at hk; omega
  obtain ⟨a, e, hc⟩ := h.cell k hk'
  exact ⟨a, e, by rw [List.getElem_take]; exact hc⟩
end StrsAt

def tfirst : ByteArray := ⟨#[102, 105, 114, 115, 116]⟩
def tsecond : ByteArray := ⟨#[115, 101, 99, 111, 110, 100]⟩

/-- Is, the world behind it told against an elder one. -/
theorem is_to {W w : World} {b m : Nat} {l : List ByteArray} {s mark : ByteArray} (h : IsIdeal w b m l) (hB : Below W.heap.size W w) (hs : s.size ≤ maxLen) :
    Calls Try.prog 21 #[.pointer (some ⟨b, 0, none⟩), .string s, .string mark] w fun e w' => e = .returned (.bool (isB l s mark)) ∧ IsIdeal w' b m l ∧ Below W.heap.size W w' :=
  (is_ideal h hs).mono fun e w' ⟨he, hb⟩ => ⟨he, h.below hb, hB.trans (hb.mono hB.size)⟩

theorem ideal_to {W w : World} (hB : Below W.heap.size W w) : Calls Try.prog 19 #[] w fun e w' => ∃ b m, e = .returned (.pointer (some ⟨b, 0, none⟩)) ∧ IsIdeal w' b m [] ∧ Below W.heap.size W w' ∧ w.heap.size ≤ m ∧ w.heap.size ≤ b :=
  (ideal_new w).mono fun e w' ⟨he, hw⟩ => ⟨_, _, he, by rw [hw]; exact isIdeal_new w, by rw [hw]; exact (hB.alloc hB.size _).alloc (by have := hB.size; simp; omega) _, Nat.le_refl _, Nat.le_succ _⟩

theorem awake_to {W w : World} (hB : Below W.heap.size W w) : Calls Try.prog 22 #[] w fun e w' => e = .returned (.bool true) ∧ Below W.heap.size W w' :=
  (awake3 w).mono fun e w' ⟨he, hb⟩ => ⟨he, hB.trans (hb.mono hB.size)⟩

set_option maxHeartbeats 400000 in
theorem marksAsks_walk (w : World) (A : Option Addr) (n c : Nat) (l : List ByteArray) (mark : ByteArray) (h : StrsAt w A n c l) (_hs : mark.size ≤ 140737488351232) :
    Calls Try.prog 6 #[.slice A n c, .string mark] w fun e w' => e = .returned (.bool true) ∧ Below w.heap.size w w' := by
  have hx : tfirst.size ≤ maxLen := by decide
  have hy : tsecond.size ≤ maxLen := by decide
  have hn : (n : Int) ≤ 9223372036854775807 := by have := h.le; have := h.max; unfold maxLen at this; omega
  have hB0 := Below.refl w.heap.size w
  go_enter Try.func6, Try.ntmps6
  go_wp2_with fail
  refine (ideal_to hB0).mono ?_
  rintro e w1 ⟨b, m, rfl, hI, hB, hm, hb0⟩
  go_wp2_with fail
  refine (mark_to (s := tfirst) (n := 1) (l' := [tfirst]) hI hB hm hx (by simp) rfl rfl).mono ?_
  rintro e w2 ⟨rfl, hI2, hB2⟩
  go_wp2_with fail
  go_loopw [6] (fun i wr => ∃ k : Nat, k ≤ n ∧ k ≤ 40 ∧ i = .int .i64 k ∧ IsIdeal wr b m [tfirst] ∧ Below w.heap.size w wr) (fun i _ => 40 - (intOf i).toNat)
  case atStart => exact ⟨0, Nat.zero_le _, Nat.zero_le _, rfl, hI2, hB2⟩
  case round =>
    obtain ⟨k, hk1, hk2, rfl, hI3, hB3⟩ := hrel
    by_cases hlt : k < n ∧ k < 40
    · obtain ⟨hlt, hlt2⟩ := hlt
      obtain ⟨a, s, rfl, -, -, hs, hab, hc⟩ := h.at_ hlt
      have hc3 := (hB3.cell (World.block_lt_of_cell? w _ hc)).trans hc
      go_wp2_with fail
      refine (is_to hI3 hB3 hs).mono ?_
      rintro e w4 ⟨rfl, hI4, hB4⟩
      go_wp2_with fail
      go_roundw
      case rel => exact ⟨k + 1, by omega, by omega, by go_num, hI4, hB4⟩
      case measure => simp [intOf]; omega
    · have hend : ¬ k < n ∨ (k < n ∧ ¬ k < 40) := by omega
      clear hlt
      rcases hend with hlt | ⟨hlt, hlt2⟩
      all_goals
        go_wp2_with fail
        refine (mark_to (s := tsecond) (n := 2) (l' := [tfirst, tsecond]) hI3 hB3 hm hy (by simp) (by decide) (by decide)).mono ?_
        rintro e w4 ⟨rfl, hI4, hB4⟩
        go_wp2_with fail
        refine (Number_to hI4 hB4 2 (by omega) (by omega)).mono ?_
        rintro e w5 ⟨rfl, hI5, hB5⟩
        go_wp2_with fail
        refine (awake_to hB5).mono ?_
        rintro e w6 ⟨rfl, hB6⟩
        go_wp2_with fail
        go_ret
        exact ⟨rfl, hB6⟩
end Go.Proofs.Ytpegefcpanijhaa
end
section
namespace Go.Proofs.Ytpegefcpanijhaa
set_option linter.unusedVariables false
set_option linter.unusedSimpArgs false
open Go.ChangeShapes Go.WideShapes Go.ChangeAt Go.RowKit
open Go.ChangeMaps (open_string shut_string)
open Go.ChangeShapes (open_strings)

theorem own_ : ownKnob Try.prog.godebug = none := by kernel_rfl
theorem laidOut_ : laidOutB Try.prog = true := by kernel_rfl

theorem strs_open {H : Type} {enc : TypeId × Value → H} {w : World} {base : Nat} {spare : Nat → Bool} {held : Bool} {fuel : Nat} {A : Option Addr} {len cap : Nat} {x : DataW H × List MemPlace}
    (h : DataW.trod enc Try.prog w base spare held fuel 22 (Value.slice A len cap).cells.toList = some x) : ∃ l, StrsAt w A len cap l := by
  rcases open_strings Try.underlying22 Try.underlying9 (by kernel_rfl) h with ⟨hcs, _⟩ | ⟨a, l, c, ss, hcs, _, hl, hm, hz, _, hcell, hs⟩
  · simp [Value.cells] at hcs
    obtain ⟨rfl, rfl, rfl⟩ := hcs
    exact ⟨[], rfl, Nat.le_refl _, Nat.zero_le _, fun s hs => by simp at hs, fun k hk => by simp at hk⟩
  · simp [Value.cells] at hcs
    obtain ⟨rfl, rfl, rfl⟩ := hcs
    have hle : len ≤ ss.length := by
      rw [hz]; split
      · exact hl
      · exact Nat.le_refl _
    refine ⟨ss.take len, by rw [List.length_take]; omega, hl, hm, fun s h => hs s (List.mem_of_mem_take h), fun k hk => ?_⟩
    have hk' : k < ss.length := by simp at hk; omega
    refine ⟨a, rfl, ?_⟩
    rw [hcell k hk', List.getElem_take, List.getD_eq_getElem?_getD, List.getElem?_eq_getElem hk']
    rfl
end Go.Proofs.Ytpegefcpanijhaa
end
