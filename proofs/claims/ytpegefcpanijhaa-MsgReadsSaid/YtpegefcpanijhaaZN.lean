/- What the reference's reader computes is the plain reading. The reference's reader reads as the plain reading: contracts. The walk of the reference's Read: it reads what the plain reading says. The walk of the reference's Read, joined. The walk of barquelaw17.MsgReads. -/
import Derived.Test.YtpegefcpanijhaaF8
import Derived.Test.YtpegefcpanijhaaZH
import Derived.Test.YtpegefcpanijhaaZJ
import Derived.Test.YtpegefcpanijhaaZE
section
namespace Go.Proofs.Ytpegefcpanijhaa
set_option linter.unusedVariables false
set_option linter.unusedSimpArgs false
open Go.RowKit Go.Proofs.YtpegefcpanijhaaW.PrintWords PF

/-- What is left of the text s. -/
structure Left (s : ByteArray) (x : Rd) : Prop where
  le : x.1.length ≤ s.size
  drop : s.data.toList.drop (s.size - x.1.length) = x.1
  max : s.size ≤ 4611686018427387903
/-- Where the reader stands. -/
abbrev posOf (s : ByteArray) (x : Rd) : Int := ((s.size - x.1.length : Nat) : Int)

theorem Left.tail {s : ByteArray} {c : UInt8} {r : List UInt8} {e e' : Int} (h : Left s (c :: r, e)) : Left s (r, e') := by
  have hle := h.le
  have hd := h.drop
  simp only [List.length_cons] at hle hd
  refine ⟨by show r.length ≤ s.size; omega, ?_, h.max⟩
  show s.data.toList.drop (s.size - r.length) = r
  have e : s.size - r.length = (s.size - (r.length + 1)) + 1 := by omega
  rw [e, ← List.drop_drop, hd]
  rfl
theorem Left.fault {s : ByteArray} {x : Rd} (h : Left s x) (e : Int) : Left s (x.1, e) := ⟨h.le, h.drop, h.max⟩

theorem bytef_end {s : ByteArray} (h : Left s ([], 0)) : barqueref01_Reader_Byte.f s (posOf s ([], 0)) 0 = some (0, s, posOf s ([], 3), 3) := by
  unfold barqueref01_Reader_Byte.f posOf
  rw [if_pos rfl, if_pos (by simp)]
theorem bytef_more {s : ByteArray} {c : UInt8} {r : List UInt8} (h : Left s (c :: r, 0)) : barqueref01_Reader_Byte.f s (posOf s (c :: r, 0)) 0 = some ((c.toNat : Int), s, posOf s (r, 0), 0) := by
  have hle := h.le
  have hm := h.max
  have hd := h.drop
  simp only [List.length_cons] at hle hd
  obtain ⟨p, hp⟩ : ∃ p, s.size - (r.length + 1) = p := ⟨_, rfl⟩
  rw [hp] at hd
  have hb := bt_drop hd
  have e0 : posOf s (c :: r, 0) = (p : Int) := by unfold posOf; simp only [List.length_cons]; rw [hp]
  have e1 : posOf s (r, 0) = (p : Int) + 1 := by unfold posOf; show ((s.size - r.length : Nat) : Int) = _; omega
  have hc := c.toNat_lt
  have w1 : wrap64 ((p : Int) + 1) = (p : Int) + 1 := wr64 (by omega) (by omega)
  have w2 : wrap64 ((p : Int) + 1 - 1) = (p : Int) := by rw [Int.add_sub_cancel]; exact wr64 (by omega) (by omega)
  unfold barqueref01_Reader_Byte.f
  rw [if_pos rfl, e0, e1, w1, w2, if_neg (by omega), if_pos (by omega), if_pos (by omega), hb, wr64 (by omega) (by omega)]
theorem bytef_off {s : ByteArray} {x : Rd} (e : x.2 ≠ 0) : barqueref01_Reader_Byte.f s (posOf s x) x.2 = some (0, s, posOf s x, x.2) := by
  unfold barqueref01_Reader_Byte.f
  rw [if_neg e]

theorem num_add {P n c : Nat} (hV : c % 128 * P < 2 ^ 62) (hn : n < P) (hP : P ≤ 72057594037927936) : wrap64 ((n : Int) + wrap64 (Int.tmod (c : Int) 128 * (P : Int))) = ((n + c % 128 * P : Nat) : Int) := by
  have e1 : Int.tmod (c : Int) 128 = ((c % 128 : Nat) : Int) := rfl
  have e2 : ((c % 128 : Nat) : Int) * (P : Int) = ((c % 128 * P : Nat) : Int) := by push_cast; rfl
  rw [e1, e2]
  generalize c % 128 * P = V at hV ⊢
  rw [wr64 (x := (V : Int)) (by omega) (by omega), wr64 (by omega) (by omega)]
  omega
theorem num_unit {P Q : Nat} (hP : P * 128 = Q) (hQ : Q ≤ 72057594037927936) : wrap64 ((P : Int) * 128) = (Q : Int) := by
  rw [wr64 (by omega) (by omega)]
  omega
theorem pow_le8 {i : Nat} (hi : i ≤ 8) : 128 ^ i ≤ 72057594037927936 := Nat.pow_le_pow_right (by decide) hi

/-- The reference's loop from its round i on. -/
theorem numf_loop {s : ByteArray} : ∀ (r : List UInt8) (i n k : Nat), Left s (r, 0) → i ≤ 8 → n < 128 ^ i → 2 * (9 - i) + 2 ≤ k →
    barqueref01_Reader_Num.l0 k (n : Int) ((128 ^ i : Nat) : Int) (i : Int) s (posOf s (r, 0)) 0 = some ((numA i n r).1, s, posOf s (numA i n r).2, (numA i n r).2.2) := by
  intro r
  induction r with
  | nil =>
    intro i n k h hi hn hk
    obtain ⟨k, rfl⟩ : ∃ f, k = f + 1 := ⟨k - 1, by omega⟩
    rw [barqueref01_Reader_Num.l0, if_pos (by omega), bytef_end h]
    rfl
  | cons c r ih =>
    intro i n k h hi hn hk
    obtain ⟨k, rfl⟩ : ∃ f, k = f + 2 := ⟨k - 2, by omega⟩
    have hc := c.toNat_lt
    rw [barqueref01_Reader_Num.l0, if_pos (by omega), bytef_more h]
    simp only [Option.bind_some]
    rw [if_pos trivial]
    have key : ∀ b : Bool, (b = true ↔ ((i = 8 ∧ 63 < c.toNat) ∨ (0 < i ∧ c.toNat = 0))) → barqueref01_Reader_Num.j1 (k + 1) (n : Int) ((128 ^ i : Nat) : Int) (i : Int) (c.toNat : Int) b s (posOf s (r, 0)) 0 = some ((numA i n (c :: r)).1, s, posOf s (numA i n (c :: r)).2, (numA i n (c :: r)).2.2) := by
      intro b hb
      rw [barqueref01_Reader_Num.j1]
      by_cases hbad : (i = 8 ∧ 63 < c.toNat) ∨ (0 < i ∧ c.toNat = 0)
      · rw [if_pos (hb.2 hbad), numA_bad hbad]
      · rw [if_neg (fun h => hbad (hb.1 h))]
        have hV := good_lt hi hc hbad
        rw [num_add hV hn (pow_le8 hi)]
        by_cases hlast : c.toNat < 128
        · rw [if_pos (by omega), numA_last hbad hlast]
        · have hi7 : i + 1 ≤ 8 := by omega
          have e5 : wrap64 ((i : Int) + 1) = ((i + 1 : Nat) : Int) := by rw [wr64 (by omega) (by omega)]; omega
          rw [if_neg (by omega), num_unit (Nat.pow_succ 128 i).symm (pow_le8 hi7), e5, numA_more hbad hlast]
          exact ih (i + 1) _ k h.tail hi7 (more_lt hn) (by omega)
    clear ih
    by_cases h0 : 0 < i
    · rw [if_pos (by omega)]
      by_cases hc0 : c.toNat = 0
      · rw [if_pos (by omega)]
        exact key true ⟨fun _ => .inr ⟨h0, hc0⟩, fun _ => rfl⟩
      · rw [if_neg (by omega)]
        by_cases h8 : i = 8
        · rw [if_pos (by omega)]
          exact key _ (by rw [decide_eq_true_iff]; omega)
        · rw [if_neg (by omega)]
          exact key false ⟨fun h => absurd h (by decide), fun h => by omega⟩
    · rw [if_neg (by omega), if_neg (by omega)]
      exact key false ⟨fun h => absurd h (by decide), fun h => by omega⟩
theorem numf_val {s : ByteArray} {x : Rd} (h : Left s x) (k : Nat) (hk : 20 ≤ k) : barqueref01_Reader_Num.f k s (posOf s x) x.2 = some ((numR x).1, s, posOf s (numR x).2, (numR x).2.2) := by
  unfold barqueref01_Reader_Num.f
  by_cases he : x.2 = 0
  · obtain ⟨l, e⟩ := x
    subst he
    exact numf_loop l 0 0 k h (by omega) (by decide) (by omega)
  · obtain ⟨k, rfl⟩ : ∃ f, k = f + 1 := ⟨k - 1, by omega⟩
    have hn : numR x = (0, x) := if_neg he
    rw [hn, barqueref01_Reader_Num.l0, if_pos (by omega), bytef_off he]
    simp only [Option.bind_some]
    rw [if_neg he]
theorem rawf_val {s : ByteArray} {x : Rd} (h : Left s x) (n : Int) : barqueref01_Reader_Raw.f s (posOf s x) x.2 n = some ((rawR n x).1, s, posOf s (rawR n x).2, (rawR n x).2.2) := by
  unfold barqueref01_Reader_Raw.f
  by_cases he : x.2 = 0
  · rw [if_pos he]
    by_cases h0 : n < 0
    · rw [if_pos h0]
      unfold rawR
      rw [if_pos he, if_pos h0]
    · rw [if_neg h0]
      have hle := h.le
      have hm := h.max
      have e1 : wrap64 ((s.size : Int) - posOf s x) = (x.1.length : Int) := by
        unfold posOf
        rw [wr64 (by omega) (by omega)]
        omega
      rw [e1]
      by_cases h1 : (x.1.length : Int) < n
      · rw [if_pos h1]
        unfold rawR
        rw [if_pos he, if_neg h0, if_pos h1]
      · rw [if_neg h1]
        obtain ⟨m, rfl⟩ := Int.eq_ofNat_of_zero_le (Int.not_lt.1 h0)
        obtain ⟨p, hp⟩ : ∃ p : Nat, p = s.size - x.1.length := ⟨_, rfl⟩
        have hpo : posOf s x = (p : Int) := by rw [hp]
        have hr : rawR (m : Int) x = (⟨(x.1.take m).toArray⟩, x.1.drop m, 0) := by
          unfold rawR
          rw [if_pos he, if_neg h0, if_neg h1, Int.toNat_natCast]
        have hp2 : posOf s (x.1.drop m, (0 : Int)) = (p : Int) + (m : Int) := by
          unfold posOf
          simp only [List.length_drop]
          omega
        have w1 : wrap64 ((p : Int) + (m : Int)) = (p : Int) + (m : Int) := wr64 (by omega) (by omega)
        have w2 : wrap64 ((p : Int) + (m : Int) - (m : Int)) = (p : Int) := by rw [Int.add_sub_cancel]; exact wr64 (by omega) (by omega)
        rw [hr, hp2, hpo, w1, w2, if_pos (by omega), if_pos (by omega), if_pos (by omega), he]
        have hx := extract_of (s := s) (l := x.1) (p := p) (n := m) (by rw [hp]; exact h.drop)
        have t1 : (p : Int).toNat = p := Int.toNat_natCast p
        have t2 : ((p : Int) + (m : Int)).toNat = p + m := by omega
        rw [t1, t2, hx]
  · rw [if_neg he]
    unfold rawR
    rw [if_neg he]
theorem Left.numA {s : ByteArray} : ∀ (r : List UInt8) (i n : Nat), Left s (r, 0) → Left s (numA i n r).2 := by
  intro r
  induction r with
  | nil => intro i n h; exact h.fault 3
  | cons c r ih =>
    intro i n h
    unfold Go.Proofs.Ytpegefcpanijhaa.numA
    split
    · exact (h.tail (e' := 0)).fault 5
    · split
      · exact h.tail
      · exact ih _ _ h.tail
theorem Left.num {s : ByteArray} {x : Rd} (h : Left s x) : Left s (numR x).2 := by
  unfold numR
  split
  · exact Left.numA _ _ _ (h.fault 0)
  · exact h
theorem countf_val {s : ByteArray} {x : Rd} (h : Left s x) (most : Int) (k : Nat) (hk : 20 ≤ k) : barqueref01_Reader_Count.f k s (posOf s x) x.2 most = some ((countR most x).1, s, posOf s (countR most x).2, (countR most x).2.2) := by
  unfold barqueref01_Reader_Count.f
  rw [numf_val h k hk]
  simp only [Option.bind_some]
  unfold countR
  by_cases h0 : (numR x).2.2 = 0
  · rw [if_pos h0]
    by_cases h1 : most < (numR x).1
    · rw [if_pos h1, if_pos ⟨h0, h1⟩]
    · rw [if_neg h1, if_neg (fun h => h1 h.2)]
  · rw [if_neg h0, if_neg (fun h => h0 h.1)]
theorem Left.count {s : ByteArray} {x : Rd} (h : Left s x) (most : Int) : Left s (countR most x).2 := by
  unfold countR
  split
  · exact h.num.fault 4
  · exact h.num
theorem textf_val {s : ByteArray} {x : Rd} (h : Left s x) (most : Int) (k : Nat) (hk : 20 ≤ k) : barqueref01_Reader_Text.f k s (posOf s x) x.2 most = some ((textR most x).1, s, posOf s (textR most x).2, (textR most x).2.2) := by
  unfold barqueref01_Reader_Text.f
  rw [countf_val h most k hk]
  simp only [Option.bind_some]
  rw [rawf_val (h.count most)]
  rfl
theorem endf_val {s : ByteArray} {x : Rd} (h : Left s x) : barqueref01_Reader_End.f s (posOf s x) x.2 = some (endR x, s, posOf s x, endR x) := by
  have hle := h.le
  unfold barqueref01_Reader_End.f endR
  by_cases h0 : x.2 = 0
  · rw [if_pos h0]
    by_cases h1 : x.1 = []
    · have e1 : ¬ posOf s x < (s.size : Int) := by
        unfold posOf
        rw [h1]
        simp
      rw [if_neg e1, if_neg (fun h => h.2 h1)]
    · have h2 : 0 < x.1.length := List.length_pos_iff.2 h1
      have e1 : posOf s x < (s.size : Int) := by
        unfold posOf
        omega
      rw [if_pos e1, if_pos ⟨h0, h1⟩]
  · rw [if_neg h0, if_neg (fun h => h0 h.1)]
end Go.Proofs.Ytpegefcpanijhaa
end
section
namespace Go.Proofs.Ytpegefcpanijhaa
set_option linter.unusedVariables false
set_option linter.unusedSimpArgs false
open Go.RowKit Go.Proofs.YtpegefcpanijhaaW.PrintWords PF

/-- The reference's reader of the text s at block b: what is left to read, and the fault. -/
structure RfAt (w : World) (b : Nat) (s : ByteArray) (x : Rd) : Prop where
  blk : w.heap[b]? = some (.cells #[.string s, .int .i64 (posOf s x), .int .i64 x.2] 92 (0, 0))
  left : Left s x

namespace RfAt
variable {w w' : World} {b : Nat} {s : ByteArray} {x : Rd}
theorem c2 (h : RfAt w b s x) : w.cell? ⟨b, 2, none⟩ = some (.int .i64 x.2) := (blk_cell h.blk 2).trans rfl
theorem lt (h : RfAt w b s x) : b < w.heap.size := blk_lt h.blk
theorem drewN (h : RfAt w b s x) (n : Nat) : RfAt (w.drewN n) b s x := ⟨h.blk, h.left⟩
theorem drew (h : RfAt w b s x) : RfAt w.drew b s x := ⟨h.blk, h.left⟩
theorem below (h : RfAt w b s x) (hb : Below w.heap.size w w') : RfAt w' b s x := ⟨blk_below h.blk hb, h.left⟩
theorem alloc (h : RfAt w b s x) (o : Obj) : RfAt (w.alloc o) b s x := ⟨blk_alloc h.blk o, h.left⟩
end RfAt

/-- The world's first b blocks. -/
def cutWorld (w : World) (b : Nat) : World := { w with heap := w.heap.extract 0 b }
theorem cut_size (w : World) (b : Nat) (hb : b < w.heap.size) : (cutWorld w b).heap.size = b := by
  unfold cutWorld
  simp
  omega
theorem cut_below (w : World) (b : Nat) (hb : b < w.heap.size) : Below (cutWorld w b).heap.size (cutWorld w b) w := by
  refine ⟨rfl, rfl, rfl, ?_, fun k hk => ?_⟩
  · rw [cut_size w b hb]; omega
  · rw [cut_size w b hb] at hk
    show w.heap[k]? = (w.heap.extract 0 b)[k]?
    rw [Array.getElem?_extract]
    simp
    omega
theorem only_keep {w w' : World} {b : Nat} (hb : b < w.heap.size) (h : Below (cutWorld w b).heap.size (cutWorld w b) w') (hk : KeepBut w w' b none) : Only b w w' :=
  ⟨h.os, h.tape, h.output, hk.1, fun k hk1 hk2 => hk.2 k hk1 hk2 (by simp)⟩
theorem rf_is {w : World} {b : Nat} {s : ByteArray} {x : Rd} (h : RfAt w b s x) : IsS92 (cutWorld w b) w b s (posOf s x) x.2 := ⟨h.blk, Nat.le_of_eq (cut_size w b h.lt)⟩

theorem rNum {w : World} {b : Nat} {s : ByteArray} {x : Rd} (h : RfAt w b s x) :
    Calls Try.prog 65 #[.pointer (some ⟨b, 0, none⟩)] w fun e w' => e = .returned (.int .i64 (numR x).1) ∧ RfAt w' b s (numR x).2 ∧ Only b w w' := by
  refine (barqueref01_Reader_Num.calls 20 b s _ _ _ _ _ _ (cutWorld w b) w (rf_is h) (cut_below w b h.lt) (numf_val h.left 20 (Nat.le_refl _))).mono ?_
  rintro e w' ⟨rfl, hI, hB, hK⟩
  exact ⟨rfl, ⟨hI.1, h.left.num⟩, only_keep h.lt hB hK⟩
theorem Left.raw {s : ByteArray} {x : Rd} (h : Left s x) (n : Int) : Left s (rawR n x).2 := by
  unfold rawR
  split
  · split
    · exact h.fault 1
    · split
      · exact h.fault 3
      · rename_i h0 h1
        have hle := h.le
        have hd := h.drop
        refine ⟨by show (x.1.drop n.toNat).length ≤ s.size; rw [List.length_drop]; omega, ?_, h.max⟩
        show s.data.toList.drop (s.size - (x.1.drop n.toNat).length) = x.1.drop n.toNat
        rw [List.length_drop]
        have e : s.size - (x.1.length - n.toNat) = (s.size - x.1.length) + n.toNat := by omega
        rw [e, ← List.drop_drop, hd]
  · exact h
theorem rRaw {w : World} {b : Nat} {s : ByteArray} {x : Rd} (h : RfAt w b s x) (n : Int) :
    Calls Try.prog 66 #[.pointer (some ⟨b, 0, none⟩), .int .i64 n] w fun e w' => e = .returned (.string (rawR n x).1) ∧ RfAt w' b s (rawR n x).2 ∧ Only b w w' := by
  refine (barqueref01_Reader_Raw.calls b s _ _ _ _ _ _ _ (cutWorld w b) w (rf_is h) (cut_below w b h.lt) (rawf_val h.left n)).mono ?_
  rintro e w' ⟨rfl, hI, hB, hK⟩
  exact ⟨rfl, ⟨hI.1, h.left.raw n⟩, only_keep h.lt hB hK⟩
theorem rCount {w : World} {b : Nat} {s : ByteArray} {x : Rd} (h : RfAt w b s x) (n : Int) :
    Calls Try.prog 68 #[.pointer (some ⟨b, 0, none⟩), .int .i64 n] w fun e w' => e = .returned (.int .i64 (countR n x).1) ∧ RfAt w' b s (countR n x).2 ∧ Only b w w' := by
  refine (barqueref01_Reader_Count.calls 20 b s _ _ _ _ _ _ _ (cutWorld w b) w (rf_is h) (cut_below w b h.lt) (countf_val h.left n 20 (Nat.le_refl _))).mono ?_
  rintro e w' ⟨rfl, hI, hB, hK⟩
  exact ⟨rfl, ⟨hI.1, h.left.count n⟩, only_keep h.lt hB hK⟩
theorem rText {w : World} {b : Nat} {s : ByteArray} {x : Rd} (h : RfAt w b s x) (n : Int) :
    Calls Try.prog 67 #[.pointer (some ⟨b, 0, none⟩), .int .i64 n] w fun e w' => e = .returned (.string (textR n x).1) ∧ RfAt w' b s (textR n x).2 ∧ Only b w w' := by
  refine (barqueref01_Reader_Text.calls 20 b s _ _ _ _ _ _ _ (cutWorld w b) w (rf_is h) (cut_below w b h.lt) (textf_val h.left n 20 (Nat.le_refl _))).mono ?_
  rintro e w' ⟨rfl, hI, hB, hK⟩
  exact ⟨rfl, ⟨hI.1, (h.left.count n).raw _⟩, only_keep h.lt hB hK⟩
theorem rEnd {w : World} {b : Nat} {s : ByteArray} {x : Rd} (h : RfAt w b s x) :
    Calls Try.prog 69 #[.pointer (some ⟨b, 0, none⟩)] w fun e w' => e = .returned (.int .i64 (endR x)) ∧ RfAt w' b s (x.1, endR x) ∧ Only b w w' := by
  refine (barqueref01_Reader_End.calls b s _ _ _ _ _ _ (cutWorld w b) w (rf_is h) (cut_below w b h.lt) (endf_val h.left)).mono ?_
  rintro e w' ⟨rfl, hI, hB, hK⟩
  exact ⟨rfl, ⟨hI.1, h.left.fault _⟩, only_keep h.lt hB hK⟩
end Go.Proofs.Ytpegefcpanijhaa
end
section
namespace Go.Proofs.Ytpegefcpanijhaa
set_option linter.unusedVariables false
set_option linter.unusedSimpArgs false
open Go.RowKit Go.Maps Go.Proofs.YtpegefcpanijhaaW.PrintWords Go.Proofs.YtpegefcpanijhaaW.PrintLast PF

/-- How far the reference's Read is: the reader, the message so far, the result's block. -/
structure RrSt (w wr : World) (b M R : Nat) (s : ByteArray) (v : Value) (a : MsgD) (x : Rd) : Prop where
  rd : RfAt wr b s x
  blk : wr.heap[M]? = some (.cells (rowV a v) 44 (0, 0))
  res : wr.heap[R]? = some (.cells (zM.cells none 0) 44 (0, 0))
  own : wr.ownsRow w.heap.size 80 3 v a.list.length (a.list.flatMap entC)
  bel : Below w.heap.size w wr
  geb : w.heap.size ≤ b
  geM : w.heap.size ≤ M
  geR : w.heap.size ≤ R
  bM : b ≠ M
  bR : b ≠ R
  ne : R ≠ M

namespace RrSt
variable {w wr w1 : World} {b M R : Nat} {s : ByteArray} {v : Value} {a : MsgD} {x x' : Rd}
theorem own_ne (h : RrSt w wr b M R s v a x) {k t : Nat} {cs : Array Value} {fr : Nat × Nat} (hk : wr.heap[k]? = some (.cells cs t fr)) (ht : t ≠ 80) : v.ownBlock ≠ some k := by
  rcases h.own.2 with ⟨rfl, _⟩ | ⟨g, cap, cur, rfl, _, hg, _⟩
  · simp [Value.ownBlock]
  · intro e
    have : g = k := by simpa [Value.ownBlock] using e
    subst this
    rw [hg] at hk
    injection hk with hk
    injection hk with _ e1
    exact ht e1.symm
theorem own_ge (h : RrSt w wr b M R s v a x) : ∀ k, v.ownBlock = some k → w.heap.size ≤ k ∧ k < wr.heap.size := by
  rcases h.own.2 with ⟨rfl, _⟩ | ⟨g, cap, cur, rfl, hb, hg, _⟩
  · intro k hk; simp [Value.ownBlock] at hk
  · intro k hk
    have : g = k := by simpa [Value.ownBlock] using hk
    subst this
    exact ⟨hb, blk_lt hg⟩
/-- The reader has read on. -/
theorem went (h : RrSt w wr b M R s v a x) (h1 : RfAt w1 b s x') (ho : Only b wr w1) : RrSt w w1 b M R s v a x' :=
  ⟨h1, (ho.block M (blk_lt h.blk) h.bM.symm).trans h.blk, (ho.block R (blk_lt h.res) h.bR.symm).trans h.res,
   own_move h.own (fun k hk => ho.block k (h.own_ge k hk).2 (fun e => h.own_ne h.rd.blk (by decide) (by rw [hk, e]))),
   ho.below h.bel h.geb, h.geb, h.geM, h.geR, h.bM, h.bR, h.ne⟩
/-- A field has been set. -/
theorem set (h : RrSt w wr b M R s v a x) (i : Nat) (u : Value) (a' : MsgD) (hr : (rowV a v).setIfInBounds i u = rowV a' v) (hl : a'.list = a.list) : RrSt w (wr.setCell ⟨M, i, none⟩ u) b M R s v a' x :=
  ⟨⟨blk_far h.rd.blk h.bM u, h.rd.left⟩, blk_put h.blk i u hr, blk_far h.res h.ne u,
   by rw [hl]; exact own_move h.own (fun k hk => Below.heap_setCell wr ⟨M, i, none⟩ u k (fun e => h.own_ne h.blk (by decide) (by rw [hk]; exact congrArg some e))),
   h.bel.setCell h.geM u, h.geb, h.geM, h.geR, h.bM, h.bR, h.ne⟩
/-- The whole message has been laid down. -/
theorem putRow {A : Option Addr} {c : Nat} (h : RrSt w wr b M R s (.slice A a.list.length c) a x) (a' : MsgD) (hl : a'.list = a.list) : RrSt w (wr.setRow M (a'.cells A c)) b M R s (.slice A a'.list.length c) a' x :=
  ⟨⟨(setRow_other wr M b _ h.bM).trans h.rd.blk, h.rd.left⟩, setRow_heap wr M _ _ _ _ h.blk, (setRow_other wr M R _ h.ne).trans h.res,
   by rw [hl]; exact own_move h.own (fun k hk => setRow_other wr M k _ (fun e => h.own_ne h.blk (by decide) (by rw [hk]; exact congrArg some e))),
   below_put h.bel h.geM _, h.geb, h.geM, h.geR, h.bM, h.bR, h.ne⟩
theorem below (h : RrSt w wr b M R s v a x) (hb : Below wr.heap.size wr w1) : RrSt w w1 b M R s v a x :=
  ⟨h.rd.below hb, blk_below h.blk hb, blk_below h.res hb, own_move h.own (fun k hk => hb.block k (h.own_ge k hk).2), h.bel.trans (hb.mono h.bel.size), h.geb, h.geM, h.geR, h.bM, h.bR, h.ne⟩
theorem alloc (h : RrSt w wr b M R s v a x) (o : Obj) : RrSt w (wr.alloc o) b M R s v a x := h.below ((Below.refl _ _).alloc (Nat.le_refl _) o)
theorem drew (h : RrSt w wr b M R s v a x) : RrSt w wr.drew b M R s v a x := ⟨h.rd.drew, h.blk, h.res, h.own, h.bel.drew, h.geb, h.geM, h.geR, h.bM, h.bR, h.ne⟩
theorem frozen (h : RrSt w wr b M R s v a x) (i : Nat) : wr.frozen? ⟨M, i, none⟩ = false := blk_frozen h.blk i
/-- A cell of a block apart has been set. -/
theorem far (h : RrSt w wr b M R s v a x) {X i : Nat} (hX : v.ownBlock ≠ some X) (hb : b ≠ X) (hM : M ≠ X) (hR : R ≠ X) (hge : w.heap.size ≤ X) (u : Value) : RrSt w (wr.setCell ⟨X, i, none⟩ u) b M R s v a x :=
  ⟨⟨blk_far h.rd.blk hb u, h.rd.left⟩, blk_far h.blk hM u, blk_far h.res hR u,
   own_move h.own (fun k hk => Below.heap_setCell wr ⟨X, i, none⟩ u k (fun e => hX (by rw [hk]; exact congrArg some e))),
   h.bel.setCell hge u, h.geb, h.geM, h.geR, h.bM, h.bR, h.ne⟩
/-- An entry has been appended, its value not yet laid down. -/
theorem grew (h : RrSt w wr b M R s v a x) {v' : Value} {e : S80} (hown : w1.ownsRow w.heap.size 80 3 v' (a.list.length + 1) (a.list.flatMap entC ++ entC e)) (hg : wr.grownBy w1 v.ownBlock) :
    RrSt w (w1.setCell ⟨M, 13, none⟩ v') b M R s v' { a with list := a.list ++ [e] } x := by
  have hge := fun k (hk : v.ownBlock = some k) => (h.own_ge k hk).1
  have hM : w1.heap[M]? = some (.cells (rowV a v) 44 (0, 0)) := (hg.block M (blk_lt h.blk) (fun e => h.own_ne h.blk (by decide) e.symm)).trans h.blk
  have hne : v'.ownBlock ≠ some M := by
    rcases hown.2 with ⟨rfl, _⟩ | ⟨g, cap, cur, rfl, _, hg, _⟩
    · simp [Value.ownBlock]
    · intro e
      have : g = M := by simpa [Value.ownBlock] using e
      subst this
      rw [hM] at hg
      injection hg with hg
      injection hg with _ e1
      exact absurd e1 (by decide)
  have hbel : Below w.heap.size w w1 := ⟨hg.os.trans h.bel.os, hg.tape.trans h.bel.tape, hg.output.trans h.bel.output, Nat.le_trans h.bel.size hg.size, fun k hk => (hg.block k (Nat.lt_of_lt_of_le hk h.bel.size) (fun e => by have := hge k e.symm; omega)).trans (h.bel.block k hk)⟩
  refine ⟨⟨blk_far ((hg.block b (blk_lt h.rd.blk) (fun e => h.own_ne h.rd.blk (by decide) e.symm)).trans h.rd.blk) h.bM v', h.rd.left⟩, blk_put hM 13 v' rfl, blk_far ((hg.block R (blk_lt h.res) (fun e => h.own_ne h.res (by decide) e.symm)).trans h.res) h.ne v', ?_, hbel.setCell h.geM v', h.geb, h.geM, h.geR, h.bM, h.bR, h.ne⟩
  have e1 : (a.list ++ [e]).length = a.list.length + 1 := by simp
  have e2 : (a.list ++ [e]).flatMap entC = a.list.flatMap entC ++ entC e := by simp [List.flatMap_append]
  show (w1.setCell ⟨M, 13, none⟩ v').ownsRow w.heap.size 80 3 v' (a.list ++ [e]).length ((a.list ++ [e]).flatMap entC)
  rw [e1, e2]
  exact own_move hown (fun k hk => Below.heap_setCell w1 ⟨M, 13, none⟩ v' k (fun e => hne (by rw [hk]; exact congrArg some e)))
end RrSt

theorem numR_stuck {x : Rd} (h : x.2 ≠ 0) : numR x = (0, x) := if_neg h
theorem rawR_stuck {x : Rd} (h : x.2 ≠ 0) (n : Int) : rawR n x = (⟨#[]⟩, x) := if_neg h
theorem entR_stuck {x : Rd} (h : x.2 ≠ 0) : (entR x).2 = x := by
  unfold entR
  rw [numR_stuck h]
  simp only
  rw [numR_stuck h]
  simp only
  rw [rawR_stuck h]
theorem listR_stuck : ∀ (k : Nat) (l : List S80) (x : Rd), x.2 ≠ 0 → (listR k l x).2 = x := by
  intro k
  induction k with
  | zero => intro l x h; rfl
  | succ k ih =>
    intro l x h
    show (listR k _ (entR x).2).2 = x
    rw [entR_stuck h]
    exact ih _ _ h
theorem step_fault (a : MsgD) (x : Rd) (y : Fd) (h : (stepR (a, x) y).2.2 = 0) : x.2 = 0 := by
  apply Classical.byContradiction
  intro hx
  apply hx
  have hc : ∀ most : Int, countR most x = (0, x) := by
    intro most
    unfold countR
    rw [numR_stuck hx]
    exact if_neg (fun h => hx h.1)
  cases y
  case m => simpa [stepR, rawR_stuck hx] using h
  case p => simpa [stepR, numR_stuck hx, textR, hc, rawR_stuck hx] using h
  case l => simpa [stepR, hc, listR] using h
  all_goals simpa [stepR, numR_stuck hx] using h
end Go.Proofs.Ytpegefcpanijhaa
end
section
namespace Go.Proofs.Ytpegefcpanijhaa
set_option linter.unusedVariables false
set_option linter.unusedSimpArgs false
open Go.RowKit Go.Maps Go.Proofs.YtpegefcpanijhaaW.PrintWords Go.Proofs.YtpegefcpanijhaaW.PrintLast PF

theorem listR_snd : ∀ (k : Nat) (l l' : List S80) (x : Rd), (listR k l x).2 = (listR k l' x).2 := by
  intro k
  induction k with
  | zero => intro l l' x; rfl
  | succ k ih => intro l l' x; exact ih _ _ _
theorem list_start {a a' : MsgD} {x : Rd} {N : Nat} (hN : (countR 64 x).1 = (N : Int)) (hA : x.2 = 0 → a = a') :
    (listR (N - 0) a.list (countR 64 x).2).2 = (stepR (a', x) .l).2 ∧ (x.2 = 0 → (listR (N - 0) a.list (countR 64 x).2).1 = (stepR (a', x) .l).1.list) := by
  have e1 : (countR 64 x).1.toNat = N := by rw [hN, Int.toNat_natCast]
  refine ⟨?_, fun h => ?_⟩
  · show _ = (listR (countR 64 x).1.toNat a'.list (countR 64 x).2).2
    rw [e1]
    exact listR_snd _ _ _ _
  · rw [hA h]
    show _ = (listR (countR 64 x).1.toNat a'.list (countR 64 x).2).1
    rw [e1]
    rfl
theorem list_end {a a' : MsgD} {x x' : Rd} {l' : List S80} (hA : x.2 = 0 → a = a') (h1 : x' = (stepR (a', x) .l).2) (h2 : x.2 = 0 → l' = (stepR (a', x) .l).1.list) (h : x'.2 = 0) : { a with list := l' } = (stepR (a', x) .l).1 := by
  have h0 : x.2 = 0 := step_fault a' x .l (by rw [← h1]; exact h)
  have e := hA h0
  subst e
  rw [h2 h0]
  rfl

set_option maxHeartbeats 8000000 in
set_option maxRecDepth 100000 in
theorem rRead_calls (w : World) (s : ByteArray) (hs : s.size ≤ 4611686018427387903) :
    Calls Try.prog 40 #[.string s] w fun e w' => ∃ A c, e = .returned (.tuple #[.agg ((readD s.data.toList).1.cells A c), .int .i64 (readD s.data.toList).2]) ∧ ListAt w' A c (readD s.data.toList).1.list ∧ Below w.heap.size w w' := by
  obtain ⟨i0, hi, hz0, hz1, hz2⟩ := info_parts info80
  have HZ0 := Lib.hid hz0; have HZ1 := Lib.hid hz1; have HZ2 := Lib.hid hz2; have HI0 := Lib.hid hi
  clear hz0 hz1 hz2 hi
  have hl : s.data.toList.length = s.size := by rw [Array.length_toList]; rfl
  have hLeft : Left s (s.data.toList, 0) := ⟨by show s.data.toList.length ≤ s.size; omega, by show s.data.toList.drop (s.size - s.data.toList.length) = _; rw [hl, Nat.sub_self]; rfl, hs⟩
  have hpos : posOf s (s.data.toList, 0) = 0 := by show ((s.size - s.data.toList.length : Nat) : Int) = 0; rw [hl, Nat.sub_self]; rfl
  obtain ⟨l, hll⟩ : ∃ l, s.data.toList = l := ⟨_, rfl⟩
  rw [hll] at hLeft hpos ⊢
  clear hll hl hs
  have HLeft := Lib.hid hLeft
  have HPos := Lib.hid hpos
  clear hLeft hpos
  go_enter Try.func40, Try.ntmps40
  go_upto_region 3 with (fail)
  have e0 : (((w.alloc (.cells (zM.cells none 0) 44)).alloc (.cells #[.string s, .int .i64 0, .int .i64 0] 92)).alloc (.cells ((headM 0 0 0).cells none 0) 44)).heap.size = w.heap.size + 1 + 1 + 1 := by simp
  change Code.wp _ _ _ _ (((w.alloc (.cells (zM.cells none 0) 44)).alloc (.cells #[.string s, .int .i64 0, .int .i64 0] 92)).alloc (.cells ((headM 0 0 0).cells none 0) 44))
  have hR := blk_alloc (blk_alloc (heap_alloc_new w (.cells (zM.cells none 0) 44)) (.cells #[.string s, .int .i64 0, .int .i64 0] 92)) (.cells ((headM 0 0 0).cells none 0) 44)
  have hb := blk_alloc (heap_two w (.cells (zM.cells none 0) 44) (.cells #[.string s, .int .i64 0, .int .i64 0] 92)) (.cells ((headM 0 0 0).cells none 0) 44)
  have hM := heap_alloc_new ((w.alloc (.cells (zM.cells none 0) 44)).alloc (.cells #[.string s, .int .i64 0, .int .i64 0] 92)) (.cells ((headM 0 0 0).cells none 0) 44)
  rw [show ((w.alloc (.cells (zM.cells none 0) 44)).alloc (.cells #[.string s, .int .i64 0, .int .i64 0] 92)).heap.size = w.heap.size + 1 + 1 by simp] at hM
  have hB := (below_two w (.cells (zM.cells none 0) 44) (.cells #[.string s, .int .i64 0, .int .i64 0] 92)).alloc (by simp; omega) (.cells ((headM 0 0 0).cells none 0) 44)
  generalize ((w.alloc (.cells (zM.cells none 0) 44)).alloc (.cells #[.string s, .int .i64 0, .int .i64 0] 92)).alloc (.cells ((headM 0 0 0).cells none 0) 44) = w0 at hR hb hM hB ⊢
  obtain ⟨R, hRR⟩ : ∃ R, R = w.heap.size := ⟨_, rfl⟩
  obtain ⟨b, hbb⟩ : ∃ b, b = w.heap.size + 1 := ⟨_, rfl⟩
  obtain ⟨M, hMM⟩ : ∃ M, M = w.heap.size + 1 + 1 := ⟨_, rfl⟩
  rw [← hMM, ← hbb, ← hRR]
  rw [← hRR] at hR
  rw [← hbb] at hb
  rw [← hMM] at hM
  have hS0 : RrSt w w0 b M R s (.slice none 0 0) (headM 0 0 0) (l, 0) :=
    ⟨⟨by rw [HPos.out]; exact hb, HLeft.out⟩, hM, hR, ⟨rfl, .inl ⟨rfl, rfl⟩⟩, hB, by omega, by omega, by omega, by omega, by omega, by omega⟩
  clear e0 hR hb hM hB hRR hbb hMM HLeft HPos
  go_wp2_with fail
  refine (rNum hS0.rd).mono ?_
  rintro e w1 ⟨rfl, k1, q1⟩
  have hS1 := hS0.went k1 q1
  clear k1 q1 hS0
  obtain ⟨K0, hK0⟩ : ∃ k, (numR (l, 0)).1 = k := ⟨_, rfl⟩
  rw [hK0]
  have d0 : w1.cell? ⟨M, 0, none⟩ = some (.int .i64 0) := (blk_cell hS1.blk 0).trans rfl
  have f0 := hS1.frozen 0
  have hS2 := hS1.set 0 (.int .i64 K0) (headM K0 0 0) rfl rfl
  have HK0 := Lib.hid hK0
  clear hK0 hS1
  go_wp2_with fail
  clear d0 f0
  refine (rNum hS2.rd).mono ?_
  rintro e w2 ⟨rfl, k2, q2⟩
  have hS3 := hS2.went k2 q2
  clear k2 q2 hS2
  obtain ⟨K1, hK1⟩ : ∃ k, (numR (numR (l, 0)).2).1 = k := ⟨_, rfl⟩
  rw [hK1]
  have d1 : w2.cell? ⟨M, 1, none⟩ = some (.int .i64 0) := (blk_cell hS3.blk 1).trans rfl
  have f1 := hS3.frozen 1
  have hS4 := hS3.set 1 (.int .i64 K1) (headM K0 K1 0) rfl rfl
  have HK1 := Lib.hid hK1
  clear hK1 hS3
  go_wp2_with fail
  clear d1 f1
  refine (rNum hS4.rd).mono ?_
  rintro e w3 ⟨rfl, k3, q3⟩
  have hS5 := hS4.went k3 q3
  clear k3 q3 hS4
  obtain ⟨K2, hK2⟩ : ∃ k, (numR (numR (numR (l, 0)).2).2).1 = k := ⟨_, rfl⟩
  rw [hK2]
  have d2 : w3.cell? ⟨M, 2, none⟩ = some (.int .i64 0) := (blk_cell hS5.blk 2).trans rfl
  have f2 := hS5.frozen 2
  have hS6 := hS5.set 2 (.int .i64 K2) (headM K0 K1 K2) rfl rfl
  have HK2 := Lib.hid hK2
  have HH := Lib.hid (show headR l = (headM K0 K1 K2, (numR (numR (numR (l, 0)).2).2).2) by unfold headR; rw [HK0.out, HK1.out, HK2.out])
  clear hK2 hS5
  have d0 : (w3.setCell ⟨M, 2, none⟩ (.int .i64 K2)).cell? ⟨M, 0, none⟩ = some (.int .i64 K0) := (blk_cell hS6.blk 0).trans rfl
  go_upto_region 6 with (fail)
  generalize w3.setCell ⟨M, 2, none⟩ (.int .i64 K2) = w4 at hS6 d0 ⊢
  clear d2 f2 w3 HK0 HK1 HK2
  go_wp2_with fail
  refine (Fields_calls K0 _).mono ?_
  rintro e w5 ⟨rfl, hb⟩
  have hst := hS6.below hb
  clear hS6 hb d0
  go_wp2_with fail
  have hfl := fields_short K0
  have hus := up_size (fieldsOf K0)
  have HUS := Lib.hid hus
  clear hus
  go_loopw [7] (fun i wr => ∃ (j : Nat) (v : Value) (a a' : MsgD) (x : Rd), j ≤ (fieldsOf K0).length ∧ i = .int .i64 j ∧ RrSt w wr b M R s v a x ∧ a.list.length ≤ 64 * j ∧ Hid ((a', x) = ((fieldsOf K0).take j).foldl stepR (headR l)) ∧ Hid (x.2 = 0 → a = a')) (fun i _ => 6 - (intOf i).toNat)
  case atStart => exact ⟨0, _, _, _, _, Nat.zero_le _, rfl, hst, Nat.zero_le _, Lib.hid HH.out.symm, Lib.hid (fun _ => rfl)⟩
  case round =>
    clear hst
    obtain ⟨j, v, a, a', x, hj, rfl, hS, hll, HF, HA⟩ := hrel
    by_cases hlt : j < (fieldsOf K0).length
    · obtain ⟨y, hy⟩ : ∃ y, (fieldsOf K0)[j]? = some y := ⟨_, List.getElem?_eq_getElem hlt⟩
      have HX := Lib.hid hy
      have hbt := bt_up hy
      have z1 : (0 : Int) ≤ (j : Int) := by omega
      have z2 : (j : Int) < ((bytesUp (fieldsOf K0)).size : Int) := by rw [HUS.out]; omega
      have hw : wrap64 ((j : Int) + 1) = (j : Int) + 1 := wr64 (by omega) (by omega)
      clear hy
      obtain ⟨A0, c0, hv'⟩ := own_slice hS.own
      subst hv'
      cases y
      · replace hbt : bt (bytesUp (fieldsOf K0)) (j : Int) = 66 := hbt
        have hxx : ∀ h : j < (bytesUp (fieldsOf K0)).size, (((bytesUp (fieldsOf K0))[j]'h).toNat : Int) = 66 := fun h => (bt_at _ (j : Int) h).trans hbt
        go_upto_region 11 with (fail)
        refine start_ (n := 8) (S := fun w' => w'.heap[M]? = some (.cells (a.cells A0 c0) 44 (0, 0))) (ds := [7]) #[false, false, false, false, false, false, false, false] (by kernel_rfl) rfl rfl hS.blk (fun hHeld => ?_)
        have hS0 := hS.drew
        generalize wr.drew = w4 at hHeld hS0 ⊢
        clear hS
        refine pure_ (i := 1) (N := some 38) (v := ?_) (a' := ?_) #[false, true, false, false, false, false, false, false] rfl rfl (by kernel_rfl) (fun _ _ _ h => h) (Or.inl ⟨by rfl, ?_⟩) ?_ ?_
        rotate_left
        · intro w'
          go_simp
          with_reducible rfl
        rotate_left
        · simp only [Act.put, List.setIfInBounds_toArray, List.set_cons_zero, List.set_cons_succ, i64_w, i32_w]
          rfl
        refine pure_ (i := 2) (N := some 39) (v := ?_) (a' := ?_) #[false, true, true, false, false, false, false, false] rfl rfl (by kernel_rfl) (fun _ _ _ h => h) (Or.inl ⟨by rfl, ?_⟩) ?_ ?_
        rotate_left
        · intro w'
          go_simp
          with_reducible rfl
        rotate_left
        · simp only [Act.put, List.setIfInBounds_toArray, List.set_cons_zero, List.set_cons_succ, i64_w, i32_w]
          rfl
        refine pure_ (i := 4) (N := some 41) (v := ?_) (a' := ?_) #[false, true, true, false, true, false, false, false] rfl rfl (by kernel_rfl) (fun _ _ _ h => h) (Or.inl ⟨by rfl, ?_⟩) ?_ ?_
        rotate_left
        · intro w'
          go_simp
          with_reducible rfl
        rotate_left
        · simp only [Act.put, List.setIfInBounds_toArray, List.set_cons_zero, List.set_cons_succ, i64_w, i32_w]
          rfl
        refine pure_ (i := 3) (N := some 40) (v := ?_) (a' := ?_) #[false, true, true, true, true, false, false, false] rfl rfl (by kernel_rfl) (fun _ _ _ h => h) (Or.inl ⟨by rfl, ?_⟩) ?_ ?_
        rotate_left
        · intro w'
          go_simp
          with_reducible rfl
        rotate_left
        · simp only [Act.put, List.setIfInBounds_toArray, List.set_cons_zero, List.set_cons_succ, i64_w, i32_w]
          rfl
        refine take_ (i := 0) (N := some 37) (v := .agg (a.cells A0 c0)) #[true, true, true, true, true, false, false, false] rfl rfl (by kernel_rfl) (fun _ _ _ h => h) (Or.inl ⟨by rfl, fun w' hS => run_load_msg rfl rfl hS⟩) hHeld rfl ?_
        simp only [Act.put, List.setIfInBounds_toArray, List.set_cons_zero, List.set_cons_succ]
        refine one_ (i := 5) (N := some 42) #[true, true, true, true, true, true, false, false] rfl rfl (by kernel_rfl) (by decide) (fun K hK => ?_)
        refine goes_ Try.func65 (by kernel_rfl) rfl #[.pointer (some ⟨b, 0, none⟩)] (by rfl) rfl rfl (by simp [Act.eval]) ?_
        refine (rNum hS0.rd).mono ?_
        rintro e w5 ⟨rfl, k1, q1⟩
        have hS5 := hS0.went k1 q1
        refine ⟨_, rfl, hK.out _ _ hS5.blk (fun hHeld5 => ?_)⟩
        clear k1 q1 hS0 hHeld hK K
        simp only [Act.put, List.setIfInBounds_toArray, List.set_cons_zero, List.set_cons_succ]
        refine one_ (i := 6) (N := some 43) #[true, true, true, true, true, true, true, false] rfl rfl (by kernel_rfl) (by decide) (fun K hK => ?_)
        refine goes_ Try.func64 (by kernel_rfl) rfl #[.agg (a.cells A0 c0), .int .u8 66, .int .i64 (numR x).1] (by rfl) rfl rfl (by simp [Act.eval, hxx]) ?_
        refine (set_calls (m := a) (A := A0) (c := c0) .b (by decide) _ rfl (numR x).1 _).mono ?_
        rintro e w6 ⟨rfl, hb⟩
        have hS6 := hS5.below hb
        refine ⟨_, rfl, hK.out _ _ hS6.blk (fun hHeld6 => ?_)⟩
        clear hb hS5 hHeld5 hK K
        simp only [Act.put, List.setIfInBounds_toArray, List.set_cons_zero, List.set_cons_succ]
        refine last_ (i := 7) (N := none) #[true, true, true, true, true, true, true, true] rfl rfl (by kernel_rfl) (by decide) (fun K hK => ?_)
        refine skip_ (by rfl) rfl (run_store_msg (m := setD a .b (numR x).1) (A := A0) (c := c0) rfl rfl rfl hS6.blk rfl) ?_
        refine hK.out _ _ ?_
        have hS7 := hS6.putRow (setD a .b (numR x).1) (setD_list _ _ _)
        generalize w6.setRow M ((setD a .b (numR x).1).cells A0 c0) = w7 at hS7 ⊢
        clear hK K hS6 hHeld6
        refine done_ (by kernel_rfl) ?_
        go_wp2_with fail
        go_roundw
        case rel => exact ⟨j + 1, _, _, _, _, by omega, by go_num, hS7, (by rw [setD_list]; omega), Lib.hid (foldl_step HX.out HF.out), Lib.hid (fun h => by have e := HA.out (step_fault a' x .b h); subst e; rfl)⟩
        case measure => simp [intOf]; omega
      · replace hbt : bt (bytesUp (fieldsOf K0)) (j : Int) = 71 := hbt
        have hxx : ∀ h : j < (bytesUp (fieldsOf K0)).size, (((bytesUp (fieldsOf K0))[j]'h).toNat : Int) = 71 := fun h => (bt_at _ (j : Int) h).trans hbt
        go_upto_region 11 with (fail)
        refine start_ (n := 8) (S := fun w' => w'.heap[M]? = some (.cells (a.cells A0 c0) 44 (0, 0))) (ds := [7]) #[false, false, false, false, false, false, false, false] (by kernel_rfl) rfl rfl hS.blk (fun hHeld => ?_)
        have hS0 := hS.drew
        generalize wr.drew = w4 at hHeld hS0 ⊢
        clear hS
        refine pure_ (i := 1) (N := some 38) (v := ?_) (a' := ?_) #[false, true, false, false, false, false, false, false] rfl rfl (by kernel_rfl) (fun _ _ _ h => h) (Or.inl ⟨by rfl, ?_⟩) ?_ ?_
        rotate_left
        · intro w'
          go_simp
          with_reducible rfl
        rotate_left
        · simp only [Act.put, List.setIfInBounds_toArray, List.set_cons_zero, List.set_cons_succ, i64_w, i32_w]
          rfl
        refine pure_ (i := 2) (N := some 39) (v := ?_) (a' := ?_) #[false, true, true, false, false, false, false, false] rfl rfl (by kernel_rfl) (fun _ _ _ h => h) (Or.inl ⟨by rfl, ?_⟩) ?_ ?_
        rotate_left
        · intro w'
          go_simp
          with_reducible rfl
        rotate_left
        · simp only [Act.put, List.setIfInBounds_toArray, List.set_cons_zero, List.set_cons_succ, i64_w, i32_w]
          rfl
        refine pure_ (i := 4) (N := some 41) (v := ?_) (a' := ?_) #[false, true, true, false, true, false, false, false] rfl rfl (by kernel_rfl) (fun _ _ _ h => h) (Or.inl ⟨by rfl, ?_⟩) ?_ ?_
        rotate_left
        · intro w'
          go_simp
          with_reducible rfl
        rotate_left
        · simp only [Act.put, List.setIfInBounds_toArray, List.set_cons_zero, List.set_cons_succ, i64_w, i32_w]
          rfl
        refine pure_ (i := 3) (N := some 40) (v := ?_) (a' := ?_) #[false, true, true, true, true, false, false, false] rfl rfl (by kernel_rfl) (fun _ _ _ h => h) (Or.inl ⟨by rfl, ?_⟩) ?_ ?_
        rotate_left
        · intro w'
          go_simp
          with_reducible rfl
        rotate_left
        · simp only [Act.put, List.setIfInBounds_toArray, List.set_cons_zero, List.set_cons_succ, i64_w, i32_w]
          rfl
        refine take_ (i := 0) (N := some 37) (v := .agg (a.cells A0 c0)) #[true, true, true, true, true, false, false, false] rfl rfl (by kernel_rfl) (fun _ _ _ h => h) (Or.inl ⟨by rfl, fun w' hS => run_load_msg rfl rfl hS⟩) hHeld rfl ?_
        simp only [Act.put, List.setIfInBounds_toArray, List.set_cons_zero, List.set_cons_succ]
        refine one_ (i := 5) (N := some 42) #[true, true, true, true, true, true, false, false] rfl rfl (by kernel_rfl) (by decide) (fun K hK => ?_)
        refine goes_ Try.func65 (by kernel_rfl) rfl #[.pointer (some ⟨b, 0, none⟩)] (by rfl) rfl rfl (by simp [Act.eval]) ?_
        refine (rNum hS0.rd).mono ?_
        rintro e w5 ⟨rfl, k1, q1⟩
        have hS5 := hS0.went k1 q1
        refine ⟨_, rfl, hK.out _ _ hS5.blk (fun hHeld5 => ?_)⟩
        clear k1 q1 hS0 hHeld hK K
        simp only [Act.put, List.setIfInBounds_toArray, List.set_cons_zero, List.set_cons_succ]
        refine one_ (i := 6) (N := some 43) #[true, true, true, true, true, true, true, false] rfl rfl (by kernel_rfl) (by decide) (fun K hK => ?_)
        refine goes_ Try.func64 (by kernel_rfl) rfl #[.agg (a.cells A0 c0), .int .u8 71, .int .i64 (numR x).1] (by rfl) rfl rfl (by simp [Act.eval, hxx]) ?_
        refine (set_calls (m := a) (A := A0) (c := c0) .g (by decide) _ rfl (numR x).1 _).mono ?_
        rintro e w6 ⟨rfl, hb⟩
        have hS6 := hS5.below hb
        refine ⟨_, rfl, hK.out _ _ hS6.blk (fun hHeld6 => ?_)⟩
        clear hb hS5 hHeld5 hK K
        simp only [Act.put, List.setIfInBounds_toArray, List.set_cons_zero, List.set_cons_succ]
        refine last_ (i := 7) (N := none) #[true, true, true, true, true, true, true, true] rfl rfl (by kernel_rfl) (by decide) (fun K hK => ?_)
        refine skip_ (by rfl) rfl (run_store_msg (m := setD a .g (numR x).1) (A := A0) (c := c0) rfl rfl rfl hS6.blk rfl) ?_
        refine hK.out _ _ ?_
        have hS7 := hS6.putRow (setD a .g (numR x).1) (setD_list _ _ _)
        generalize w6.setRow M ((setD a .g (numR x).1).cells A0 c0) = w7 at hS7 ⊢
        clear hK K hS6 hHeld6
        refine done_ (by kernel_rfl) ?_
        go_wp2_with fail
        go_roundw
        case rel => exact ⟨j + 1, _, _, _, _, by omega, by go_num, hS7, (by rw [setD_list]; omega), Lib.hid (foldl_step HX.out HF.out), Lib.hid (fun h => by have e := HA.out (step_fault a' x .g h); subst e; rfl)⟩
        case measure => simp [intOf]; omega
      · replace hbt : bt (bytesUp (fieldsOf K0)) (j : Int) = 83 := hbt
        have hxx : ∀ h : j < (bytesUp (fieldsOf K0)).size, (((bytesUp (fieldsOf K0))[j]'h).toNat : Int) = 83 := fun h => (bt_at _ (j : Int) h).trans hbt
        go_upto_region 11 with (fail)
        refine start_ (n := 8) (S := fun w' => w'.heap[M]? = some (.cells (a.cells A0 c0) 44 (0, 0))) (ds := [7]) #[false, false, false, false, false, false, false, false] (by kernel_rfl) rfl rfl hS.blk (fun hHeld => ?_)
        have hS0 := hS.drew
        generalize wr.drew = w4 at hHeld hS0 ⊢
        clear hS
        refine pure_ (i := 1) (N := some 38) (v := ?_) (a' := ?_) #[false, true, false, false, false, false, false, false] rfl rfl (by kernel_rfl) (fun _ _ _ h => h) (Or.inl ⟨by rfl, ?_⟩) ?_ ?_
        rotate_left
        · intro w'
          go_simp
          with_reducible rfl
        rotate_left
        · simp only [Act.put, List.setIfInBounds_toArray, List.set_cons_zero, List.set_cons_succ, i64_w, i32_w]
          rfl
        refine pure_ (i := 2) (N := some 39) (v := ?_) (a' := ?_) #[false, true, true, false, false, false, false, false] rfl rfl (by kernel_rfl) (fun _ _ _ h => h) (Or.inl ⟨by rfl, ?_⟩) ?_ ?_
        rotate_left
        · intro w'
          go_simp
          with_reducible rfl
        rotate_left
        · simp only [Act.put, List.setIfInBounds_toArray, List.set_cons_zero, List.set_cons_succ, i64_w, i32_w]
          rfl
        refine pure_ (i := 4) (N := some 41) (v := ?_) (a' := ?_) #[false, true, true, false, true, false, false, false] rfl rfl (by kernel_rfl) (fun _ _ _ h => h) (Or.inl ⟨by rfl, ?_⟩) ?_ ?_
        rotate_left
        · intro w'
          go_simp
          with_reducible rfl
        rotate_left
        · simp only [Act.put, List.setIfInBounds_toArray, List.set_cons_zero, List.set_cons_succ, i64_w, i32_w]
          rfl
        refine pure_ (i := 3) (N := some 40) (v := ?_) (a' := ?_) #[false, true, true, true, true, false, false, false] rfl rfl (by kernel_rfl) (fun _ _ _ h => h) (Or.inl ⟨by rfl, ?_⟩) ?_ ?_
        rotate_left
        · intro w'
          go_simp
          with_reducible rfl
        rotate_left
        · simp only [Act.put, List.setIfInBounds_toArray, List.set_cons_zero, List.set_cons_succ, i64_w, i32_w]
          rfl
        refine take_ (i := 0) (N := some 37) (v := .agg (a.cells A0 c0)) #[true, true, true, true, true, false, false, false] rfl rfl (by kernel_rfl) (fun _ _ _ h => h) (Or.inl ⟨by rfl, fun w' hS => run_load_msg rfl rfl hS⟩) hHeld rfl ?_
        simp only [Act.put, List.setIfInBounds_toArray, List.set_cons_zero, List.set_cons_succ]
        refine one_ (i := 5) (N := some 42) #[true, true, true, true, true, true, false, false] rfl rfl (by kernel_rfl) (by decide) (fun K hK => ?_)
        refine goes_ Try.func65 (by kernel_rfl) rfl #[.pointer (some ⟨b, 0, none⟩)] (by rfl) rfl rfl (by simp [Act.eval]) ?_
        refine (rNum hS0.rd).mono ?_
        rintro e w5 ⟨rfl, k1, q1⟩
        have hS5 := hS0.went k1 q1
        refine ⟨_, rfl, hK.out _ _ hS5.blk (fun hHeld5 => ?_)⟩
        clear k1 q1 hS0 hHeld hK K
        simp only [Act.put, List.setIfInBounds_toArray, List.set_cons_zero, List.set_cons_succ]
        refine one_ (i := 6) (N := some 43) #[true, true, true, true, true, true, true, false] rfl rfl (by kernel_rfl) (by decide) (fun K hK => ?_)
        refine goes_ Try.func64 (by kernel_rfl) rfl #[.agg (a.cells A0 c0), .int .u8 83, .int .i64 (numR x).1] (by rfl) rfl rfl (by simp [Act.eval, hxx]) ?_
        refine (set_calls (m := a) (A := A0) (c := c0) .s (by decide) _ rfl (numR x).1 _).mono ?_
        rintro e w6 ⟨rfl, hb⟩
        have hS6 := hS5.below hb
        refine ⟨_, rfl, hK.out _ _ hS6.blk (fun hHeld6 => ?_)⟩
        clear hb hS5 hHeld5 hK K
        simp only [Act.put, List.setIfInBounds_toArray, List.set_cons_zero, List.set_cons_succ]
        refine last_ (i := 7) (N := none) #[true, true, true, true, true, true, true, true] rfl rfl (by kernel_rfl) (by decide) (fun K hK => ?_)
        refine skip_ (by rfl) rfl (run_store_msg (m := setD a .s (numR x).1) (A := A0) (c := c0) rfl rfl rfl hS6.blk rfl) ?_
        refine hK.out _ _ ?_
        have hS7 := hS6.putRow (setD a .s (numR x).1) (setD_list _ _ _)
        generalize w6.setRow M ((setD a .s (numR x).1).cells A0 c0) = w7 at hS7 ⊢
        clear hK K hS6 hHeld6
        refine done_ (by kernel_rfl) ?_
        go_wp2_with fail
        go_roundw
        case rel => exact ⟨j + 1, _, _, _, _, by omega, by go_num, hS7, (by rw [setD_list]; omega), Lib.hid (foldl_step HX.out HF.out), Lib.hid (fun h => by have e := HA.out (step_fault a' x .s h); subst e; rfl)⟩
        case measure => simp [intOf]; omega
      · replace hbt : bt (bytesUp (fieldsOf K0)) (j : Int) = 70 := hbt
        have hxx : ∀ h : j < (bytesUp (fieldsOf K0)).size, (((bytesUp (fieldsOf K0))[j]'h).toNat : Int) = 70 := fun h => (bt_at _ (j : Int) h).trans hbt
        go_upto_region 11 with (fail)
        refine start_ (n := 8) (S := fun w' => w'.heap[M]? = some (.cells (a.cells A0 c0) 44 (0, 0))) (ds := [7]) #[false, false, false, false, false, false, false, false] (by kernel_rfl) rfl rfl hS.blk (fun hHeld => ?_)
        have hS0 := hS.drew
        generalize wr.drew = w4 at hHeld hS0 ⊢
        clear hS
        refine pure_ (i := 1) (N := some 38) (v := ?_) (a' := ?_) #[false, true, false, false, false, false, false, false] rfl rfl (by kernel_rfl) (fun _ _ _ h => h) (Or.inl ⟨by rfl, ?_⟩) ?_ ?_
        rotate_left
        · intro w'
          go_simp
          with_reducible rfl
        rotate_left
        · simp only [Act.put, List.setIfInBounds_toArray, List.set_cons_zero, List.set_cons_succ, i64_w, i32_w]
          rfl
        refine pure_ (i := 2) (N := some 39) (v := ?_) (a' := ?_) #[false, true, true, false, false, false, false, false] rfl rfl (by kernel_rfl) (fun _ _ _ h => h) (Or.inl ⟨by rfl, ?_⟩) ?_ ?_
        rotate_left
        · intro w'
          go_simp
          with_reducible rfl
        rotate_left
        · simp only [Act.put, List.setIfInBounds_toArray, List.set_cons_zero, List.set_cons_succ, i64_w, i32_w]
          rfl
        refine pure_ (i := 4) (N := some 41) (v := ?_) (a' := ?_) #[false, true, true, false, true, false, false, false] rfl rfl (by kernel_rfl) (fun _ _ _ h => h) (Or.inl ⟨by rfl, ?_⟩) ?_ ?_
        rotate_left
        · intro w'
          go_simp
          with_reducible rfl
        rotate_left
        · simp only [Act.put, List.setIfInBounds_toArray, List.set_cons_zero, List.set_cons_succ, i64_w, i32_w]
          rfl
        refine pure_ (i := 3) (N := some 40) (v := ?_) (a' := ?_) #[false, true, true, true, true, false, false, false] rfl rfl (by kernel_rfl) (fun _ _ _ h => h) (Or.inl ⟨by rfl, ?_⟩) ?_ ?_
        rotate_left
        · intro w'
          go_simp
          with_reducible rfl
        rotate_left
        · simp only [Act.put, List.setIfInBounds_toArray, List.set_cons_zero, List.set_cons_succ, i64_w, i32_w]
          rfl
        refine take_ (i := 0) (N := some 37) (v := .agg (a.cells A0 c0)) #[true, true, true, true, true, false, false, false] rfl rfl (by kernel_rfl) (fun _ _ _ h => h) (Or.inl ⟨by rfl, fun w' hS => run_load_msg rfl rfl hS⟩) hHeld rfl ?_
        simp only [Act.put, List.setIfInBounds_toArray, List.set_cons_zero, List.set_cons_succ]
        refine one_ (i := 5) (N := some 42) #[true, true, true, true, true, true, false, false] rfl rfl (by kernel_rfl) (by decide) (fun K hK => ?_)
        refine goes_ Try.func65 (by kernel_rfl) rfl #[.pointer (some ⟨b, 0, none⟩)] (by rfl) rfl rfl (by simp [Act.eval]) ?_
        refine (rNum hS0.rd).mono ?_
        rintro e w5 ⟨rfl, k1, q1⟩
        have hS5 := hS0.went k1 q1
        refine ⟨_, rfl, hK.out _ _ hS5.blk (fun hHeld5 => ?_)⟩
        clear k1 q1 hS0 hHeld hK K
        simp only [Act.put, List.setIfInBounds_toArray, List.set_cons_zero, List.set_cons_succ]
        refine one_ (i := 6) (N := some 43) #[true, true, true, true, true, true, true, false] rfl rfl (by kernel_rfl) (by decide) (fun K hK => ?_)
        refine goes_ Try.func64 (by kernel_rfl) rfl #[.agg (a.cells A0 c0), .int .u8 70, .int .i64 (numR x).1] (by rfl) rfl rfl (by simp [Act.eval, hxx]) ?_
        refine (set_calls (m := a) (A := A0) (c := c0) .f (by decide) _ rfl (numR x).1 _).mono ?_
        rintro e w6 ⟨rfl, hb⟩
        have hS6 := hS5.below hb
        refine ⟨_, rfl, hK.out _ _ hS6.blk (fun hHeld6 => ?_)⟩
        clear hb hS5 hHeld5 hK K
        simp only [Act.put, List.setIfInBounds_toArray, List.set_cons_zero, List.set_cons_succ]
        refine last_ (i := 7) (N := none) #[true, true, true, true, true, true, true, true] rfl rfl (by kernel_rfl) (by decide) (fun K hK => ?_)
        refine skip_ (by rfl) rfl (run_store_msg (m := setD a .f (numR x).1) (A := A0) (c := c0) rfl rfl rfl hS6.blk rfl) ?_
        refine hK.out _ _ ?_
        have hS7 := hS6.putRow (setD a .f (numR x).1) (setD_list _ _ _)
        generalize w6.setRow M ((setD a .f (numR x).1).cells A0 c0) = w7 at hS7 ⊢
        clear hK K hS6 hHeld6
        refine done_ (by kernel_rfl) ?_
        go_wp2_with fail
        go_roundw
        case rel => exact ⟨j + 1, _, _, _, _, by omega, by go_num, hS7, (by rw [setD_list]; omega), Lib.hid (foldl_step HX.out HF.out), Lib.hid (fun h => by have e := HA.out (step_fault a' x .f h); subst e; rfl)⟩
        case measure => simp [intOf]; omega
      · replace hbt : bt (bytesUp (fieldsOf K0)) (j : Int) = 84 := hbt
        have hxx : ∀ h : j < (bytesUp (fieldsOf K0)).size, (((bytesUp (fieldsOf K0))[j]'h).toNat : Int) = 84 := fun h => (bt_at _ (j : Int) h).trans hbt
        go_upto_region 11 with (fail)
        refine start_ (n := 8) (S := fun w' => w'.heap[M]? = some (.cells (a.cells A0 c0) 44 (0, 0))) (ds := [7]) #[false, false, false, false, false, false, false, false] (by kernel_rfl) rfl rfl hS.blk (fun hHeld => ?_)
        have hS0 := hS.drew
        generalize wr.drew = w4 at hHeld hS0 ⊢
        clear hS
        refine pure_ (i := 1) (N := some 38) (v := ?_) (a' := ?_) #[false, true, false, false, false, false, false, false] rfl rfl (by kernel_rfl) (fun _ _ _ h => h) (Or.inl ⟨by rfl, ?_⟩) ?_ ?_
        rotate_left
        · intro w'
          go_simp
          with_reducible rfl
        rotate_left
        · simp only [Act.put, List.setIfInBounds_toArray, List.set_cons_zero, List.set_cons_succ, i64_w, i32_w]
          rfl
        refine pure_ (i := 2) (N := some 39) (v := ?_) (a' := ?_) #[false, true, true, false, false, false, false, false] rfl rfl (by kernel_rfl) (fun _ _ _ h => h) (Or.inl ⟨by rfl, ?_⟩) ?_ ?_
        rotate_left
        · intro w'
          go_simp
          with_reducible rfl
        rotate_left
        · simp only [Act.put, List.setIfInBounds_toArray, List.set_cons_zero, List.set_cons_succ, i64_w, i32_w]
          rfl
        refine pure_ (i := 4) (N := some 41) (v := ?_) (a' := ?_) #[false, true, true, false, true, false, false, false] rfl rfl (by kernel_rfl) (fun _ _ _ h => h) (Or.inl ⟨by rfl, ?_⟩) ?_ ?_
        rotate_left
        · intro w'
          go_simp
          with_reducible rfl
        rotate_left
        · simp only [Act.put, List.setIfInBounds_toArray, List.set_cons_zero, List.set_cons_succ, i64_w, i32_w]
          rfl
        refine pure_ (i := 3) (N := some 40) (v := ?_) (a' := ?_) #[false, true, true, true, true, false, false, false] rfl rfl (by kernel_rfl) (fun _ _ _ h => h) (Or.inl ⟨by rfl, ?_⟩) ?_ ?_
        rotate_left
        · intro w'
          go_simp
          with_reducible rfl
        rotate_left
        · simp only [Act.put, List.setIfInBounds_toArray, List.set_cons_zero, List.set_cons_succ, i64_w, i32_w]
          rfl
        refine take_ (i := 0) (N := some 37) (v := .agg (a.cells A0 c0)) #[true, true, true, true, true, false, false, false] rfl rfl (by kernel_rfl) (fun _ _ _ h => h) (Or.inl ⟨by rfl, fun w' hS => run_load_msg rfl rfl hS⟩) hHeld rfl ?_
        simp only [Act.put, List.setIfInBounds_toArray, List.set_cons_zero, List.set_cons_succ]
        refine one_ (i := 5) (N := some 42) #[true, true, true, true, true, true, false, false] rfl rfl (by kernel_rfl) (by decide) (fun K hK => ?_)
        refine goes_ Try.func65 (by kernel_rfl) rfl #[.pointer (some ⟨b, 0, none⟩)] (by rfl) rfl rfl (by simp [Act.eval]) ?_
        refine (rNum hS0.rd).mono ?_
        rintro e w5 ⟨rfl, k1, q1⟩
        have hS5 := hS0.went k1 q1
        refine ⟨_, rfl, hK.out _ _ hS5.blk (fun hHeld5 => ?_)⟩
        clear k1 q1 hS0 hHeld hK K
        simp only [Act.put, List.setIfInBounds_toArray, List.set_cons_zero, List.set_cons_succ]
        refine one_ (i := 6) (N := some 43) #[true, true, true, true, true, true, true, false] rfl rfl (by kernel_rfl) (by decide) (fun K hK => ?_)
        refine goes_ Try.func64 (by kernel_rfl) rfl #[.agg (a.cells A0 c0), .int .u8 84, .int .i64 (numR x).1] (by rfl) rfl rfl (by simp [Act.eval, hxx]) ?_
        refine (set_calls (m := a) (A := A0) (c := c0) .t (by decide) _ rfl (numR x).1 _).mono ?_
        rintro e w6 ⟨rfl, hb⟩
        have hS6 := hS5.below hb
        refine ⟨_, rfl, hK.out _ _ hS6.blk (fun hHeld6 => ?_)⟩
        clear hb hS5 hHeld5 hK K
        simp only [Act.put, List.setIfInBounds_toArray, List.set_cons_zero, List.set_cons_succ]
        refine last_ (i := 7) (N := none) #[true, true, true, true, true, true, true, true] rfl rfl (by kernel_rfl) (by decide) (fun K hK => ?_)
        refine skip_ (by rfl) rfl (run_store_msg (m := setD a .t (numR x).1) (A := A0) (c := c0) rfl rfl rfl hS6.blk rfl) ?_
        refine hK.out _ _ ?_
        have hS7 := hS6.putRow (setD a .t (numR x).1) (setD_list _ _ _)
        generalize w6.setRow M ((setD a .t (numR x).1).cells A0 c0) = w7 at hS7 ⊢
        clear hK K hS6 hHeld6
        refine done_ (by kernel_rfl) ?_
        go_wp2_with fail
        go_roundw
        case rel => exact ⟨j + 1, _, _, _, _, by omega, by go_num, hS7, (by rw [setD_list]; omega), Lib.hid (foldl_step HX.out HF.out), Lib.hid (fun h => by have e := HA.out (step_fault a' x .t h); subst e; rfl)⟩
        case measure => simp [intOf]; omega
      · replace hbt : bt (bytesUp (fieldsOf K0)) (j : Int) = 82 := hbt
        have hxx : ∀ h : j < (bytesUp (fieldsOf K0)).size, (((bytesUp (fieldsOf K0))[j]'h).toNat : Int) = 82 := fun h => (bt_at _ (j : Int) h).trans hbt
        go_upto_region 11 with (fail)
        refine start_ (n := 8) (S := fun w' => w'.heap[M]? = some (.cells (a.cells A0 c0) 44 (0, 0))) (ds := [7]) #[false, false, false, false, false, false, false, false] (by kernel_rfl) rfl rfl hS.blk (fun hHeld => ?_)
        have hS0 := hS.drew
        generalize wr.drew = w4 at hHeld hS0 ⊢
        clear hS
        refine pure_ (i := 1) (N := some 38) (v := ?_) (a' := ?_) #[false, true, false, false, false, false, false, false] rfl rfl (by kernel_rfl) (fun _ _ _ h => h) (Or.inl ⟨by rfl, ?_⟩) ?_ ?_
        rotate_left
        · intro w'
          go_simp
          with_reducible rfl
        rotate_left
        · simp only [Act.put, List.setIfInBounds_toArray, List.set_cons_zero, List.set_cons_succ, i64_w, i32_w]
          rfl
        refine pure_ (i := 2) (N := some 39) (v := ?_) (a' := ?_) #[false, true, true, false, false, false, false, false] rfl rfl (by kernel_rfl) (fun _ _ _ h => h) (Or.inl ⟨by rfl, ?_⟩) ?_ ?_
        rotate_left
        · intro w'
          go_simp
          with_reducible rfl
        rotate_left
        · simp only [Act.put, List.setIfInBounds_toArray, List.set_cons_zero, List.set_cons_succ, i64_w, i32_w]
          rfl
        refine pure_ (i := 4) (N := some 41) (v := ?_) (a' := ?_) #[false, true, true, false, true, false, false, false] rfl rfl (by kernel_rfl) (fun _ _ _ h => h) (Or.inl ⟨by rfl, ?_⟩) ?_ ?_
        rotate_left
        · intro w'
          go_simp
          with_reducible rfl
        rotate_left
        · simp only [Act.put, List.setIfInBounds_toArray, List.set_cons_zero, List.set_cons_succ, i64_w, i32_w]
          rfl
        refine pure_ (i := 3) (N := some 40) (v := ?_) (a' := ?_) #[false, true, true, true, true, false, false, false] rfl rfl (by kernel_rfl) (fun _ _ _ h => h) (Or.inl ⟨by rfl, ?_⟩) ?_ ?_
        rotate_left
        · intro w'
          go_simp
          with_reducible rfl
        rotate_left
        · simp only [Act.put, List.setIfInBounds_toArray, List.set_cons_zero, List.set_cons_succ, i64_w, i32_w]
          rfl
        refine take_ (i := 0) (N := some 37) (v := .agg (a.cells A0 c0)) #[true, true, true, true, true, false, false, false] rfl rfl (by kernel_rfl) (fun _ _ _ h => h) (Or.inl ⟨by rfl, fun w' hS => run_load_msg rfl rfl hS⟩) hHeld rfl ?_
        simp only [Act.put, List.setIfInBounds_toArray, List.set_cons_zero, List.set_cons_succ]
        refine one_ (i := 5) (N := some 42) #[true, true, true, true, true, true, false, false] rfl rfl (by kernel_rfl) (by decide) (fun K hK => ?_)
        refine goes_ Try.func65 (by kernel_rfl) rfl #[.pointer (some ⟨b, 0, none⟩)] (by rfl) rfl rfl (by simp [Act.eval]) ?_
        refine (rNum hS0.rd).mono ?_
        rintro e w5 ⟨rfl, k1, q1⟩
        have hS5 := hS0.went k1 q1
        refine ⟨_, rfl, hK.out _ _ hS5.blk (fun hHeld5 => ?_)⟩
        clear k1 q1 hS0 hHeld hK K
        simp only [Act.put, List.setIfInBounds_toArray, List.set_cons_zero, List.set_cons_succ]
        refine one_ (i := 6) (N := some 43) #[true, true, true, true, true, true, true, false] rfl rfl (by kernel_rfl) (by decide) (fun K hK => ?_)
        refine goes_ Try.func64 (by kernel_rfl) rfl #[.agg (a.cells A0 c0), .int .u8 82, .int .i64 (numR x).1] (by rfl) rfl rfl (by simp [Act.eval, hxx]) ?_
        refine (set_calls (m := a) (A := A0) (c := c0) .r (by decide) _ rfl (numR x).1 _).mono ?_
        rintro e w6 ⟨rfl, hb⟩
        have hS6 := hS5.below hb
        refine ⟨_, rfl, hK.out _ _ hS6.blk (fun hHeld6 => ?_)⟩
        clear hb hS5 hHeld5 hK K
        simp only [Act.put, List.setIfInBounds_toArray, List.set_cons_zero, List.set_cons_succ]
        refine last_ (i := 7) (N := none) #[true, true, true, true, true, true, true, true] rfl rfl (by kernel_rfl) (by decide) (fun K hK => ?_)
        refine skip_ (by rfl) rfl (run_store_msg (m := setD a .r (numR x).1) (A := A0) (c := c0) rfl rfl rfl hS6.blk rfl) ?_
        refine hK.out _ _ ?_
        have hS7 := hS6.putRow (setD a .r (numR x).1) (setD_list _ _ _)
        generalize w6.setRow M ((setD a .r (numR x).1).cells A0 c0) = w7 at hS7 ⊢
        clear hK K hS6 hHeld6
        refine done_ (by kernel_rfl) ?_
        go_wp2_with fail
        go_roundw
        case rel => exact ⟨j + 1, _, _, _, _, by omega, by go_num, hS7, (by rw [setD_list]; omega), Lib.hid (foldl_step HX.out HF.out), Lib.hid (fun h => by have e := HA.out (step_fault a' x .r h); subst e; rfl)⟩
        case measure => simp [intOf]; omega
      · replace hbt : bt (bytesUp (fieldsOf K0)) (j : Int) = 77 := hbt
        have hxx : ∀ h : j < (bytesUp (fieldsOf K0)).size, (((bytesUp (fieldsOf K0))[j]'h).toNat : Int) = 77 := fun h => (bt_at _ (j : Int) h).trans hbt
        go_wp2_with fail
        refine (rRaw hS.rd 32).mono ?_
        rintro e v1 ⟨rfl, k1, q1⟩
        have hS1 := hS.went k1 q1
        clear k1 q1
        have d : v1.cell? ⟨M, 9, none⟩ = some (.string a.mark) := (blk_cell hS1.blk 9).trans rfl
        have f := hS1.frozen 9
        go_wp2_with fail
        go_roundw
        case rel => exact ⟨j + 1, _, _, _, _, by omega, by go_num, hS1.set 9 _ { a with mark := (rawR 32 x).1 } rfl rfl, (by show a.list.length ≤ _; omega), Lib.hid (foldl_step HX.out HF.out), Lib.hid (fun h => by rw [HA.out (step_fault a' x .m h)])⟩
        case measure => simp [intOf]; omega
      · replace hbt : bt (bytesUp (fieldsOf K0)) (j : Int) = 80 := hbt
        have hxx : ∀ h : j < (bytesUp (fieldsOf K0)).size, (((bytesUp (fieldsOf K0))[j]'h).toNat : Int) = 80 := fun h => (bt_at _ (j : Int) h).trans hbt
        go_wp2_with fail
        refine (rNum hS.rd).mono ?_
        rintro e v1 ⟨rfl, k1, q1⟩
        have hS1 := hS.went k1 q1
        clear k1 q1
        have d10 : v1.cell? ⟨M, 10, none⟩ = some (.int .i64 a.pat) := (blk_cell hS1.blk 10).trans rfl
        have f10 := hS1.frozen 10
        have hT1 := hS1.set 10 (.int .i64 (numR x).1) { a with pat := (numR x).1 } rfl rfl
        go_wp2_with fail
        clear d10 f10
        refine (rNum hT1.rd).mono ?_
        rintro e v2 ⟨rfl, k2, q2⟩
        have hS2 := hT1.went k2 q2
        clear k2 q2
        have d11 : v2.cell? ⟨M, 11, none⟩ = some (.int .i64 a.pof) := (blk_cell hS2.blk 11).trans rfl
        have f11 := hS2.frozen 11
        have hT2 := hS2.set 11 (.int .i64 (numR (numR x).2).1) { a with pat := (numR x).1, pof := (numR (numR x).2).1 } rfl rfl
        go_wp2_with fail
        clear d11 f11
        refine (rText hT2.rd 1024).mono ?_
        rintro e v3 ⟨rfl, k3, q3⟩
        have hS3 := hT2.went k3 q3
        clear k3 q3
        have d12 : v3.cell? ⟨M, 12, none⟩ = some (.string a.ptext) := (blk_cell hS3.blk 12).trans rfl
        have f12 := hS3.frozen 12
        go_wp2_with fail
        go_roundw
        case rel => exact ⟨j + 1, _, _, _, _, by omega, by go_num, hS3.set 12 _ { a with pat := (numR x).1, pof := (numR (numR x).2).1, ptext := (textR 1024 (numR (numR x).2).2).1 } rfl rfl, (by show a.list.length ≤ _; omega), Lib.hid (foldl_step HX.out HF.out), Lib.hid (fun h => by rw [HA.out (step_fault a' x .p h)])⟩
        case measure => simp [intOf]; omega
      · replace hbt : bt (bytesUp (fieldsOf K0)) (j : Int) = 76 := hbt
        have hxx : ∀ h : j < (bytesUp (fieldsOf K0)).size, (((bytesUp (fieldsOf K0))[j]'h).toNat : Int) = 76 := fun h => (bt_at _ (j : Int) h).trans hbt
        go_wp2_with fail
        refine (rCount hS.rd 64).mono ?_
        rintro e v1 ⟨rfl, k1, q1⟩
        have hS1 := hS.went k1 q1
        clear k1 q1
        go_wp2_with fail
        obtain ⟨N, hN⟩ : ∃ N : Nat, (countR 64 x).1 = (N : Int) := ⟨(countR 64 x).1.toNat, by have := countR_range x; omega⟩
        have hN64 : N ≤ 64 := by have := (countR_range x).2; omega
        have HFS := Lib.hid (foldl_step HX.out HF.out)
        have HNN := Lib.hid hN
        rw [hN]
        clear hN
        have hj5 : j ≤ 4 := by omega
        have HLL := Lib.hid hll
        have HT2 := Lib.hid hlt
        clear hll hlt z1 z2 hbt hxx hS
        go_wp2_with fail
        go_loopw [9] (fun i wv => ∃ (k : Nat) (v' : Value) (l' : List S80) (x' : Rd), k ≤ N ∧ i = .int .i64 k ∧ RrSt w wv b M R s v' { a with list := l' } x' ∧ l'.length = a.list.length + k ∧ Hid ((listR (N - k) l' x').2 = (stepR (a', x) .l).2 ∧ (x.2 = 0 → (listR (N - k) l' x').1 = (stepR (a', x) .l).1.list))) (fun i _ => N - (intOf i).toNat)
        case atStart => exact ⟨0, _, a.list, _, Nat.zero_le _, rfl, hS1, rfl, Lib.hid (list_start HNN.out HA.out)⟩
        case round =>
          clear hS1
          obtain ⟨k, v', l', x', hk, rfl, hS, hl', HL⟩ := hrel
          have hl4 : l'.length ≤ 400 := by have := HLL.out; omega
          have HLN := Lib.hid hl'
          clear hl'
          have q2 := hS.rd.c2
          by_cases hlt3 : k < N
          · have z1 : (k : Int) < (N : Int) := by omega
            by_cases hx : x'.2 = 0
            · have b0 : (x'.2 == 0) = true := by rw [hx]; rfl
              have HX0 := Lib.hid hx
              clear hx
              go_upto_region 24 with (fail)
              change Code.wp _ _ _ _ (wr.alloc (.cells #[.int .i64 0, .int .i64 0, .string ⟨#[]⟩] 80))
              have hX := heap_alloc_new wr (.cells #[.int .i64 0, .int .i64 0, .string ⟨#[]⟩] 80)
              have hge : w.heap.size ≤ wr.heap.size := hS.bel.size
              have hoX : v'.ownBlock ≠ some wr.heap.size := fun e => Nat.lt_irrefl _ (hS.own_ge _ e).2
              have hbX : b ≠ wr.heap.size := Nat.ne_of_lt hS.rd.lt
              have hMX : M ≠ wr.heap.size := Nat.ne_of_lt (blk_lt hS.blk)
              have hRX : R ≠ wr.heap.size := Nat.ne_of_lt (blk_lt hS.res)
              have hS0 := hS.alloc (.cells #[.int .i64 0, .int .i64 0, .string ⟨#[]⟩] 80)
              generalize wr.alloc (.cells #[.int .i64 0, .int .i64 0, .string ⟨#[]⟩] 80) = v0 at hX hS0 ⊢
              generalize wr.heap.size = X at hX hge hoX hbX hMX hRX ⊢
              clear hS q2
              go_wp2_with fail
              refine (rNum hS0.rd).mono ?_
              rintro e v1 ⟨rfl, k1, q1⟩
              have hS1 := hS0.went k1 q1
              have hX1 := (q1.block X (blk_lt hX) hbX.symm).trans hX
              clear k1 q1 hS0 hX
              have d0 : v1.cell? ⟨X, 0, none⟩ = some (.int .i64 0) := (blk_cell hX1 0).trans rfl
              have f0 := blk_frozen hX1 0
              have hT1 := hS1.far (i := 0) hoX hbX hMX hRX hge (.int .i64 (numR x').1)
              have hY1 := blk_put hX1 0 (.int .i64 (numR x').1) (cs' := #[.int .i64 (numR x').1, .int .i64 0, .string ⟨#[]⟩]) rfl
              go_wp2_with fail
              clear d0 f0 hX1 hS1
              refine (rNum hT1.rd).mono ?_
              rintro e v2 ⟨rfl, k1, q1⟩
              have hS2 := hT1.went k1 q1
              have hX2 := (q1.block X (blk_lt hY1) hbX.symm).trans hY1
              clear k1 q1 hT1 hY1
              have d1 : v2.cell? ⟨X, 1, none⟩ = some (.int .i64 0) := (blk_cell hX2 1).trans rfl
              have f1 := blk_frozen hX2 1
              have hT2 := hS2.far (i := 1) hoX hbX hMX hRX hge (.int .i64 (numR (numR x').2).1)
              have hY2 := blk_put hX2 1 (.int .i64 (numR (numR x').2).1) (cs' := #[.int .i64 (numR x').1, .int .i64 (numR (numR x').2).1, .string ⟨#[]⟩]) rfl
              go_wp2_with fail
              clear d1 f1 hX2 hS2
              refine (rRaw hT2.rd 32).mono ?_
              rintro e v3 ⟨rfl, k1, q1⟩
              have hS3 := hT2.went k1 q1
              have hX3 := (q1.block X (blk_lt hY2) hbX.symm).trans hY2
              clear k1 q1 hT2 hY2
              have d2 : v3.cell? ⟨X, 2, none⟩ = some (.string ⟨#[]⟩) := (blk_cell hX3 2).trans rfl
              have f2 := blk_frozen hX3 2
              have hS4 := hS3.far (i := 2) hoX hbX hMX hRX hge (.string (rawR 32 (numR (numR x').2).2).1)
              have hY3 := blk_put hX3 2 (.string (rawR 32 (numR (numR x').2).2).1) (cs' := #[.int .i64 (numR x').1, .int .i64 (numR (numR x').2).1, .string (rawR 32 (numR (numR x').2).2).1]) rfl
              go_upto_region 27 with (fail)
              generalize v3.setCell ⟨X, 2, none⟩ (.string (rawR 32 (numR (numR x').2).2).1) = v4 at hS4 hY3 ⊢
              clear d2 f2 hX3 hS3
              obtain ⟨E, hE⟩ : ∃ E : S80, (entR x').1 = E := ⟨_, rfl⟩
              have E0 : (numR x').1 = E.f0 := by rw [← hE]; rfl
              have E1 : (numR (numR x').2).1 = E.f1 := by rw [← hE]; rfl
              have E2 : (rawR 32 (numR (numR x').2).2).1 = E.f2 := by rw [← hE]; rfl
              have HE := Lib.hid hE
              have HER := Lib.hid (show (rawR 32 (numR (numR x').2).2).2 = (entR x').2 from rfl)
              rw [E0, E1, E2] at hY3
              rw [HER.out] at hS4
              try rw [E0, E1, E2]
              clear E0 E1 E2 hE
              obtain ⟨A', c', hv'⟩ := own_slice hS4.own
              subst hv'
              have d13 : v4.cell? ⟨M, 13, none⟩ = some (.slice A' l'.length c') := (blk_cell hS4.blk 13).trans rfl
              have x0 : v4.cell? ⟨X, 0, none⟩ = some (.int .i64 E.f0) := (blk_cell hY3 0).trans rfl
              have x1 : v4.cell? ⟨X, 1, none⟩ = some (.int .i64 E.f1) := (blk_cell hY3 1).trans rfl
              have x2 : v4.cell? ⟨X, 2, none⟩ = some (.string E.f2) := (blk_cell hY3 2).trans rfl
              have hbase : w.heap.size ≤ (v4.alloc (.cells #[.int .i64 E.f0, .int .i64 E.f1, .string E.f2] 80)).heap.size := by have := hS4.bel.size; simp; omega
              clear hY3
              go_wp2_with (at_builtin; refine wpList_append_own_at _ rfl (.tmp 90) (.tmp 92) 42 rfl w.heap.size 80 i0 _ 3 32 Try.underlying42 HI0.out HZ0.out HZ1.out HZ2.out rfl (by decide) (.slice A' l'.length c') l'.length (l'.flatMap entC) rfl (hS4.own.alloc _) ⟨v4.heap.size, 0, none⟩ 1 1 (entC E) rfl rfl (news3 v4 E) (by simp [entC, Value.oneCell']) (by unfold maxLen; omega) (by omega) hbase ?_; intro v5 w5 hown5 hg5 _ _; (obtain ⟨A5, c5, hv5⟩ := own_slice hown5); subst hv5; have hS5 := hS4.alloc (.cells #[.int .i64 E.f0, .int .i64 E.f1, .string E.f2] 80); have hM5 := (hg5.block M (blk_lt hS5.blk) (fun e => hS5.own_ne hS5.blk (by decide) e.symm)).trans hS5.blk; have d13' := (blk_cell hM5 13).trans rfl; have f13 := blk_frozen hM5 13; have HG := Lib.hid (hS5.grew (e := E) hown5 hg5); clear hM5 hS5)
              go_roundw
              case rel =>
                refine ⟨k + 1, _, l' ++ [E], (entR x').2, by omega, by go_num, HG.out, by have := HLN.out; simp; omega, Lib.hid ?_⟩
                have e1 : listR (N - (k + 1)) (l' ++ [E]) (entR x').2 = listR (N - k) l' x' := by
                  rw [show N - k = (N - (k + 1)) + 1 by omega, ← HE.out]
                  rfl
                rw [e1]
                exact HL.out
              case measure => simp [intOf]; omega
            · have b0 : (x'.2 == 0) = false := beq_eq_false_iff_ne.2 hx
              have HX0 := Lib.hid hx
              clear hx
              go_wp2_with fail
              go_roundw
              case rel =>
                have e2 : x' = (stepR (a', x) .l).2 := by
                  have e3 := HL.out.1
                  rw [listR_stuck _ _ _ HX0.out] at e3
                  exact e3
                refine ⟨j + 1, v', { a with list := l' }, (stepR (a', x) .l).1, x', by have := HT2.out; omega, by go_num, hS, by show l'.length ≤ _; have := HLL.out; have := HLN.out; omega, Lib.hid (by rw [e2]; exact HFS.out), Lib.hid (fun h => absurd h HX0.out)⟩
              case measure =>
                have := HT2.out
                simp [intOf]; omega
          · have z1 : ¬ (k : Int) < (N : Int) := by omega
            obtain rfl : k = N := by omega
            go_wp2_with fail
            go_roundw
            case rel =>
              have e2 : x' = (stepR (a', x) .l).2 := by
                have e3 := HL.out.1
                rw [Nat.sub_self] at e3
                exact e3
              refine ⟨j + 1, v', { a with list := l' }, (stepR (a', x) .l).1, x', by have := HT2.out; omega, by go_num, hS, by show l'.length ≤ _; have := HLL.out; have := HLN.out; omega, Lib.hid (by rw [e2]; exact HFS.out), Lib.hid (list_end HA.out e2 (fun h0 => ?_))⟩
              have e4 := HL.out.2 h0
              rw [Nat.sub_self] at e4
              exact e4
            case measure =>
              have := HT2.out
              simp [intOf]; omega
    · obtain rfl : j = (fieldsOf K0).length := by omega
      have hmsg : msgR l = (a', x) := by
        have e1 := HF.out
        rw [List.take_length] at e1
        unfold msgR
        rw [HH.out] at *
        exact e1.symm
      have HRD := Lib.hid (show readD l = (if endR x = 0 then (if rightB a' then (a', 0) else (headM 0 0 0, 5)) else (headM 0 0 0, endR x)) by unfold readD; rw [hmsg])
      have hsm := small_msgR l
      rw [hmsg] at hsm
      simp only at hsm
      have z2 : ¬ ((fieldsOf K0).length : Int) < ((bytesUp (fieldsOf K0)).size : Int) := by rw [HUS.out]; omega
      clear hll hj hlt hmsg HF
      go_wp2_with fail
      refine (rEnd hS.rd).mono ?_
      rintro e w7 ⟨rfl, k1, q1⟩
      have hS1 := hS.went k1 q1
      clear k1 q1 hS z2
      obtain ⟨A, c, hv'⟩ := own_slice hS1.own
      subst hv'
      have hR7 := hS1.res
      have hB7 := hS1.bel
      have hM7 : w7.heap[M]? = some (.cells (a.cells A c) 44 (0, 0)) := hS1.blk
      have hl7 := hS1.own
      have hgR := hS1.geR
      clear hS1
      by_cases he : endR x = 0
      · have e1 : (endR x == 0) = true := by rw [he]; rfl
        have e2 : (endR x != 0) = false := by rw [he]; rfl
        have hD := HRD.out
        rw [if_pos he] at hD
        have hx0 : x.2 = 0 := by
          unfold endR at he
          split at he
          · exact absurd he (by decide)
          · exact he
        have haa := HA.out hx0
        subst haa
        obtain ⟨c00, c1, c2, c3, c4, c5, c6, c7, c8, c9, c10, c11, c12, c13⟩ := MsgBox.of hM7
        have HD := Lib.hid hD
        clear hD he hx0 HA
        go_wp2_with fail
        refine (rRight_calls a A c _ (by have := hsm.2; unfold maxLen; omega) (by have := hsm.1; unfold maxLen; omega) (listAt_own hl7)).mono ?_
        rintro e w8 ⟨rfl, hb⟩
        have hB8 := hB7.trans (hb.mono hB7.size)
        have hR8 := blk_below hR7 hb
        have hM8 := blk_below hM7 hb
        have hl8 := own_only hl7 hR7 (by decide) (Only.of_below hb)
        clear hb hB7 hR7 hM7 hl7 c00 c1 c2 c3 c4 c5 c6 c7 c8 c9 c10 c11 c12 c13
        have r0 : w8.cell? ⟨R, 0, none⟩ = some (.int .i64 0) := (blk_cell hR8 0).trans rfl
        have t0 := blk_frozen hR8 0
        have r1 : w8.cell? ⟨R, 1, none⟩ = some (.int .i64 0) := (blk_cell hR8 1).trans rfl
        have t1 := blk_frozen hR8 1
        have r2 : w8.cell? ⟨R, 2, none⟩ = some (.int .i64 0) := (blk_cell hR8 2).trans rfl
        have t2 := blk_frozen hR8 2
        have r3 : w8.cell? ⟨R, 3, none⟩ = some (.int .i64 0) := (blk_cell hR8 3).trans rfl
        have t3 := blk_frozen hR8 3
        have r4 : w8.cell? ⟨R, 4, none⟩ = some (.int .i64 0) := (blk_cell hR8 4).trans rfl
        have t4 := blk_frozen hR8 4
        have r5 : w8.cell? ⟨R, 5, none⟩ = some (.int .i64 0) := (blk_cell hR8 5).trans rfl
        have t5 := blk_frozen hR8 5
        have r6 : w8.cell? ⟨R, 6, none⟩ = some (.int .i64 0) := (blk_cell hR8 6).trans rfl
        have t6 := blk_frozen hR8 6
        have r7 : w8.cell? ⟨R, 7, none⟩ = some (.int .i64 0) := (blk_cell hR8 7).trans rfl
        have t7 := blk_frozen hR8 7
        have r8 : w8.cell? ⟨R, 8, none⟩ = some (.int .i64 0) := (blk_cell hR8 8).trans rfl
        have t8 := blk_frozen hR8 8
        have r9 : w8.cell? ⟨R, 9, none⟩ = some (.string ⟨#[]⟩) := (blk_cell hR8 9).trans rfl
        have t9 := blk_frozen hR8 9
        have r10 : w8.cell? ⟨R, 10, none⟩ = some (.int .i64 0) := (blk_cell hR8 10).trans rfl
        have t10 := blk_frozen hR8 10
        have r11 : w8.cell? ⟨R, 11, none⟩ = some (.int .i64 0) := (blk_cell hR8 11).trans rfl
        have t11 := blk_frozen hR8 11
        have r12 : w8.cell? ⟨R, 12, none⟩ = some (.string ⟨#[]⟩) := (blk_cell hR8 12).trans rfl
        have t12 := blk_frozen hR8 12
        have r13 : w8.cell? ⟨R, 13, none⟩ = some (.slice none 0 0) := (blk_cell hR8 13).trans rfl
        have t13 := blk_frozen hR8 13
        obtain ⟨c00, c1, c2, c3, c4, c5, c6, c7, c8, c9, c10, c11, c12, c13⟩ := MsgBox.of hM8
        rcases (Bool.eq_false_or_eq_true (rightB a)).symm with hr | hr
        · have HDD := Lib.hid (show readD l = (headM 0 0 0, 5) by rw [HD.out, if_neg (by rw [hr]; decide)])
          rw [hr]
          clear hr
          go_wp2_with fail
          refine ret_row2 (p := 2) (q := 3) (g := R) rfl rfl (puts14 hR8 _ _ _ _ _ _ _ _ _ _ _ _ _ _ ) Try.underlying44 (by kernel_rfl) ?_
          have hB9 := below14 hB8 hgR (.int .i64 0) (.int .i64 0) (.int .i64 0) (.int .i64 0) (.int .i64 0) (.int .i64 0) (.int .i64 0) (.int .i64 0) (.int .i64 0) (.string ⟨#[]⟩) (.int .i64 0) (.int .i64 0) (.string ⟨#[]⟩) (.slice none 0 0)
          rw [HDD.out]
          exact ⟨none, 0, rfl, (zM_at _).list, hB9⟩
        · have HDD := Lib.hid (show readD l = (a, 0) by rw [HD.out, if_pos hr])
          rw [hr]
          clear hr
          go_wp2_with fail
          refine ret_row2 (p := 2) (q := 3) (g := R) rfl rfl (puts14 hR8 _ _ _ _ _ _ _ _ _ _ _ _ _ _ ) Try.underlying44 (by kernel_rfl) ?_
          rw [HDD.out]
          exact ⟨A, c, rfl, listAt_own (own_only hl8 hR8 (by decide) (self14 _ _ _ _ _ _ _ _ _ _ _ _ _ _ )), below14 hB8 hgR _ _ _ _ _ _ _ _ _ _ _ _ _ _ ⟩
      · have e1 : (endR x == 0) = false := by rw [beq_eq_false_iff_ne]; exact he
        have e2 : (endR x != 0) = true := by rw [bne_iff_ne]; exact he
        have hD := HRD.out
        rw [if_neg he] at hD
        clear he
        have HD := Lib.hid hD
        clear hD
        have r0 : w7.cell? ⟨R, 0, none⟩ = some (.int .i64 0) := (blk_cell hR7 0).trans rfl
        have t0 := blk_frozen hR7 0
        have r1 : w7.cell? ⟨R, 1, none⟩ = some (.int .i64 0) := (blk_cell hR7 1).trans rfl
        have t1 := blk_frozen hR7 1
        have r2 : w7.cell? ⟨R, 2, none⟩ = some (.int .i64 0) := (blk_cell hR7 2).trans rfl
        have t2 := blk_frozen hR7 2
        have r3 : w7.cell? ⟨R, 3, none⟩ = some (.int .i64 0) := (blk_cell hR7 3).trans rfl
        have t3 := blk_frozen hR7 3
        have r4 : w7.cell? ⟨R, 4, none⟩ = some (.int .i64 0) := (blk_cell hR7 4).trans rfl
        have t4 := blk_frozen hR7 4
        have r5 : w7.cell? ⟨R, 5, none⟩ = some (.int .i64 0) := (blk_cell hR7 5).trans rfl
        have t5 := blk_frozen hR7 5
        have r6 : w7.cell? ⟨R, 6, none⟩ = some (.int .i64 0) := (blk_cell hR7 6).trans rfl
        have t6 := blk_frozen hR7 6
        have r7 : w7.cell? ⟨R, 7, none⟩ = some (.int .i64 0) := (blk_cell hR7 7).trans rfl
        have t7 := blk_frozen hR7 7
        have r8 : w7.cell? ⟨R, 8, none⟩ = some (.int .i64 0) := (blk_cell hR7 8).trans rfl
        have t8 := blk_frozen hR7 8
        have r9 : w7.cell? ⟨R, 9, none⟩ = some (.string ⟨#[]⟩) := (blk_cell hR7 9).trans rfl
        have t9 := blk_frozen hR7 9
        have r10 : w7.cell? ⟨R, 10, none⟩ = some (.int .i64 0) := (blk_cell hR7 10).trans rfl
        have t10 := blk_frozen hR7 10
        have r11 : w7.cell? ⟨R, 11, none⟩ = some (.int .i64 0) := (blk_cell hR7 11).trans rfl
        have t11 := blk_frozen hR7 11
        have r12 : w7.cell? ⟨R, 12, none⟩ = some (.string ⟨#[]⟩) := (blk_cell hR7 12).trans rfl
        have t12 := blk_frozen hR7 12
        have r13 : w7.cell? ⟨R, 13, none⟩ = some (.slice none 0 0) := (blk_cell hR7 13).trans rfl
        have t13 := blk_frozen hR7 13
        go_wp2_with fail
        refine ret_row2 (p := 2) (q := 3) (g := R) rfl rfl (puts14 hR7 _ _ _ _ _ _ _ _ _ _ _ _ _ _ ) Try.underlying44 (by kernel_rfl) ?_
        have hB8 := below14 hB7 hgR (.int .i64 0) (.int .i64 0) (.int .i64 0) (.int .i64 0) (.int .i64 0) (.int .i64 0) (.int .i64 0) (.int .i64 0) (.int .i64 0) (.string ⟨#[]⟩) (.int .i64 0) (.int .i64 0) (.string ⟨#[]⟩) (.slice none 0 0)
        rw [HD.out]
        exact ⟨none, 0, rfl, (zM_at _).list, hB8⟩
end Go.Proofs.Ytpegefcpanijhaa
end
section
namespace Go.Proofs.Ytpegefcpanijhaa
set_option linter.unusedVariables false
set_option linter.unusedSimpArgs false
open Go.RowKit Go.Proofs.YtpegefcpanijhaaW.PrintWords PF

set_option maxHeartbeats 8000000 in
set_option maxRecDepth 100000 in
theorem msgReads_walk (w : World) (s : ByteArray) (hs : s.size ≤ 140737488351232) :
    Calls Try.prog 17 #[.string s] w fun e w' => e = .returned (.bool true) ∧ Below w.heap.size w w' := by
  by_cases hlong : 4000 < s.size
  · have z1 : (4000 : Int) < (s.size : Int) := by omega
    have ht : (s.extract 0 4000).size ≤ 4000 := by rw [ByteArray.size_extract]; omega
    have z2 : (4000 : Int) ≤ (s.size : Int) := by omega
    go_enter Try.func17, Try.ntmps17
    go_wp2_with fail
    generalize s.extract 0 4000 = t at ht ⊢
    clear z1 z2 hlong hs
    refine (ideal_to (W := w) (Below.refl _ _)).mono ?_
    rintro e w1 ⟨b, mm, rfl, hI, hB, hmm, hbb⟩
    have htm : t.size ≤ maxLen := by unfold maxLen; omega
    go_wp2_with fail
    refine (mark_to (W := w) hI hB hmm htm (by decide) (n := 1) (l' := [t]) (by simp) (by simp [seen])).mono ?_
    rintro e w2 ⟨rfl, hI2, hB2⟩
    clear hI hB
    have HSZ := Lib.hid (show (t ++ mk 1).size = t.size + 32 by rw [ByteArray.size_append, mk_size])
    have HL := Lib.hid (cut_left t (mk 1))
    have HR := Lib.hid (cut_right t (mk 1))
    have HMK := Lib.hid (mk_size 1)
    have hsum : ¬ 9223372036854775807 < t.size + (mk 1).size := by rw [mk_size]; omega
    go_wp2_with fail
    refine (Of_with (s := t ++ mk 1) (n := t.size) HSZ.out (by rw [HSZ.out]; omega) true (fun w' => True) (fun w' hB' => ?_) (fun w1' w2' kk hkk hP hO => trivial)).mono ?_
    · rw [HL.out, HR.out]
      refine (is_to (W := w') (hI2.below hB') (Below.refl _ _) htm).mono ?_
      rintro e w'' ⟨rfl, hi, hb⟩
      exact ⟨by simp [isB], trivial, hb⟩
    rintro e w3 ⟨A3, c3, rfl, hl3, -, hB3⟩
    clear hsum
    rw [HL.out] at hl3 ⊢
    have hB3w := hB2.trans (hB3.mono hB2.size)
    have hsm := small_ofD true t
    clear hB3 hI2 hB2 HL HR HMK HSZ
    change ListAt w3 A3 c3 (readD t.data.toList).1.list at hl3
    change smallD (readD t.data.toList).1 at hsm
    obtain ⟨m, hm⟩ : ∃ m, (readD t.data.toList).1 = m := ⟨_, rfl⟩
    obtain ⟨f, hf⟩ : ∃ f, (readD t.data.toList).2 = f := ⟨_, rfl⟩
    rw [show (ofD true t).1 = m from hm, show (ofD true t).2 = f from hf]
    rw [hm] at hl3 hsm
    have HM := Lib.hid hm
    have HF := Lib.hid hf
    clear hm hf
    go_upto_region 5 with (fail)
    change Code.wp _ _ _ _ (w3.alloc (.cells (m.cells A3 c3) 44))
    have hM := heap_alloc_new w3 (.cells (m.cells A3 c3) 44)
    have hl4 := hl3.below ((Below.refl w3.heap.size w3).alloc (Nat.le_refl _) (.cells (m.cells A3 c3) 44))
    have hB4 := hB3w.alloc hB3w.size (.cells (m.cells A3 c3) 44)
    generalize w3.alloc (.cells (m.cells A3 c3) 44) = w4 at hM hl4 hB4 ⊢
    generalize w3.heap.size = M at hM ⊢
    clear hB3w hl3
    go_wp2_with fail
    refine (rRead_calls _ t (by omega)).mono ?_
    rintro e w5 ⟨A5, c5, rfl, hl5, hB5⟩
    rw [HM.out] at hl5 ⊢
    rw [HF.out]
    have hB5w := hB4.trans (hB5.mono hB4.size)
    have hM5 := blk_below hM hB5
    have hl5b := hl4.below hB5
    clear hB5 hB4 hM hl4
    go_upto_region 6 with (fail)
    change Code.wp _ _ _ _ (w5.alloc (.cells (m.cells A5 c5) 44))
    have hN := heap_alloc_new w5 (.cells (m.cells A5 c5) 44)
    have hM6 := blk_alloc hM5 (.cells (m.cells A5 c5) 44)
    have hl6 := hl5.below ((Below.refl w5.heap.size w5).alloc (Nat.le_refl _) (.cells (m.cells A5 c5) 44))
    have hl6b := hl5b.below ((Below.refl w5.heap.size w5).alloc (Nat.le_refl _) (.cells (m.cells A5 c5) 44))
    have hB6 := hB5w.alloc hB5w.size (.cells (m.cells A5 c5) 44)
    generalize w5.alloc (.cells (m.cells A5 c5) 44) = w6 at hN hM6 hl6 hl6b hB6 ⊢
    generalize w5.heap.size = N at hN ⊢
    clear hB5w hl5 hl5b hM5
    obtain ⟨c0, c1, c2, c3, c4, c5, c6, c7, c8, c9, c10, c11, c12, c13⟩ := MsgBox.of hM6
    obtain ⟨d0, d1, d2, d3, d4, d5, d6, d7, d8, d9, d10, d11, d12, d13⟩ := MsgBox.of hN
    go_wp2_with fail
    refine (Same_calls (m := m) (n := m) hl6b hl6).mono ?_
    rintro e w7 ⟨rfl, hb⟩
    rw [sameD_true rfl]
    have hB7 := hB6.trans (hb.mono hB6.size)
    have ef : (f == f) = true := beq_self_eq_true f
    clear c0 c1 c2 c3 c4 c5 c6 c7 c8 c9 c10 c11 c12 c13 d0 d1 d2 d3 d4 d5 d6 d7 d8 d9 d10 d11 d12 d13 hM6 hN hb hB6 hl6 hl6b
    go_wp2_with fail
    refine (awake17_to hB7).mono ?_
    rintro e w9 ⟨rfl, hB9⟩
    go_wp2_with fail
    go_ret
    exact ⟨rfl, hB9⟩
  · have z1 : ¬ (4000 : Int) < (s.size : Int) := by omega
    obtain ⟨t, htt⟩ : ∃ t, t = s := ⟨_, rfl⟩
    have ht : t.size ≤ 4000 := by rw [htt]; omega
    go_enter Try.func17, Try.ntmps17
    go_wp2_with fail
    subst htt
    clear z1 hlong hs
    refine (ideal_to (W := w) (Below.refl _ _)).mono ?_
    rintro e w1 ⟨b, mm, rfl, hI, hB, hmm, hbb⟩
    have htm : t.size ≤ maxLen := by unfold maxLen; omega
    go_wp2_with fail
    refine (mark_to (W := w) hI hB hmm htm (by decide) (n := 1) (l' := [t]) (by simp) (by simp [seen])).mono ?_
    rintro e w2 ⟨rfl, hI2, hB2⟩
    clear hI hB
    have HSZ := Lib.hid (show (t ++ mk 1).size = t.size + 32 by rw [ByteArray.size_append, mk_size])
    have HL := Lib.hid (cut_left t (mk 1))
    have HR := Lib.hid (cut_right t (mk 1))
    have HMK := Lib.hid (mk_size 1)
    have hsum : ¬ 9223372036854775807 < t.size + (mk 1).size := by rw [mk_size]; omega
    go_wp2_with fail
    refine (Of_with (s := t ++ mk 1) (n := t.size) HSZ.out (by rw [HSZ.out]; omega) true (fun w' => True) (fun w' hB' => ?_) (fun w1' w2' kk hkk hP hO => trivial)).mono ?_
    · rw [HL.out, HR.out]
      refine (is_to (W := w') (hI2.below hB') (Below.refl _ _) htm).mono ?_
      rintro e w'' ⟨rfl, hi, hb⟩
      exact ⟨by simp [isB], trivial, hb⟩
    rintro e w3 ⟨A3, c3, rfl, hl3, -, hB3⟩
    clear hsum
    rw [HL.out] at hl3 ⊢
    have hB3w := hB2.trans (hB3.mono hB2.size)
    have hsm := small_ofD true t
    clear hB3 hI2 hB2 HL HR HMK HSZ
    change ListAt w3 A3 c3 (readD t.data.toList).1.list at hl3
    change smallD (readD t.data.toList).1 at hsm
    obtain ⟨m, hm⟩ : ∃ m, (readD t.data.toList).1 = m := ⟨_, rfl⟩
    obtain ⟨f, hf⟩ : ∃ f, (readD t.data.toList).2 = f := ⟨_, rfl⟩
    rw [show (ofD true t).1 = m from hm, show (ofD true t).2 = f from hf]
    rw [hm] at hl3 hsm
    have HM := Lib.hid hm
    have HF := Lib.hid hf
    clear hm hf
    go_upto_region 5 with (fail)
    change Code.wp _ _ _ _ (w3.alloc (.cells (m.cells A3 c3) 44))
    have hM := heap_alloc_new w3 (.cells (m.cells A3 c3) 44)
    have hl4 := hl3.below ((Below.refl w3.heap.size w3).alloc (Nat.le_refl _) (.cells (m.cells A3 c3) 44))
    have hB4 := hB3w.alloc hB3w.size (.cells (m.cells A3 c3) 44)
    generalize w3.alloc (.cells (m.cells A3 c3) 44) = w4 at hM hl4 hB4 ⊢
    generalize w3.heap.size = M at hM ⊢
    clear hB3w hl3
    go_wp2_with fail
    refine (rRead_calls _ t (by omega)).mono ?_
    rintro e w5 ⟨A5, c5, rfl, hl5, hB5⟩
    rw [HM.out] at hl5 ⊢
    rw [HF.out]
    have hB5w := hB4.trans (hB5.mono hB4.size)
    have hM5 := blk_below hM hB5
    have hl5b := hl4.below hB5
    clear hB5 hB4 hM hl4
    go_upto_region 6 with (fail)
    change Code.wp _ _ _ _ (w5.alloc (.cells (m.cells A5 c5) 44))
    have hN := heap_alloc_new w5 (.cells (m.cells A5 c5) 44)
    have hM6 := blk_alloc hM5 (.cells (m.cells A5 c5) 44)
    have hl6 := hl5.below ((Below.refl w5.heap.size w5).alloc (Nat.le_refl _) (.cells (m.cells A5 c5) 44))
    have hl6b := hl5b.below ((Below.refl w5.heap.size w5).alloc (Nat.le_refl _) (.cells (m.cells A5 c5) 44))
    have hB6 := hB5w.alloc hB5w.size (.cells (m.cells A5 c5) 44)
    generalize w5.alloc (.cells (m.cells A5 c5) 44) = w6 at hN hM6 hl6 hl6b hB6 ⊢
    generalize w5.heap.size = N at hN ⊢
    clear hB5w hl5 hl5b hM5
    obtain ⟨c0, c1, c2, c3, c4, c5, c6, c7, c8, c9, c10, c11, c12, c13⟩ := MsgBox.of hM6
    obtain ⟨d0, d1, d2, d3, d4, d5, d6, d7, d8, d9, d10, d11, d12, d13⟩ := MsgBox.of hN
    go_wp2_with fail
    refine (Same_calls (m := m) (n := m) hl6b hl6).mono ?_
    rintro e w7 ⟨rfl, hb⟩
    rw [sameD_true rfl]
    have hB7 := hB6.trans (hb.mono hB6.size)
    have ef : (f == f) = true := beq_self_eq_true f
    clear c0 c1 c2 c3 c4 c5 c6 c7 c8 c9 c10 c11 c12 c13 d0 d1 d2 d3 d4 d5 d6 d7 d8 d9 d10 d11 d12 d13 hM6 hN hb hB6 hl6 hl6b
    go_wp2_with fail
    refine (awake17_to hB7).mono ?_
    rintro e w9 ⟨rfl, hB9⟩
    go_wp2_with fail
    go_ret
    exact ⟨rfl, hB9⟩
end Go.Proofs.Ytpegefcpanijhaa
end
