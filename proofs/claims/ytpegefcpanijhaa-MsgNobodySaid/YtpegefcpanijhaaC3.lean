/- The walk of barquelaw03's 'step', an ideal book beside the document's: the two answer alike. -/
import Derived.Test.YtpegefcpanijhaaC2
import Derived.Deep.RegionHeld3
import Derived.Deep.DrawnRows
namespace Go.Proofs.Ytpegefcpanijhaa
set_option linter.unusedVariables false
set_option linter.unusedSimpArgs false
open Go.RowKit Go.Maps Go.Proofs.YtpegefcpanijhaaW.PrintWords
attribute [local go_sem ↓] Go.wp_at_zero Go.wp_at_succ

/-- A text, or its first bytes. -/
def cutB (s : ByteArray) (n : Nat) : ByteArray := if s.size > n then s.extract 0 n else s
theorem cutB_size (s : ByteArray) (n : Nat) : (cutB s n).size ≤ n := by
  unfold cutB; split
  · simp; omega
  · omega
theorem cut_is (s : ByteArray) (n : Nat) : PF.barquelaw03_cut.f s n = some (cutB s n) := by
  unfold PF.barquelaw03_cut.f cutB
  by_cases h : s.size > n
  · rw [if_pos (by omega), if_pos (by omega), if_pos (by omega), if_pos h]; simp
  · rw [if_neg (by omega), if_neg h]
theorem cut_calls (s : ByteArray) (n : Nat) (k : Int) (hk : k = n) (w : World) : Calls Try.prog 33 #[.string s, .int .i64 k] w fun e w' => e = .returned (.string (cutB s n)) ∧ Below w.heap.size w w' := by
  subst hk
  exact (PF.barquelaw03_cut.calls s n _ w (cut_is s n)).mono fun e w' ⟨he, hd⟩ => ⟨he, hd.below⟩

/-- A call of a book. -/
structure OpD where
  kind : Int
  n : Int
  text : ByteArray
  mark : ByteArray
def OpD.val (o : OpD) : Value := .agg #[.int .i64 o.kind, .int .i64 o.n, .string o.text, .string o.mark]
def OpD.seen (l : List ByteArray) (o : OpD) : List ByteArray := if o.kind = 0 then Ytpegefcpanijhaa.seen l (cutB o.text 300) else l
structure OpD.Ok (o : OpD) : Prop where
  text : o.text.size ≤ maxLen
  mark : o.mark.size ≤ maxLen
  n0 : -9223372036854775808 ≤ o.n
  n1 : o.n ≤ 9223372036854775807
theorem OpD.seen_length (l : List ByteArray) (o : OpD) : (o.seen l).length ≤ l.length + 1 := by
  unfold OpD.seen; split
  · exact Ytpegefcpanijhaa.seen_length l _
  · omega

/-- An ideal book b (its table m) and the document's book q (its list v) know the same texts l. -/
structure Both (w : World) (b m base q : Nat) (v : Value) (l : List ByteArray) : Prop where
  ideal : IsIdeal w b m l
  ref : IsRef w base q v l
namespace Both
variable {w w' : World} {b m base q : Nat} {v : Value} {l : List ByteArray}
theorem below (h : Both w b m base q v l) (hb : Below w.heap.size w w') : Both w' b m base q v l := ⟨h.ideal.below hb, h.ref.below hb⟩
theorem drewN (h : Both w b m base q v l) (n : Nat) : Both (w.drewN n) b m base q v l := ⟨h.ideal.drewN n, h.ref.drewN n⟩
theorem drew (h : Both w b m base q v l) : Both w.drew b m base q v l := ⟨h.ideal.drew, h.ref.drew⟩
theorem alloc (h : Both w b m base q v l) (o : Obj) : Both (w.alloc o) b m base q v l := h.below ((Below.refl _ _).alloc (Nat.le_refl _) o)
theorem ne_q (h : Both w b m base q v l) : q ≠ b ∧ q ≠ m := by
  constructor
  · rintro rfl
    have := h.ref.blk
    rw [h.ideal.blk] at this
    injection this with this
    injection this with _ this
    exact absurd this (by decide)
  · rintro rfl
    obtain ⟨D, ⟨es, clock, hb, _⟩, _⟩ := h.ideal.own
    rw [h.ref.blk] at hb
    cases hb
theorem ne_v (h : Both w b m base q v l) : some b ≠ v.ownBlock ∧ some m ≠ v.ownBlock := h.ideal.ne_row h.ref.row (by decide)
end Both

/-- What a call leaves: both know the same texts; only the table, the document's book and its list have turned. -/
def After (w : World) (b m base q : Nat) (v : Value) (l' : List ByteArray) (w' : World) : Prop :=
  ∃ v', Both w' b m base q v' l' ∧ Within (fun k => k = m ∨ k = q ∨ some k = v.ownBlock) w w' ∧ (v'.ownBlock = v.ownBlock ∨ ∃ g, v'.ownBlock = some g ∧ w.heap.size ≤ g)
theorem After.of_below {w w' : World} {b m base q : Nat} {v : Value} {l : List ByteArray} (h : Both w b m base q v l) (hb : Below w.heap.size w w') : After w b m base q v l w' :=
  ⟨v, h.below hb, Within.of_below hb _, .inl rfl⟩
theorem After.then_below {w w1 w' : World} {b m base q : Nat} {v : Value} {l : List ByteArray} (h : After w b m base q v l w1) (hb : Below w1.heap.size w1 w') : After w b m base q v l w' := by
  obtain ⟨v', hB, hW, hv⟩ := h
  exact ⟨v', hB.below hb, hW.trans (Within.of_below hb (fun _ => False)) (fun _ _ x => x.elim), hv⟩
theorem After.behind {w0 w w' : World} {b m base q : Nat} {v : Value} {l : List ByteArray} (h : After w b m base q v l w') (hb : Below w0.heap.size w0 w) : After w0 b m base q v l w' := by
  obtain ⟨v', hB, hW, hv⟩ := h
  refine ⟨v', hB, (Within.of_below hb (fun k => k = m ∨ k = q ∨ some k = v.ownBlock)).trans hW (fun _ _ x => x), ?_⟩
  rcases hv with h | ⟨g, h1, h2⟩
  · exact .inl h
  · exact .inr ⟨g, h1, Nat.le_trans hb.size h2⟩

/-- The call 'b.Mark(s)', then 'q.Mark(s)'. -/
theorem both_mark1 {w : World} {b m base q : Nat} {v : Value} {l : List ByteArray} {s : ByteArray} (h : Both w b m base q v l) (hs : s.size ≤ maxLen) (hl : l.length ≤ 1000) :
    Calls Try.prog 20 #[.pointer (some ⟨b, 0, none⟩), .string s] w fun e w' => e = .returned (.string (mk (l.idxOf s + 1))) ∧ IsIdeal w' b m (seen l s) ∧ IsRef w' base q v l ∧ Within (fun k => k = m) w w' := by
  refine (mark_ideal h.ideal hs (by omega)).mono fun e w' ⟨he, hi, hg⟩ => ⟨he, hi, ?_, ?_⟩
  · exact h.ref.kept (Within.of_grown hg) (fun e => h.ne_q.2 (by injection e)) (fun k hk e => h.ne_v.2 (by rw [hk, e]))
  · exact (Within.of_grown hg).mono (fun k _ e => by injection e)
theorem both_mark2 {w0 w : World} {b m base q : Nat} {v : Value} {l : List ByteArray} {s : ByteArray} (hne : q ≠ b ∧ q ≠ m) (hnv : some b ≠ v.ownBlock ∧ some m ≠ v.ownBlock) (hi : IsIdeal w b m (seen l s)) (hr : IsRef w base q v l) (hW : Within (fun k => k = m) w0 w) (hs : s.size ≤ maxLen) (hl : l.length ≤ 1000) (hbase : base ≤ w.heap.size) :
    Calls Try.prog 44 #[.pointer (some ⟨q, 0, none⟩), .string s] w fun e w' => e = .returned (.string (mk (l.idxOf s + 1))) ∧ After w0 b m base q v (seen l s) w' := by
  refine (refMark_any hr hs (by omega) hbase).mono fun e w' ⟨he, v', hr', hg, hv⟩ => ⟨he, v', ⟨?_, hr'⟩, ?_, ?_⟩
  · refine ⟨(hg.block b hi.lt ?_).trans hi.blk, ?_⟩
    · rintro (e | e)
      · exact hne.1 e.symm
      · exact hnv.1 e
    · obtain ⟨D, ho, hsh⟩ := hi.own
      refine ⟨D, ?_, hsh⟩
      obtain ⟨es, clock, hb, r⟩ := ho
      refine ⟨es, clock, (hg.block m hi.ltm ?_).trans hb, r⟩
      rintro (e | e)
      · exact hne.2 e.symm
      · exact hnv.2 e
  · exact (hW.mono (T := fun k => k = m ∨ k = q ∨ some k = v.ownBlock) (fun k _ e => .inl e)).trans hg (fun k _ e => .inr e)
  · rcases hv with h | ⟨g, h1, h2⟩
    · exact .inl h
    · exact .inr ⟨g, h1, Nat.le_trans hW.size h2⟩

/-- The cells of a call's own copy of an Op, in whatever world comes later. -/
theorem op_cells {w w2 : World} {x0 x1 x2 x3 : Value} (hb : Below (w.alloc (.cells #[x0, x1, x2, x3] 36)).heap.size (w.alloc (.cells #[x0, x1, x2, x3] 36)) w2) :
    w2.cell? ⟨w.heap.size, 0, none⟩ = some x0 ∧ w2.cell? ⟨w.heap.size, 1, none⟩ = some x1 ∧ w2.cell? ⟨w.heap.size, 2, none⟩ = some x2 ∧ w2.cell? ⟨w.heap.size, 3, none⟩ = some x3 := by
  have hblk : w2.heap[w.heap.size]? = some (.cells #[x0, x1, x2, x3] 36 (0, 0)) := (hb.block _ (by simp)).trans (heap_alloc_new w _)
  exact ⟨cell_of_row _ _ 0 _ _ _ hblk, cell_of_row _ _ 1 _ _ _ hblk, cell_of_row _ _ 2 _ _ _ hblk, cell_of_row _ _ 3 _ _ _ hblk⟩

set_option maxHeartbeats 400000 in
theorem step0 {w : World} {b m base q : Nat} {v : Value} {l : List ByteArray} (h : Both w b m base q v l) (hl : l.length ≤ 900) (hbase : base ≤ w.heap.size) (n : Int) (text mark : ByteArray) :
    Calls Try.prog 23 #[.pointer (some ⟨b, 0, none⟩), .pointer (some ⟨q, 0, none⟩), .agg #[.int .i64 0, .int .i64 n, .string text, .string mark]] w fun e w' => e = .returned (.bool true) ∧ After w b m base q v (seen l (cutB text 300)) w' := by
  have hcs := cutB_size text 300
  have hcs' : (cutB text 300).size ≤ maxLen := by unfold maxLen; omega
  have hB := (Below.refl w.heap.size w).alloc (Nat.le_refl _) (.cells #[.int .i64 0, .int .i64 n, .string text, .string mark] 36)
  have h1 := h.alloc (.cells #[.int .i64 0, .int .i64 n, .string text, .string mark] 36)
  have hne := h.ne_q
  have hnv := h.ne_v
  go_enter Try.func23, Try.ntmps23
  go_wp2_with fail
  refine (cut_calls text 300 _ rfl _).mono ?_
  rintro e w2 ⟨rfl, hb2⟩
  obtain ⟨c0, c1, c2, c3⟩ := op_cells hb2
  have h2 := h1.below hb2
  have hB2 : Below w.heap.size w w2 := hB.trans (hb2.mono hB.size)
  clear hB hb2 h1
  go_wp2_with fail
  refine (both_mark1 h2 hcs' (by omega)).mono ?_
  rintro e w3 ⟨rfl, hi3, hr3, hW3⟩
  have hb3 : base ≤ w3.heap.size := by have := hB2.size; have := hW3.size; omega
  go_wp2_with fail
  refine (both_mark2 hne hnv hi3 hr3 hW3 hcs' (by omega) hb3).mono ?_
  rintro e w4 ⟨rfl, hA⟩
  go_wp2_with fail
  go_ret
  exact ⟨rfl, hA.behind hB2⟩

/-- Both books' answers to a question, the world told against an elder one. -/
theorem both_is1 {W w : World} {b m base q : Nat} {v : Value} {l : List ByteArray} {s mark : ByteArray} (h : Both w b m base q v l) (hs : s.size ≤ maxLen) (hB : Below W.heap.size W w) {a1 : Addr} {v1 : Value} (c1 : w.cell? a1 = some v1) :
    Calls Try.prog 21 #[.pointer (some ⟨b, 0, none⟩), .string s, .string mark] w fun e w' => e = .returned (.bool (isB l s mark)) ∧ Both w' b m base q v l ∧ Below W.heap.size W w' ∧ w'.cell? a1 = some v1 :=
  (is_ideal h.ideal hs).mono fun e w' ⟨he, hb⟩ => ⟨he, h.below hb, hB.trans (hb.mono hB.size), (hb.cell (World.block_lt_of_cell? w _ c1)).trans c1⟩
theorem both_is2 {W w : World} {b m base q : Nat} {v : Value} {l : List ByteArray} {s mark : ByteArray} (h : Both w b m base q v l) (hl : l.length ≤ 2000) (hB : Below W.heap.size W w) {a1 : Addr} {v1 : Value} (c1 : w.cell? a1 = some v1) :
    Calls Try.prog 45 #[.pointer (some ⟨q, 0, none⟩), .string s, .string mark] w fun e w' => e = .returned (.bool (isB l s mark)) ∧ Both w' b m base q v l ∧ Below W.heap.size W w' ∧ w'.cell? a1 = some v1 :=
  (refIs h.ref hl).mono fun e w' ⟨he, hb⟩ => ⟨he, h.below hb, hB.trans (hb.mono hB.size), (hb.cell (World.block_lt_of_cell? w _ c1)).trans c1⟩

set_option maxHeartbeats 1000000 in
theorem step1 {w : World} {b m base q : Nat} {v : Value} {l : List ByteArray} (h : Both w b m base q v l) (hl : l.length ≤ 900) (n : Int) (text mark : ByteArray) :
    Calls Try.prog 23 #[.pointer (some ⟨b, 0, none⟩), .pointer (some ⟨q, 0, none⟩), .agg #[.int .i64 1, .int .i64 n, .string text, .string mark]] w fun e w' => e = .returned (.bool true) ∧ Both w' b m base q v l ∧ Below w.heap.size w w' := by
  have hcs := cutB_size text 300
  have hcs' : (cutB text 300).size ≤ maxLen := by unfold maxLen; omega
  have hB := (Below.refl w.heap.size w).alloc (Nat.le_refl _) (.cells #[.int .i64 1, .int .i64 n, .string text, .string mark] 36)
  have h1 := h.alloc (.cells #[.int .i64 1, .int .i64 n, .string text, .string mark] 36)
  go_enter Try.func23, Try.ntmps23
  go_wp2_with fail
  refine (cut_calls text 300 _ rfl _).mono ?_
  rintro e w2 ⟨rfl, hb2⟩
  obtain ⟨c0, c1, c2, c3⟩ := op_cells hb2
  have h2 := h1.below hb2
  have hB2 : Below w.heap.size w w2 := hB.trans (hb2.mono hB.size)
  clear hB hb2 h1 c1 c2
  cases hq : isB l (cutB text 300) mark
  all_goals
    have HQ := Lib.hid hq
    clear hq
    go_wp2_with fail
    go_region_held3 (fun w' => w'.cell? ⟨w.heap.size, 3, none⟩ = some (.string mark)) (go_keep)
      (first
        | (go_at_call 21; refine (both_is1 (W := w) (a1 := ⟨w.heap.size, 3, none⟩) (v1 := .string mark) (by first | exact h2 | exact h2.drewN _ | exact h2.drew) hcs' (by first | exact hB2 | exact below_drewN hB2 _ | exact hB2.drew) (by assumption)).mono ?_; rintro e w5 ⟨rfl, h5, hB5, f5⟩; rw [HQ.out])
        | (go_at_call 45; refine (both_is2 (W := w) (a1 := ⟨w.heap.size, 3, none⟩) (v1 := .string mark) (by first | exact h5 | exact h5.drewN _ | exact h5.drew) (by omega) (by first | exact hB5 | exact below_drewN hB5 _ | exact hB5.drew) (by assumption)).mono ?_; rintro e w6 ⟨rfl, h6, hB6, f6⟩; rw [HQ.out]))
    go_wp2_with fail
    go_ret
    exact ⟨rfl, h6, hB6⟩
end Go.Proofs.Ytpegefcpanijhaa
