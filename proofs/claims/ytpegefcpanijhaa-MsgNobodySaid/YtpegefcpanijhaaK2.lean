/- The builder that a message's bytes are built in; the closure of msg.body. -/
import Derived.Test.YtpegefcpanijhaaK1
namespace Go.Proofs.Ytpegefcpanijhaa
set_option linter.unusedVariables false
set_option linter.unusedSimpArgs false
open Go.RowKit Go.Proofs.YtpegefcpanijhaaW.PrintWords PF

/-- A builder in block b, holding bytes. -/
def Bld (b : Nat) (l : List UInt8) (w : World) : Prop := Lib.IsBuilder 99 5 b b (Lib.byteCells l) w

/-- Whatever is not the builder, nor a plain row of bytes, stands as it stood. -/
def Keeps (b : Nat) (w w' : World) : Prop := w.heap.size ≤ w'.heap.size ∧ ∀ k, k < w.heap.size → k ≠ b → (∀ cs, w.heap[k]? ≠ some (.cells cs 5 (0, 0))) → w'.heap[k]? = w.heap[k]?

theorem Keeps.refl (b : Nat) (w : World) : Keeps b w w := ⟨Nat.le_refl _, fun _ _ _ _ => rfl⟩
theorem Keeps.trans {b : Nat} {w w' w'' : World} (h : Keeps b w w') (h' : Keeps b w' w'') : Keeps b w w'' :=
  ⟨Nat.le_trans h.1 h'.1, fun k hk hb hc => (h'.2 k (Nat.lt_of_lt_of_le hk h.1) hb (fun cs => by rw [h.2 k hk hb hc]; exact hc cs)).trans (h.2 k hk hb hc)⟩
theorem Keeps.of_below {b : Nat} {w w' : World} (h : Below w.heap.size w w') : Keeps b w w' := ⟨h.size, fun k hk _ _ => h.block k hk⟩
theorem Keeps.setCell (b i : Nat) (w : World) (v : Value) : Keeps b w (w.setCell ⟨b, i, none⟩ v) :=
  ⟨by simp [World.setCell], fun k hk hb _ => Below.heap_setCell _ _ _ _ hb⟩
theorem Keeps.grown {b : Nat} {w w' : World} {base n : Nat} {v : Value} {xs : List Value} (hg : w.grownBy w' v.ownBlock) (hown : w.ownsRow base 5 1 v n xs) : Keeps b w w' := by
  refine ⟨hg.size, fun k hk hb hc => hg.block k hk ?_⟩
  intro e
  rcases hown.2 with ⟨rfl, _⟩ | ⟨g, cap, cur, rfl, _, hgg, _⟩
  · simp [Value.ownBlock] at e
  · simp only [Value.ownBlock, Option.some.injEq] at e
    subst e
    exact hc _ hgg

theorem own_below {w w' : World} {base e sz n : Nat} {v : Value} {xs : List Value} (h : w.ownsRow base e sz v n xs) (hb : Below w.heap.size w w') : w'.ownsRow base e sz v n xs := by
  refine ⟨h.1, ?_⟩
  rcases h.2 with ⟨rfl, h0⟩ | ⟨g, cap, cur, rfl, hg, hgg, r⟩
  · exact .inl ⟨rfl, h0⟩
  · refine .inr ⟨g, cap, cur, rfl, hg, ?_, r⟩
    have hl : g < w.heap.size := by rw [Array.getElem?_eq_some_iff] at hgg; exact hgg.1
    exact (hb.block g hl).trans hgg
theorem Bld.at_ {b : Nat} {l : List UInt8} {w : World} (h : Bld b l w) : ∃ p, Lib.BuilderAt 99 5 b b p (Lib.byteCells l) w := by
  rcases h with h | h
  · exact ⟨_, h⟩
  · exact ⟨_, h⟩
theorem bat_below {b : Nat} {p : Value} {xs : List Value} {w w' : World} (h : Lib.BuilderAt 99 5 b b p xs w) (hb : Below w.heap.size w w') : Lib.BuilderAt 99 5 b b p xs w' := by
  have hl := h.lt
  obtain ⟨hB, v, hbk, hown, hne⟩ := h
  exact ⟨hB, v, (hb.block b hl).trans hbk, own_below hown hb, hne⟩
theorem Bld.below {b : Nat} {l : List UInt8} {w w' : World} (h : Bld b l w) (hb : Below w.heap.size w w') : Bld b l w' := by
  rcases h with h | h
  · exact .inl (bat_below h hb)
  · exact .inr (bat_below h hb)
theorem Bld.lt {b : Nat} {l : List UInt8} {w : World} (h : Bld b l w) : b < w.heap.size := by
  obtain ⟨p, h⟩ := h.at_
  exact h.lt

theorem copyCheck_keeps (B b : Nat) (bs : List Value) (w : World) (h : Lib.IsBuilder 99 5 B b bs w) :
    Calls Try.prog 98 #[.pointer (some ⟨b, 0, none⟩)] w fun e w' => e = .returned (.tuple #[]) ∧ (Lib.BuilderAt 99 5 B b (.pointer (some ⟨b, 0, none⟩)) bs w' ∧ Below B w w' ∧ Keeps b w w') := by
  rcases h with h | h
  · refine (copyCheck_fresh b w h.cell0 h.shape h.frozen0).mono ?_
    rintro e w' ⟨rfl, rfl⟩
    exact ⟨rfl, h.used _, (Below.refl B w).setCell (p := ⟨b, 0, none⟩) h.1 _, Keeps.setCell _ _ _ _⟩
  · refine (copyCheck_used b w h.cell0).mono ?_
    rintro e w' ⟨rfl, rfl⟩
    exact ⟨rfl, h, Below.refl B _, Keeps.refl _ _⟩

set_option maxHeartbeats 2000000 in
theorem writeS_calls (b : Nat) (l : List UInt8) (s : ByteArray) (w : World) (h : Bld b l w) (hlen : l.length + s.size ≤ 140737488355328) :
    Calls Try.prog 75 #[.pointer (some ⟨b, 0, none⟩), .string s] w fun e w' => e = .returned (.tuple #[.int .i64 s.size, .nilIface]) ∧ Bld b (l ++ s.data.toList) w' ∧ Below b w w' ∧ Keeps b w w' := by
  obtain ⟨i0, hi, hz0, hz1, hz2⟩ := info_parts infoU8
  have hBw := h.lt
  have hcl := Lib.byteCells_length l
  go_enter Try.func75, Try.ntmps75
  go_wp2_with fail
  refine (copyCheck_keeps b b _ _ h).mono ?_
  rintro e w1 ⟨rfl, h1, hb1, hk1⟩
  obtain ⟨hB, v, hbk, hown, hne⟩ := h1
  have c0 : w1.cell? ⟨b, 0, none⟩ = some (.pointer (some ⟨b, 0, none⟩)) := by rw [Lib.cell_of_heap hbk]; rfl
  have c1 : w1.cell? ⟨b, 1, none⟩ = some v := by rw [Lib.cell_of_heap hbk]; rfl
  go_wp2_with (at_builtin; refine Lib.wpList_append_own_string _ rfl _ _ 69 9 rfl b 5 i0 Try.underlying69 Try.underlying9 hi hz0 hz1 hz2 _ _ _ rfl hown s rfl ?c3 ?c4 ?c5 ?_)
  case c3 => unfold maxLen; omega
  case c4 => omega
  case c5 => have := hb1.size; omega
  intro v' w2 hown' hgrow _
  have hlt : b < w1.heap.size := by
    rcases Nat.lt_or_ge b w1.heap.size with h' | h'
    · exact h'
    · simp [Array.getElem?_eq_none h'] at hbk
  have hb2 : w2.heap[b]? = some (.cells #[.pointer (some ⟨b, 0, none⟩), v] 99 (0, 0)) := by
    rw [hgrow.block b hlt (fun e => hne e.symm)]
    exact hbk
  have d0 : w2.cell? ⟨b, 0, none⟩ = some (.pointer (some ⟨b, 0, none⟩)) := by rw [Lib.cell_of_heap hb2]; rfl
  have d1 : w2.cell? ⟨b, 1, none⟩ = some v := by rw [Lib.cell_of_heap hb2]; rfl
  have f1 : w2.frozen? ⟨b, 1, none⟩ = false := Lib.frozen_of_heap hb2 1
  obtain ⟨ao, n', cap, rfl⟩ : ∃ ao n' cap, v' = .slice ao n' cap := by
    rcases hown'.2 with ⟨hv, _⟩ | ⟨g, cap, cur, hv, _⟩
    · exact ⟨_, _, _, hv⟩
    · exact ⟨_, _, _, hv⟩
  go_wp2
  go_ret2
  refine ⟨rfl, ?_, ?_, ?_⟩
  · refine .inr ?_
    have e : Lib.byteCells (l ++ s.data.toList) = Lib.byteCells l ++ Lib.strCells s := by simp [Lib.byteCells, Lib.strCells]
    rw [e]
    exact Lib.BuilderAt.put (T := 99) (e := 5) hB hb2 (bs' := Lib.byteCells l ++ Lib.strCells s) (by simpa [Lib.strCells_length, Lib.byteCells_length] using hown') (by decide)
  · exact (hb1.grown hgrow (by have := hb1.size; omega) (fun k hk => (hown.lt k hk).1)).setCell (p := ⟨b, 1, none⟩) hB _
  · exact (hk1.trans (Keeps.grown hgrow hown)).trans (Keeps.setCell _ _ _ _)

set_option maxHeartbeats 2000000 in
theorem num1_calls (b : Nat) (l : List UInt8) (n : Int) (w : World) (h : Bld b l w) (h0 : 0 ≤ n) (h1 : n ≤ 4611686018427387903) (hlen : l.length ≤ 1000000000) :
    Calls Try.prog 73 #[.int .i64 n, .pointer (some ⟨b, 0, none⟩)] w fun e w' => e = .returned (.tuple #[]) ∧ Bld b (l ++ numL n.toNat) w' ∧ Below b w w' ∧ Keeps b w w' := by
  go_enter Try.func73, Try.ntmps73
  go_wp2_with fail
  refine (num_calls n h0 h1 _).mono ?_
  rintro e w1 ⟨rfl, hb⟩
  have hB := h.below hb
  go_wp2_with fail
  refine (writeS_calls b l _ _ hB ?_).mono ?_
  · have := numL_length n.toNat
    show l.length + (numL n.toNat).toArray.size ≤ _
    simp; omega
  rintro e w2 ⟨rfl, h2, hb2, hk2⟩
  go_wp2_with fail
  go_end0
  exact ⟨rfl, h2, (hb.mono (Nat.le_of_lt h.lt)).trans hb2, (Keeps.of_below hb).trans hk2⟩
end Go.Proofs.Ytpegefcpanijhaa
