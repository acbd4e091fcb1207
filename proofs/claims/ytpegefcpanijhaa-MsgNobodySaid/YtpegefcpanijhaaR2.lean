/- What the rows over messages share: a message that came in, opened; a slice of messages, opened. -/
import Derived.Test.YtpegefcpanijhaaR1
import Derived.Test.YtpegefcpanijhaaK4
namespace Go.Proofs.Ytpegefcpanijhaa
set_option linter.unusedVariables false
set_option linter.unusedSimpArgs false
open Go.ChangeShapes Go.WideShapes Go.RowKit Go.Deep PF

/-- A message that came in. -/
structure MsgIn (w : World) (A : Option Addr) (c : Nat) (m : MsgD) : Prop where
  ok : m.Ok
  at_ : MsgAt w A c m

/-- A slice of messages that came in. -/
structure MsgsAt (w : World) (A : Option Addr) (n c : Nat) (l : List (MsgD × Option Addr × Nat)) : Prop where
  len : l.length = n
  le : n ≤ c
  max : c ≤ maxLen
  in_ : ∀ x ∈ l, MsgIn w x.2.1 x.2.2 x.1
  cell : ∀ (k : Nat) (h : k < l.length), ∃ a, A = some a ∧ ∀ i u, (l[k].1.cells l[k].2.1 l[k].2.2)[i]? = some u → w.cell? ((a.add (k * 14)).add i) = some u

section
variable {H : Type} {enc : TypeId × Value → H} {w : World} {base : Nat} {spare : Nat → Bool} {held : Bool} {fuel : Nat}

theorem one42 : Try.prog.cellsOf 42 = 1 := by kernel_rfl
theorem three80 : Try.prog.cellsOf 80 = 3 := by kernel_rfl
theorem three41 : Try.prog.cellsOf 41 = 3 := by kernel_rfl
theorem fourteen44 : Try.prog.cellsOf 44 = 14 := by kernel_rfl

theorem i64_of {a : Int} (h : (Lit.int .i64 a).wf = true) : I64 a := i64_bounds h

set_option maxRecDepth 100000 in
theorem entry_cs {cs : List Value} {x : DataW H × List MemPlace} (h : DataW.trod enc Try.prog w base spare held fuel 80 cs = some x) :
    ∃ o : S80, (I64 o.f0 ∧ I64 o.f1 ∧ o.f2.size ≤ maxLen) ∧ cs = [.int .i64 o.f0, .int .i64 o.f1, .string o.f2] := by
  obtain ⟨hl, n, hf⟩ := field_of Try.underlying80 h
  rw [three80] at hl
  obtain ⟨k, h0, b0⟩ := int_field (t := 80) hf 0 _ rfl rfl
  obtain ⟨m, h1, b1⟩ := int_field (t := 80) hf 1 _ rfl rfl
  obtain ⟨s, h2, b2⟩ := str_field (t := 80) hf 2 _ rfl rfl
  match cs, hl with
  | [c0, c1, c2], _ =>
    obtain rfl : c0 = _ := (List.cons.inj (show [c0] = _ from h0)).1
    obtain rfl : c1 = _ := (List.cons.inj (show [c1] = _ from h1)).1
    obtain rfl : c2 = _ := (List.cons.inj (show [c2] = _ from h2)).1
    exact ⟨⟨k, m, s⟩, ⟨i64_of b0, i64_of b1, b2⟩, rfl⟩

theorem entries_open {cs : List Value} {x : DataW H × List MemPlace}
    (h : DataW.trod enc Try.prog w base spare held fuel 42 cs = some x) : ∃ (A : Option Addr) (c : Nat) (l : List S80), cs = [.slice A l.length c] ∧ ListAt w A c l ∧ ∀ x ∈ l, I64 x.f0 ∧ I64 x.f1 ∧ x.f2.size ≤ maxLen := by
  rcases open_slice Try.underlying42 h with ⟨hcs, _⟩ | ⟨a, len, cap, m, n, D, Pl, hcs, _, hl, hm, hmm, _, hi⟩
  · exact ⟨none, 0, [], hcs, ⟨Nat.le_refl _, Nat.zero_le _, rfl, Nat.zero_le _, fun h => absurd h (Nat.lt_irrefl _)⟩, fun x hx => by simp at hx⟩
  · have hle : len ≤ m := by
      rw [hmm]; split
      · exact hl
      · exact Nat.le_refl _
    have hall : ∀ k, k < len → ∃ o : S80, (I64 o.f0 ∧ I64 o.f1 ∧ o.f2.size ≤ maxLen) ∧ ∀ i u, [Value.int .i64 o.f0, .int .i64 o.f1, .string o.f2][i]? = some u → w.cell? (a.add (k * 3 + i)) = some u := by
      intro k hk
      obtain ⟨cs', hc, ht⟩ := hi k (by omega)
      rw [three80] at hc
      obtain ⟨o, ho, rfl⟩ := entry_cs ht
      obtain ⟨_, _, hat⟩ := World.cells?_some hc
      refine ⟨o, ho, fun i u hu => ?_⟩
      have hi3 : i < 3 := by
        have := (List.getElem?_eq_some_iff.1 hu).1
        simpa using this
      have h1 := hat i (by omega)
      rw [Go.Deep.add_add] at h1
      exact h1.trans hu
    obtain ⟨l, h1, h2⟩ := list_of hall
    refine ⟨some a, cap, l, by rw [h1]; exact hcs, ⟨by omega, hm, rfl, by have : cap ≤ 9223372036854775807 := hm; omega, fun _ => ⟨a, rfl, fun j p hp => ?_⟩⟩, fun x hx => ?_⟩
    · obtain ⟨hj, rfl⟩ := List.getElem?_eq_some_iff.1 hp
      exact ⟨_, rfl, k80_mk _ _, (h2 j hj).2⟩
    · obtain ⟨k, hk, rfl⟩ := List.getElem_of_mem hx
      exact (h2 k hk).1

set_option maxRecDepth 100000 in
theorem part_cs {cs : List Value} {x : DataW H × List MemPlace} (h : DataW.trod enc Try.prog w base spare held fuel 41 cs = some x) :
    ∃ (a b : Int) (s : ByteArray), I64 a ∧ I64 b ∧ s.size ≤ maxLen ∧ cs = [.int .i64 a, .int .i64 b, .string s] := by
  obtain ⟨hl, n, hf⟩ := field_of Try.underlying41 h
  rw [three41] at hl
  obtain ⟨k, h0, b0⟩ := int_field (t := 41) hf 0 _ rfl rfl
  obtain ⟨m, h1, b1⟩ := int_field (t := 41) hf 1 _ rfl rfl
  obtain ⟨s, h2, b2⟩ := str_field (t := 41) hf 2 _ rfl rfl
  match cs, hl with
  | [c0, c1, c2], _ =>
    obtain rfl : c0 = _ := (List.cons.inj (show [c0] = _ from h0)).1
    obtain rfl : c1 = _ := (List.cons.inj (show [c1] = _ from h1)).1
    obtain rfl : c2 = _ := (List.cons.inj (show [c2] = _ from h2)).1
    exact ⟨k, m, s, i64_of b0, i64_of b1, b2, rfl⟩

set_option maxRecDepth 100000 in
theorem msg_cs {cs : List Value} {x : DataW H × List MemPlace} (h : DataW.trod enc Try.prog w base spare held fuel 44 cs = some x) :
    ∃ (m : MsgD) (A : Option Addr) (c : Nat), MsgIn w A c m ∧ cs = (m.cells A c).toList := by
  obtain ⟨hl, n, hf⟩ := field_of Try.underlying44 h
  rw [fourteen44] at hl
  obtain ⟨v0, h0, b0⟩ := int_field (t := 44) hf 0 _ rfl rfl
  obtain ⟨v1, h1, b1⟩ := int_field (t := 44) hf 1 _ rfl rfl
  obtain ⟨v2, h2, b2⟩ := int_field (t := 44) hf 2 _ rfl rfl
  obtain ⟨v3, h3, b3⟩ := int_field (t := 44) hf 3 _ rfl rfl
  obtain ⟨v4, h4, b4⟩ := int_field (t := 44) hf 4 _ rfl rfl
  obtain ⟨v5, h5, b5⟩ := int_field (t := 44) hf 5 _ rfl rfl
  obtain ⟨v6, h6, b6⟩ := int_field (t := 44) hf 6 _ rfl rfl
  obtain ⟨v7, h7, b7⟩ := int_field (t := 44) hf 7 _ rfl rfl
  obtain ⟨v8, h8, b8⟩ := int_field (t := 44) hf 8 _ rfl rfl
  obtain ⟨v9, h9, b9⟩ := str_field (t := 44) hf 9 _ rfl rfl
  obtain ⟨y, hy⟩ := hf 10 _ rfl
  obtain ⟨z, hz⟩ := hf 11 _ rfl
  have hy' : DataW.trod enc Try.prog w base spare held n 41 ((cs.drop 10).take (Try.prog.cellsOf 41)) = some y := hy
  have hz' : DataW.trod enc Try.prog w base spare held n 42 ((cs.drop 13).take (Try.prog.cellsOf 42)) = some z := hz
  rw [three41] at hy'
  rw [one42] at hz'
  obtain ⟨p0, p1, p2, q0, q1, q2, hp⟩ := part_cs hy'
  obtain ⟨A, c, l, hl2, hL, hok⟩ := entries_open hz'
  clear hf hy hz hy' hz'
  match cs, hl with
  | [c0, c1, c2, c3, c4, c5, c6, c7, c8, c9, c10, c11, c12, c13], _ =>
    obtain rfl : c0 = _ := (List.cons.inj (show [c0] = _ from h0)).1
    obtain rfl : c1 = _ := (List.cons.inj (show [c1] = _ from h1)).1
    obtain rfl : c2 = _ := (List.cons.inj (show [c2] = _ from h2)).1
    obtain rfl : c3 = _ := (List.cons.inj (show [c3] = _ from h3)).1
    obtain rfl : c4 = _ := (List.cons.inj (show [c4] = _ from h4)).1
    obtain rfl : c5 = _ := (List.cons.inj (show [c5] = _ from h5)).1
    obtain rfl : c6 = _ := (List.cons.inj (show [c6] = _ from h6)).1
    obtain rfl : c7 = _ := (List.cons.inj (show [c7] = _ from h7)).1
    obtain rfl : c8 = _ := (List.cons.inj (show [c8] = _ from h8)).1
    obtain rfl : c9 = _ := (List.cons.inj (show [c9] = _ from h9)).1
    have hp' : [c10, c11, c12] = _ := hp
    obtain ⟨rfl, hp1⟩ := List.cons.inj hp'
    obtain ⟨rfl, hp2⟩ := List.cons.inj hp1
    obtain rfl : c12 = _ := (List.cons.inj hp2).1
    obtain rfl : c13 = _ := (List.cons.inj (show [c13] = _ from hl2)).1
    exact ⟨⟨v0, v1, v2, v3, v4, v5, v6, v7, v8, v9, p0, p1, p2, l⟩, A, c, ⟨⟨i64_of b0, i64_of b1, i64_of b2, i64_of b3, i64_of b4, i64_of b5, i64_of b6, i64_of b7, i64_of b8, b9, q0, q1, q2, hok⟩, ⟨q2, b9, hL⟩⟩, rfl⟩

set_option maxRecDepth 100000 in
theorem msg_open {r : Reach} {b0 : Nat} {v : Value} {d : DataW H} {p : List MemPlace} (hv : Value.okWide Try.prog w r b0 44 v) (h : DataW.Trod enc Try.prog w base spare held 44 v d p) :
    ∃ (m : MsgD) (A : Option Addr) (c : Nat), v = .agg (m.cells A c) ∧ MsgIn w A c m := by
  obtain ⟨cs, hv2, _⟩ := okWide_struct (t := 44) Try.underlying44 hv; subst hv2
  obtain ⟨fuel, hf⟩ := h
  have hf' : DataW.trod enc Try.prog w base spare held fuel 44 cs.toList = some (d, p) := hf
  obtain ⟨m, A, c, hm, hc⟩ := msg_cs hf'
  exact ⟨m, A, c, congrArg Value.agg (Array.toList_inj.1 hc), hm⟩

theorem msgs_open {A : Option Addr} {len cap : Nat} {x : DataW H × List MemPlace}
    (h : DataW.trod enc Try.prog w base spare held fuel 68 (Value.slice A len cap).cells.toList = some x) : ∃ l, MsgsAt w A len cap l := by
  rcases open_slice Try.underlying68 h with ⟨hcs, _⟩ | ⟨a, l, c, m, n, D, Pl, hcs, _, hl, hm, hmm, _, hi⟩
  · simp [Value.cells] at hcs
    obtain ⟨rfl, rfl, rfl⟩ := hcs
    exact ⟨[], rfl, Nat.le_refl _, Nat.zero_le _, fun s hs => by simp at hs, fun k hk => by simp at hk⟩
  · simp [Value.cells] at hcs
    obtain ⟨rfl, rfl, rfl⟩ := hcs
    have hle : len ≤ m := by
      rw [hmm]; split
      · exact hl
      · exact Nat.le_refl _
    have hall : ∀ k, k < len → ∃ o : MsgD × Option Addr × Nat, MsgIn w o.2.1 o.2.2 o.1 ∧ ∀ i u, (o.1.cells o.2.1 o.2.2)[i]? = some u → w.cell? ((a.add (k * 14)).add i) = some u := by
      intro k hk
      obtain ⟨cs', hc, ht⟩ := hi k (by omega)
      rw [fourteen44] at hc
      obtain ⟨m, B, c, ho, e⟩ := msg_cs ht
      obtain ⟨_, _, hat⟩ := World.cells?_some hc
      refine ⟨⟨m, B, c⟩, ho, fun i u hu => ?_⟩
      have hi3 : i < 14 := by
        have := (Array.getElem?_eq_some_iff.1 hu).1
        simpa using this
      have h1 := hat i (by omega)
      rw [h1, e, Array.getElem?_toList]
      exact hu
    obtain ⟨l, h1, h2⟩ := list_of hall
    refine ⟨l, h1, hl, hm, fun o ho => ?_, fun k hk => ⟨a, rfl, (h2 k hk).2⟩⟩
    obtain ⟨k, hk, rfl⟩ := List.getElem_of_mem ho
    exact (h2 k hk).1
end
end Go.Proofs.Ytpegefcpanijhaa
