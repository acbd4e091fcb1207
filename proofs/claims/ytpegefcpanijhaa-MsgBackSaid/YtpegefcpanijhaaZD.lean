/- What the rows over messages share: a message that came in, opened; a slice of messages, opened. The walk of few; a message stored. The zero message; msg.Of without a book. What reading a message's bytes gives, in plain Lean; a message that may be is read again from its bytes. The reference's Same: it answers whether two messages are one. -/
import Derived.Test.YtpegefcpanijhaaZC
import Derived.Test.YtpegefcpanijhaaZK
import Derived.Test.YtpegefcpanijhaaF6
import Derived.Test.YtpegefcpanijhaaZW
section
namespace Go.Proofs.Ytpegefcpanijhaa
set_option linter.unusedVariables false
set_option linter.unusedSimpArgs false
open Go.ChangeShapes Go.WideShapes Go.RowKit Go.Deep PF

/-- A message that came in. -/
structure MsgIn (w : World) (A : Option Addr) (c : Nat) (m : MsgD) : Prop where
  ok : m.Ok
  at_ : MsgAt w A c m

/-- A slice of messages that came in. -/
structure MsgsAt (w : World) (A : Option Addr) (n c : Nat) (l : List (MsgD × Option Addr × Nat)) : Prop where
  len : l.length = n
  le : n ≤ c
  max : c ≤ maxLen
  in_ : ∀ x ∈ l, MsgIn w x.2.1 x.2.2 x.1
  cell : ∀ (k : Nat) (h : k < l.length), ∃ a, A = some a ∧ ∀ i u, (l[k].1.cells l[k].2.1 l[k].2.2)[i]? = some u → w.cell? ((a.add (k * 14)).add i) = some u

section
variable {H : Type} {enc : TypeId × Value → H} {w : World} {base : Nat} {spare : Nat → Bool} {held : Bool} {fuel : Nat}

theorem one42 : Try.prog.cellsOf 42 = 1 := by kernel_rfl
theorem three80 : Try.prog.cellsOf 80 = 3 := by kernel_rfl
theorem three41 : Try.prog.cellsOf 41 = 3 := by kernel_rfl
theorem fourteen44 : Try.prog.cellsOf 44 = 14 := by kernel_rfl

theorem i64_of {a : Int} (h : (Lit.int .i64 a).wf = true) : I64 a := i64_bounds h

set_option maxRecDepth 100000 in
theorem entry_cs {cs : List Value} {x : DataW H × List MemPlace} (h : DataW.trod enc Try.prog w base spare held fuel 80 cs = some x) :
    ∃ o : S80, (I64 o.f0 ∧ I64 o.f1 ∧ o.f2.size ≤ maxLen) ∧ cs = [.int .i64 o.f0, .int .i64 o.f1, .string o.f2] := by
  obtain ⟨hl, n, hf⟩ := field_of Try.underlying80 h
  rw [three80] at hl
  obtain ⟨k, h0, b0⟩ := int_field (t := 80) hf 0 _ rfl rfl
  obtain ⟨m, h1, b1⟩ := int_field (t := 80) hf 1 _ rfl rfl
  obtain ⟨s, h2, b2⟩ := str_field (t := 80) hf 2 _ rfl rfl
  match cs, hl with
  | [c0, c1, c2], _ =>
    obtain rfl : c0 = _ := (List.cons.inj (show [c0] = _ from h0)).1
    obtain rfl : c1 = _ := (List.cons.inj (show [c1] = _ from h1)).1
    obtain rfl : c2 = _ := (List.cons.inj (show [c2] = _ from h2)).1
    exact ⟨⟨k, m, s⟩, ⟨i64_of b0, i64_of b1, b2⟩, rfl⟩

theorem entries_open {cs : List Value} {x : DataW H × List MemPlace}
    (h : DataW.trod enc Try.prog w base spare held fuel 42 cs = some x) : ∃ (A : Option Addr) (c : Nat) (l : List S80), cs = [.slice A l.length c] ∧ ListAt w A c l ∧ ∀ x ∈ l, I64 x.f0 ∧ I64 x.f1 ∧ x.f2.size ≤ maxLen := by
  rcases open_slice Try.underlying42 h with ⟨hcs, _⟩ | ⟨a, len, cap, m, n, D, Pl, hcs, _, hl, hm, hmm, _, hi⟩
  · exact ⟨none, 0, [], hcs, ⟨Nat.le_refl _, Nat.zero_le _, rfl, Nat.zero_le _, fun h => absurd h (Nat.lt_irrefl _)⟩, fun x hx => by simp at hx⟩
  · have hle : len ≤ m := by
      rw [hmm]; split
      · exact hl
      · exact Nat.le_refl _
    have hall : ∀ k, k < len → ∃ o : S80, (I64 o.f0 ∧ I64 o.f1 ∧ o.f2.size ≤ maxLen) ∧ ∀ i u, [Value.int .i64 o.f0, .int .i64 o.f1, .string o.f2][i]? = some u → w.cell? (a.add (k * 3 + i)) = some u := by
      intro k hk
      obtain ⟨cs', hc, ht⟩ := hi k (by omega)
      rw [three80] at hc
      obtain ⟨o, ho, rfl⟩ := entry_cs ht
      obtain ⟨_, _, hat⟩ := World.cells?_some hc
      refine ⟨o, ho, fun i u hu => ?_⟩
      have hi3 : i < 3 := by
        have := (List.getElem?_eq_some_iff.1 hu).1
        simpa using this
      have h1 := hat i (by omega)
      rw [Go.Deep.add_add] at h1
      exact h1.trans hu
    obtain ⟨l, h1, h2⟩ := list_of hall
    refine ⟨some a, cap, l, by rw [h1]; exact hcs, ⟨by omega, hm, rfl, by have : cap ≤ 9223372036854775807 := hm; omega, fun _ => ⟨a, rfl, fun j p hp => ?_⟩⟩, fun x hx => ?_⟩
    · obtain ⟨hj, rfl⟩ := List.getElem?_eq_some_iff.1 hp
      exact ⟨_, rfl, k80_mk _ _, (h2 j hj).2⟩
    · obtain ⟨k, hk, rfl⟩ := List.getElem_of_mem hx
      exact (h2 k hk).1

set_option maxRecDepth 100000 in
theorem part_cs {cs : List Value} {x : DataW H × List MemPlace} (h : DataW.trod enc Try.prog w base spare held fuel 41 cs = some x) :
    ∃ (a b : Int) (s : ByteArray), I64 a ∧ I64 b ∧ s.size ≤ maxLen ∧ cs = [.int .i64 a, .int .i64 b, .string s] := by
  obtain ⟨hl, n, hf⟩ := field_of Try.underlying41 h
  rw [three41] at hl
  obtain ⟨k, h0, b0⟩ := int_field (t := 41) hf 0 _ rfl rfl
  obtain ⟨m, h1, b1⟩ := int_field (t := 41) hf 1 _ rfl rfl
  obtain ⟨s, h2, b2⟩ := str_field (t := 41) hf 2 _ rfl rfl
  match cs, hl with
  | [c0, c1, c2], _ =>
    obtain rfl : c0 = _ := (List.cons.inj (show [c0] = _ from h0)).1
    obtain rfl : c1 = _ := (List.cons.inj (show [c1] = _ from h1)).1
    obtain rfl : c2 = _ := (List.cons.inj (show [c2] = _ from h2)).1
    exact ⟨k, m, s, i64_of b0, i64_of b1, b2, rfl⟩

set_option maxRecDepth 100000 in
theorem msg_cs {cs : List Value} {x : DataW H × List MemPlace} (h : DataW.trod enc Try.prog w base spare held fuel 44 cs = some x) :
    ∃ (m : MsgD) (A : Option Addr) (c : Nat), MsgIn w A c m ∧ cs = (m.cells A c).toList := by
  obtain ⟨hl, n, hf⟩ := field_of Try.underlying44 h
  rw [fourteen44] at hl
  obtain ⟨v0, h0, b0⟩ := int_field (t := 44) hf 0 _ rfl rfl
  obtain ⟨v1, h1, b1⟩ := int_field (t := 44) hf 1 _ rfl rfl
  obtain ⟨v2, h2, b2⟩ := int_field (t := 44) hf 2 _ rfl rfl
  obtain ⟨v3, h3, b3⟩ := int_field (t := 44) hf 3 _ rfl rfl
  obtain ⟨v4, h4, b4⟩ := int_field (t := 44) hf 4 _ rfl rfl
  obtain ⟨v5, h5, b5⟩ := int_field (t := 44) hf 5 _ rfl rfl
  obtain ⟨v6, h6, b6⟩ := int_field (t := 44) hf 6 _ rfl rfl
  obtain ⟨v7, h7, b7⟩ := int_field (t := 44) hf 7 _ rfl rfl
  obtain ⟨v8, h8, b8⟩ := int_field (t := 44) hf 8 _ rfl rfl
  obtain ⟨v9, h9, b9⟩ := str_field (t := 44) hf 9 _ rfl rfl
  obtain ⟨y, hy⟩ := hf 10 _ rfl
  obtain ⟨z, hz⟩ := hf 11 _ rfl
  have hy' : DataW.trod enc Try.prog w base spare held n 41 ((cs.drop 10).take (Try.prog.cellsOf 41)) = some y := hy
  have hz' : DataW.trod enc Try.prog w base spare held n 42 ((cs.drop 13).take (Try.prog.cellsOf 42)) = some z := hz
  rw [three41] at hy'
  rw [one42] at hz'
  obtain ⟨p0, p1, p2, q0, q1, q2, hp⟩ := part_cs hy'
  obtain ⟨A, c, l, hl2, hL, hok⟩ := entries_open hz'
  clear hf hy hz hy' hz'
  match cs, hl with
  | [c0, c1, c2, c3, c4, c5, c6, c7, c8, c9, c10, c11, c12, c13], _ =>
    obtain rfl : c0 = _ := (List.cons.inj (show [c0] = _ from h0)).1
    obtain rfl : c1 = _ := (List.cons.inj (show [c1] = _ from h1)).1
    obtain rfl : c2 = _ := (List.cons.inj (show [c2] = _ from h2)).1
    obtain rfl : c3 = _ := (List.cons.inj (show [c3] = _ from h3)).1
    obtain rfl : c4 = _ := (List.cons.inj (show [c4] = _ from h4)).1
    obtain rfl : c5 = _ := (List.cons.inj (show [c5] = _ from h5)).1
    obtain rfl : c6 = _ := (List.cons.inj (show [c6] = _ from h6)).1
    obtain rfl : c7 = _ := (List.cons.inj (show [c7] = _ from h7)).1
    obtain rfl : c8 = _ := (List.cons.inj (show [c8] = _ from h8)).1
    obtain rfl : c9 = _ := (List.cons.inj (show [c9] = _ from h9)).1
    have hp' : [c10, c11, c12] = _ := hp
    obtain ⟨rfl, hp1⟩ := List.cons.inj hp'
    obtain ⟨rfl, hp2⟩ := List.cons.inj hp1
    obtain rfl : c12 = _ := (List.cons.inj hp2).1
    obtain rfl : c13 = _ := (List.cons.inj (show [c13] = _ from hl2)).1
    exact ⟨⟨v0, v1, v2, v3, v4, v5, v6, v7, v8, v9, p0, p1, p2, l⟩, A, c, ⟨⟨i64_of b0, i64_of b1, i64_of b2, i64_of b3, i64_of b4, i64_of b5, i64_of b6, i64_of b7, i64_of b8, b9, q0, q1, q2, hok⟩, ⟨q2, b9, hL⟩⟩, rfl⟩

set_option maxRecDepth 100000 in
theorem msg_open {r : Reach} {b0 : Nat} {v : Value} {d : DataW H} {p : List MemPlace} (hv : Value.okWide Try.prog w r b0 44 v) (h : DataW.Trod enc Try.prog w base spare held 44 v d p) :
    ∃ (m : MsgD) (A : Option Addr) (c : Nat), v = .agg (m.cells A c) ∧ MsgIn w A c m := by
  obtain ⟨cs, hv2, _⟩ := okWide_struct (t := 44) Try.underlying44 hv; subst hv2
  obtain ⟨fuel, hf⟩ := h
  have hf' : DataW.trod enc Try.prog w base spare held fuel 44 cs.toList = some (d, p) := hf
  obtain ⟨m, A, c, hm, hc⟩ := msg_cs hf'
  exact ⟨m, A, c, congrArg Value.agg (Array.toList_inj.1 hc), hm⟩

theorem msgs_open {A : Option Addr} {len cap : Nat} {x : DataW H × List MemPlace}
    (h : DataW.trod enc Try.prog w base spare held fuel 68 (Value.slice A len cap).cells.toList = some x) : ∃ l, MsgsAt w A len cap l := by
  rcases open_slice Try.underlying68 h with ⟨hcs, _⟩ | ⟨a, l, c, m, n, D, Pl, hcs, _, hl, hm, hmm, _, hi⟩
  · simp [Value.cells] at hcs
    obtain ⟨rfl, rfl, rfl⟩ := hcs
    exact ⟨[], rfl, Nat.le_refl _, Nat.zero_le _, fun s hs => by simp at hs, fun k hk => by simp at hk⟩
  · simp [Value.cells] at hcs
    obtain ⟨rfl, rfl, rfl⟩ := hcs
    have hle : len ≤ m := by
      rw [hmm]; split
      · exact hl
      · exact Nat.le_refl _
    have hall : ∀ k, k < len → ∃ o : MsgD × Option Addr × Nat, MsgIn w o.2.1 o.2.2 o.1 ∧ ∀ i u, (o.1.cells o.2.1 o.2.2)[i]? = some u → w.cell? ((a.add (k * 14)).add i) = some u := by
      intro k hk
      obtain ⟨cs', hc, ht⟩ := hi k (by omega)
      rw [fourteen44] at hc
      obtain ⟨m, B, c, ho, e⟩ := msg_cs ht
      obtain ⟨_, _, hat⟩ := World.cells?_some hc
      refine ⟨⟨m, B, c⟩, ho, fun i u hu => ?_⟩
      have hi3 : i < 14 := by
        have := (Array.getElem?_eq_some_iff.1 hu).1
        simpa using this
      have h1 := hat i (by omega)
      rw [h1, e, Array.getElem?_toList]
      exact hu
    obtain ⟨l, h1, h2⟩ := list_of hall
    refine ⟨l, h1, hl, hm, fun o ho => ?_, fun k hk => ⟨a, rfl, (h2 k hk).2⟩⟩
    obtain ⟨k, hk, rfl⟩ := List.getElem_of_mem ho
    exact (h2 k hk).1
end
end Go.Proofs.Ytpegefcpanijhaa
end
section
namespace Go.Proofs.Ytpegefcpanijhaa
set_option linter.unusedVariables false
set_option linter.unusedSimpArgs false
open Go.RowKit Go.Proofs.YtpegefcpanijhaaW.PrintWords PF

theorem few_calls {w : World} {m : MsgD} {A : Option Addr} {c : Nat} (h : MsgAt w A c m) :
    Calls Try.prog 25 #[.agg (m.cells A c)] w fun e w' => e = .returned (.agg ((cutM m).cells A c)) ∧ Below w.heap.size w w' := by
  rcases Nat.lt_or_ge 80 m.list.length with hl | hl
  · exact few_long h hl
  · have e : cutM m = m := by unfold cutM; rw [List.take_of_length_le hl]
    rw [e]
    exact few_short h hl
theorem cells_one (m : MsgD) (A : Option Addr) (c : Nat) : (m.cells A c).all (·.oneCell') = true := by
  simp [MsgD.cells, Value.oneCell']
theorem below_put {n b : Nat} {w0 w : World} (h : Below n w0 w) (hn : n ≤ b) (cs : Array Value) : Below n w0 (w.setRow b cs) :=
  ⟨h.os, h.tape, h.output, by rw [setRow_size]; exact h.size, fun k hk => (setRow_other w b k cs (by omega)).trans (h.block k hk)⟩
theorem store_msg {ops : Array Oper} {rest : List Oper} {o : Oper} {a : Act} {w : World} {Q : Exit → Act → World → Prop} {b : Nat} {m' : MsgD} {A' : Option Addr} {c' : Nat} {old : Array Value} {x y : Operand} (hgd : o.guard = none) (ho : o.op = .store 44 x y)
    (hx : a.eval x = .pointer (some ⟨b, 0, none⟩)) (hy : a.eval y = .agg (m'.cells A' c')) (hg : w.heap[b]? = some (.cells old 44 (0, 0))) (hold : old.size = 14)
    (hd : o.dst = none) (h : ∀ w2 : World, w2.heap[b]? = some (.cells (m'.cells A' c') 44 (0, 0)) → (∀ {n : Nat} {w0 : World}, Below n w0 w → n ≤ b → Below n w0 w2) → wpList Try.prog ops Q rest a w2) : wpList Try.prog ops Q (o :: rest) a w :=
  wpList_store_row hgd 44 x y ho b (m'.cells A' c') hx hy 44 old hg (by kernel_rfl) hold (cells_one _ _ _)
    (by rw [hd]; exact h _ (setRow_heap w b _ _ _ _ hg) (fun hb hn => below_put hb hn _))
theorem boxed {f : Nat} {args : Array Value} {W w : World} {b : Nat} {m : MsgD} {A : Option Addr} {c : Nat} {r : Ending} (hB : Below W.heap.size W w) (h : MsgBox w b m A c) (hc : Calls Try.prog f args w fun e w' => e = r ∧ Below w.heap.size w w') :
    Calls Try.prog f args w fun e w' => e = r ∧ Below W.heap.size W w' ∧ w'.cell? ⟨b, 0, none⟩ = some (.int .i64 m.kind) ∧ w'.cell? ⟨b, 1, none⟩ = some (.int .i64 m.frm) ∧ w'.cell? ⟨b, 2, none⟩ = some (.int .i64 m.dst) ∧ w'.cell? ⟨b, 3, none⟩ = some (.int .i64 m.ballot) ∧ w'.cell? ⟨b, 4, none⟩ = some (.int .i64 m.gen) ∧ w'.cell? ⟨b, 5, none⟩ = some (.int .i64 m.basis) ∧ w'.cell? ⟨b, 6, none⟩ = some (.int .i64 m.floor) ∧ w'.cell? ⟨b, 7, none⟩ = some (.int .i64 m.top) ∧ w'.cell? ⟨b, 8, none⟩ = some (.int .i64 m.read) ∧ w'.cell? ⟨b, 9, none⟩ = some (.string m.mark) ∧ w'.cell? ⟨b, 10, none⟩ = some (.int .i64 m.pat) ∧ w'.cell? ⟨b, 11, none⟩ = some (.int .i64 m.pof) ∧ w'.cell? ⟨b, 12, none⟩ = some (.string m.ptext) ∧ w'.cell? ⟨b, 13, none⟩ = some (.slice A m.list.length c) :=
  hc.mono fun e w' ⟨he, hb⟩ => ⟨he, hB.trans (hb.mono hB.size), (hb.cell (World.block_lt_of_cell? w _ h.c0)).trans h.c0, (hb.cell (World.block_lt_of_cell? w _ h.c1)).trans h.c1, (hb.cell (World.block_lt_of_cell? w _ h.c2)).trans h.c2, (hb.cell (World.block_lt_of_cell? w _ h.c3)).trans h.c3, (hb.cell (World.block_lt_of_cell? w _ h.c4)).trans h.c4, (hb.cell (World.block_lt_of_cell? w _ h.c5)).trans h.c5, (hb.cell (World.block_lt_of_cell? w _ h.c6)).trans h.c6, (hb.cell (World.block_lt_of_cell? w _ h.c7)).trans h.c7, (hb.cell (World.block_lt_of_cell? w _ h.c8)).trans h.c8, (hb.cell (World.block_lt_of_cell? w _ h.c9)).trans h.c9, (hb.cell (World.block_lt_of_cell? w _ h.c10)).trans h.c10, (hb.cell (World.block_lt_of_cell? w _ h.c11)).trans h.c11, (hb.cell (World.block_lt_of_cell? w _ h.c12)).trans h.c12, (hb.cell (World.block_lt_of_cell? w _ h.c13)).trans h.c13⟩
theorem few_to {W w : World} (hB : Below W.heap.size W w) {m : MsgD} {A : Option Addr} {c : Nat} (h : MsgAt w A c m) :
    Calls Try.prog 25 #[.agg (m.cells A c)] w fun e w' => e = .returned (.agg ((cutM m).cells A c)) ∧ Below W.heap.size W w' :=
  (few_calls h).mono fun e w' ⟨he, hb⟩ => ⟨he, hB.trans (hb.mono hB.size)⟩

end Go.Proofs.Ytpegefcpanijhaa
end
section
namespace Go.Proofs.Ytpegefcpanijhaa
set_option linter.unusedVariables false
set_option linter.unusedSimpArgs false
open Go.RowKit Go.Proofs.YtpegefcpanijhaaW.PrintWords PF

/-- The zero message. -/
def zM : MsgD := ⟨0, 0, 0, 0, 0, 0, 0, 0, 0, ⟨#[]⟩, 0, 0, ⟨#[]⟩, []⟩
theorem zM_at (w : World) : MsgAt w none 0 zM := ⟨by decide, by decide, ⟨by decide, by decide, ⟨rfl, Nat.zero_le _, fun h => absurd h (by decide)⟩⟩⟩

theorem results_cell_tmp {P : Program} {fn : Func} {p q : Tmp} {ty : TypeId} (h : fn.results = #[.cell p ty, .tmp q]) (tmps : Array Value) (w : World) (g : Nat) (t : TypeId) (cs : Array Value) (fr : Nat × Nat) (fs : Array Field)
    (hp : tmps.getD p undef = .pointer (some ⟨g, 0, none⟩)) (hg : w.heap[g]? = some (.cells cs t fr))
    (hu : P.underlying ty = some (.struct fs)) (hi : (P.info? ty).map (·.size) = some cs.size) :
    (results fn tmps).run P w = .ok (.tuple #[.agg cs, tmps.getD q undef]) w := by
  have hp' : tmps[p]?.getD undef = .pointer (some ⟨g, 0, none⟩) := by simpa using hp
  simp [results, h, hp', asAddr, run_loadVar_row w g t ty cs fr _ hg hu rfl hi]

theorem ret_row2 {fn : Func} {R : Ending → World → Prop} {tm : Array Value} {w : World} {p q : Tmp} {g : Nat} {ty t : TypeId} {cs : Array Value} {fr : Nat × Nat} {fs : Array Field} (h : fn.results = #[.cell p ty, .tmp q]) (hp : tm.getD p undef = .pointer (some ⟨g, 0, none⟩)) (hg : w.heap[g]? = some (.cells cs t fr))
    (hu : Try.prog.underlying ty = some (.struct fs)) (hi : (Try.prog.info? ty).map (·.size) = some cs.size) (hR : R (.returned (.tuple #[.agg cs, tm.getD q undef])) w) : bodyPost Try.prog fn R .ret { tmps := tm, defers := [] } w :=
  bodyPost_ret (results_cell_tmp h tm w g t cs fr _ hp hg hu hi) rfl hR

theorem puts14 {w : World} {b : Nat} {t : TypeId} {u0 u1 u2 u3 u4 u5 u6 u7 u8 u9 u10 u11 u12 u13 : Value} (h : w.heap[b]? = some (.cells #[u0, u1, u2, u3, u4, u5, u6, u7, u8, u9, u10, u11, u12, u13] t (0, 0))) (v0 v1 v2 v3 v4 v5 v6 v7 v8 v9 v10 v11 v12 v13 : Value) :
    ((((((((((((((w.setCell ⟨b, 0, none⟩ v0).setCell ⟨b, 1, none⟩ v1).setCell ⟨b, 2, none⟩ v2).setCell ⟨b, 3, none⟩ v3).setCell ⟨b, 4, none⟩ v4).setCell ⟨b, 5, none⟩ v5).setCell ⟨b, 6, none⟩ v6).setCell ⟨b, 7, none⟩ v7).setCell ⟨b, 8, none⟩ v8).setCell ⟨b, 9, none⟩ v9).setCell ⟨b, 10, none⟩ v10).setCell ⟨b, 11, none⟩ v11).setCell ⟨b, 12, none⟩ v12).setCell ⟨b, 13, none⟩ v13).heap[b]? = some (.cells #[v0, v1, v2, v3, v4, v5, v6, v7, v8, v9, v10, v11, v12, v13] t (0, 0)) := blk_put (cs' := #[v0, v1, v2, v3, v4, v5, v6, v7, v8, v9, v10, v11, v12, v13]) (blk_put (cs' := #[v0, v1, v2, v3, v4, v5, v6, v7, v8, v9, v10, v11, v12, u13]) (blk_put (cs' := #[v0, v1, v2, v3, v4, v5, v6, v7, v8, v9, v10, v11, u12, u13]) (blk_put (cs' := #[v0, v1, v2, v3, v4, v5, v6, v7, v8, v9, v10, u11, u12, u13]) (blk_put (cs' := #[v0, v1, v2, v3, v4, v5, v6, v7, v8, v9, u10, u11, u12, u13]) (blk_put (cs' := #[v0, v1, v2, v3, v4, v5, v6, v7, v8, u9, u10, u11, u12, u13]) (blk_put (cs' := #[v0, v1, v2, v3, v4, v5, v6, v7, u8, u9, u10, u11, u12, u13]) (blk_put (cs' := #[v0, v1, v2, v3, v4, v5, v6, u7, u8, u9, u10, u11, u12, u13]) (blk_put (cs' := #[v0, v1, v2, v3, v4, v5, u6, u7, u8, u9, u10, u11, u12, u13]) (blk_put (cs' := #[v0, v1, v2, v3, v4, u5, u6, u7, u8, u9, u10, u11, u12, u13]) (blk_put (cs' := #[v0, v1, v2, v3, u4, u5, u6, u7, u8, u9, u10, u11, u12, u13]) (blk_put (cs' := #[v0, v1, v2, u3, u4, u5, u6, u7, u8, u9, u10, u11, u12, u13]) (blk_put (cs' := #[v0, v1, u2, u3, u4, u5, u6, u7, u8, u9, u10, u11, u12, u13]) (blk_put (cs' := #[v0, u1, u2, u3, u4, u5, u6, u7, u8, u9, u10, u11, u12, u13]) (h) 0 _ rfl) 1 _ rfl) 2 _ rfl) 3 _ rfl) 4 _ rfl) 5 _ rfl) 6 _ rfl) 7 _ rfl) 8 _ rfl) 9 _ rfl) 10 _ rfl) 11 _ rfl) 12 _ rfl) 13 _ rfl
theorem below14 {w0 w : World} {b n : Nat} (h : Below n w0 w) (hn : n ≤ b) (v0 v1 v2 v3 v4 v5 v6 v7 v8 v9 v10 v11 v12 v13 : Value) : Below n w0 ((((((((((((((w.setCell ⟨b, 0, none⟩ v0).setCell ⟨b, 1, none⟩ v1).setCell ⟨b, 2, none⟩ v2).setCell ⟨b, 3, none⟩ v3).setCell ⟨b, 4, none⟩ v4).setCell ⟨b, 5, none⟩ v5).setCell ⟨b, 6, none⟩ v6).setCell ⟨b, 7, none⟩ v7).setCell ⟨b, 8, none⟩ v8).setCell ⟨b, 9, none⟩ v9).setCell ⟨b, 10, none⟩ v10).setCell ⟨b, 11, none⟩ v11).setCell ⟨b, 12, none⟩ v12).setCell ⟨b, 13, none⟩ v13) := Below.setCell (Below.setCell (Below.setCell (Below.setCell (Below.setCell (Below.setCell (Below.setCell (Below.setCell (Below.setCell (Below.setCell (Below.setCell (Below.setCell (Below.setCell (Below.setCell (h) hn _) hn _) hn _) hn _) hn _) hn _) hn _) hn _) hn _) hn _) hn _) hn _) hn _) hn _

set_option maxHeartbeats 1000000 in
theorem Of_short (w : World) (bv : Value) (s : ByteArray) (hs : s.size < 32) :
    Calls Try.prog 27 #[bv, .string s] w fun e w' => e = .returned (.tuple #[.agg (zM.cells none 0), .int .i64 3]) ∧ Below w.heap.size w w' := by
  have h1 : ((s.size : Int) - 32 < 0) := by omega
  go_enter Try.func27, Try.ntmps27
  go_wp2_with fail
  refine ret_row2 (p := 4) (q := 5) (g := w.heap.size) rfl rfl (heap_alloc_new _ _) Try.underlying44 (by kernel_rfl) ?_
  exact ⟨rfl, (Below.refl _ _).alloc (Nat.le_refl _) _⟩

set_option maxHeartbeats 1000000 in
theorem Of_nil (w : World) (s : ByteArray) (hs : ¬ s.size < 32) (hm : s.size ≤ maxLen) :
    Calls Try.prog 27 #[.pointer none, .string s] w fun e w' => e = .returned (.tuple #[.agg (zM.cells none 0), .int .i64 6]) ∧ Below w.heap.size w w' := by
  obtain ⟨n, hn⟩ : ∃ n : Nat, s.size = n + 32 := ⟨s.size - 32, by omega⟩
  have h1 : (s.size : Int) - 32 = (n : Int) := by omega
  have h2 : ¬ ((n : Int) < 0) := by omega
  have z1 : (n : Int) ≤ (s.size : Int) := by omega
  have z2 : (0 : Int) ≤ (n : Int) := by omega
  unfold maxLen at hm
  clear hn
  go_enter Try.func27, Try.ntmps27
  go_wp2_with fail
  go_quiet ((go_at_call 21; refine Calls.quiet_of_same ((is_nil _ _ _).mono fun e w' h => ⟨h.1, h.2.symm⟩)))
  go_wp2_with fail
  have hb0 : Below w.heap.size w (w.alloc (.cells (zM.cells none 0) 44)) := (Below.refl _ _).alloc (Nat.le_refl _) _
  refine ret_row2 (p := 4) (q := 5) (g := w.heap.size) rfl rfl (puts14 (blk_drewN (heap_alloc_new w _) _) _ _ _ _ _ _ _ _ _ _ _ _ _ _) Try.underlying44 (by kernel_rfl) ?_
  exact ⟨rfl, below14 (pw_below_drewN hb0 _) (Nat.le_refl _) _ _ _ _ _ _ _ _ _ _ _ _ _ _⟩

end Go.Proofs.Ytpegefcpanijhaa
end
section
namespace Go.Proofs.Ytpegefcpanijhaa
set_option linter.unusedVariables false
set_option linter.unusedSimpArgs false
open PF

/-- What is left to read, and the fault. -/
abbrev Rd := List UInt8 × Int

def numA : Nat → Nat → List UInt8 → Int × Rd
  | _, _, [] => (0, [], 3)
  | i, n, c :: r => if (i = 8 ∧ 63 < c.toNat) ∨ (0 < i ∧ c.toNat = 0) then (0, r, 5)
      else if c.toNat < 128 then (((n + c.toNat % 128 * 128 ^ i : Nat) : Int), r, 0)
      else numA (i + 1) (n + c.toNat % 128 * 128 ^ i) r
def numR (x : Rd) : Int × Rd := if x.2 = 0 then numA 0 0 x.1 else (0, x)
def rawR (n : Int) (x : Rd) : ByteArray × Rd :=
  if x.2 = 0 then (if n < 0 then (⟨#[]⟩, x.1, 1) else if (x.1.length : Int) < n then (⟨#[]⟩, x.1, 3) else (⟨(x.1.take n.toNat).toArray⟩, x.1.drop n.toNat, 0)) else (⟨#[]⟩, x)
def countR (most : Int) (x : Rd) : Int × Rd := if (numR x).2.2 = 0 ∧ most < (numR x).1 then (0, (numR x).2.1, 4) else numR x
def textR (most : Int) (x : Rd) : ByteArray × Rd := rawR (countR most x).1 (countR most x).2
def endR (x : Rd) : Int := if x.2 = 0 ∧ x.1 ≠ [] then 4 else x.2
def entR (x : Rd) : S80 × Rd := (⟨(numR x).1, (numR (numR x).2).1, (rawR 32 (numR (numR x).2).2).1⟩, (rawR 32 (numR (numR x).2).2).2)
def listR : Nat → List S80 → Rd → List S80 × Rd
  | 0, l, x => (l, x)
  | k + 1, l, x => listR k (l ++ [(entR x).1]) (entR x).2
def stepR (a : MsgD × Rd) : Fd → MsgD × Rd
  | .b => ({ a.1 with ballot := (numR a.2).1 }, (numR a.2).2)
  | .g => ({ a.1 with gen := (numR a.2).1 }, (numR a.2).2)
  | .s => ({ a.1 with basis := (numR a.2).1 }, (numR a.2).2)
  | .f => ({ a.1 with floor := (numR a.2).1 }, (numR a.2).2)
  | .t => ({ a.1 with top := (numR a.2).1 }, (numR a.2).2)
  | .r => ({ a.1 with read := (numR a.2).1 }, (numR a.2).2)
  | .m => ({ a.1 with mark := (rawR 32 a.2).1 }, (rawR 32 a.2).2)
  | .p => ({ a.1 with pat := (numR a.2).1, pof := (numR (numR a.2).2).1, ptext := (textR 1024 (numR (numR a.2).2).2).1 }, (textR 1024 (numR (numR a.2).2).2).2)
  | .l => ({ a.1 with list := (listR (countR 64 a.2).1.toNat a.1.list (countR 64 a.2).2).1 }, (listR (countR 64 a.2).1.toNat a.1.list (countR 64 a.2).2).2)
/-- A message's head. -/
def headM (k f d : Int) : MsgD := ⟨k, f, d, 0, 0, 0, 0, 0, 0, ⟨#[]⟩, 0, 0, ⟨#[]⟩, []⟩
def headR (r : List UInt8) : MsgD × Rd :=
  (headM (numR (r, 0)).1 (numR (numR (r, 0)).2).1 (numR (numR (numR (r, 0)).2).2).1, (numR (numR (numR (r, 0)).2).2).2)
def msgR (r : List UInt8) : MsgD × Rd := (fieldsOf (headR r).1.kind).foldl stepR (headR r)
/-- What message any bytes are, or why they are none. -/
def readD (r : List UInt8) : MsgD × Int :=
  if endR (msgR r).2 = 0 then (if rightB (msgR r).1 then ((msgR r).1, 0) else (headM 0 0 0, 5)) else (headM 0 0 0, endR (msgR r).2)

theorem numA_num : ∀ (k i n q : Nat) (rest : List UInt8), i + k = 9 → (i = 0 ∨ 0 < q) → q * 128 ^ i < 2 ^ 62 →
    numA i n (numF k q ++ rest) = (((n + q * 128 ^ i : Nat) : Int), rest, 0) := by
  intro k
  induction k with
  | zero =>
    intro i n q rest h1 h2 h3
    obtain rfl : i = 9 := by omega
    simp at h3 h2
    omega
  | succ k ih =>
    intro i n q rest h1 h2 h3
    by_cases hq : 127 < q
    · rw [numF_more hq, List.cons_append]
      have hc : (q % 128 + 128).toUInt8.toNat = q % 128 + 128 := toUInt8_small (by omega)
      have hi8 : i ≠ 8 := by
        intro h8
        subst h8
        simp at h3
        omega
      have hm : (q % 128 + 128) % 128 = q % 128 := by omega
      unfold numA
      rw [hc, if_neg (by omega), if_neg (by omega), hm]
      have hp : 128 ^ (i + 1) = 128 ^ i * 128 := Nat.pow_succ ..
      have e : q * 128 ^ i = q / 128 * (128 ^ i * 128) + q % 128 * 128 ^ i := by
        conv => lhs; rw [← Nat.div_add_mod q 128]
        rw [Nat.add_mul]
        congr 1
        rw [Nat.mul_comm (128 ^ i) 128, ← Nat.mul_assoc, Nat.mul_comm (q / 128) 128]
      rw [ih (i + 1) _ (q / 128) rest (by omega) (.inr (by omega)) (by rw [hp]; omega), hp]
      congr 2
      omega
    · rw [numF_last hq, List.cons_append]
      have hc : q.toUInt8.toNat = q := toUInt8_small (by omega)
      have hm : q % 128 = q := by omega
      unfold numA
      rw [hc, if_neg, if_pos (by omega), hm]
      · rfl
      · rintro (⟨rfl, h⟩ | ⟨h, h'⟩)
        · simp at h3
          omega
        · omega

theorem numR_num {q : Int} (h0 : 0 ≤ q) (h1 : q ≤ 4611686018427387903) (rest : List UInt8) : numR (numL q.toNat ++ rest, 0) = (q, rest, 0) := by
  show (if (0 : Int) = 0 then numA 0 0 (numF 9 q.toNat ++ rest) else _) = _
  rw [if_pos rfl, numA_num 9 0 0 q.toNat rest rfl (.inl rfl) (by simp; omega)]
  simp
  omega
theorem rawR_of (s : ByteArray) (n : Int) (hn : n = s.size) (rest : List UInt8) : rawR n (s.data.toList ++ rest, 0) = (s, rest, 0) := by
  have hl : s.data.toList.length = s.size := by rw [Array.length_toList]; rfl
  unfold rawR
  rw [if_pos rfl, if_neg (by omega), if_neg (by rw [List.length_append]; omega)]
  have ht : n.toNat = s.data.toList.length := by omega
  rw [ht, List.take_left, List.drop_left]
theorem countR_of {q most : Int} (h0 : 0 ≤ q) (h1 : q ≤ most) (h2 : q ≤ 4611686018427387903) (rest : List UInt8) : countR most (numL q.toNat ++ rest, 0) = (q, rest, 0) := by
  unfold countR
  rw [numR_num h0 h2, if_neg]
  rintro ⟨-, h⟩
  simp at h
  omega
theorem textR_of (s : ByteArray) {most : Int} (h1 : (s.size : Int) ≤ most) (h2 : (s.size : Int) ≤ 4611686018427387903) (rest : List UInt8) : textR most (numL s.size ++ (s.data.toList ++ rest), 0) = (s, rest, 0) := by
  have := countR_of (q := (s.size : Int)) (Int.natCast_nonneg _) h1 h2 (s.data.toList ++ rest)
  rw [Int.toNat_natCast] at this
  unfold textR
  rw [this]
  exact rawR_of s _ rfl rest
theorem entR_of {x : S80} (h : 0 ≤ x.f0 ∧ x.f0 ≤ 4611686018427387903 ∧ 0 ≤ x.f1 ∧ x.f1 ≤ 4611686018427387903 ∧ x.f2.size = 32) (rest : List UInt8) : entR (entL x ++ rest, 0) = (x, rest, 0) := by
  obtain ⟨h0, h1, h2, h3, h4⟩ := h
  unfold entR entL
  rw [List.append_assoc, List.append_assoc, numR_num h0 h1, numR_num h2 h3, rawR_of x.f2 32 (by omega)]
theorem listR_of : ∀ (l acc : List S80), (∀ x ∈ l, 0 ≤ x.f0 ∧ x.f0 ≤ 4611686018427387903 ∧ 0 ≤ x.f1 ∧ x.f1 ≤ 4611686018427387903 ∧ x.f2.size = 32) → ∀ rest : List UInt8,
    listR l.length acc (l.flatMap entL ++ rest, 0) = (acc ++ l, rest, 0) := by
  intro l
  induction l with
  | nil => intro acc h rest; simp [listR]
  | cons x l ih =>
    intro acc h rest
    show listR l.length (acc ++ [(entR (_, 0)).1]) (entR (_, 0)).2 = _
    rw [List.flatMap_cons, List.append_assoc, entR_of (h x (by simp)), ih _ (fun y hy => h y (by simp [hy]))]
    simp

/-- A message with a field of another's. -/
def putF (a m : MsgD) : Fd → MsgD
  | .b => { a with ballot := m.ballot }
  | .g => { a with gen := m.gen }
  | .s => { a with basis := m.basis }
  | .f => { a with floor := m.floor }
  | .t => { a with top := m.top }
  | .r => { a with read := m.read }
  | .m => { a with mark := m.mark }
  | .p => { a with pat := m.pat, pof := m.pof, ptext := m.ptext }
  | .l => { a with list := m.list }
/-- A message without the fields that its kind has not. -/
def cleanD (m : MsgD) : MsgD := (fieldsOf m.kind).foldl (fun a x => putF a m x) (headM m.kind m.frm m.dst)

theorem stepR_of {m : MsgD} (h : m.Fit) (a : MsgD) (x : Fd) (hx : x ∈ fieldsOf m.kind) (ha : x = .l → a.list = []) (rest : List UInt8) : stepR (a, (fieldL m x ++ rest, 0)) x = (putF a m x, (rest, 0)) := by
  cases x
  case b => have : 0 ≤ m.ballot ∧ m.ballot ≤ 4611686018427387903 := h.num .b (by simp [six]) hx; simp only [stepR, fieldL, putF, numR_num this.1 this.2]
  case g => have : 0 ≤ m.gen ∧ m.gen ≤ 4611686018427387903 := h.num .g (by simp [six]) hx; simp only [stepR, fieldL, putF, numR_num this.1 this.2]
  case s => have : 0 ≤ m.basis ∧ m.basis ≤ 4611686018427387903 := h.num .s (by simp [six]) hx; simp only [stepR, fieldL, putF, numR_num this.1 this.2]
  case f => have : 0 ≤ m.floor ∧ m.floor ≤ 4611686018427387903 := h.num .f (by simp [six]) hx; simp only [stepR, fieldL, putF, numR_num this.1 this.2]
  case t => have : 0 ≤ m.top ∧ m.top ≤ 4611686018427387903 := h.num .t (by simp [six]) hx; simp only [stepR, fieldL, putF, numR_num this.1 this.2]
  case r => have : 0 ≤ m.read ∧ m.read ≤ 4611686018427387903 := h.num .r (by simp [six]) hx; simp only [stepR, fieldL, putF, numR_num this.1 this.2]
  case m =>
    have := h.mark hx
    simp only [stepR, fieldL, putF, rawR_of m.mark 32 (by omega)]
  case p =>
    obtain ⟨h1, h2, h3, h4, h5⟩ := h.part hx
    simp only [stepR, fieldL, putF, List.append_assoc, numR_num h1 (by omega : m.pat ≤ 4611686018427387903), numR_num h3 (by omega : m.pof ≤ 4611686018427387903), textR_of m.ptext (most := 1024) (by omega) (by omega)]
  case l =>
    obtain ⟨h1, h2⟩ := h.list hx
    have hc := countR_of (q := (m.list.length : Int)) (most := 64) (Int.natCast_nonneg _) (by omega) (by omega) (m.list.flatMap entL ++ rest)
    rw [Int.toNat_natCast] at hc
    simp only [stepR, fieldL, putF, List.append_assoc, hc, Int.toNat_natCast, ha rfl, listR_of m.list [] h2, List.nil_append]

theorem fold_of {m : MsgD} (h : m.Fit) : ∀ (l : List Fd) (a : MsgD), l.Nodup → (∀ x ∈ l, x ∈ fieldsOf m.kind) → (Fd.l ∈ l → a.list = []) → ∀ rest : List UInt8,
    l.foldl stepR (a, (l.flatMap (fieldL m) ++ rest, 0)) = (l.foldl (fun a x => putF a m x) a, (rest, 0)) := by
  intro l
  induction l with
  | nil => intro a _ _ _ rest; rfl
  | cons x l ih =>
    intro a hn hx ha rest
    rw [List.foldl_cons, List.flatMap_cons, List.append_assoc, stepR_of h a x (hx x (by simp)) (fun e => ha (by simp [e])), List.foldl_cons]
    have hnn := List.nodup_cons.1 hn
    refine ih _ hnn.2 (fun y hy => hx y (by simp [hy])) (fun hl => ?_) rest
    have hxl : x ≠ .l := fun e => hnn.1 (e ▸ hl)
    have := ha (by simp [hl])
    cases x <;> first | exact this | exact absurd rfl hxl

theorem fields_nodup (k : Int) : (fieldsOf k).Nodup := by
  rcases kind_cases k with rfl | rfl | rfl | rfl | rfl | rfl | rfl | rfl | rfl | rfl | rfl | rfl | rfl | rfl | rfl | rfl | rfl | h' <;> first | decide | (rw [h'.1]; exact List.nodup_nil)

theorem kind_le (k : Int) (h : fieldsOf k ≠ []) : 0 ≤ k ∧ k ≤ 17 := by
  rcases kind_cases k with rfl | rfl | rfl | rfl | rfl | rfl | rfl | rfl | rfl | rfl | rfl | rfl | rfl | rfl | rfl | rfl | rfl | h' <;> first | decide | exact absurd h'.1 h

theorem clean_head {m : MsgD} : ∀ (l : List Fd) (a : MsgD), (l.foldl (fun a x => putF a m x) a).kind = a.kind := by
  intro l
  induction l with
  | nil => intro a; rfl
  | cons x l ih => intro a; rw [List.foldl_cons, ih]; cases x <;> rfl

theorem msgR_of {m : MsgD} (h : m.Fit) : msgR (bodyL m) = (cleanD m, ([], 0)) := by
  have hk := kind_le m.kind h.some_
  have e : bodyL m = numL m.kind.toNat ++ (numL m.frm.toNat ++ (numL m.dst.toNat ++ ((fieldsOf m.kind).flatMap (fieldL m) ++ []))) := by
    unfold bodyL preL
    rw [List.take_length]
    simp
  have hh : headR (bodyL m) = (headM m.kind m.frm m.dst, ((fieldsOf m.kind).flatMap (fieldL m) ++ [], 0)) := by
    have := h.frm
    have := h.dst
    unfold headR
    rw [e, numR_num hk.1 (by omega), numR_num h.frm.1 (by omega), numR_num h.dst.1 (by omega)]
  unfold msgR
  rw [hh]
  exact fold_of h _ _ (fields_nodup _) (fun x hx => hx) (fun _ => rfl) []
theorem right_zero {m : MsgD} (h : rightB m = true) : (∀ x, x ∈ six → x ∉ fieldsOf m.kind → m.num x = 0) ∧ (Fd.m ∉ fieldsOf m.kind → m.mark = ⟨#[]⟩) ∧
    (Fd.p ∉ fieldsOf m.kind → m.pat = 0 ∧ m.pof = 0 ∧ m.ptext = ⟨#[]⟩) ∧ (Fd.l ∉ fieldsOf m.kind → m.list = []) := by
  simp only [rightB, Bool.and_eq_true] at h
  obtain ⟨⟨⟨⟨h1, h2⟩, h3⟩, h4⟩, h5⟩ := h
  refine ⟨?_, ?_, ?_, ?_⟩
  · intro x hx hn
    simp only [numsB, Bool.and_eq_true] at h2
    obtain ⟨⟨⟨⟨⟨a1, a2⟩, a3⟩, a4⟩, a5⟩, a6⟩ := h2
    have hf : hasB m.kind x = false := by simp [hasB, hn]
    simp only [six, List.mem_cons, List.not_mem_nil, or_false] at hx
    rcases hx with rfl | rfl | rfl | rfl | rfl | rfl <;> simp_all [numB, MsgD.num]
  · intro hn
    have hf : hasB m.kind .m = false := by simp [hasB, hn]
    simp [markB, hf] at h3
    exact h3
  · intro hn
    have hf : hasB m.kind .p = false := by simp [hasB, hn]
    simp [partB, hf] at h4
    exact ⟨h4.1.1, h4.1.2, h4.2⟩
  · intro hn
    have hf : hasB m.kind .l = false := by simp [hasB, hn]
    simp [listB, hf] at h5
    exact h5

theorem clean_right {m : MsgD} (h : rightB m = true) : cleanD m = m := by
  have hk := (MsgD.Fit.of h).some_
  obtain ⟨hn, hm, hp, hl⟩ := right_zero h
  clear h
  have b := hn .b (by simp [six])
  have g := hn .g (by simp [six])
  have s := hn .s (by simp [six])
  have f := hn .f (by simp [six])
  have t := hn .t (by simp [six])
  have r := hn .r (by simp [six])
  clear hn
  cases m with
  | mk kind frm dst ballot gen basis floor top read mark pat pof ptext list =>
  simp only [MsgD.num] at b g s f t r hm hp hl hk
  rcases kind_cases kind with rfl | rfl | rfl | rfl | rfl | rfl | rfl | rfl | rfl | rfl | rfl | rfl | rfl | rfl | rfl | rfl | rfl | h'
  case inr.inr.inr.inr.inr.inr.inr.inr.inr.inr.inr.inr.inr.inr.inr.inr.inr => exact absurd h'.1 hk
  all_goals
    simp [fieldsOf] at b g s f t r hm hp hl
    simp [cleanD, fieldsOf, putF, headM, *]

theorem readD_of {m : MsgD} (h : rightB m = true) : readD (bodyL m) = (m, 0) := by
  unfold readD
  rw [msgR_of (MsgD.Fit.of h), clean_right h]
  simp [endR, h]
theorem body_inj {m n : MsgD} (hm : rightB m = true) (hn : rightB n = true) (h : bodyL m = bodyL n) : m = n := by
  have := readD_of hm
  rw [h, readD_of hn] at this
  exact (Prod.mk.inj this).1.symm
end Go.Proofs.Ytpegefcpanijhaa
end
section
namespace Go.Proofs.Ytpegefcpanijhaa
set_option linter.unusedVariables false
set_option linter.unusedSimpArgs false
open Go.RowKit Go.Proofs.YtpegefcpanijhaaW.PrintWords PF

/-- Are two messages one? -/
noncomputable def sameD (a b : MsgD) : Bool := @decide (a = b) (Classical.propDecidable _)
theorem sameD_true {a b : MsgD} (h : a = b) : sameD a b = true := @decide_eq_true _ (Classical.propDecidable _) h
theorem sameD_false {a b : MsgD} (h : ¬ a = b) : sameD a b = false := @decide_eq_false _ (Classical.propDecidable _) h
theorem sameD_iff {a b : MsgD} : sameD a b = true ↔ a = b := ⟨fun h => @of_decide_eq_true _ (Classical.propDecidable _) h, sameD_true⟩

abbrev sf (k : Nat) (m n : MsgD) : Option Bool := barqueref17_Same.f k m.kind m.frm m.dst m.ballot m.gen m.basis m.floor m.top m.read m.mark m.pat m.pof m.ptext m.list n.kind n.frm n.dst n.ballot n.gen n.basis n.floor n.top n.read n.mark n.pat n.pof n.ptext n.list
abbrev sj (k : Nat) (x : Bool) (m n : MsgD) : Option Bool := barqueref17_Same.j0 k x m.kind m.frm m.dst m.ballot m.gen m.basis m.floor m.top m.read m.mark m.pat m.pof m.ptext m.list n.kind n.frm n.dst n.ballot n.gen n.basis n.floor n.top n.read n.mark n.pat n.pof n.ptext n.list
abbrev sl (k : Nat) (i : Int) (m n : MsgD) : Option Bool := barqueref17_Same.l0 k ⟨#[66, 71, 83, 70, 84, 82]⟩ i m.kind m.frm m.dst m.ballot m.gen m.basis m.floor m.top m.read m.mark m.pat m.pof m.ptext m.list n.kind n.frm n.dst n.ballot n.gen n.basis n.floor n.top n.read n.mark n.pat n.pof n.ptext n.list
abbrev se (k : Nat) (i : Int) (m n : MsgD) : Option Bool := barqueref17_Same.l1 k i m.kind m.frm m.dst m.ballot m.gen m.basis m.floor m.top m.read m.mark m.pat m.pof m.ptext m.list n.kind n.frm n.dst n.ballot n.gen n.basis n.floor n.top n.read n.mark n.pat n.pof n.ptext n.list

theorem sj_eq (k : Nat) (x : Bool) (m n : MsgD) : sj (k + 1) x m n = if x = true then some false else sl k 0 m n := by
  unfold sj
  rw [barqueref17_Same.j0]
theorem w64 {x : Int} (h0 : -9223372036854775808 ≤ x) (h1 : x ≤ 9223372036854775807) : wrap64 x = x := by
  unfold wrap64
  omega
theorem ent_bad (x y : S80) : (!((x.f0) == (y.f0)) || (!((x.f1) == (y.f1)) || (!((x.f2.toList) == (y.f2.toList))))) = true ↔ x ≠ y := by
  obtain ⟨x0, x1, x2⟩ := x
  obtain ⟨y0, y1, y2⟩ := y
  simp only [beq_toList, Bool.or_eq_true, Bool.not_eq_true', beq_eq_false_iff_ne, decide_eq_false_iff_not, ne_eq, S80.mk.injEq]
  by_cases h0 : x0 = y0 <;> by_cases h1 : x1 = y1 <;> by_cases h2 : x2 = y2 <;> simp [h0, h1, h2]

theorem se_val (m n : MsgD) (hl : m.list.length = n.list.length) (hm : m.list.length ≤ 2 ^ 63 - 1) : ∀ (d j fuel : Nat), j + d = m.list.length → d < fuel → (∀ i, i < j → m.list[i]? = n.list[i]?) →
    (m.list = n.list → se fuel j m n = some true) ∧ (m.list ≠ n.list → se fuel j m n = some false) := by
  intro d
  induction d with
  | zero =>
    intro j fuel h1 h2 h3
    have he : m.list = n.list := by
      apply List.ext_getElem?
      intro i
      rcases Nat.lt_or_ge i j with hi | hi
      · exact h3 i hi
      · rw [List.getElem?_eq_none (by omega), List.getElem?_eq_none (by omega)]
    obtain ⟨fuel, rfl⟩ : ∃ f, fuel = f + 1 := ⟨fuel - 1, by omega⟩
    refine ⟨fun _ => ?_, fun h => absurd he h⟩
    unfold se barqueref17_Same.l1
    rw [if_neg (by omega)]
  | succ d ih =>
    intro j fuel h1 h2 h3
    obtain ⟨fuel, rfl⟩ : ∃ f, fuel = f + 1 := ⟨fuel - 1, by omega⟩
    have hw : wrap64 ((j : Int) + 1) = ((j + 1 : Nat) : Int) := by
      rw [w64 (by omega) (by omega)]
      omega
    have e1 : m.list[j]? = some (rd_T80 m.list (j : Int)) := by
      unfold rd_T80
      rw [Int.toNat_natCast, List.getD_eq_getElem?_getD, List.getElem?_eq_getElem (by omega)]
      rfl
    have e2 : n.list[j]? = some (rd_T80 n.list (j : Int)) := by
      unfold rd_T80
      rw [Int.toNat_natCast, List.getD_eq_getElem?_getD, List.getElem?_eq_getElem (by omega)]
      rfl
    by_cases hx : rd_T80 m.list (j : Int) = rd_T80 n.list (j : Int)
    · have hb := mt (ent_bad (rd_T80 m.list (j : Int)) (rd_T80 n.list (j : Int))).1 (fun h => h hx)
      have hs : se (fuel + 1) (j : Int) m n = se fuel ((j + 1 : Nat) : Int) m n := by
        conv => lhs; unfold se barqueref17_Same.l1
        rw [if_pos (by omega), if_pos (by omega), if_pos (by omega), if_neg hb, hw]
      rw [hs]
      refine ih (j + 1) fuel (by omega) (by omega) (fun i hi => ?_)
      rcases Nat.lt_or_ge i j with h | h
      · exact h3 i h
      · obtain rfl : i = j := by omega
        rw [e1, e2, hx]
    · have hb := (ent_bad (rd_T80 m.list (j : Int)) (rd_T80 n.list (j : Int))).2 hx
      refine ⟨fun h => absurd (by rw [h]) hx, fun _ => ?_⟩
      unfold se barqueref17_Same.l1
      rw [if_pos (by omega), if_pos (by omega), if_pos (by omega), if_pos hb]

theorem sl_step (m n : MsgD) (i fuel : Nat) (hi : i < 6) : sl (fuel + 1) (i : Int) m n = if m.num (sixAt i) = n.num (sixAt i) then sl fuel ((i + 1 : Nat) : Int) m n else some false := by
  have hw : wrap64 ((i : Int) + 1) = ((i + 1 : Nat) : Int) := by
    rw [w64 (by omega) (by omega)]
    omega
  conv => lhs; unfold sl barqueref17_Same.l0
  rw [if_pos (by omega), if_pos (by omega), if_pos (show (i : Int) < ((⟨#[66, 71, 83, 70, 84, 82]⟩ : ByteArray).size : Int) from (by show (i : Int) < 6; omega)), six_bt hi, hw]
  have hn : ∀ a : MsgD, barqueref17_number.f a.kind a.frm a.dst a.ballot a.gen a.basis a.floor a.top a.read a.mark a.pat a.pof a.ptext a.list ((sixAt i).up.toNat : Int) = some (a.num (sixAt i)) := by
    intro a
    have := sixAt_mem i
    cases h : sixAt i <;> first | rfl | (rw [h] at this; exact absurd this (by decide))
  rw [hn m, hn n]
  rfl
theorem sl_end (m n : MsgD) (fuel : Nat) : sl (fuel + 1) 6 m n = se fuel 0 m n := by
  conv => lhs; unfold sl barqueref17_Same.l0
  rw [if_neg (by omega)]

theorem same_f (m n : MsgD) (hm : m.list.length ≤ 2 ^ 63 - 1) : sf (m.list.length + 12) m n = some (sameD m n) := by
  have bad : m ≠ n → ∀ k, sj (k + 1) true m n = some (sameD m n) := fun h k => by
    rw [sj_eq, if_pos rfl, sameD_false h]
  by_cases h0 : m.kind = n.kind
  rotate_left
  · unfold sf barqueref17_Same.f
    rw [if_neg h0]
    exact bad (fun e => h0 (by rw [e])) _
  by_cases h1 : m.frm = n.frm
  rotate_left
  · unfold sf barqueref17_Same.f
    rw [if_pos h0, if_neg h1]
    exact bad (fun e => h1 (by rw [e])) _
  by_cases h2 : m.dst = n.dst
  rotate_left
  · unfold sf barqueref17_Same.f
    rw [if_pos h0, if_pos h1, if_neg h2]
    exact bad (fun e => h2 (by rw [e])) _
  by_cases h9 : m.mark.toList = n.mark.toList
  rotate_left
  · unfold sf barqueref17_Same.f
    rw [if_pos h0, if_pos h1, if_pos h2, if_neg h9]
    exact bad (fun e => h9 (by rw [e])) _
  have he := ent_bad ⟨m.pat, m.pof, m.ptext⟩ ⟨n.pat, n.pof, n.ptext⟩
  by_cases h10 : (⟨m.pat, m.pof, m.ptext⟩ : S80) = ⟨n.pat, n.pof, n.ptext⟩
  rotate_left
  · unfold sf barqueref17_Same.f
    rw [if_pos h0, if_pos h1, if_pos h2, if_pos h9, if_pos (he.2 h10)]
    exact bad (fun e => h10 (by rw [e])) _
  have hsf : sf (m.list.length + 12) m n = sj (m.list.length + 12) ((m.list.length : Int) != (n.list.length : Int)) m n := by
    unfold sf barqueref17_Same.f
    rw [if_pos h0, if_pos h1, if_pos h2, if_pos h9, if_neg (fun h => he.1 h h10)]
  rw [hsf]
  by_cases hl : m.list.length = n.list.length
  rotate_left
  · rw [show ((m.list.length : Int) != (n.list.length : Int)) = true by rw [bne_iff_ne]; omega]
    exact bad (fun e => hl (by rw [e])) _
  rw [show ((m.list.length : Int) != (n.list.length : Int)) = false by rw [bne_eq_false_iff_eq]; omega]
  have hsj : sj (m.list.length + 12) false m n = sl (m.list.length + 11) 0 m n := by
    rw [sj_eq, if_neg (by decide)]
  rw [hsj]
  have hnum : ∀ i, i < 6 → m.num (sixAt i) ≠ n.num (sixAt i) → m ≠ n := fun i _ h e => h (by rw [e])
  have s0 := sl_step m n 0 (m.list.length + 10) (by omega)
  have s1 := sl_step m n 1 (m.list.length + 9) (by omega)
  have s2 := sl_step m n 2 (m.list.length + 8) (by omega)
  have s3 := sl_step m n 3 (m.list.length + 7) (by omega)
  have s4 := sl_step m n 4 (m.list.length + 6) (by omega)
  have s5 := sl_step m n 5 (m.list.length + 5) (by omega)
  have s6 := sl_end m n (m.list.length + 4)
  refine s0.trans ?_
  by_cases n0 : m.num (sixAt 0) = n.num (sixAt 0)
  rotate_left
  · rw [if_neg n0, sameD_false (hnum 0 (by omega) n0)]
  rw [if_pos n0]
  refine s1.trans ?_
  by_cases n1 : m.num (sixAt 1) = n.num (sixAt 1)
  rotate_left
  · rw [if_neg n1, sameD_false (hnum 1 (by omega) n1)]
  rw [if_pos n1]
  refine s2.trans ?_
  by_cases n2 : m.num (sixAt 2) = n.num (sixAt 2)
  rotate_left
  · rw [if_neg n2, sameD_false (hnum 2 (by omega) n2)]
  rw [if_pos n2]
  refine s3.trans ?_
  by_cases n3 : m.num (sixAt 3) = n.num (sixAt 3)
  rotate_left
  · rw [if_neg n3, sameD_false (hnum 3 (by omega) n3)]
  rw [if_pos n3]
  refine s4.trans ?_
  by_cases n4 : m.num (sixAt 4) = n.num (sixAt 4)
  rotate_left
  · rw [if_neg n4, sameD_false (hnum 4 (by omega) n4)]
  rw [if_pos n4]
  refine s5.trans ?_
  by_cases n5 : m.num (sixAt 5) = n.num (sixAt 5)
  rotate_left
  · rw [if_neg n5, sameD_false (hnum 5 (by omega) n5)]
  rw [if_pos n5]
  refine s6.trans ?_
  have hv := se_val m n hl hm m.list.length 0 (m.list.length + 4) (by omega) (by omega) (fun i hi => by omega)
  by_cases hq : m.list = n.list
  · rw [sameD_true]
    · exact hv.1 hq
    · obtain ⟨p0, p1, p2⟩ := S80.mk.inj h10
      have h9' : m.mark = n.mark := tl_inj h9
      obtain ⟨m0, m1, m2, m3, m4, m5, m6, m7, m8, m9, m10, m11, m12, m13⟩ := m
      obtain ⟨q0, q1, q2, q3, q4, q5, q6, q7, q8, q9, q10, q11, q12, q13⟩ := n
      simp [sixAt, six, MsgD.num] at n0 n1 n2 n3 n4 n5
      simp_all
  · rw [sameD_false (fun e => hq (by rw [e]))]
    exact hv.2 hq

theorem Same_calls {m n : MsgD} {A B : Option Addr} {c d : Nat} {w : World} (hm : ListAt w A c m.list) (hn : ListAt w B d n.list) :
    Calls Try.prog 32 #[.agg (m.cells A c), .agg (n.cells B d)] w fun e w' => e = .returned (.bool (sameD m n)) ∧ Below w.heap.size w w' := by
  have h1 := hm.le
  have h2 := hm.max
  unfold maxLen at h2
  exact barqueref17_Same.calls (m.list.length + 12) _ _ _ _ _ _ _ _ _ _ _ _ _ A c m.list _ _ _ _ _ _ _ _ _ _ _ _ _ B d n.list _ w hm.cells hm.le hn.cells hn.le (same_f m n (by omega))
end Go.Proofs.Ytpegefcpanijhaa
end
