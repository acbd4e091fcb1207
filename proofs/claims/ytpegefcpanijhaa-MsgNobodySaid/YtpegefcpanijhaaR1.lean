/- What the rows over scripts of calls share: a slice of calls that came in, opened. -/
import Derived.Test.YtpegefcpanijhaaR0
import Derived.Test.YtpegefcpanijhaaC4
import Derived.Deep.Slices
import Derived.ChangeArms
namespace Go.Proofs.Ytpegefcpanijhaa
set_option linter.unusedVariables false
set_option linter.unusedSimpArgs false
open Go.ChangeShapes Go.WideShapes Go.RowKit Go.Deep

theorem list_of {α : Type} {P : Nat → α → Prop} {n : Nat} (h : ∀ k, k < n → ∃ x, P k x) : ∃ l : List α, l.length = n ∧ ∀ k (hk : k < l.length), P k l[k] := by
  refine ⟨List.ofFn fun i : Fin n => Classical.choose (h i i.2), by simp, fun k hk => ?_⟩
  have hk' : k < n := by simpa using hk
  rw [List.getElem_ofFn]
  exact Classical.choose_spec (h k hk')

section
variable {H : Type} {enc : TypeId × Value → H} {w : World} {base : Nat} {spare : Nat → Bool} {held : Bool} {fuel : Nat}

theorem one3 : Try.prog.cellsOf 3 = 1 := by kernel_rfl
theorem one9 : Try.prog.cellsOf 9 = 1 := by kernel_rfl
theorem four36 : Try.prog.cellsOf 36 = 4 := by kernel_rfl

/-- A field of a struct that was read. -/
theorem field_of {t : TypeId} {fs : Array Field} {cs : List Value} {x : DataW H × List MemPlace} (ht : Try.prog.underlying t = some (.struct fs)) (h : DataW.trod enc Try.prog w base spare held fuel t cs = some x) :
    cs.length = Try.prog.cellsOf t ∧ ∃ n, ∀ (i : Nat) (f : Field), fs[i]? = some f → ∃ y, DataW.trod enc Try.prog w base spare held n f.type ((cs.drop f.offset).take (Try.prog.cellsOf f.type)) = some y := by
  obtain ⟨xs, n, -, -, hl, hx, hf⟩ := DataW.trod_struct ht h
  refine ⟨hl, n, fun i f hi => ?_⟩
  have hlt : i < xs.length := by rw [hx]; exact (Array.getElem?_eq_some_iff.1 hi).1
  exact ⟨xs[i], (hf i f hi).trans (List.getElem?_eq_getElem hlt)⟩

theorem int_field {t : TypeId} {fs : Array Field} {cs : List Value} {n : Nat} (hf : ∀ (i : Nat) (f : Field), fs[i]? = some f → ∃ y, DataW.trod enc Try.prog w base spare held n f.type ((cs.drop f.offset).take (Try.prog.cellsOf f.type)) = some y) (i : Nat) (f : Field) (hi : fs[i]? = some f) (ht : f.type = 3) :
    ∃ a : Int, (cs.drop f.offset).take 1 = [.int .i64 a] ∧ (Lit.int .i64 a).wf = true := by
  obtain ⟨y, hy⟩ := hf i f hi
  rw [ht, one3] at hy
  obtain ⟨a, h1, _, h2⟩ := DataW.trod_int Try.underlying3 hy
  exact ⟨a, h1, h2⟩
theorem str_field {t : TypeId} {fs : Array Field} {cs : List Value} {n : Nat} (hf : ∀ (i : Nat) (f : Field), fs[i]? = some f → ∃ y, DataW.trod enc Try.prog w base spare held n f.type ((cs.drop f.offset).take (Try.prog.cellsOf f.type)) = some y) (i : Nat) (f : Field) (hi : fs[i]? = some f) (ht : f.type = 9) :
    ∃ s : ByteArray, (cs.drop f.offset).take 1 = [.string s] ∧ s.size ≤ maxLen := by
  obtain ⟨y, hy⟩ := hf i f hi
  rw [ht, one9] at hy
  obtain ⟨s, h1, _, h2⟩ := DataW.trod_string Try.underlying9 hy
  exact ⟨s, h1, h2⟩

theorem i64_bounds {a : Int} (h : (Lit.int .i64 a).wf = true) : -9223372036854775808 ≤ a ∧ a ≤ 9223372036854775807 := by
  simp [Lit.wf, IntKind.min, IntKind.max, IntKind.signed, IntKind.bits] at h
  exact ⟨by omega, by omega⟩

set_option maxRecDepth 100000 in
theorem op_cs {cs : List Value} {x : DataW H × List MemPlace} (h : DataW.trod enc Try.prog w base spare held fuel 36 cs = some x) :
    ∃ o : OpD, o.Ok ∧ cs = [.int .i64 o.kind, .int .i64 o.n, .string o.text, .string o.mark] := by
  obtain ⟨hl, n, hf⟩ := field_of Try.underlying36 h
  rw [four36] at hl
  obtain ⟨k, h0, _⟩ := int_field (t := 36) hf 0 _ rfl rfl
  obtain ⟨m, h1, b1⟩ := int_field (t := 36) hf 1 _ rfl rfl
  obtain ⟨t, h2, b2⟩ := str_field (t := 36) hf 2 _ rfl rfl
  obtain ⟨s, h3, b3⟩ := str_field (t := 36) hf 3 _ rfl rfl
  match cs, hl with
  | [c0, c1, c2, c3], _ =>
    obtain rfl : c0 = _ := (List.cons.inj (show [c0] = _ from h0)).1
    obtain rfl : c1 = _ := (List.cons.inj (show [c1] = _ from h1)).1
    obtain rfl : c2 = _ := (List.cons.inj (show [c2] = _ from h2)).1
    obtain rfl : c3 = _ := (List.cons.inj (show [c3] = _ from h3)).1
    exact ⟨⟨k, m, t, s⟩, ⟨b2, b3, (i64_bounds b1).1, (i64_bounds b1).2⟩, rfl⟩

theorem ops_open {A : Option Addr} {len cap : Nat} {x : DataW H × List MemPlace}
    (h : DataW.trod enc Try.prog w base spare held fuel 30 (Value.slice A len cap).cells.toList = some x) : ∃ l, OpsAt w A len cap l := by
  rcases open_slice Try.underlying30 h with ⟨hcs, _⟩ | ⟨a, l, c, m, n, D, Pl, hcs, _, hl, hm, hmm, _, hi⟩
  · simp [Value.cells] at hcs
    obtain ⟨rfl, rfl, rfl⟩ := hcs
    exact ⟨[], rfl, Nat.le_refl _, Nat.zero_le _, fun s hs => by simp at hs, fun k hk => by simp at hk⟩
  · simp [Value.cells] at hcs
    obtain ⟨rfl, rfl, rfl⟩ := hcs
    have hle : len ≤ m := by
      rw [hmm]; split
      · exact hl
      · exact Nat.le_refl _
    have hall : ∀ k, k < len → ∃ o : OpD, o.Ok ∧ w.cell? (a.add (k * 4)) = some (.int .i64 o.kind) ∧ w.cell? ⟨(a.add (k * 4)).block, (a.add (k * 4)).off + 1, none⟩ = some (.int .i64 o.n) ∧
        w.cell? ⟨(a.add (k * 4)).block, (a.add (k * 4)).off + 2, none⟩ = some (.string o.text) ∧ w.cell? ⟨(a.add (k * 4)).block, (a.add (k * 4)).off + 3, none⟩ = some (.string o.mark) := by
      intro k hk
      obtain ⟨cs', hc, ht⟩ := hi k (by omega)
      rw [four36] at hc
      obtain ⟨o, ho, rfl⟩ := op_cs ht
      obtain ⟨_, _, hat⟩ := World.cells?_some hc
      have e : ∀ j, 0 < j → (a.add (k * 4)).add j = ⟨(a.add (k * 4)).block, (a.add (k * 4)).off + j, none⟩ := fun j hj => (Go.Deep.add_add _ _ _).trans (Go.Proofs.YtpegefcpanijhaaW.PrintWords.add_field _ _ _ hj)
      refine ⟨o, ho, ?_, ?_, ?_, ?_⟩
      · have := hat 0 (by omega)
        simpa [Addr.add] using this
      · rw [← e 1 (by omega)]; exact (hat 1 (by omega)).trans rfl
      · rw [← e 2 (by omega)]; exact (hat 2 (by omega)).trans rfl
      · rw [← e 3 (by omega)]; exact (hat 3 (by omega)).trans rfl
    obtain ⟨l, h1, h2⟩ := list_of hall
    refine ⟨l, h1, hl, hm, fun o ho => ?_, fun k hk => ?_⟩
    · obtain ⟨k, hk, rfl⟩ := List.getElem_of_mem ho
      exact (h2 k hk).1
    · obtain ⟨_, e0, e1, e2, e3⟩ := h2 k hk
      exact ⟨a, rfl, e0, e1, e2, e3⟩
end
end Go.Proofs.Ytpegefcpanijhaa
