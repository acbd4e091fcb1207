/- The walks of barquelaw17.few and awake. -/
import Derived.Test.YtpegefcpanijhaaK4
namespace Go.Proofs.Ytpegefcpanijhaa
set_option linter.unusedVariables false
set_option linter.unusedSimpArgs false
open Go.RowKit Go.Proofs.YtpegefcpanijhaaW.PrintWords PF

/-- A message of at most 80 entries. -/
def cutM (m : MsgD) : MsgD := { m with list := m.list.take 80 }

theorem ListAt.take {w : World} {A : Option Addr} {c : Nat} {l : List S80} (h : ListAt w A c l) (k : Nat) : ListAt w A c (l.take k) := by
  rcases Nat.le_total k l.length with hk | hk
  · exact ⟨by rw [List.length_take]; have := h.le; omega, h.max, Kd.C_take h.cells hk⟩
  · rw [List.take_of_length_le hk]; exact h
theorem MsgAt.cut {w : World} {A : Option Addr} {c : Nat} {m : MsgD} (h : MsgAt w A c m) : MsgAt w A c (cutM m) := ⟨h.ptext, h.mark, h.list.take 80⟩

theorem ret_row {fn : Func} {R : Ending → World → Prop} {tm : Array Value} {w : World} {p : Tmp} {g : Nat} {ty t : TypeId} {cs : Array Value} {fr : Nat × Nat} {fs : Array Field} (h : fn.results = #[.cell p ty]) (hp : tm.getD p undef = .pointer (some ⟨g, 0, none⟩)) (hg : w.heap[g]? = some (.cells cs t fr))
    (hu : Try.prog.underlying ty = some (.struct fs)) (hi : (Try.prog.info? ty).map (·.size) = some cs.size) (hR : R (.returned (.agg cs)) w) : bodyPost Try.prog fn R .ret { tmps := tm, defers := [] } w :=
  bodyPost_ret (results_cell_row h tm w g t cs fr _ hp hg hu rfl hi) rfl hR
theorem heap_two (w : World) (o o' : Obj) : ((w.alloc o).alloc o').heap[w.heap.size + 1]? = some o' := by
  have h := heap_alloc_new (w.alloc o) o'
  rwa [show (w.alloc o).heap.size = w.heap.size + 1 by simp] at h
theorem below_two (w : World) (o o' : Obj) : Below w.heap.size w ((w.alloc o).alloc o') := ((Below.refl _ _).alloc (Nat.le_refl _) _).alloc (by simp) _
theorem few_row {m : MsgD} {A : Option Addr} {c : Nat} (hl : 80 < m.list.length) : (cutM m).cells A c = #[.int .i64 m.kind, .int .i64 m.frm, .int .i64 m.dst, .int .i64 m.ballot, .int .i64 m.gen, .int .i64 m.basis, .int .i64 m.floor, .int .i64 m.top, .int .i64 m.read, .string m.mark, .int .i64 m.pat, .int .i64 m.pof, .string m.ptext, .slice A 80 c] := by
  have h : (m.list.take 80).length = 80 := by rw [List.length_take]; omega
  show #[_, _, _, _, _, _, _, _, _, _, _, _, _, Value.slice A (m.list.take 80).length c] = _
  rw [h]
  rfl

set_option maxHeartbeats 1000000 in
theorem few_long {w : World} {m : MsgD} {A : Option Addr} {c : Nat} (h : MsgAt w A c m) (hl : 80 < m.list.length) :
    Calls Try.prog 25 #[.agg (m.cells A c)] w fun e w' => e = .returned (.agg ((cutM m).cells A c)) ∧ Below w.heap.size w w' := by
  have h1 := h.list.le
  have h2 := h.list.max
  unfold maxLen at h2
  have h80 : ((m.list.length : Int) > 80) := by omega
  go_enter Try.func25, Try.ntmps25
  obtain ⟨c0, c1, c2, c3, c4, c5, c6, c7, c8, c9, c10, c11, c12, c13⟩ := MsgBox.of (heap_alloc_new w (.cells (m.cells A c) 44))
  go_wp2_with fail
  rw [few_row hl]
  refine ret_row (p := 2) (g := w.heap.size + 1) rfl rfl (heap_two _ _ _) Try.underlying44 (by kernel_rfl) ?_
  exact ⟨rfl, below_two _ _ _⟩

set_option maxHeartbeats 1000000 in
theorem few_short {w : World} {m : MsgD} {A : Option Addr} {c : Nat} (h : MsgAt w A c m) (hl : m.list.length ≤ 80) :
    Calls Try.prog 25 #[.agg (m.cells A c)] w fun e w' => e = .returned (.agg (m.cells A c)) ∧ Below w.heap.size w w' := by
  have h80 : ¬ ((m.list.length : Int) > 80) := by omega
  go_enter Try.func25, Try.ntmps25
  obtain ⟨c0, c1, c2, c3, c4, c5, c6, c7, c8, c9, c10, c11, c12, c13⟩ := MsgBox.of (heap_alloc_new w (.cells (m.cells A c) 44))
  go_wp2_with fail
  refine ret_row (p := 2) (g := w.heap.size + 1) rfl rfl (heap_two _ _ _) Try.underlying44 (by kernel_rfl) ?_
  exact ⟨rfl, below_two _ _ _⟩

def tHi : ByteArray := ⟨#[1, 1, 2, 5]⟩
def mA : MsgD := ⟨1, 1, 2, 5, 0, 0, 0, 0, 0, ⟨#[]⟩, 0, 0, ⟨#[]⟩, []⟩
theorem mA_right : rightB mA = true := by decide +kernel
theorem txt_mA : txt mA = tHi := by decide +kernel
theorem mA_at (w : World) : MsgAt w none 0 mA := ⟨by decide, by decide, ⟨by decide, by decide, ⟨rfl, Nat.zero_le _, fun h => absurd h (by decide)⟩⟩⟩

def aS : ByteArray := tHi ++ mk 1
theorem aS_eq : txt mA ++ mk (([] : List ByteArray).idxOf (txt mA) + 1) = aS := by rw [txt_mA]; rfl
theorem aS_size : aS.size = 36 := by decide +kernel
theorem aS_hi : aS.extract 0 4 = ⟨#[1, 1, 2, 5]⟩ := by decide +kernel
attribute [irreducible] aS

set_option maxHeartbeats 1000000 in
theorem awake17_to {W w : World} (hB : Below W.heap.size W w) : Calls Try.prog 29 #[] w fun e w' => e = .returned (.bool true) ∧ Below W.heap.size W w' := by
  go_enter Try.func29, Try.ntmps29
  go_wp2_with fail
  refine (ideal_to (W := w) (Below.refl _ _)).mono ?_
  rintro e w1 ⟨b, mm, rfl, hI, hB1, hm, -⟩
  go_wp2_with fail
  refine (bytes_ideal hI hB1 hm (by decide) (mA_at _) mA_right).mono ?_
  rintro e w2 ⟨rfl, hI2, hB2⟩
  rw [aS_eq]
  have hs := aS_size
  have ha := aS_hi
  go_wp2_with fail
  go_ret
  exact ⟨rfl, hB.trans (hB2.mono hB.size)⟩
end Go.Proofs.Ytpegefcpanijhaa
