/- A message's bytes in plain Lean; the walk of msg.body. -/
import Derived.Test.YtpegefcpanijhaaK2
import Derived.Test.YtpegefcpanijhaaM5
namespace Go.Proofs.Ytpegefcpanijhaa
set_option linter.unusedVariables false
set_option linter.unusedSimpArgs false
open Go.RowKit Go.Proofs.YtpegefcpanijhaaW.PrintWords PF

def entL (x : S80) : List UInt8 := numL x.f0.toNat ++ numL x.f1.toNat ++ x.f2.data.toList
def fieldL (m : MsgD) : Fd → List UInt8
  | .b => numL m.ballot.toNat
  | .g => numL m.gen.toNat
  | .s => numL m.basis.toNat
  | .f => numL m.floor.toNat
  | .t => numL m.top.toNat
  | .r => numL m.read.toNat
  | .m => m.mark.data.toList
  | .p => numL m.pat.toNat ++ numL m.pof.toNat ++ numL m.ptext.size ++ m.ptext.data.toList
  | .l => numL m.list.length ++ m.list.flatMap entL
def preL (m : MsgD) (j : Nat) : List UInt8 := numL m.kind.toNat ++ numL m.frm.toNat ++ numL m.dst.toNat ++ ((fieldsOf m.kind).take j).flatMap (fieldL m)
/-- A message's bytes without their mark. -/
def bodyL (m : MsgD) : List UInt8 := preL m (fieldsOf m.kind).length

/-- What a message that may be is like. -/
structure MsgD.Fit (m : MsgD) : Prop where
  some_ : fieldsOf m.kind ≠ []
  frm : 0 ≤ m.frm ∧ m.frm ≤ 255
  dst : 0 ≤ m.dst ∧ m.dst ≤ 255
  num : ∀ x ∈ six, x ∈ fieldsOf m.kind → 0 ≤ m.num x ∧ m.num x ≤ 4611686018427387903
  mark : Fd.m ∈ fieldsOf m.kind → m.mark.size = 32
  part : Fd.p ∈ fieldsOf m.kind → 0 ≤ m.pat ∧ m.pat ≤ 4096 ∧ 0 ≤ m.pof ∧ m.pof ≤ 4096 ∧ m.ptext.size ≤ 1024
  list : Fd.l ∈ fieldsOf m.kind → m.list.length ≤ 64 ∧ ∀ x ∈ m.list, 0 ≤ x.f0 ∧ x.f0 ≤ 4611686018427387903 ∧ 0 ≤ x.f1 ∧ x.f1 ≤ 4611686018427387903 ∧ x.f2.size = 32

theorem hasB_iff (k : Int) (x : Fd) : hasB k x = true ↔ x ∈ fieldsOf k := by simp [hasB]
theorem fitsB_iff (n : Int) : fitsB n = true ↔ 0 ≤ n ∧ n ≤ 4611686018427387903 := by simp [fitsB]
theorem entAt_ent {l : List S80} {i : Nat} {x : S80} (h : l[i]? = some x) (he : entAt l i = true) : entB x = true := by
  unfold entAt at he
  rw [h] at he
  simp only [Bool.and_eq_true] at he
  exact he.1
theorem MsgD.Fit.of {m : MsgD} (h : rightB m = true) : m.Fit := by
  simp only [rightB, headB, Bool.and_eq_true, decide_eq_true_eq] at h
  obtain ⟨⟨⟨⟨⟨⟨hk, hf⟩, hd⟩, hn⟩, hm⟩, hp⟩, hl⟩ := h
  refine ⟨hk, hf, hd, ?_, ?_, ?_, ?_⟩
  · intro x hx hin
    have h1 := (hasB_iff _ _).2 hin
    simp only [numsB, Bool.and_eq_true] at hn
    obtain ⟨⟨⟨⟨⟨n1, n2⟩, n3⟩, n4⟩, n5⟩, n6⟩ := hn
    unfold numB at n1 n2 n3 n4 n5 n6
    rw [← fitsB_iff]
    cases x
    · rw [h1, if_pos rfl] at n1; exact n1
    · rw [h1, if_pos rfl] at n2; exact n2
    · rw [h1, if_pos rfl] at n3; exact n3
    · rw [h1, if_pos rfl] at n4; exact n4
    · rw [h1, if_pos rfl] at n5; exact n5
    · rw [h1, if_pos rfl] at n6; exact n6
    all_goals exact absurd hx (by decide)
  · intro hin
    unfold markB at hm
    rw [(hasB_iff _ _).2 hin, if_pos rfl] at hm
    exact of_decide_eq_true hm
  · intro hin
    unfold partB at hp
    rw [(hasB_iff _ _).2 hin, if_pos rfl] at hp
    simp only [Bool.and_eq_true, decide_eq_true_eq] at hp
    omega
  · intro hin
    unfold listB at hl
    rw [(hasB_iff _ _).2 hin, if_pos rfl] at hl
    simp only [Bool.and_eq_true, decide_eq_true_eq, List.all_eq_true, List.mem_range] at hl
    refine ⟨hl.1, fun x hx => ?_⟩
    obtain ⟨i, hi, rfl⟩ := List.getElem_of_mem hx
    have h1 := entAt_ent (List.getElem?_eq_getElem hi) (hl.2 i hi)
    simp only [entB, fitsB, Bool.and_eq_true, decide_eq_true_eq] at h1
    omega

theorem fields_short (k : Int) : (fieldsOf k).length ≤ 5 := by
  rcases kind_cases k with rfl | rfl | rfl | rfl | rfl | rfl | rfl | rfl | rfl | rfl | rfl | rfl | rfl | rfl | rfl | rfl | rfl | ⟨h0, hh⟩
  any_goals decide
  rw [h0]; decide
theorem kind_range {k : Int} (h : fieldsOf k ≠ []) : 1 ≤ k ∧ k ≤ 17 := by
  rcases kind_cases k with rfl | rfl | rfl | rfl | rfl | rfl | rfl | rfl | rfl | rfl | rfl | rfl | rfl | rfl | rfl | rfl | rfl | ⟨h0, hh⟩
  any_goals omega
  exact absurd h0 h
theorem entL_length {x : S80} (h : x.f2.size = 32) : (entL x).length ≤ 50 := by
  have h1 := numL_length x.f0.toNat
  have h2 := numL_length x.f1.toNat
  have h3 : x.f2.data.toList.length = 32 := h
  simp only [entL, List.length_append]
  omega
theorem ents_length {l : List S80} (h : ∀ x ∈ l, x.f2.size = 32) : (l.flatMap entL).length ≤ 50 * l.length := by
  induction l with
  | nil => simp
  | cons x l ih =>
    have h1 := entL_length (h x (.head _))
    have h2 := ih (fun y hy => h y (.tail _ hy))
    simp only [List.flatMap_cons, List.length_append, List.length_cons]
    omega
theorem fieldL_length {m : MsgD} (h : m.Fit) {x : Fd} (hx : x ∈ fieldsOf m.kind) : (fieldL m x).length ≤ 4000 := by
  cases x
  case m =>
    have h1 := h.mark hx
    have h2 : m.mark.data.toList.length = m.mark.size := rfl
    simp only [fieldL]
    omega
  case p =>
    have h1 := numL_length m.pat.toNat
    have h2 := numL_length m.pof.toNat
    have h3 := numL_length m.ptext.size
    have h4 := (h.part hx).2.2.2.2
    have h5 : m.ptext.data.toList.length = m.ptext.size := rfl
    simp only [fieldL, List.length_append]
    omega
  case l =>
    have h1 := numL_length m.list.length
    have h2 := (h.list hx).1
    have h3 := ents_length (fun x hx' => ((h.list hx).2 x hx').2.2.2.2)
    simp only [fieldL, List.length_append]
    omega
  all_goals
    have := fun n => numL_length n
    simp only [fieldL]
    have h1 := this m.ballot.toNat
    have h2 := this m.gen.toNat
    have h3 := this m.basis.toNat
    have h4 := this m.floor.toNat
    have h5 := this m.top.toNat
    have h6 := this m.read.toNat
    omega
theorem preL_succ {m : MsgD} {j : Nat} {x : Fd} (h : (fieldsOf m.kind)[j]? = some x) : preL m (j + 1) = preL m j ++ fieldL m x := by
  unfold preL
  rw [List.take_add_one, h]
  simp
theorem preL_length {m : MsgD} (h : m.Fit) (j : Nat) (hj : j ≤ (fieldsOf m.kind).length) : (preL m j).length ≤ 27 + 4000 * j := by
  induction j with
  | zero =>
    have h1 := numL_length m.kind.toNat
    have h2 := numL_length m.frm.toNat
    have h3 := numL_length m.dst.toNat
    simp [preL]
    omega
  | succ j ih =>
    have h0 : j < (fieldsOf m.kind).length := hj
    have h1 := List.getElem?_eq_getElem h0
    have h2 := fieldL_length h (List.getElem_mem h0)
    rw [preL_succ h1, List.length_append]
    have := ih (by omega)
    omega

theorem Keeps.cells {b : Nat} {w w' : World} (h : Keeps b w w') {k : Nat} {cs : Array Value} {t : Nat} {fr : Nat × Nat} (hk : w.heap[k]? = some (.cells cs t fr)) (hb : k ≠ b) (ht : t ≠ 5 ∨ fr ≠ (0, 0)) : w'.heap[k]? = some (.cells cs t fr) := by
  have hl : k < w.heap.size := by rw [Array.getElem?_eq_some_iff] at hk; exact hk.1
  refine (h.2 k hl hb (fun cs' e => ?_)).trans hk
  rw [hk] at e
  injection e with e
  injection e with _ e1 e2
  rcases ht with h | h
  · exact h e1
  · exact h e2

theorem conv_bytes (w : World) (s : ByteArray) : ∃ (w' : World) (cap n1 : Nat) (row : Array Value) (g : Nat), g = w.heap.size ∧ (convert 9 69 (.string s)).run Try.prog w = .ok (.slice (some ⟨g, 0, none⟩) s.size cap) w' ∧ Below w.heap.size w w' ∧
    w'.heap[g]? = some (.cells row 5 (n1, n1 + 1)) ∧ ∀ j (hj : j < s.data.size), row[j]? = some (.int .u8 (s.data[j].toNat : Int)) := by
  refine ⟨w.drew.alloc (.cells (bytesRow s (grownCap w s.size 0 5)) 5 ((bytesRow s (grownCap w s.size 0 5)).size, (bytesRow s (grownCap w s.size 0 5)).size + 1)), grownCap w s.size 0 5, (bytesRow s (grownCap w s.size 0 5)).size, bytesRow s (grownCap w s.size 0 5), w.heap.size, rfl, run_bytes_of_string w 9 69 5 s Try.underlying9 Try.underlying69 Try.underlying5, ?_, ?_, fun j hj => bytesRow_at s _ j hj⟩
  · exact ((Below.refl _ _).drew).alloc (Nat.le_refl _) _
  · show (w.heap.push _)[w.heap.size]? = _
    simp
theorem bytesLo_size (l : List Fd) : (bytesLo l).size = l.length := by simp [bytesLo, ByteArray.size]
theorem row_cell {w : World} {g n1 : Nat} {row : Array Value} {l : List Fd} (h : w.heap[g]? = some (.cells row 5 (n1, n1 + 1))) (hr : ∀ j (hj : j < (bytesLo l).data.size), row[j]? = some (.int .u8 ((bytesLo l).data[j].toNat : Int))) {j : Nat} {x : Fd} (hx : l[j]? = some x) :
    w.cell? ⟨g, j, none⟩ = some (.int .u8 (x.lo.toNat : Nat)) := by
  have hj : j < l.length := (List.getElem?_eq_some_iff.1 hx).1
  have hj2 : j < (bytesLo l).data.size := by simpa [bytesLo] using hj
  rw [cell_of_row w g j row 5 _ h, hr j hj2]
  have e : (bytesLo l).data[j] = x.lo := by
    have h2 := (List.getElem?_eq_some_iff.1 hx).2
    simp [bytesLo, h2]
  rw [e]

/-- In the midst of msg.body: the message's box, the builder behind it. -/
structure BodySt (w : World) (m : MsgD) (A : Option Addr) (c : Nat) (l : List UInt8) (wr : World) : Prop where
  bld : Bld (w.heap.size + 1) l wr
  box : wr.heap[w.heap.size]? = some (.cells (m.cells A c) 44 (0, 0))
  low : Below w.heap.size w wr

theorem BodySt.step {w : World} {m : MsgD} {A : Option Addr} {c : Nat} {l l' : List UInt8} {wr w' : World} (h : BodySt w m A c l wr) (hb : Bld (w.heap.size + 1) l' w') (hB : Below (w.heap.size + 1) wr w') (hk : Keeps (w.heap.size + 1) wr w') : BodySt w m A c l' w' :=
  ⟨hb, hk.cells h.box (by omega) (.inl (by decide)), h.low.trans (hB.mono (by omega))⟩
theorem BodySt.below {w : World} {m : MsgD} {A : Option Addr} {c : Nat} {l : List UInt8} {wr w' : World} (h : BodySt w m A c l wr) (hb : Below wr.heap.size wr w') : BodySt w m A c l w' :=
  h.step (h.bld.below hb) (hb.mono (Nat.le_of_lt h.bld.lt)) (Keeps.of_below hb)
theorem num_st {w : World} {m : MsgD} {A : Option Addr} {c : Nat} {l : List UInt8} {wr : World} (h : BodySt w m A c l wr) {n : Int} (h0 : 0 ≤ n ∧ n ≤ 4611686018427387903) (hl : l.length ≤ 1000000000) :
    Calls Try.prog 73 #[.int .i64 n, .pointer (some ⟨w.heap.size + 1, 0, none⟩)] wr fun e w' => e = .returned (.tuple #[]) ∧ BodySt w m A c (l ++ numL n.toNat) w' ∧ Keeps (w.heap.size + 1) wr w' :=
  (num1_calls _ _ _ _ h.bld h0.1 h0.2 hl).mono fun e w' ⟨he, hb, hB, hk⟩ => ⟨he, h.step hb hB hk, hk⟩
theorem str_st {w : World} {m : MsgD} {A : Option Addr} {c : Nat} {l : List UInt8} {wr : World} (h : BodySt w m A c l wr) {s : ByteArray} (hs : s.size ≤ 1000000000) (hl : l.length ≤ 1000000000) :
    Calls Try.prog 75 #[.pointer (some ⟨w.heap.size + 1, 0, none⟩), .string s] wr fun e w' => e = .returned (.tuple #[.int .i64 s.size, .nilIface]) ∧ BodySt w m A c (l ++ s.data.toList) w' ∧ Keeps (w.heap.size + 1) wr w' :=
  (writeS_calls _ _ _ _ h.bld (by omega)).mono fun e w' ⟨he, hb, hB, hk⟩ => ⟨he, h.step hb hB hk, hk⟩
theorem BodySt.new (w : World) (m : MsgD) (A : Option Addr) (c : Nat) : BodySt w m A c [] ((w.alloc (.cells (m.cells A c) 44)).alloc (.cells #[.pointer none, .slice none 0 0] 99)) := by
  have e : (w.alloc (.cells (m.cells A c) 44)).heap.size = w.heap.size + 1 := by simp
  refine ⟨?_, ?_, ?_⟩
  · have h := Lib.fresh_isBuilder 99 5 (w.alloc (.cells (m.cells A c) 44))
    rw [e] at h
    exact h
  · exact (Lib.alloc_old _ _ _ (show w.heap.size < (w.alloc (.cells (m.cells A c) 44)).heap.size by rw [e]; omega)).trans (heap_alloc_new _ _)
  · exact ((Below.refl _ _).alloc (Nat.le_refl _) _).alloc (by rw [e]; omega) _

set_option maxHeartbeats 4000000 in
set_option maxRecDepth 100000 in
theorem body_calls (m : MsgD) (A : Option Addr) (c : Nat) (w : World) (hL : ListAt w A c m.list) (hR : rightB m = true) :
    Calls Try.prog 46 #[.agg (m.cells A c)] w fun e w' => e = .returned (.string ⟨(bodyL m).toArray⟩) ∧ Below w.heap.size w w' := by
  have HF := Lib.hid (MsgD.Fit.of hR)
  clear hR
  have hkr := kind_range HF.out.some_
  go_enter Try.func46, Try.ntmps46
  go_wp2_with fail
  refine (num_st (BodySt.new w m A c) (n := m.kind) (by omega) (by simp)).mono ?_
  rintro e w1 ⟨rfl, h1, -⟩
  obtain ⟨c0, c1, c2, -, -, -, -, -, -, -, -, -, -, -⟩ := MsgBox.of h1.box
  go_wp2_with fail
  refine (num_st h1 (n := m.frm) (by have := HF.out.frm; omega) (by have := numL_length m.kind.toNat; simp only [List.length_append, List.length_nil]; omega)).mono ?_
  rintro e w2 ⟨rfl, h2, -⟩
  clear c0 c1 c2 h1
  obtain ⟨c0, c1, c2, -, -, -, -, -, -, -, -, -, -, -⟩ := MsgBox.of h2.box
  go_wp2_with fail
  refine (num_st h2 (n := m.dst) (by have := HF.out.dst; omega) (by have := numL_length m.kind.toNat; have := numL_length m.frm.toNat; simp only [List.length_append, List.length_nil]; omega)).mono ?_
  rintro e w3 ⟨rfl, h3, -⟩
  clear c0 c1 c2 h2
  obtain ⟨c0, -, -, -, -, -, -, -, -, -, -, -, -, -⟩ := MsgBox.of h3.box
  go_wp2_with fail
  refine (form_calls m.kind _).mono ?_
  rintro e w4 ⟨rfl, hb4⟩
  have h4 := h3.below hb4
  obtain ⟨w5, cap, n1, row, g, hg, hcv, hb5, hrow, hrc⟩ := conv_bytes w4 (bytesLo (fieldsOf m.kind))
  have hbl := h4.bld.lt
  have hne : g ≠ w.heap.size + 1 := by omega
  clear hg
  have h5 := h4.below hb5
  have hsz := bytesLo_size (fieldsOf m.kind)
  clear c0 h3 hb4
  go_wp2_with fail
  clear hcv hsz
  clear hbl hb5 h4
  have HRC := Lib.hid hrc
  clear hrc
  have hfl := fields_short m.kind
  go_loopw [27] (fun i wr => ∃ (j : Nat) (l : List UInt8), j ≤ (fieldsOf m.kind).length ∧ i = .int .i64 j ∧ BodySt w m A c l wr ∧ wr.heap[g]? = some (.cells row 5 (n1, n1 + 1)) ∧ Hid (l = preL m j)) (fun i _ => 5 - (intOf i).toNat)
  case atStart => exact ⟨0, _, Nat.zero_le _, rfl, h5, hrow, Lib.hid (by simp [preL])⟩
  case round =>
    clear h5 hrow
    obtain ⟨j, l, hj, rfl, hS, hrow, HPL⟩ := hrel
    have hll : l.length ≤ 27 + 4000 * j := by rw [HPL.out]; exact preL_length HF.out j hj
    obtain ⟨c0, c1, c2, c3, c4, c5, c6, c7, c8, c9, c10, c11, c12, c13⟩ := MsgBox.of hS.box
    by_cases hlt : j < (fieldsOf m.kind).length
    · obtain ⟨x, hx⟩ : ∃ x, (fieldsOf m.kind)[j]? = some x := ⟨_, List.getElem?_eq_getElem hlt⟩
      have hcx := row_cell hrow HRC.out hx
      have HX := Lib.hid hx
      have HM := Lib.hid (List.mem_of_getElem? hx)
      clear hx
      have z1 : (0 : Int) ≤ (j : Int) := by omega
      have z2 : (j : Int) < ((fieldsOf m.kind).length : Int) := by omega
      cases x
      · replace hcx : wr.cell? ⟨g, j, none⟩ = some (.int .u8 98) := hcx
        go_wp2_with fail
        refine (num_st hS (n := m.ballot) (HF.out.num .b (by decide) HM.out) (by omega)).mono ?_
        rintro e v1 ⟨rfl, k1, q1⟩
        go_wp2_with fail
        go_roundw
        case rel => exact ⟨j + 1, _, by omega, by go_num, k1, q1.cells hrow hne (.inr (by simp)), Lib.hid (by rw [preL_succ HX.out, HPL.out]; rfl)⟩
        case measure => simp [intOf]; omega
      · replace hcx : wr.cell? ⟨g, j, none⟩ = some (.int .u8 103) := hcx
        go_wp2_with fail
        refine (num_st hS (n := m.gen) (HF.out.num .g (by decide) HM.out) (by omega)).mono ?_
        rintro e v1 ⟨rfl, k1, q1⟩
        go_wp2_with fail
        go_roundw
        case rel => exact ⟨j + 1, _, by omega, by go_num, k1, q1.cells hrow hne (.inr (by simp)), Lib.hid (by rw [preL_succ HX.out, HPL.out]; rfl)⟩
        case measure => simp [intOf]; omega
      · replace hcx : wr.cell? ⟨g, j, none⟩ = some (.int .u8 115) := hcx
        go_wp2_with fail
        refine (num_st hS (n := m.basis) (HF.out.num .s (by decide) HM.out) (by omega)).mono ?_
        rintro e v1 ⟨rfl, k1, q1⟩
        go_wp2_with fail
        go_roundw
        case rel => exact ⟨j + 1, _, by omega, by go_num, k1, q1.cells hrow hne (.inr (by simp)), Lib.hid (by rw [preL_succ HX.out, HPL.out]; rfl)⟩
        case measure => simp [intOf]; omega
      · replace hcx : wr.cell? ⟨g, j, none⟩ = some (.int .u8 102) := hcx
        go_wp2_with fail
        refine (num_st hS (n := m.floor) (HF.out.num .f (by decide) HM.out) (by omega)).mono ?_
        rintro e v1 ⟨rfl, k1, q1⟩
        go_wp2_with fail
        go_roundw
        case rel => exact ⟨j + 1, _, by omega, by go_num, k1, q1.cells hrow hne (.inr (by simp)), Lib.hid (by rw [preL_succ HX.out, HPL.out]; rfl)⟩
        case measure => simp [intOf]; omega
      · replace hcx : wr.cell? ⟨g, j, none⟩ = some (.int .u8 116) := hcx
        go_wp2_with fail
        refine (num_st hS (n := m.top) (HF.out.num .t (by decide) HM.out) (by omega)).mono ?_
        rintro e v1 ⟨rfl, k1, q1⟩
        go_wp2_with fail
        go_roundw
        case rel => exact ⟨j + 1, _, by omega, by go_num, k1, q1.cells hrow hne (.inr (by simp)), Lib.hid (by rw [preL_succ HX.out, HPL.out]; rfl)⟩
        case measure => simp [intOf]; omega
      · replace hcx : wr.cell? ⟨g, j, none⟩ = some (.int .u8 114) := hcx
        go_wp2_with fail
        refine (num_st hS (n := m.read) (HF.out.num .r (by decide) HM.out) (by omega)).mono ?_
        rintro e v1 ⟨rfl, k1, q1⟩
        go_wp2_with fail
        go_roundw
        case rel => exact ⟨j + 1, _, by omega, by go_num, k1, q1.cells hrow hne (.inr (by simp)), Lib.hid (by rw [preL_succ HX.out, HPL.out]; rfl)⟩
        case measure => simp [intOf]; omega
      · replace hcx : wr.cell? ⟨g, j, none⟩ = some (.int .u8 109) := hcx
        go_wp2_with fail
        have hms := HF.out.mark HM.out
        refine (str_st hS (s := m.mark) (by omega) (by omega)).mono ?_
        rintro e v1 ⟨rfl, k1, q1⟩
        go_wp2_with fail
        go_roundw
        case rel => exact ⟨j + 1, _, by omega, by go_num, k1, q1.cells hrow hne (.inr (by simp)), Lib.hid (by rw [preL_succ HX.out, HPL.out]; rfl)⟩
        case measure => simp [intOf]; omega
      · replace hcx : wr.cell? ⟨g, j, none⟩ = some (.int .u8 112) := hcx
        go_wp2_with fail
        have hps := HF.out.part HM.out
        have y1 := numL_length m.pat.toNat
        have y2 := numL_length m.pof.toNat
        have y3 := numL_length (m.ptext.size : Int).toNat
        refine (num_st hS (n := m.pat) (by omega) (by omega)).mono ?_
        rintro e v1 ⟨rfl, k1, q1⟩
        clear c0 c1 c2 c3 c4 c5 c6 c7 c8 c9 c10 c11 c12 c13
        obtain ⟨c0, c1, c2, c3, c4, c5, c6, c7, c8, c9, c10, c11, c12, c13⟩ := MsgBox.of k1.box
        go_wp2_with fail
        refine (num_st k1 (n := m.pof) (by omega) (by simp only [List.length_append]; omega)).mono ?_
        rintro e v2 ⟨rfl, k2, q2⟩
        clear c0 c1 c2 c3 c4 c5 c6 c7 c8 c9 c10 c11 c12 c13
        obtain ⟨c0, c1, c2, c3, c4, c5, c6, c7, c8, c9, c10, c11, c12, c13⟩ := MsgBox.of k2.box
        go_wp2_with fail
        refine (num_st k2 (n := m.ptext.size) (by omega) (by simp only [List.length_append]; omega)).mono ?_
        rintro e v3 ⟨rfl, k3, q3⟩
        clear c0 c1 c2 c3 c4 c5 c6 c7 c8 c9 c10 c11 c12 c13
        obtain ⟨c0, c1, c2, c3, c4, c5, c6, c7, c8, c9, c10, c11, c12, c13⟩ := MsgBox.of k3.box
        go_wp2_with fail
        refine (str_st k3 (s := m.ptext) (by omega) (by simp only [List.length_append]; omega)).mono ?_
        rintro e v4 ⟨rfl, k4, q4⟩
        clear c0 c1 c2 c3 c4 c5 c6 c7 c8 c9 c10 c11 c12 c13 y1 y2 y3
        go_wp2_with fail
        go_roundw
        case rel => exact ⟨j + 1, _, by omega, by go_num, k4, (((q1.trans q2).trans q3).trans q4).cells hrow hne (.inr (by simp)), Lib.hid (by rw [preL_succ HX.out, HPL.out]; simp [fieldL])⟩
        case measure => simp [intOf]; omega
      · replace hcx : wr.cell? ⟨g, j, none⟩ = some (.int .u8 108) := hcx
        go_wp2_with fail
        have hls := HF.out.list HM.out
        have y1 := numL_length (m.list.length : Int).toNat
        refine (num_st hS (n := m.list.length) (by omega) (by omega)).mono ?_
        rintro e v1 ⟨rfl, k1, q1⟩
        clear c0 c1 c2 c3 c4 c5 c6 c7 c8 c9 c10 c11 c12 c13
        obtain ⟨-, -, -, -, -, -, -, -, -, -, -, -, -, c13⟩ := MsgBox.of k1.box
        have hrow1 := q1.cells hrow hne (.inr (by simp))
        have HLS := Lib.hid hls.2
        have hls1 := hls.1
        clear hls hrow q1
        go_wp2_with fail
        go_loopw [105, 8] (fun i x wr => ∃ (k : Nat) (l' : List UInt8), k ≤ m.list.length ∧ i = .int .i64 k ∧ BodySt w m A c l' wr ∧ wr.heap[g]? = some (.cells row 5 (n1, n1 + 1)) ∧ l'.length ≤ 27 + 4000 * j + 9 + 50 * k ∧ Hid (l' = l ++ numL m.list.length ++ (m.list.take k).flatMap entL)) (fun i _ _ => 64 - (intOf i).toNat)
        case atStart => exact ⟨0, _, Nat.zero_le _, rfl, k1, hrow1, by simp only [List.length_append]; omega, Lib.hid (by simp)⟩
        case round =>
          clear k1 hrow1 c13
          obtain ⟨k, l', hk, rfl, hS, hrow, hl', HL'⟩ := hrel
          obtain ⟨-, -, -, -, -, -, -, -, -, -, -, -, -, c13⟩ := MsgBox.of hS.box
          by_cases hlt2 : k < m.list.length
          · obtain ⟨ad, x, ea, hx, d0, d1, d2⟩ := hL.at_ hS.low hlt2
            subst ea
            have hf := HLS.out x (List.mem_of_getElem? hx)
            have HX2 := Lib.hid hx
            have z3 : (0 : Int) ≤ (k : Int) := by omega
            have z4 : (k : Int) < (m.list.length : Int) := by omega
            have y2 := numL_length x.f0.toNat
            have y3 := numL_length x.f1.toNat
            have hS1 := hS.below ((Below.refl wr.heap.size wr).alloc (Nat.le_refl _) (.cells #[.int .i64 x.f0, .int .i64 x.f1, .string x.f2] 80))
            have hq0 := Keeps.of_below (b := w.heap.size + 1) ((Below.refl wr.heap.size wr).alloc (Nat.le_refl _) (.cells #[.int .i64 x.f0, .int .i64 x.f1, .string x.f2] 80))
            have hen := heap_alloc_new wr (.cells #[.int .i64 x.f0, .int .i64 x.f1, .string x.f2] 80)
            have hne2 : wr.heap.size ≠ w.heap.size + 1 := by have := hS.bld.lt; omega
            clear hx
            go_wp2_with fail
            refine (num_st hS1 (n := x.f0) (by omega) (by omega)).mono ?_
            rintro e u1 ⟨rfl, k1, q1⟩
            have hen1 := q1.cells hen hne2 (.inl (by decide))
            have e1 := cell_of_row _ _ 1 _ _ _ hen1
            clear d0 d1 d2 c13 hS1 hen
            go_wp2_with fail
            refine (num_st k1 (n := x.f1) (by omega) (by simp only [List.length_append]; omega)).mono ?_
            rintro e u2 ⟨rfl, k2, q2⟩
            have hen2 := q2.cells hen1 hne2 (.inl (by decide))
            have e2 := cell_of_row _ _ 2 _ _ _ hen2
            clear e1 k1 hen1
            go_wp2_with fail
            refine (str_st k2 (s := x.f2) (by omega) (by simp only [List.length_append]; omega)).mono ?_
            rintro e u3 ⟨rfl, k3, q3⟩
            have hrow3 := (((hq0.trans q1).trans q2).trans q3).cells hrow hne (.inr (by simp))
            have e5 : x.f2.data.toList.length = x.f2.size := rfl
            clear e2 k2 hen2 hrow
            go_wp2_with fail
            go_roundw
            case rel => exact ⟨k + 1, _, by omega, by go_num, k3, hrow3, by simp only [List.length_append]; omega, Lib.hid (by rw [HL'.out, List.take_add_one, HX2.out]; simp [entL])⟩
            case measure => simp [intOf]; omega
          · have ek : k = m.list.length := by omega
            subst ek
            clear hlt2 c13
            go_wp2_with fail
            go_roundw
            case rel => exact ⟨j + 1, _, by omega, by go_num, hS, hrow, Lib.hid (by rw [preL_succ HX.out, HL'.out, HPL.out, List.take_length]; simp [fieldL])⟩
            case measure => simp [intOf]; omega
    · have ej : j = (fieldsOf m.kind).length := by omega
      subst ej
      have HBL : Hid (bodyL m = l) := Lib.hid HPL.out.symm
      clear c0 c1 c2 c3 c4 c5 c6 c7 c8 c9 c10 c11 c12 c13 hlt
      go_wp2_with fail
      refine (Try.Builder_String_any _ _ _ _ hS.bld (Nat.le_of_lt hS.bld.lt)).mono ?_
      rintro e w9 ⟨rfl, hb9⟩
      go_wp2_with fail
      go_ret
      exact ⟨by rw [HBL.out]; simp, hS.low.trans (hb9.mono (by omega))⟩
end Go.Proofs.Ytpegefcpanijhaa
