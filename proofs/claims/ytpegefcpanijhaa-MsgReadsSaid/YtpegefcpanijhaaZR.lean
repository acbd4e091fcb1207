/- The walk of the document's Right: the same messages may be. -/
import Derived.Test.YtpegefcpanijhaaZM
section
namespace Go.Proofs.Ytpegefcpanijhaa
set_option linter.unusedVariables false
set_option linter.unusedSimpArgs false
open Go.RowKit Go.Proofs.YtpegefcpanijhaaW.PrintWords PF

theorem bytesUp_nil (l : List Fd) : (bytesUp l).toList = [] ↔ l = [] := by
  rw [toList_nil]
  cases l with
  | nil => exact ⟨fun _ => rfl, fun _ => rfl⟩
  | cons a l =>
    simp [bytesUp, ByteArray.size]

set_option maxHeartbeats 2000000 in
set_option maxRecDepth 100000 in
/-- A head that may not be. -/
theorem rRight_no (m : MsgD) (A : Option Addr) (c : Nat) (w : World) (hh : headB m = false) :
    Calls Try.prog 28 #[.agg (m.cells A c)] w fun e w' => e = .returned (.bool (rightB m)) ∧ Below w.heap.size w w' := by
  have HR := Lib.hid (show rightB m = false by unfold rightB; rw [hh]; rfl)
  have HH := Lib.hid hh
  clear hh
  have HN := Lib.hid (bytesUp_nil (fieldsOf m.kind))
  by_cases hz : (bytesUp (fieldsOf m.kind)).toList = []
  · go_enter Try.func28, Try.ntmps28
    go_wp2_with fail
    refine (Fields_calls m.kind _).mono ?_
    rintro e w1 ⟨rfl, hb⟩
    obtain ⟨hB, hblk⟩ := msg_blk hb
    clear hb hblk
    go_wp2_with fail
    go_ret
    exact ⟨ret_bool HR.out.symm, hB⟩
  · by_cases g : m.frm < 0 ∨ 255 < m.frm
    · go_enter Try.func28, Try.ntmps28
      go_wp2_with fail
      refine (Fields_calls m.kind _).mono ?_
      rintro e w1 ⟨rfl, hb⟩
      obtain ⟨hB, hblk⟩ := msg_blk hb
      have c1 := cell_of_row _ _ 1 _ _ _ hblk
      clear hb hblk
      rcases g with g | g
      · go_wp2_with fail
        go_ret
        exact ⟨ret_bool HR.out.symm, hB⟩
      · have g0 : ¬ m.frm < 0 := by omega
        go_wp2_with fail
        go_ret
        exact ⟨ret_bool HR.out.symm, hB⟩
    · have g1 : ¬ m.frm < 0 := fun h => g (.inl h)
      have g2 : ¬ 255 < m.frm := fun h => g (.inr h)
      have g3 : m.dst < 0 ∨ 255 < m.dst := by
        have h1 := HH.out
        have h2 : fieldsOf m.kind ≠ [] := fun h => hz (HN.out.2 h)
        unfold headB at h1
        simp [h2] at h1
        omega
      clear g
      go_enter Try.func28, Try.ntmps28
      go_wp2_with fail
      refine (Fields_calls m.kind _).mono ?_
      rintro e w1 ⟨rfl, hb⟩
      obtain ⟨hB, hblk⟩ := msg_blk hb
      have c1 := cell_of_row _ _ 1 _ _ _ hblk
      have c2 := cell_of_row _ _ 2 _ _ _ hblk
      clear hb hblk
      rcases g3 with g | g
      · go_wp2_with fail
        go_ret
        exact ⟨ret_bool HR.out.symm, hB⟩
      · have g0 : ¬ m.dst < 0 := by omega
        go_wp2_with fail
        go_ret
        exact ⟨ret_bool HR.out.symm, hB⟩

/-- The k-th of the six. -/
def sixAt (k : Nat) : Fd := six.getD k .b
theorem sixAt_mem (k : Nat) : sixAt k ∈ six := by
  rcases k with _ | _ | _ | _ | _ | _ | k
  all_goals first | decide | exact .head _
def letters : ByteArray := ⟨#[66, 71, 83, 70, 84, 82]⟩
theorem six_bt {k : Nat} (h : k < 6) : bt ⟨#[66, 71, 83, 70, 84, 82]⟩ (k : Int) = (sixAt k).up.toNat := by
  obtain rfl | rfl | rfl | rfl | rfl | rfl : k = 0 ∨ k = 1 ∨ k = 2 ∨ k = 3 ∨ k = 4 ∨ k = 5 := by omega
  all_goals decide +kernel

theorem six_at {k : Nat} (h : k < 6) (h' : k < (⟨#[66, 71, 83, 70, 84, 82]⟩ : ByteArray).size) : ((((⟨#[66, 71, 83, 70, 84, 82]⟩ : ByteArray)[k]'h').toNat : Nat) : Int) = (((sixAt k).up.toNat : Nat) : Int) := by
  obtain rfl | rfl | rfl | rfl | rfl | rfl : k = 0 ∨ k = 1 ∨ k = 2 ∨ k = 3 ∨ k = 4 ∨ k = 5 := by omega
  all_goals rfl

theorem Has_of {k : Int} {x : Fd} {r : Bool} (hr : hasB k x = r) (c : Int) (hc : c = x.up.toNat) (w : World) : Calls Try.prog 52 #[.int .i64 k, .int .u8 c] w fun e w' => e = .returned (.bool r) ∧ Drawn0 w w' := hr ▸ Has_calls k x c hc w
theorem fits_of {n : Int} {r : Bool} (hr : fitsB n = r) (w : World) : Calls Try.prog 53 #[.int .i64 n] w fun e w' => e = .returned (.bool r) ∧ Drawn0 w w' := hr ▸ fits_calls n w

theorem numsB_all (m : MsgD) : numsB m = true ↔ ∀ j, j < 6 → numB m.kind (sixAt j) (m.num (sixAt j)) = true := by
  unfold numsB
  constructor
  · intro h j hj
    simp only [Bool.and_eq_true] at h
    obtain rfl | rfl | rfl | rfl | rfl | rfl : j = 0 ∨ j = 1 ∨ j = 2 ∨ j = 3 ∨ j = 4 ∨ j = 5 := by omega
    · exact h.1.1.1.1.1
    · exact h.1.1.1.1.2
    · exact h.1.1.1.2
    · exact h.1.1.2
    · exact h.1.2
    · exact h.2
  · intro h
    simp only [Bool.and_eq_true]
    exact ⟨⟨⟨⟨⟨h 0 (by omega), h 1 (by omega)⟩, h 2 (by omega)⟩, h 3 (by omega)⟩, h 4 (by omega)⟩, h 5 (by omega)⟩

theorem Has_b (k : Int) (x : Fd) (c : Int) (hc : c = x.up.toNat) (w : World) : Calls Try.prog 52 #[.int .i64 k, .int .u8 c] w fun e w' => e = .returned (.bool (hasB k x)) ∧ Below w.heap.size w w' :=
  (Has_calls k x c hc w).mono fun e w' ⟨he, hd⟩ => ⟨he, hd.below⟩
/-- A part that was set aside. -/
theorem part_blk {p q : Int} {t : ByteArray} {u u' : World} (hb : Below (u.alloc (.cells #[.int .i64 p, .int .i64 q, .string t] 41)).heap.size (u.alloc (.cells #[.int .i64 p, .int .i64 q, .string t] 41)) u') :
    Below u.heap.size u u' ∧ u'.heap[u.heap.size]? = some (.cells #[.int .i64 p, .int .i64 q, .string t] 41 (0, 0)) := by
  have hB : Below u.heap.size u (u.alloc (.cells #[.int .i64 p, .int .i64 q, .string t] 41)) := (Below.refl _ _).alloc (Nat.le_refl _) _
  exact ⟨hB.trans (hb.mono hB.size), blk_later hb⟩
theorem rB_false {m : MsgD} {r : Bool} {k : Nat} (h : rightB m = (numsB m && r)) (hk : k < 6) (he : numB m.kind (sixAt k) (m.num (sixAt k)) = false) : rightB m = false := by
  rw [h]
  have h0 : numsB m = false := by
    rw [Bool.eq_false_iff]
    intro h
    exact Bool.false_ne_true (he.symm.trans ((numsB_all m).1 h k hk))
  rw [h0]
  rfl
theorem number_box (m : MsgD) (A : Option Addr) (c : Nat) (x : Fd) (hx : x ∈ six) (y : Int) (hy : y = x.up.toNat) {W w : World} {b : Nat} (hB : Below W.heap.size W w) (hL : ListAt W A c m.list) (h : MsgBox w b m A c) :
    Calls Try.prog 51 #[.agg (m.cells A c), .int .u8 y] w fun e w' => e = .returned (.int .i64 (m.num x)) ∧ Below W.heap.size W w' ∧ w'.cell? ⟨b, 0, none⟩ = some (.int .i64 m.kind) ∧ w'.cell? ⟨b, 1, none⟩ = some (.int .i64 m.frm) ∧ w'.cell? ⟨b, 2, none⟩ = some (.int .i64 m.dst) ∧ w'.cell? ⟨b, 3, none⟩ = some (.int .i64 m.ballot) ∧ w'.cell? ⟨b, 4, none⟩ = some (.int .i64 m.gen) ∧ w'.cell? ⟨b, 5, none⟩ = some (.int .i64 m.basis) ∧ w'.cell? ⟨b, 6, none⟩ = some (.int .i64 m.floor) ∧ w'.cell? ⟨b, 7, none⟩ = some (.int .i64 m.top) ∧ w'.cell? ⟨b, 8, none⟩ = some (.int .i64 m.read) ∧ w'.cell? ⟨b, 9, none⟩ = some (.string m.mark) ∧ w'.cell? ⟨b, 10, none⟩ = some (.int .i64 m.pat) ∧ w'.cell? ⟨b, 11, none⟩ = some (.int .i64 m.pof) ∧ w'.cell? ⟨b, 12, none⟩ = some (.string m.ptext) ∧ w'.cell? ⟨b, 13, none⟩ = some (.slice A m.list.length c) :=
  (number_calls m A c x hx y hy w (hL.below hB)).mono fun e w' ⟨he, hb⟩ => ⟨he, hB.trans (hb.mono hB.size), (hb.cell (World.block_lt_of_cell? w _ h.c0)).trans h.c0, (hb.cell (World.block_lt_of_cell? w _ h.c1)).trans h.c1, (hb.cell (World.block_lt_of_cell? w _ h.c2)).trans h.c2, (hb.cell (World.block_lt_of_cell? w _ h.c3)).trans h.c3, (hb.cell (World.block_lt_of_cell? w _ h.c4)).trans h.c4, (hb.cell (World.block_lt_of_cell? w _ h.c5)).trans h.c5, (hb.cell (World.block_lt_of_cell? w _ h.c6)).trans h.c6, (hb.cell (World.block_lt_of_cell? w _ h.c7)).trans h.c7, (hb.cell (World.block_lt_of_cell? w _ h.c8)).trans h.c8, (hb.cell (World.block_lt_of_cell? w _ h.c9)).trans h.c9, (hb.cell (World.block_lt_of_cell? w _ h.c10)).trans h.c10, (hb.cell (World.block_lt_of_cell? w _ h.c11)).trans h.c11, (hb.cell (World.block_lt_of_cell? w _ h.c12)).trans h.c12, (hb.cell (World.block_lt_of_cell? w _ h.c13)).trans h.c13⟩

set_option maxHeartbeats 4000000 in
set_option maxRecDepth 100000 in
theorem rRight_yes (m : MsgD) (A : Option Addr) (c : Nat) (w : World) (hm : m.ptext.size ≤ maxLen) (hm2 : m.mark.size ≤ maxLen) (hL : ListAt w A c m.list) (hh : headB m = true) :
    Calls Try.prog 28 #[.agg (m.cells A c)] w fun e w' => e = .returned (.bool (rightB m)) ∧ Below w.heap.size w w' := by
  have HR := Lib.hid (show rightB m = (numsB m && (markB m && partB m && listB m)) by unfold rightB; rw [hh]; simp [Bool.and_assoc])
  have hz : ¬ (bytesUp (fieldsOf m.kind)).toList = [] := by
    rw [bytesUp_nil]
    intro h
    unfold headB at hh
    simp [h] at hh
  have HZ := Lib.hid hz
  obtain ⟨g1, g2, g3, g4⟩ : ¬ m.frm < 0 ∧ ¬ 255 < m.frm ∧ ¬ m.dst < 0 ∧ ¬ 255 < m.dst := by
    unfold headB at hh
    simp at hh
    omega
  clear hh hz
  go_enter Try.func28, Try.ntmps28
  go_wp2_with fail
  refine (Fields_calls m.kind _).mono ?_
  rintro e w1 ⟨rfl, hb⟩
  obtain ⟨hB, hblk⟩ := msg_blk hb
  have HBLK := Lib.hid hblk
  obtain ⟨c0, c1, c2, c3, c4, c5, c6, c7, c8, c9, c10, c11, c12, c13⟩ := MsgBox.of hblk
  clear hb hblk
  go_wp2_with fail
  · rename_i h
    exfalso
    rcases h with (((h | h) | h) | h) | h
    · exact HZ.out (List.isEmpty_iff.1 h)
    all_goals omega
  clear g1 g2 g3 g4 HZ c1 c2 c3 c4 c5 c6 c7 c8 c9 c10 c11 c12 c13 c0
  rename ¬(bytesUp (fieldsOf m.kind)).toList = [] => hq1
  rename _ ∧ m.dst ≤ 255 => hq2
  clear hq1 hq2
  go_loopw [4, 5] (fun i n wr => ∃ k : Nat, k ≤ 6 ∧ i = .int .i64 k ∧ Below w1.heap.size w1 wr ∧ Hid (∀ j, j < k → numB m.kind (sixAt j) (m.num (sixAt j)) = true)) (fun i _ _ => 6 - (intOf i).toNat)
  case atStart => exact ⟨0, Nat.zero_le _, rfl, Below.refl _ _, Lib.hid (fun j hj => by omega)⟩
  case round =>
    obtain ⟨k, hk, rfl, hBr, HA⟩ := hrel
    have hblk := blk_still HBLK.out hBr
    obtain ⟨c0, c1, c2, c3, c4, c5, c6, c7, c8, c9, c10, c11, c12, c13⟩ := MsgBox.of hblk
    have HBLKr := Lib.hid hblk
    clear hblk
    by_cases hlt : k < 6
    · have hx := fun h => (bt_at ⟨#[66, 71, 83, 70, 84, 82]⟩ (k : Int) h).trans (six_bt hlt)
      have z1 : (0 : Int) ≤ (k : Int) := by omega
      have z2 : (k : Int) < 6 := by omega
      go_wp2_with fail
      go_region_held3 (fun w' => w'.cell? ⟨w.heap.size, 0, none⟩ = some (.int .i64 m.kind) ∧ w'.cell? ⟨w.heap.size, 1, none⟩ = some (.int .i64 m.frm) ∧ w'.cell? ⟨w.heap.size, 2, none⟩ = some (.int .i64 m.dst) ∧ w'.cell? ⟨w.heap.size, 3, none⟩ = some (.int .i64 m.ballot) ∧ w'.cell? ⟨w.heap.size, 4, none⟩ = some (.int .i64 m.gen) ∧ w'.cell? ⟨w.heap.size, 5, none⟩ = some (.int .i64 m.basis) ∧ w'.cell? ⟨w.heap.size, 6, none⟩ = some (.int .i64 m.floor) ∧ w'.cell? ⟨w.heap.size, 7, none⟩ = some (.int .i64 m.top) ∧ w'.cell? ⟨w.heap.size, 8, none⟩ = some (.int .i64 m.read) ∧ w'.cell? ⟨w.heap.size, 9, none⟩ = some (.string m.mark) ∧ w'.cell? ⟨w.heap.size, 10, none⟩ = some (.int .i64 m.pat) ∧ w'.cell? ⟨w.heap.size, 11, none⟩ = some (.int .i64 m.pof) ∧ w'.cell? ⟨w.heap.size, 12, none⟩ = some (.string m.ptext) ∧ w'.cell? ⟨w.heap.size, 13, none⟩ = some (.slice A m.list.length c)) (go_keep)
        ((go_at_call 51; refine (number_box m A c (sixAt k) (sixAt_mem k) _ (six_at hlt _) (W := w1) (b := w.heap.size) (by first | exact hBr | exact below_drewN hBr _ | exact hBr.drew) (hL.below hB) ⟨by assumption, by assumption, by assumption, by assumption, by assumption, by assumption, by assumption, by assumption, by assumption, by assumption, by assumption, by assumption, by assumption, by assumption⟩).mono ?_; rintro e w6 ⟨rfl, hB6, f0, f1, f2, f3, f4, f5, f6, f7, f8, f9, f10, f11, f12, f13⟩))
      go_wp2_with fail
      clear f1 f2 f3 f4 f5 f6 f7 f8 f9 f10 f11 f12 f13 c0 c1 c2 c3 c4 c5 c6 c7 c8 c9 c10 c11 c12 c13
      have HE : Hid (numB m.kind (sixAt k) (m.num (sixAt k)) = (if hasB m.kind (sixAt k) then fitsB (m.num (sixAt k)) else decide (m.num (sixAt k) = 0))) := Lib.hid rfl
      generalize hX : hasB m.kind (sixAt k) = hx1 at HE
      generalize hF : fitsB (m.num (sixAt k)) = hf1 at HE
      have HX := Lib.hid hX
      have HF := Lib.hid hF
      clear hX hF
      cases hx1
      · replace HE : Hid (numB m.kind (sixAt k) (m.num (sixAt k)) = decide (m.num (sixAt k) = 0)) := HE
        by_cases hn : m.num (sixAt k) = 0
        · replace HE : Hid (numB m.kind (sixAt k) (m.num (sixAt k)) = true) := Lib.hid (HE.out.trans (decide_eq_true hn))
          have z3 : (m.num (sixAt k) != 0) = false := by rw [hn]; rfl
          clear hn
          have HA' : Hid (∀ j, j < k + 1 → numB m.kind (sixAt j) (m.num (sixAt j)) = true) := Lib.hid (fun j hj => by
            by_cases e : j = k
            · rw [e]; exact HE.out
            · exact HA.out j (by omega))
          go_quiet (first
            | (go_at_call 52; (with_reducible refine (Has_of HX.out _ (six_at hlt _) _).mono ?_); rintro e w' ⟨rfl, ⟨nd, rfl⟩⟩; (try first | exact ⟨rfl, _, World.drewN_drewN _ _ _⟩ | exact ⟨rfl, _, Eq.trans (World.drewN_drewN _ _ _) (congrArg (World.drewN _) (Nat.add_assoc _ _ _))⟩))
            | (go_at_call 53; (with_reducible refine (fits_of HF.out _).mono ?_); rintro e w' ⟨rfl, ⟨nd, rfl⟩⟩; (try first | exact ⟨rfl, _, World.drewN_drewN _ _ _⟩ | exact ⟨rfl, _, Eq.trans (World.drewN_drewN _ _ _) (congrArg (World.drewN _) (Nat.add_assoc _ _ _))⟩)))
          go_wp2_with fail
          go_roundw
          case rel => exact ⟨k + 1, by omega, by go_num, pw_below_drewN hB6 _, HA'⟩
          case measure => simp [intOf]; omega
        · replace HE : Hid (numB m.kind (sixAt k) (m.num (sixAt k)) = false) := Lib.hid (HE.out.trans (decide_eq_false hn))
          have z3 : (m.num (sixAt k) != 0) = true := by rw [bne_iff_ne]; exact hn
          clear hn
          go_quiet (first
            | (go_at_call 52; (with_reducible refine (Has_of HX.out _ (six_at hlt _) _).mono ?_); rintro e w' ⟨rfl, ⟨nd, rfl⟩⟩; (try first | exact ⟨rfl, _, World.drewN_drewN _ _ _⟩ | exact ⟨rfl, _, Eq.trans (World.drewN_drewN _ _ _) (congrArg (World.drewN _) (Nat.add_assoc _ _ _))⟩))
            | (go_at_call 53; (with_reducible refine (fits_of HF.out _).mono ?_); rintro e w' ⟨rfl, ⟨nd, rfl⟩⟩; (try first | exact ⟨rfl, _, World.drewN_drewN _ _ _⟩ | exact ⟨rfl, _, Eq.trans (World.drewN_drewN _ _ _) (congrArg (World.drewN _) (Nat.add_assoc _ _ _))⟩)))
          go_wp2_with fail
          go_ret
          exact ⟨ret_bool (rB_false HR.out hlt HE.out).symm, hB.trans ((pw_below_drewN hB6 _).mono hB.size)⟩
      · cases hf1
        · replace HE : Hid (numB m.kind (sixAt k) (m.num (sixAt k)) = false) := HE
          go_quiet (first
            | (go_at_call 52; (with_reducible refine (Has_of HX.out _ (six_at hlt _) _).mono ?_); rintro e w' ⟨rfl, ⟨nd, rfl⟩⟩; (try first | exact ⟨rfl, _, World.drewN_drewN _ _ _⟩ | exact ⟨rfl, _, Eq.trans (World.drewN_drewN _ _ _) (congrArg (World.drewN _) (Nat.add_assoc _ _ _))⟩))
            | (go_at_call 53; (with_reducible refine (fits_of HF.out _).mono ?_); rintro e w' ⟨rfl, ⟨nd, rfl⟩⟩; (try first | exact ⟨rfl, _, World.drewN_drewN _ _ _⟩ | exact ⟨rfl, _, Eq.trans (World.drewN_drewN _ _ _) (congrArg (World.drewN _) (Nat.add_assoc _ _ _))⟩)))
          go_wp2_with fail
          go_ret
          exact ⟨ret_bool (rB_false HR.out hlt HE.out).symm, hB.trans ((pw_below_drewN hB6 _).mono hB.size)⟩
        · replace HE : Hid (numB m.kind (sixAt k) (m.num (sixAt k)) = true) := HE
          have HA' : Hid (∀ j, j < k + 1 → numB m.kind (sixAt j) (m.num (sixAt j)) = true) := Lib.hid (fun j hj => by
            by_cases e : j = k
            · rw [e]; exact HE.out
            · exact HA.out j (by omega))
          go_quiet (first
            | (go_at_call 52; (with_reducible refine (Has_of HX.out _ (six_at hlt _) _).mono ?_); rintro e w' ⟨rfl, ⟨nd, rfl⟩⟩; (try first | exact ⟨rfl, _, World.drewN_drewN _ _ _⟩ | exact ⟨rfl, _, Eq.trans (World.drewN_drewN _ _ _) (congrArg (World.drewN _) (Nat.add_assoc _ _ _))⟩))
            | (go_at_call 53; (with_reducible refine (fits_of HF.out _).mono ?_); rintro e w' ⟨rfl, ⟨nd, rfl⟩⟩; (try first | exact ⟨rfl, _, World.drewN_drewN _ _ _⟩ | exact ⟨rfl, _, Eq.trans (World.drewN_drewN _ _ _) (congrArg (World.drewN _) (Nat.add_assoc _ _ _))⟩)))
          go_wp2_with fail
          go_roundw
          case rel => exact ⟨k + 1, by omega, by go_num, pw_below_drewN hB6 _, HA'⟩
          case measure => simp [intOf]; omega
    · have HRR : Hid (rightB m = (markB m && partB m && listB m)) := Lib.hid (by
        rw [HR.out, (numsB_all m).2 (fun j hj => HA.out j (by omega))]; rfl)
      clear HR HA
      have hge : (6 : Int) ≤ (k : Int) := by omega
      have hB0 := Lib.hid (hB.trans (hBr.mono hB.size))
      clear hB hBr HBLK hlt
      go_wp2_with fail
      refine (Has_b m.kind .m _ rfl _).mono ?_
      rintro e v0 ⟨rfl, hb⟩
      have hblk := blk_still HBLKr.out hb
      have HK1 := Lib.hid hblk
      have HB1 := Lib.hid (hB0.out.trans (hb.mono hB0.out.size))
      clear hb HBLKr hB0 c0 c1 c2 c3 c4 c5 c6 c7 c8 c9 c10 c11 c12 c13
      obtain ⟨c0, c1, c2, c3, c4, c5, c6, c7, c8, c9, c10, c11, c12, c13⟩ := MsgBox.of hblk
      clear hblk
      rcases (Bool.eq_false_or_eq_true (hasB m.kind .m)).symm with hh | hh
      · have HH := Lib.hid hh
        rw [hh]
        clear hh
        go_wp2_with fail
        refine (Has_b m.kind .m _ rfl _).mono ?_
        rintro e v1 ⟨rfl, hb⟩
        have hblk := blk_still HK1.out hb
        have HK2 := Lib.hid hblk
        have HB2 := Lib.hid (HB1.out.trans (hb.mono HB1.out.size))
        clear hb HK1 HB1 c0 c1 c2 c3 c4 c5 c6 c7 c8 c9 c10 c11 c12 c13
        obtain ⟨c0, c1, c2, c3, c4, c5, c6, c7, c8, c9, c10, c11, c12, c13⟩ := MsgBox.of hblk
        clear hblk
        rw [HH.out]
        by_cases hs : m.mark.toList = []
        · have HM := Lib.hid (show markB m = true by unfold markB; rw [HH.out, (toList_nil _).1 hs]; rfl)
          have n0 := (World.cell?_alloc_lt v1 (.cells #[.int .i64 m.pat, .int .i64 m.pof, .string m.ptext] 41) _ (World.block_lt_of_cell? v1 _ c0)).trans c0
          go_wp2_with fail
          clear n0
          refine (Has_b m.kind .p _ rfl _).mono ?_
          rintro e v2 ⟨rfl, hb⟩
          obtain ⟨hb', hpk⟩ := part_blk hb
          have hblk := blk_still HK2.out hb'
          have HK3 := Lib.hid hblk
          have HB3 := Lib.hid (HB2.out.trans (hb'.mono HB2.out.size))
          have p0 := cell_of_row _ _ 0 _ _ _ hpk
          have p1 := cell_of_row _ _ 1 _ _ _ hpk
          have p2 := cell_of_row _ _ 2 _ _ _ hpk
          have HPK := Lib.hid hpk
          clear hb hb' hpk HK2 HB2 c0 c1 c2 c3 c4 c5 c6 c7 c8 c9 c10 c11 c12 c13
          obtain ⟨c0, c1, c2, c3, c4, c5, c6, c7, c8, c9, c10, c11, c12, c13⟩ := MsgBox.of hblk
          clear hblk
          rcases (Bool.eq_false_or_eq_true (hasB m.kind .p)).symm with hp0 | hp0
          · have HHP := Lib.hid hp0
            rw [hp0]
            clear hp0
            go_wp2_with fail
            refine (Has_b m.kind .p _ rfl _).mono ?_
            rintro e v3 ⟨rfl, hb⟩
            have hblk := blk_still HK3.out hb
            have HK4 := Lib.hid hblk
            have HB4 := Lib.hid (HB3.out.trans (hb.mono HB3.out.size))
            clear p0 p1 p2
            have hpk := blk_still HPK.out hb
            have p0 := cell_of_row _ _ 0 _ _ _ hpk
            have p1 := cell_of_row _ _ 1 _ _ _ hpk
            have p2 := cell_of_row _ _ 2 _ _ _ hpk
            clear hpk
            clear hb HK3 HB3 c0 c1 c2 c3 c4 c5 c6 c7 c8 c9 c10 c11 c12 c13
            obtain ⟨c0, c1, c2, c3, c4, c5, c6, c7, c8, c9, c10, c11, c12, c13⟩ := MsgBox.of hblk
            clear hblk
            rw [HHP.out]
            by_cases a1 : m.pat = 0 ∧ m.pof = 0 ∧ m.ptext.toList = []
            · have HP := Lib.hid (show partB m = true by unfold partB; rw [HHP.out, a1.1, a1.2.1, (toList_nil _).1 a1.2.2]; rfl)
              obtain ⟨a2, a3, a4⟩ := a1
              have z1 : (m.pat != 0) = false := by rw [a2]; rfl
              have z2 : (m.pof != 0) = false := by rw [a3]; rfl
              clear a2 a3
              go_wp2_with fail
              refine (Has_b m.kind .l _ rfl _).mono ?_
              rintro e u ⟨rfl, hb⟩
              have hblk := blk_still HK4.out hb
              have HKU := Lib.hid hblk
              have HBu := Lib.hid (HB4.out.trans (hb.mono HB4.out.size))
              clear hb HK4 HB4 c0 c1 c2 c3 c4 c5 c6 c7 c8 c9 c10 c11 c12 c13
              obtain ⟨c0, c1, c2, c3, c4, c5, c6, c7, c8, c9, c10, c11, c12, c13⟩ := MsgBox.of hblk
              clear hblk
              clear c0 c1 c2 c3 c4 c5 c6 c7 c8 c9 c10 c11 c12
              rcases (Bool.eq_false_or_eq_true (hasB m.kind .l)).symm with hl0 | hl0
              · have HL := Lib.hid hl0
                rw [hl0]
                clear hl0
                go_wp2_with fail
                go_ret
                refine ⟨ret_bool ?_, HBu.out⟩
                rw [HRR.out, HM.out, HP.out]
                unfold listB
                rw [HL.out, Bool.eq_iff_iff]
                simp
              · have HL := Lib.hid hl0
                rw [hl0]
                clear hl0
                by_cases hlen : m.list.length ≤ 64
                · go_wp2_with fail
                  go_loopw [7, 8] (fun i x wr => ∃ k : Nat, k ≤ m.list.length ∧ i = .int .i64 k ∧ Below u.heap.size u wr ∧ Hid (∀ j, j < k → entAt m.list j = true)) (fun i _ _ => 64 - (intOf i).toNat)
                  case atStart => exact ⟨0, Nat.zero_le _, rfl, Below.refl _ _, Lib.hid (fun j hj => by omega)⟩
                  case round =>
                    obtain ⟨k, hk, rfl, hBr, HA⟩ := hrel
                    have d13 : wr.cell? ⟨w.heap.size, 13, none⟩ = some (.slice A m.list.length c) := (hBr.cell (World.block_lt_of_cell? u _ c13)).trans c13
                    by_cases hlt : k < m.list.length
                    · obtain ⟨ad, x, rfl, hx, d0, d1, d2⟩ := hL.at_ (HBu.out.trans (hBr.mono HBu.out.size)) hlt
                      have n13 := (World.cell?_alloc_lt wr (.cells #[.int .i64 x.f0, .int .i64 x.f1, .string x.f2] 80) _ (World.block_lt_of_cell? wr _ d13)).trans d13
                      have HX := Lib.hid hx
                      clear hx
                      have HEE : Hid (entB x = (fitsB x.f0 && fitsB x.f1 && decide (x.f2.size = 32))) := Lib.hid rfl
                      generalize hf0 : fitsB x.f0 = r0 at HEE
                      generalize hf1 : fitsB x.f1 = r1 at HEE
                      have HF0 := Lib.hid hf0
                      have HF1 := Lib.hid hf1
                      clear hf0 hf1
                      cases r0
                      · have HE := Lib.hid (listB_false HL.out hlt (entAt_bad HX.out (HEE.out.trans (by simp))))
                        go_wp2_with fail
                        go_quiet (first | (go_at_call 53; (first | (with_reducible refine (fits_of HF0.out _).mono ?_) | (with_reducible refine (fits_of HF1.out _).mono ?_)); rintro e w' ⟨rfl, ⟨nd, rfl⟩⟩; (try first | exact ⟨rfl, _, World.drewN_drewN _ _ _⟩ | exact ⟨rfl, _, Eq.trans (World.drewN_drewN _ _ _) (congrArg (World.drewN _) (Nat.add_assoc _ _ _))⟩)))
                        go_wp2_with fail
                        go_ret
                        exact ⟨ret_bool (by rw [HRR.out, HE.out]; simp), HBu.out.trans (pw_below_drewN ((hBr.alloc hBr.size _).mono HBu.out.size) _)⟩
                      cases r1
                      · have HE := Lib.hid (listB_false HL.out hlt (entAt_bad HX.out (HEE.out.trans (by simp))))
                        go_wp2_with fail
                        go_quiet (first | (go_at_call 53; (first | (with_reducible refine (fits_of HF0.out _).mono ?_) | (with_reducible refine (fits_of HF1.out _).mono ?_)); rintro e w' ⟨rfl, ⟨nd, rfl⟩⟩; (try first | exact ⟨rfl, _, World.drewN_drewN _ _ _⟩ | exact ⟨rfl, _, Eq.trans (World.drewN_drewN _ _ _) (congrArg (World.drewN _) (Nat.add_assoc _ _ _))⟩)))
                        go_wp2_with fail
                        go_ret
                        exact ⟨ret_bool (by rw [HRR.out, HE.out]; simp), HBu.out.trans (pw_below_drewN ((hBr.alloc hBr.size _).mono HBu.out.size) _)⟩
                      by_cases b5 : x.f2.size = 32
                      · have HB' : Hid (entB x = true) := Lib.hid (HEE.out.trans (by simp [b5]))
                        have z5 : ((x.f2.size : Int) != 32) = false := by rw [b5]; rfl
                        clear b5
                        rcases Nat.eq_zero_or_pos k with hk0 | hk0
                        · have HA' : Hid (∀ j, j < k + 1 → entAt m.list j = true) := Lib.hid (fun j hj => by
                            have e0 : k = 0 := hk0
                            subst e0
                            obtain rfl : j = 0 := by omega
                            rw [entAt_first HX.out]; exact HB'.out)
                          have hk1 : (k : Int) ≤ 0 := by omega
                          have z7 : decide (0 < (k : Int)) = false := decide_eq_false (by omega)
                          have z8 : decide (0 < k) = false := decide_eq_false (by omega)
                          clear hk0
                          go_wp2_with fail
                          go_quiet (first | (go_at_call 53; (first | (with_reducible refine (fits_of HF0.out _).mono ?_) | (with_reducible refine (fits_of HF1.out _).mono ?_)); rintro e w' ⟨rfl, ⟨nd, rfl⟩⟩; (try first | exact ⟨rfl, _, World.drewN_drewN _ _ _⟩ | exact ⟨rfl, _, Eq.trans (World.drewN_drewN _ _ _) (congrArg (World.drewN _) (Nat.add_assoc _ _ _))⟩)))
                          go_wp2_with fail
                          go_roundw
                          case rel => exact ⟨k + 1, by omega, by go_num, pw_below_drewN (hBr.alloc hBr.size _) _, HA'⟩
                          case measure => simp [intOf]; omega
                        · obtain ⟨p, rfl⟩ : ∃ p, k = p + 1 := ⟨k - 1, by omega⟩
                          obtain ⟨ad', y, ea, hy, e0, e1, e2⟩ := hL.at_ (HBu.out.trans (hBr.mono HBu.out.size)) (k := p) (by omega)
                          obtain rfl : ad = ad' := by injection ea
                          have HY := Lib.hid hy
                          have n0 := (World.cell?_alloc_lt wr (.cells #[.int .i64 x.f0, .int .i64 x.f1, .string x.f2] 80) _ (World.block_lt_of_cell? wr _ e0)).trans e0
                          have q3 : IntKind.i64.wrap ((p : Int) + 1 - 1) = (p : Int) := by rw [IntKind.wrap_i64]; omega
                          have q4 : (0 : Int) < (p : Int) + 1 := by omega
                          clear hy ea e1 e2
                          have q1 : (0 : Int) ≤ (p : Int) := by omega
                          have q2 : (p : Int) < (m.list.length : Int) := by omega
                          by_cases b6 : x.f0 ≤ y.f0
                          · have HE := Lib.hid (listB_false HL.out hlt (by rw [entAt_next HX.out HY.out]; simp; omega))
                            go_wp2_with fail
                            go_quiet (first | (go_at_call 53; (first | (with_reducible refine (fits_of HF0.out _).mono ?_) | (with_reducible refine (fits_of HF1.out _).mono ?_)); rintro e w' ⟨rfl, ⟨nd, rfl⟩⟩; (try first | exact ⟨rfl, _, World.drewN_drewN _ _ _⟩ | exact ⟨rfl, _, Eq.trans (World.drewN_drewN _ _ _) (congrArg (World.drewN _) (Nat.add_assoc _ _ _))⟩)))
                            go_wp2_with fail
                            go_ret
                            exact ⟨ret_bool (by rw [HRR.out, HE.out]; simp), HBu.out.trans (pw_below_drewN ((hBr.alloc hBr.size _).mono HBu.out.size) _)⟩
                          · have z6 : decide (x.f0 ≤ y.f0) = false := decide_eq_false (by omega)
                            have HA' : Hid (∀ j, j < p + 1 + 1 → entAt m.list j = true) := Lib.hid (fun j hj => by
                              by_cases e : j = p + 1
                              · subst e
                                rw [entAt_next HX.out HY.out, HB'.out]; simp; omega
                              · exact HA.out j (by omega))
                            go_wp2_with fail
                            go_quiet (first | (go_at_call 53; (first | (with_reducible refine (fits_of HF0.out _).mono ?_) | (with_reducible refine (fits_of HF1.out _).mono ?_)); rintro e w' ⟨rfl, ⟨nd, rfl⟩⟩; (try first | exact ⟨rfl, _, World.drewN_drewN _ _ _⟩ | exact ⟨rfl, _, Eq.trans (World.drewN_drewN _ _ _) (congrArg (World.drewN _) (Nat.add_assoc _ _ _))⟩)))
                            go_wp2_with fail
                            go_roundw
                            case rel => exact ⟨p + 1 + 1, by omega, by go_num, pw_below_drewN (hBr.alloc hBr.size _) _, HA'⟩
                            case measure => simp [intOf]; omega
                      · have HE := Lib.hid (listB_false HL.out hlt (entAt_bad HX.out (HEE.out.trans (by simp [b5]))))
                        have z5 : ((x.f2.size : Int) != 32) = true := by rw [bne_iff_ne]; omega
                        go_wp2_with fail
                        go_quiet (first | (go_at_call 53; (first | (with_reducible refine (fits_of HF0.out _).mono ?_) | (with_reducible refine (fits_of HF1.out _).mono ?_)); rintro e w' ⟨rfl, ⟨nd, rfl⟩⟩; (try first | exact ⟨rfl, _, World.drewN_drewN _ _ _⟩ | exact ⟨rfl, _, Eq.trans (World.drewN_drewN _ _ _) (congrArg (World.drewN _) (Nat.add_assoc _ _ _))⟩)))
                        go_wp2_with fail
                        go_ret
                        exact ⟨ret_bool (by rw [HRR.out, HE.out]; simp), HBu.out.trans (pw_below_drewN ((hBr.alloc hBr.size _).mono HBu.out.size) _)⟩
                    · have HE := Lib.hid (listB_true HL.out hlen (fun j hj => HA.out j (by omega)))
                      go_wp2_with fail
                      go_ret
                      exact ⟨ret_bool (by rw [HRR.out, HM.out, HP.out, HE.out]; rfl), HBu.out.trans (hBr.mono HBu.out.size)⟩
                · have HE : Hid (listB m = false) := Lib.hid (by unfold listB; rw [HL.out, decide_eq_false hlen]; rfl)
                  go_wp2_with fail
                  go_ret
                  exact ⟨ret_bool (by rw [HRR.out, HE.out]; simp), HBu.out⟩
            · have HP := Lib.hid (show partB m = false by
                unfold partB; rw [HHP.out, if_neg (by simp), Bool.eq_false_iff]
                intro h
                simp only [Bool.and_eq_true, decide_eq_true_eq] at h
                exact a1 ⟨h.1.1, h.1.2, (toList_nil _).2 h.2⟩)
              by_cases a2 : m.pat = 0
              · by_cases a3 : m.pof = 0
                · have a4 : ¬ m.ptext.toList = [] := fun h => a1 ⟨a2, a3, h⟩
                  have HA4 := Lib.hid a4
                  have z1 : (m.pat != 0) = false := by rw [a2]; rfl
                  have z2 : (m.pof != 0) = false := by rw [a3]; rfl
                  clear a1 a2 a3
                  go_wp2_with fail
                  · go_ret
                    exact ⟨ret_bool (by rw [HRR.out, HP.out]; simp), HB4.out⟩
                  all_goals exact absurd (by first | assumption | simp_all) HA4.out
                · have z1 : (m.pat != 0) = false := by rw [a2]; rfl
                  have z2 : (m.pof != 0) = true := by rw [bne_iff_ne]; exact a3
                  clear a1 a2 a3
                  go_wp2_with fail
                  go_ret
                  exact ⟨ret_bool (by rw [HRR.out, HP.out]; simp), HB4.out⟩
              · have z1 : (m.pat != 0) = true := by rw [bne_iff_ne]; exact a2
                clear a1 a2
                go_wp2_with fail
                go_ret
                exact ⟨ret_bool (by rw [HRR.out, HP.out]; simp), HB4.out⟩
          · have HHP := Lib.hid hp0
            rw [hp0]
            clear hp0
            have hms : m.ptext.size ≤ 9223372036854775807 := by unfold maxLen at hm; omega
            by_cases a1 : m.pat < 0
            · have HP := Lib.hid (show partB m = false by unfold partB; rw [HHP.out, if_pos rfl, Bool.eq_false_iff]; simp; omega)
              go_wp2_with fail
              go_ret
              exact ⟨ret_bool (by rw [HRR.out, HP.out]; simp), HB3.out⟩
            by_cases a2 : 4096 < m.pat
            · have HP := Lib.hid (show partB m = false by unfold partB; rw [HHP.out, if_pos rfl, Bool.eq_false_iff]; simp; omega)
              go_wp2_with fail
              go_ret
              exact ⟨ret_bool (by rw [HRR.out, HP.out]; simp), HB3.out⟩
            by_cases a3 : m.pof < 0
            · have HP := Lib.hid (show partB m = false by unfold partB; rw [HHP.out, if_pos rfl, Bool.eq_false_iff]; simp; omega)
              go_wp2_with fail
              go_ret
              exact ⟨ret_bool (by rw [HRR.out, HP.out]; simp), HB3.out⟩
            by_cases a4 : 4096 < m.pof
            · have HP := Lib.hid (show partB m = false by unfold partB; rw [HHP.out, if_pos rfl, Bool.eq_false_iff]; simp; omega)
              go_wp2_with fail
              go_ret
              exact ⟨ret_bool (by rw [HRR.out, HP.out]; simp), HB3.out⟩
            by_cases a5 : 1024 < (m.ptext.size : Int)
            · have HP := Lib.hid (show partB m = false by unfold partB; rw [HHP.out, if_pos rfl, Bool.eq_false_iff]; simp; omega)
              go_wp2_with fail
              go_ret
              exact ⟨ret_bool (by rw [HRR.out, HP.out]; simp), HB3.out⟩
            have HP := Lib.hid (show partB m = true by unfold partB; rw [HHP.out, if_pos rfl]; simp; omega)
            go_wp2_with fail
            refine (Has_b m.kind .p _ rfl _).mono ?_
            rintro e v3 ⟨rfl, hb⟩
            have hblk := blk_still HK3.out hb
            have HK4 := Lib.hid hblk
            have HB4 := Lib.hid (HB3.out.trans (hb.mono HB3.out.size))
            clear p0 p1 p2
            have hpk := blk_still HPK.out hb
            have p0 := cell_of_row _ _ 0 _ _ _ hpk
            have p1 := cell_of_row _ _ 1 _ _ _ hpk
            have p2 := cell_of_row _ _ 2 _ _ _ hpk
            clear hpk
            clear hb HK3 HB3 c0 c1 c2 c3 c4 c5 c6 c7 c8 c9 c10 c11 c12 c13
            obtain ⟨c0, c1, c2, c3, c4, c5, c6, c7, c8, c9, c10, c11, c12, c13⟩ := MsgBox.of hblk
            clear hblk
            rw [HHP.out]
            have HA5 : Hid ((((0 ≤ m.pat ∧ m.pat ≤ 4096) ∧ 0 ≤ m.pof) ∧ m.pof ≤ 4096) ∧ (m.ptext.size : Int) ≤ 1024) := Lib.hid (by omega)
            clear a1 a2 a3 a4 a5
            go_wp2_with fail
            all_goals try (rename ¬((((_ ∧ _) ∧ _) ∧ _) ∧ _) => hq; exact absurd HA5.out hq)
            refine (Has_b m.kind .l _ rfl _).mono ?_
            rintro e u ⟨rfl, hb⟩
            have hblk := blk_still HK4.out hb
            have HKU := Lib.hid hblk
            have HBu := Lib.hid (HB4.out.trans (hb.mono HB4.out.size))
            clear hb HK4 HB4 c0 c1 c2 c3 c4 c5 c6 c7 c8 c9 c10 c11 c12 c13
            obtain ⟨c0, c1, c2, c3, c4, c5, c6, c7, c8, c9, c10, c11, c12, c13⟩ := MsgBox.of hblk
            clear hblk
            clear c0 c1 c2 c3 c4 c5 c6 c7 c8 c9 c10 c11 c12
            rcases (Bool.eq_false_or_eq_true (hasB m.kind .l)).symm with hl0 | hl0
            · have HL := Lib.hid hl0
              rw [hl0]
              clear hl0
              go_wp2_with fail
              go_ret
              refine ⟨ret_bool ?_, HBu.out⟩
              rw [HRR.out, HM.out, HP.out]
              unfold listB
              rw [HL.out, Bool.eq_iff_iff]
              simp
            · have HL := Lib.hid hl0
              rw [hl0]
              clear hl0
              by_cases hlen : m.list.length ≤ 64
              · go_wp2_with fail
                go_loopw [7, 8] (fun i x wr => ∃ k : Nat, k ≤ m.list.length ∧ i = .int .i64 k ∧ Below u.heap.size u wr ∧ Hid (∀ j, j < k → entAt m.list j = true)) (fun i _ _ => 64 - (intOf i).toNat)
                case atStart => exact ⟨0, Nat.zero_le _, rfl, Below.refl _ _, Lib.hid (fun j hj => by omega)⟩
                case round =>
                  obtain ⟨k, hk, rfl, hBr, HA⟩ := hrel
                  have d13 : wr.cell? ⟨w.heap.size, 13, none⟩ = some (.slice A m.list.length c) := (hBr.cell (World.block_lt_of_cell? u _ c13)).trans c13
                  by_cases hlt : k < m.list.length
                  · obtain ⟨ad, x, rfl, hx, d0, d1, d2⟩ := hL.at_ (HBu.out.trans (hBr.mono HBu.out.size)) hlt
                    have n13 := (World.cell?_alloc_lt wr (.cells #[.int .i64 x.f0, .int .i64 x.f1, .string x.f2] 80) _ (World.block_lt_of_cell? wr _ d13)).trans d13
                    have HX := Lib.hid hx
                    clear hx
                    have HEE : Hid (entB x = (fitsB x.f0 && fitsB x.f1 && decide (x.f2.size = 32))) := Lib.hid rfl
                    generalize hf0 : fitsB x.f0 = r0 at HEE
                    generalize hf1 : fitsB x.f1 = r1 at HEE
                    have HF0 := Lib.hid hf0
                    have HF1 := Lib.hid hf1
                    clear hf0 hf1
                    cases r0
                    · have HE := Lib.hid (listB_false HL.out hlt (entAt_bad HX.out (HEE.out.trans (by simp))))
                      go_wp2_with fail
                      go_quiet (first | (go_at_call 53; (first | (with_reducible refine (fits_of HF0.out _).mono ?_) | (with_reducible refine (fits_of HF1.out _).mono ?_)); rintro e w' ⟨rfl, ⟨nd, rfl⟩⟩; (try first | exact ⟨rfl, _, World.drewN_drewN _ _ _⟩ | exact ⟨rfl, _, Eq.trans (World.drewN_drewN _ _ _) (congrArg (World.drewN _) (Nat.add_assoc _ _ _))⟩)))
                      go_wp2_with fail
                      go_ret
                      exact ⟨ret_bool (by rw [HRR.out, HE.out]; simp), HBu.out.trans (pw_below_drewN ((hBr.alloc hBr.size _).mono HBu.out.size) _)⟩
                    cases r1
                    · have HE := Lib.hid (listB_false HL.out hlt (entAt_bad HX.out (HEE.out.trans (by simp))))
                      go_wp2_with fail
                      go_quiet (first | (go_at_call 53; (first | (with_reducible refine (fits_of HF0.out _).mono ?_) | (with_reducible refine (fits_of HF1.out _).mono ?_)); rintro e w' ⟨rfl, ⟨nd, rfl⟩⟩; (try first | exact ⟨rfl, _, World.drewN_drewN _ _ _⟩ | exact ⟨rfl, _, Eq.trans (World.drewN_drewN _ _ _) (congrArg (World.drewN _) (Nat.add_assoc _ _ _))⟩)))
                      go_wp2_with fail
                      go_ret
                      exact ⟨ret_bool (by rw [HRR.out, HE.out]; simp), HBu.out.trans (pw_below_drewN ((hBr.alloc hBr.size _).mono HBu.out.size) _)⟩
                    by_cases b5 : x.f2.size = 32
                    · have HB' : Hid (entB x = true) := Lib.hid (HEE.out.trans (by simp [b5]))
                      have z5 : ((x.f2.size : Int) != 32) = false := by rw [b5]; rfl
                      clear b5
                      rcases Nat.eq_zero_or_pos k with hk0 | hk0
                      · have HA' : Hid (∀ j, j < k + 1 → entAt m.list j = true) := Lib.hid (fun j hj => by
                          have e0 : k = 0 := hk0
                          subst e0
                          obtain rfl : j = 0 := by omega
                          rw [entAt_first HX.out]; exact HB'.out)
                        have hk1 : (k : Int) ≤ 0 := by omega
                        have z7 : decide (0 < (k : Int)) = false := decide_eq_false (by omega)
                        have z8 : decide (0 < k) = false := decide_eq_false (by omega)
                        clear hk0
                        go_wp2_with fail
                        go_quiet (first | (go_at_call 53; (first | (with_reducible refine (fits_of HF0.out _).mono ?_) | (with_reducible refine (fits_of HF1.out _).mono ?_)); rintro e w' ⟨rfl, ⟨nd, rfl⟩⟩; (try first | exact ⟨rfl, _, World.drewN_drewN _ _ _⟩ | exact ⟨rfl, _, Eq.trans (World.drewN_drewN _ _ _) (congrArg (World.drewN _) (Nat.add_assoc _ _ _))⟩)))
                        go_wp2_with fail
                        go_roundw
                        case rel => exact ⟨k + 1, by omega, by go_num, pw_below_drewN (hBr.alloc hBr.size _) _, HA'⟩
                        case measure => simp [intOf]; omega
                      · obtain ⟨p, rfl⟩ : ∃ p, k = p + 1 := ⟨k - 1, by omega⟩
                        obtain ⟨ad', y, ea, hy, e0, e1, e2⟩ := hL.at_ (HBu.out.trans (hBr.mono HBu.out.size)) (k := p) (by omega)
                        obtain rfl : ad = ad' := by injection ea
                        have HY := Lib.hid hy
                        have n0 := (World.cell?_alloc_lt wr (.cells #[.int .i64 x.f0, .int .i64 x.f1, .string x.f2] 80) _ (World.block_lt_of_cell? wr _ e0)).trans e0
                        have q3 : IntKind.i64.wrap ((p : Int) + 1 - 1) = (p : Int) := by rw [IntKind.wrap_i64]; omega
                        have q4 : (0 : Int) < (p : Int) + 1 := by omega
                        clear hy ea e1 e2
                        have q1 : (0 : Int) ≤ (p : Int) := by omega
                        have q2 : (p : Int) < (m.list.length : Int) := by omega
                        by_cases b6 : x.f0 ≤ y.f0
                        · have HE := Lib.hid (listB_false HL.out hlt (by rw [entAt_next HX.out HY.out]; simp; omega))
                          go_wp2_with fail
                          go_quiet (first | (go_at_call 53; (first | (with_reducible refine (fits_of HF0.out _).mono ?_) | (with_reducible refine (fits_of HF1.out _).mono ?_)); rintro e w' ⟨rfl, ⟨nd, rfl⟩⟩; (try first | exact ⟨rfl, _, World.drewN_drewN _ _ _⟩ | exact ⟨rfl, _, Eq.trans (World.drewN_drewN _ _ _) (congrArg (World.drewN _) (Nat.add_assoc _ _ _))⟩)))
                          go_wp2_with fail
                          go_ret
                          exact ⟨ret_bool (by rw [HRR.out, HE.out]; simp), HBu.out.trans (pw_below_drewN ((hBr.alloc hBr.size _).mono HBu.out.size) _)⟩
                        · have z6 : decide (x.f0 ≤ y.f0) = false := decide_eq_false (by omega)
                          have HA' : Hid (∀ j, j < p + 1 + 1 → entAt m.list j = true) := Lib.hid (fun j hj => by
                            by_cases e : j = p + 1
                            · subst e
                              rw [entAt_next HX.out HY.out, HB'.out]; simp; omega
                            · exact HA.out j (by omega))
                          go_wp2_with fail
                          go_quiet (first | (go_at_call 53; (first | (with_reducible refine (fits_of HF0.out _).mono ?_) | (with_reducible refine (fits_of HF1.out _).mono ?_)); rintro e w' ⟨rfl, ⟨nd, rfl⟩⟩; (try first | exact ⟨rfl, _, World.drewN_drewN _ _ _⟩ | exact ⟨rfl, _, Eq.trans (World.drewN_drewN _ _ _) (congrArg (World.drewN _) (Nat.add_assoc _ _ _))⟩)))
                          go_wp2_with fail
                          go_roundw
                          case rel => exact ⟨p + 1 + 1, by omega, by go_num, pw_below_drewN (hBr.alloc hBr.size _) _, HA'⟩
                          case measure => simp [intOf]; omega
                    · have HE := Lib.hid (listB_false HL.out hlt (entAt_bad HX.out (HEE.out.trans (by simp [b5]))))
                      have z5 : ((x.f2.size : Int) != 32) = true := by rw [bne_iff_ne]; omega
                      go_wp2_with fail
                      go_quiet (first | (go_at_call 53; (first | (with_reducible refine (fits_of HF0.out _).mono ?_) | (with_reducible refine (fits_of HF1.out _).mono ?_)); rintro e w' ⟨rfl, ⟨nd, rfl⟩⟩; (try first | exact ⟨rfl, _, World.drewN_drewN _ _ _⟩ | exact ⟨rfl, _, Eq.trans (World.drewN_drewN _ _ _) (congrArg (World.drewN _) (Nat.add_assoc _ _ _))⟩)))
                      go_wp2_with fail
                      go_ret
                      exact ⟨ret_bool (by rw [HRR.out, HE.out]; simp), HBu.out.trans (pw_below_drewN ((hBr.alloc hBr.size _).mono HBu.out.size) _)⟩
                  · have HE := Lib.hid (listB_true HL.out hlen (fun j hj => HA.out j (by omega)))
                    go_wp2_with fail
                    go_ret
                    exact ⟨ret_bool (by rw [HRR.out, HM.out, HP.out, HE.out]; rfl), HBu.out.trans (hBr.mono HBu.out.size)⟩
              · have HE : Hid (listB m = false) := Lib.hid (by unfold listB; rw [HL.out, decide_eq_false hlen]; rfl)
                go_wp2_with fail
                go_ret
                exact ⟨ret_bool (by rw [HRR.out, HE.out]; simp), HBu.out⟩
        · have HM := Lib.hid (show markB m = false by unfold markB; rw [HH.out, if_neg (by simp)]; exact decide_eq_false (fun h => hs ((toList_nil _).2 h)))
          have HS := Lib.hid hs
          go_wp2_with fail
          · go_ret
            exact ⟨ret_bool (by rw [HRR.out, HM.out]; rfl), HB2.out⟩
          all_goals exact absurd (by first | assumption | simp_all) HS.out
      · have HH := Lib.hid hh
        rw [hh]
        clear hh
        by_cases hs : m.mark.size = 32
        · have HM := Lib.hid (show markB m = true by unfold markB; rw [HH.out, if_pos rfl]; exact decide_eq_true hs)
          have z5 : ((m.mark.size : Int) != 32) = false := by rw [hs]; rfl
          clear hs
          go_wp2_with fail
          refine (Has_b m.kind .m _ rfl _).mono ?_
          rintro e v1 ⟨rfl, hb⟩
          have hblk := blk_still HK1.out hb
          have HK2 := Lib.hid hblk
          have HB2 := Lib.hid (HB1.out.trans (hb.mono HB1.out.size))
          clear hb HK1 HB1 c0 c1 c2 c3 c4 c5 c6 c7 c8 c9 c10 c11 c12 c13
          obtain ⟨c0, c1, c2, c3, c4, c5, c6, c7, c8, c9, c10, c11, c12, c13⟩ := MsgBox.of hblk
          clear hblk
          rw [HH.out]
          clear z5
          have n0 := (World.cell?_alloc_lt v1 (.cells #[.int .i64 m.pat, .int .i64 m.pof, .string m.ptext] 41) _ (World.block_lt_of_cell? v1 _ c0)).trans c0
          go_wp2_with fail
          clear n0
          refine (Has_b m.kind .p _ rfl _).mono ?_
          rintro e v2 ⟨rfl, hb⟩
          obtain ⟨hb', hpk⟩ := part_blk hb
          have hblk := blk_still HK2.out hb'
          have HK3 := Lib.hid hblk
          have HB3 := Lib.hid (HB2.out.trans (hb'.mono HB2.out.size))
          have p0 := cell_of_row _ _ 0 _ _ _ hpk
          have p1 := cell_of_row _ _ 1 _ _ _ hpk
          have p2 := cell_of_row _ _ 2 _ _ _ hpk
          have HPK := Lib.hid hpk
          clear hb hb' hpk HK2 HB2 c0 c1 c2 c3 c4 c5 c6 c7 c8 c9 c10 c11 c12 c13
          obtain ⟨c0, c1, c2, c3, c4, c5, c6, c7, c8, c9, c10, c11, c12, c13⟩ := MsgBox.of hblk
          clear hblk
          rcases (Bool.eq_false_or_eq_true (hasB m.kind .p)).symm with hp0 | hp0
          · have HHP := Lib.hid hp0
            rw [hp0]
            clear hp0
            go_wp2_with fail
            refine (Has_b m.kind .p _ rfl _).mono ?_
            rintro e v3 ⟨rfl, hb⟩
            have hblk := blk_still HK3.out hb
            have HK4 := Lib.hid hblk
            have HB4 := Lib.hid (HB3.out.trans (hb.mono HB3.out.size))
            clear p0 p1 p2
            have hpk := blk_still HPK.out hb
            have p0 := cell_of_row _ _ 0 _ _ _ hpk
            have p1 := cell_of_row _ _ 1 _ _ _ hpk
            have p2 := cell_of_row _ _ 2 _ _ _ hpk
            clear hpk
            clear hb HK3 HB3 c0 c1 c2 c3 c4 c5 c6 c7 c8 c9 c10 c11 c12 c13
            obtain ⟨c0, c1, c2, c3, c4, c5, c6, c7, c8, c9, c10, c11, c12, c13⟩ := MsgBox.of hblk
            clear hblk
            rw [HHP.out]
            by_cases a1 : m.pat = 0 ∧ m.pof = 0 ∧ m.ptext.toList = []
            · have HP := Lib.hid (show partB m = true by unfold partB; rw [HHP.out, a1.1, a1.2.1, (toList_nil _).1 a1.2.2]; rfl)
              obtain ⟨a2, a3, a4⟩ := a1
              have z1 : (m.pat != 0) = false := by rw [a2]; rfl
              have z2 : (m.pof != 0) = false := by rw [a3]; rfl
              clear a2 a3
              go_wp2_with fail
              refine (Has_b m.kind .l _ rfl _).mono ?_
              rintro e u ⟨rfl, hb⟩
              have hblk := blk_still HK4.out hb
              have HKU := Lib.hid hblk
              have HBu := Lib.hid (HB4.out.trans (hb.mono HB4.out.size))
              clear hb HK4 HB4 c0 c1 c2 c3 c4 c5 c6 c7 c8 c9 c10 c11 c12 c13
              obtain ⟨c0, c1, c2, c3, c4, c5, c6, c7, c8, c9, c10, c11, c12, c13⟩ := MsgBox.of hblk
              clear hblk
              clear c0 c1 c2 c3 c4 c5 c6 c7 c8 c9 c10 c11 c12
              rcases (Bool.eq_false_or_eq_true (hasB m.kind .l)).symm with hl0 | hl0
              · have HL := Lib.hid hl0
                rw [hl0]
                clear hl0
                go_wp2_with fail
                go_ret
                refine ⟨ret_bool ?_, HBu.out⟩
                rw [HRR.out, HM.out, HP.out]
                unfold listB
                rw [HL.out, Bool.eq_iff_iff]
                simp
              · have HL := Lib.hid hl0
                rw [hl0]
                clear hl0
                by_cases hlen : m.list.length ≤ 64
                · go_wp2_with fail
                  go_loopw [7, 8] (fun i x wr => ∃ k : Nat, k ≤ m.list.length ∧ i = .int .i64 k ∧ Below u.heap.size u wr ∧ Hid (∀ j, j < k → entAt m.list j = true)) (fun i _ _ => 64 - (intOf i).toNat)
                  case atStart => exact ⟨0, Nat.zero_le _, rfl, Below.refl _ _, Lib.hid (fun j hj => by omega)⟩
                  case round =>
                    obtain ⟨k, hk, rfl, hBr, HA⟩ := hrel
                    have d13 : wr.cell? ⟨w.heap.size, 13, none⟩ = some (.slice A m.list.length c) := (hBr.cell (World.block_lt_of_cell? u _ c13)).trans c13
                    by_cases hlt : k < m.list.length
                    · obtain ⟨ad, x, rfl, hx, d0, d1, d2⟩ := hL.at_ (HBu.out.trans (hBr.mono HBu.out.size)) hlt
                      have n13 := (World.cell?_alloc_lt wr (.cells #[.int .i64 x.f0, .int .i64 x.f1, .string x.f2] 80) _ (World.block_lt_of_cell? wr _ d13)).trans d13
                      have HX := Lib.hid hx
                      clear hx
                      have HEE : Hid (entB x = (fitsB x.f0 && fitsB x.f1 && decide (x.f2.size = 32))) := Lib.hid rfl
                      generalize hf0 : fitsB x.f0 = r0 at HEE
                      generalize hf1 : fitsB x.f1 = r1 at HEE
                      have HF0 := Lib.hid hf0
                      have HF1 := Lib.hid hf1
                      clear hf0 hf1
                      cases r0
                      · have HE := Lib.hid (listB_false HL.out hlt (entAt_bad HX.out (HEE.out.trans (by simp))))
                        go_wp2_with fail
                        go_quiet (first | (go_at_call 53; (first | (with_reducible refine (fits_of HF0.out _).mono ?_) | (with_reducible refine (fits_of HF1.out _).mono ?_)); rintro e w' ⟨rfl, ⟨nd, rfl⟩⟩; (try first | exact ⟨rfl, _, World.drewN_drewN _ _ _⟩ | exact ⟨rfl, _, Eq.trans (World.drewN_drewN _ _ _) (congrArg (World.drewN _) (Nat.add_assoc _ _ _))⟩)))
                        go_wp2_with fail
                        go_ret
                        exact ⟨ret_bool (by rw [HRR.out, HE.out]; simp), HBu.out.trans (pw_below_drewN ((hBr.alloc hBr.size _).mono HBu.out.size) _)⟩
                      cases r1
                      · have HE := Lib.hid (listB_false HL.out hlt (entAt_bad HX.out (HEE.out.trans (by simp))))
                        go_wp2_with fail
                        go_quiet (first | (go_at_call 53; (first | (with_reducible refine (fits_of HF0.out _).mono ?_) | (with_reducible refine (fits_of HF1.out _).mono ?_)); rintro e w' ⟨rfl, ⟨nd, rfl⟩⟩; (try first | exact ⟨rfl, _, World.drewN_drewN _ _ _⟩ | exact ⟨rfl, _, Eq.trans (World.drewN_drewN _ _ _) (congrArg (World.drewN _) (Nat.add_assoc _ _ _))⟩)))
                        go_wp2_with fail
                        go_ret
                        exact ⟨ret_bool (by rw [HRR.out, HE.out]; simp), HBu.out.trans (pw_below_drewN ((hBr.alloc hBr.size _).mono HBu.out.size) _)⟩
                      by_cases b5 : x.f2.size = 32
                      · have HB' : Hid (entB x = true) := Lib.hid (HEE.out.trans (by simp [b5]))
                        have z5 : ((x.f2.size : Int) != 32) = false := by rw [b5]; rfl
                        clear b5
                        rcases Nat.eq_zero_or_pos k with hk0 | hk0
                        · have HA' : Hid (∀ j, j < k + 1 → entAt m.list j = true) := Lib.hid (fun j hj => by
                            have e0 : k = 0 := hk0
                            subst e0
                            obtain rfl : j = 0 := by omega
                            rw [entAt_first HX.out]; exact HB'.out)
                          have hk1 : (k : Int) ≤ 0 := by omega
                          have z7 : decide (0 < (k : Int)) = false := decide_eq_false (by omega)
                          have z8 : decide (0 < k) = false := decide_eq_false (by omega)
                          clear hk0
                          go_wp2_with fail
                          go_quiet (first | (go_at_call 53; (first | (with_reducible refine (fits_of HF0.out _).mono ?_) | (with_reducible refine (fits_of HF1.out _).mono ?_)); rintro e w' ⟨rfl, ⟨nd, rfl⟩⟩; (try first | exact ⟨rfl, _, World.drewN_drewN _ _ _⟩ | exact ⟨rfl, _, Eq.trans (World.drewN_drewN _ _ _) (congrArg (World.drewN _) (Nat.add_assoc _ _ _))⟩)))
                          go_wp2_with fail
                          go_roundw
                          case rel => exact ⟨k + 1, by omega, by go_num, pw_below_drewN (hBr.alloc hBr.size _) _, HA'⟩
                          case measure => simp [intOf]; omega
                        · obtain ⟨p, rfl⟩ : ∃ p, k = p + 1 := ⟨k - 1, by omega⟩
                          obtain ⟨ad', y, ea, hy, e0, e1, e2⟩ := hL.at_ (HBu.out.trans (hBr.mono HBu.out.size)) (k := p) (by omega)
                          obtain rfl : ad = ad' := by injection ea
                          have HY := Lib.hid hy
                          have n0 := (World.cell?_alloc_lt wr (.cells #[.int .i64 x.f0, .int .i64 x.f1, .string x.f2] 80) _ (World.block_lt_of_cell? wr _ e0)).trans e0
                          have q3 : IntKind.i64.wrap ((p : Int) + 1 - 1) = (p : Int) := by rw [IntKind.wrap_i64]; omega
                          have q4 : (0 : Int) < (p : Int) + 1 := by omega
                          clear hy ea e1 e2
                          have q1 : (0 : Int) ≤ (p : Int) := by omega
                          have q2 : (p : Int) < (m.list.length : Int) := by omega
                          by_cases b6 : x.f0 ≤ y.f0
                          · have HE := Lib.hid (listB_false HL.out hlt (by rw [entAt_next HX.out HY.out]; simp; omega))
                            go_wp2_with fail
                            go_quiet (first | (go_at_call 53; (first | (with_reducible refine (fits_of HF0.out _).mono ?_) | (with_reducible refine (fits_of HF1.out _).mono ?_)); rintro e w' ⟨rfl, ⟨nd, rfl⟩⟩; (try first | exact ⟨rfl, _, World.drewN_drewN _ _ _⟩ | exact ⟨rfl, _, Eq.trans (World.drewN_drewN _ _ _) (congrArg (World.drewN _) (Nat.add_assoc _ _ _))⟩)))
                            go_wp2_with fail
                            go_ret
                            exact ⟨ret_bool (by rw [HRR.out, HE.out]; simp), HBu.out.trans (pw_below_drewN ((hBr.alloc hBr.size _).mono HBu.out.size) _)⟩
                          · have z6 : decide (x.f0 ≤ y.f0) = false := decide_eq_false (by omega)
                            have HA' : Hid (∀ j, j < p + 1 + 1 → entAt m.list j = true) := Lib.hid (fun j hj => by
                              by_cases e : j = p + 1
                              · subst e
                                rw [entAt_next HX.out HY.out, HB'.out]; simp; omega
                              · exact HA.out j (by omega))
                            go_wp2_with fail
                            go_quiet (first | (go_at_call 53; (first | (with_reducible refine (fits_of HF0.out _).mono ?_) | (with_reducible refine (fits_of HF1.out _).mono ?_)); rintro e w' ⟨rfl, ⟨nd, rfl⟩⟩; (try first | exact ⟨rfl, _, World.drewN_drewN _ _ _⟩ | exact ⟨rfl, _, Eq.trans (World.drewN_drewN _ _ _) (congrArg (World.drewN _) (Nat.add_assoc _ _ _))⟩)))
                            go_wp2_with fail
                            go_roundw
                            case rel => exact ⟨p + 1 + 1, by omega, by go_num, pw_below_drewN (hBr.alloc hBr.size _) _, HA'⟩
                            case measure => simp [intOf]; omega
                      · have HE := Lib.hid (listB_false HL.out hlt (entAt_bad HX.out (HEE.out.trans (by simp [b5]))))
                        have z5 : ((x.f2.size : Int) != 32) = true := by rw [bne_iff_ne]; omega
                        go_wp2_with fail
                        go_quiet (first | (go_at_call 53; (first | (with_reducible refine (fits_of HF0.out _).mono ?_) | (with_reducible refine (fits_of HF1.out _).mono ?_)); rintro e w' ⟨rfl, ⟨nd, rfl⟩⟩; (try first | exact ⟨rfl, _, World.drewN_drewN _ _ _⟩ | exact ⟨rfl, _, Eq.trans (World.drewN_drewN _ _ _) (congrArg (World.drewN _) (Nat.add_assoc _ _ _))⟩)))
                        go_wp2_with fail
                        go_ret
                        exact ⟨ret_bool (by rw [HRR.out, HE.out]; simp), HBu.out.trans (pw_below_drewN ((hBr.alloc hBr.size _).mono HBu.out.size) _)⟩
                    · have HE := Lib.hid (listB_true HL.out hlen (fun j hj => HA.out j (by omega)))
                      go_wp2_with fail
                      go_ret
                      exact ⟨ret_bool (by rw [HRR.out, HM.out, HP.out, HE.out]; rfl), HBu.out.trans (hBr.mono HBu.out.size)⟩
                · have HE : Hid (listB m = false) := Lib.hid (by unfold listB; rw [HL.out, decide_eq_false hlen]; rfl)
                  go_wp2_with fail
                  go_ret
                  exact ⟨ret_bool (by rw [HRR.out, HE.out]; simp), HBu.out⟩
            · have HP := Lib.hid (show partB m = false by
                unfold partB; rw [HHP.out, if_neg (by simp), Bool.eq_false_iff]
                intro h
                simp only [Bool.and_eq_true, decide_eq_true_eq] at h
                exact a1 ⟨h.1.1, h.1.2, (toList_nil _).2 h.2⟩)
              by_cases a2 : m.pat = 0
              · by_cases a3 : m.pof = 0
                · have a4 : ¬ m.ptext.toList = [] := fun h => a1 ⟨a2, a3, h⟩
                  have HA4 := Lib.hid a4
                  have z1 : (m.pat != 0) = false := by rw [a2]; rfl
                  have z2 : (m.pof != 0) = false := by rw [a3]; rfl
                  clear a1 a2 a3
                  go_wp2_with fail
                  · go_ret
                    exact ⟨ret_bool (by rw [HRR.out, HP.out]; simp), HB4.out⟩
                  all_goals exact absurd (by first | assumption | simp_all) HA4.out
                · have z1 : (m.pat != 0) = false := by rw [a2]; rfl
                  have z2 : (m.pof != 0) = true := by rw [bne_iff_ne]; exact a3
                  clear a1 a2 a3
                  go_wp2_with fail
                  go_ret
                  exact ⟨ret_bool (by rw [HRR.out, HP.out]; simp), HB4.out⟩
              · have z1 : (m.pat != 0) = true := by rw [bne_iff_ne]; exact a2
                clear a1 a2
                go_wp2_with fail
                go_ret
                exact ⟨ret_bool (by rw [HRR.out, HP.out]; simp), HB4.out⟩
          · have HHP := Lib.hid hp0
            rw [hp0]
            clear hp0
            have hms : m.ptext.size ≤ 9223372036854775807 := by unfold maxLen at hm; omega
            by_cases a1 : m.pat < 0
            · have HP := Lib.hid (show partB m = false by unfold partB; rw [HHP.out, if_pos rfl, Bool.eq_false_iff]; simp; omega)
              go_wp2_with fail
              go_ret
              exact ⟨ret_bool (by rw [HRR.out, HP.out]; simp), HB3.out⟩
            by_cases a2 : 4096 < m.pat
            · have HP := Lib.hid (show partB m = false by unfold partB; rw [HHP.out, if_pos rfl, Bool.eq_false_iff]; simp; omega)
              go_wp2_with fail
              go_ret
              exact ⟨ret_bool (by rw [HRR.out, HP.out]; simp), HB3.out⟩
            by_cases a3 : m.pof < 0
            · have HP := Lib.hid (show partB m = false by unfold partB; rw [HHP.out, if_pos rfl, Bool.eq_false_iff]; simp; omega)
              go_wp2_with fail
              go_ret
              exact ⟨ret_bool (by rw [HRR.out, HP.out]; simp), HB3.out⟩
            by_cases a4 : 4096 < m.pof
            · have HP := Lib.hid (show partB m = false by unfold partB; rw [HHP.out, if_pos rfl, Bool.eq_false_iff]; simp; omega)
              go_wp2_with fail
              go_ret
              exact ⟨ret_bool (by rw [HRR.out, HP.out]; simp), HB3.out⟩
            by_cases a5 : 1024 < (m.ptext.size : Int)
            · have HP := Lib.hid (show partB m = false by unfold partB; rw [HHP.out, if_pos rfl, Bool.eq_false_iff]; simp; omega)
              go_wp2_with fail
              go_ret
              exact ⟨ret_bool (by rw [HRR.out, HP.out]; simp), HB3.out⟩
            have HP := Lib.hid (show partB m = true by unfold partB; rw [HHP.out, if_pos rfl]; simp; omega)
            go_wp2_with fail
            refine (Has_b m.kind .p _ rfl _).mono ?_
            rintro e v3 ⟨rfl, hb⟩
            have hblk := blk_still HK3.out hb
            have HK4 := Lib.hid hblk
            have HB4 := Lib.hid (HB3.out.trans (hb.mono HB3.out.size))
            clear p0 p1 p2
            have hpk := blk_still HPK.out hb
            have p0 := cell_of_row _ _ 0 _ _ _ hpk
            have p1 := cell_of_row _ _ 1 _ _ _ hpk
            have p2 := cell_of_row _ _ 2 _ _ _ hpk
            clear hpk
            clear hb HK3 HB3 c0 c1 c2 c3 c4 c5 c6 c7 c8 c9 c10 c11 c12 c13
            obtain ⟨c0, c1, c2, c3, c4, c5, c6, c7, c8, c9, c10, c11, c12, c13⟩ := MsgBox.of hblk
            clear hblk
            rw [HHP.out]
            have HA5 : Hid ((((0 ≤ m.pat ∧ m.pat ≤ 4096) ∧ 0 ≤ m.pof) ∧ m.pof ≤ 4096) ∧ (m.ptext.size : Int) ≤ 1024) := Lib.hid (by omega)
            clear a1 a2 a3 a4 a5
            go_wp2_with fail
            all_goals try (rename ¬((((_ ∧ _) ∧ _) ∧ _) ∧ _) => hq; exact absurd HA5.out hq)
            refine (Has_b m.kind .l _ rfl _).mono ?_
            rintro e u ⟨rfl, hb⟩
            have hblk := blk_still HK4.out hb
            have HKU := Lib.hid hblk
            have HBu := Lib.hid (HB4.out.trans (hb.mono HB4.out.size))
            clear hb HK4 HB4 c0 c1 c2 c3 c4 c5 c6 c7 c8 c9 c10 c11 c12 c13
            obtain ⟨c0, c1, c2, c3, c4, c5, c6, c7, c8, c9, c10, c11, c12, c13⟩ := MsgBox.of hblk
            clear hblk
            clear c0 c1 c2 c3 c4 c5 c6 c7 c8 c9 c10 c11 c12
            rcases (Bool.eq_false_or_eq_true (hasB m.kind .l)).symm with hl0 | hl0
            · have HL := Lib.hid hl0
              rw [hl0]
              clear hl0
              go_wp2_with fail
              go_ret
              refine ⟨ret_bool ?_, HBu.out⟩
              rw [HRR.out, HM.out, HP.out]
              unfold listB
              rw [HL.out, Bool.eq_iff_iff]
              simp
            · have HL := Lib.hid hl0
              rw [hl0]
              clear hl0
              by_cases hlen : m.list.length ≤ 64
              · go_wp2_with fail
                go_loopw [7, 8] (fun i x wr => ∃ k : Nat, k ≤ m.list.length ∧ i = .int .i64 k ∧ Below u.heap.size u wr ∧ Hid (∀ j, j < k → entAt m.list j = true)) (fun i _ _ => 64 - (intOf i).toNat)
                case atStart => exact ⟨0, Nat.zero_le _, rfl, Below.refl _ _, Lib.hid (fun j hj => by omega)⟩
                case round =>
                  obtain ⟨k, hk, rfl, hBr, HA⟩ := hrel
                  have d13 : wr.cell? ⟨w.heap.size, 13, none⟩ = some (.slice A m.list.length c) := (hBr.cell (World.block_lt_of_cell? u _ c13)).trans c13
                  by_cases hlt : k < m.list.length
                  · obtain ⟨ad, x, rfl, hx, d0, d1, d2⟩ := hL.at_ (HBu.out.trans (hBr.mono HBu.out.size)) hlt
                    have n13 := (World.cell?_alloc_lt wr (.cells #[.int .i64 x.f0, .int .i64 x.f1, .string x.f2] 80) _ (World.block_lt_of_cell? wr _ d13)).trans d13
                    have HX := Lib.hid hx
                    clear hx
                    have HEE : Hid (entB x = (fitsB x.f0 && fitsB x.f1 && decide (x.f2.size = 32))) := Lib.hid rfl
                    generalize hf0 : fitsB x.f0 = r0 at HEE
                    generalize hf1 : fitsB x.f1 = r1 at HEE
                    have HF0 := Lib.hid hf0
                    have HF1 := Lib.hid hf1
                    clear hf0 hf1
                    cases r0
                    · have HE := Lib.hid (listB_false HL.out hlt (entAt_bad HX.out (HEE.out.trans (by simp))))
                      go_wp2_with fail
                      go_quiet (first | (go_at_call 53; (first | (with_reducible refine (fits_of HF0.out _).mono ?_) | (with_reducible refine (fits_of HF1.out _).mono ?_)); rintro e w' ⟨rfl, ⟨nd, rfl⟩⟩; (try first | exact ⟨rfl, _, World.drewN_drewN _ _ _⟩ | exact ⟨rfl, _, Eq.trans (World.drewN_drewN _ _ _) (congrArg (World.drewN _) (Nat.add_assoc _ _ _))⟩)))
                      go_wp2_with fail
                      go_ret
                      exact ⟨ret_bool (by rw [HRR.out, HE.out]; simp), HBu.out.trans (pw_below_drewN ((hBr.alloc hBr.size _).mono HBu.out.size) _)⟩
                    cases r1
                    · have HE := Lib.hid (listB_false HL.out hlt (entAt_bad HX.out (HEE.out.trans (by simp))))
                      go_wp2_with fail
                      go_quiet (first | (go_at_call 53; (first | (with_reducible refine (fits_of HF0.out _).mono ?_) | (with_reducible refine (fits_of HF1.out _).mono ?_)); rintro e w' ⟨rfl, ⟨nd, rfl⟩⟩; (try first | exact ⟨rfl, _, World.drewN_drewN _ _ _⟩ | exact ⟨rfl, _, Eq.trans (World.drewN_drewN _ _ _) (congrArg (World.drewN _) (Nat.add_assoc _ _ _))⟩)))
                      go_wp2_with fail
                      go_ret
                      exact ⟨ret_bool (by rw [HRR.out, HE.out]; simp), HBu.out.trans (pw_below_drewN ((hBr.alloc hBr.size _).mono HBu.out.size) _)⟩
                    by_cases b5 : x.f2.size = 32
                    · have HB' : Hid (entB x = true) := Lib.hid (HEE.out.trans (by simp [b5]))
                      have z5 : ((x.f2.size : Int) != 32) = false := by rw [b5]; rfl
                      clear b5
                      rcases Nat.eq_zero_or_pos k with hk0 | hk0
                      · have HA' : Hid (∀ j, j < k + 1 → entAt m.list j = true) := Lib.hid (fun j hj => by
                          have e0 : k = 0 := hk0
                          subst e0
                          obtain rfl : j = 0 := by omega
                          rw [entAt_first HX.out]; exact HB'.out)
                        have hk1 : (k : Int) ≤ 0 := by omega
                        have z7 : decide (0 < (k : Int)) = false := decide_eq_false (by omega)
                        have z8 : decide (0 < k) = false := decide_eq_false (by omega)
                        clear hk0
                        go_wp2_with fail
                        go_quiet (first | (go_at_call 53; (first | (with_reducible refine (fits_of HF0.out _).mono ?_) | (with_reducible refine (fits_of HF1.out _).mono ?_)); rintro e w' ⟨rfl, ⟨nd, rfl⟩⟩; (try first | exact ⟨rfl, _, World.drewN_drewN _ _ _⟩ | exact ⟨rfl, _, Eq.trans (World.drewN_drewN _ _ _) (congrArg (World.drewN _) (Nat.add_assoc _ _ _))⟩)))
                        go_wp2_with fail
                        go_roundw
                        case rel => exact ⟨k + 1, by omega, by go_num, pw_below_drewN (hBr.alloc hBr.size _) _, HA'⟩
                        case measure => simp [intOf]; omega
                      · obtain ⟨p, rfl⟩ : ∃ p, k = p + 1 := ⟨k - 1, by omega⟩
                        obtain ⟨ad', y, ea, hy, e0, e1, e2⟩ := hL.at_ (HBu.out.trans (hBr.mono HBu.out.size)) (k := p) (by omega)
                        obtain rfl : ad = ad' := by injection ea
                        have HY := Lib.hid hy
                        have n0 := (World.cell?_alloc_lt wr (.cells #[.int .i64 x.f0, .int .i64 x.f1, .string x.f2] 80) _ (World.block_lt_of_cell? wr _ e0)).trans e0
                        have q3 : IntKind.i64.wrap ((p : Int) + 1 - 1) = (p : Int) := by rw [IntKind.wrap_i64]; omega
                        have q4 : (0 : Int) < (p : Int) + 1 := by omega
                        clear hy ea e1 e2
                        have q1 : (0 : Int) ≤ (p : Int) := by omega
                        have q2 : (p : Int) < (m.list.length : Int) := by omega
                        by_cases b6 : x.f0 ≤ y.f0
                        · have HE := Lib.hid (listB_false HL.out hlt (by rw [entAt_next HX.out HY.out]; simp; omega))
                          go_wp2_with fail
                          go_quiet (first | (go_at_call 53; (first | (with_reducible refine (fits_of HF0.out _).mono ?_) | (with_reducible refine (fits_of HF1.out _).mono ?_)); rintro e w' ⟨rfl, ⟨nd, rfl⟩⟩; (try first | exact ⟨rfl, _, World.drewN_drewN _ _ _⟩ | exact ⟨rfl, _, Eq.trans (World.drewN_drewN _ _ _) (congrArg (World.drewN _) (Nat.add_assoc _ _ _))⟩)))
                          go_wp2_with fail
                          go_ret
                          exact ⟨ret_bool (by rw [HRR.out, HE.out]; simp), HBu.out.trans (pw_below_drewN ((hBr.alloc hBr.size _).mono HBu.out.size) _)⟩
                        · have z6 : decide (x.f0 ≤ y.f0) = false := decide_eq_false (by omega)
                          have HA' : Hid (∀ j, j < p + 1 + 1 → entAt m.list j = true) := Lib.hid (fun j hj => by
                            by_cases e : j = p + 1
                            · subst e
                              rw [entAt_next HX.out HY.out, HB'.out]; simp; omega
                            · exact HA.out j (by omega))
                          go_wp2_with fail
                          go_quiet (first | (go_at_call 53; (first | (with_reducible refine (fits_of HF0.out _).mono ?_) | (with_reducible refine (fits_of HF1.out _).mono ?_)); rintro e w' ⟨rfl, ⟨nd, rfl⟩⟩; (try first | exact ⟨rfl, _, World.drewN_drewN _ _ _⟩ | exact ⟨rfl, _, Eq.trans (World.drewN_drewN _ _ _) (congrArg (World.drewN _) (Nat.add_assoc _ _ _))⟩)))
                          go_wp2_with fail
                          go_roundw
                          case rel => exact ⟨p + 1 + 1, by omega, by go_num, pw_below_drewN (hBr.alloc hBr.size _) _, HA'⟩
                          case measure => simp [intOf]; omega
                    · have HE := Lib.hid (listB_false HL.out hlt (entAt_bad HX.out (HEE.out.trans (by simp [b5]))))
                      have z5 : ((x.f2.size : Int) != 32) = true := by rw [bne_iff_ne]; omega
                      go_wp2_with fail
                      go_quiet (first | (go_at_call 53; (first | (with_reducible refine (fits_of HF0.out _).mono ?_) | (with_reducible refine (fits_of HF1.out _).mono ?_)); rintro e w' ⟨rfl, ⟨nd, rfl⟩⟩; (try first | exact ⟨rfl, _, World.drewN_drewN _ _ _⟩ | exact ⟨rfl, _, Eq.trans (World.drewN_drewN _ _ _) (congrArg (World.drewN _) (Nat.add_assoc _ _ _))⟩)))
                      go_wp2_with fail
                      go_ret
                      exact ⟨ret_bool (by rw [HRR.out, HE.out]; simp), HBu.out.trans (pw_below_drewN ((hBr.alloc hBr.size _).mono HBu.out.size) _)⟩
                  · have HE := Lib.hid (listB_true HL.out hlen (fun j hj => HA.out j (by omega)))
                    go_wp2_with fail
                    go_ret
                    exact ⟨ret_bool (by rw [HRR.out, HM.out, HP.out, HE.out]; rfl), HBu.out.trans (hBr.mono HBu.out.size)⟩
              · have HE : Hid (listB m = false) := Lib.hid (by unfold listB; rw [HL.out, decide_eq_false hlen]; rfl)
                go_wp2_with fail
                go_ret
                exact ⟨ret_bool (by rw [HRR.out, HE.out]; simp), HBu.out⟩
        · have HM := Lib.hid (show markB m = false by unfold markB; rw [HH.out, if_pos rfl]; exact decide_eq_false hs)
          have z5 : ((m.mark.size : Int) != 32) = true := by rw [bne_iff_ne]; omega
          clear hs
          have hms : m.mark.size ≤ 9223372036854775807 := by unfold maxLen at hm2; omega
          go_wp2_with fail
          go_ret
          exact ⟨ret_bool (by rw [HRR.out, HM.out]; rfl), HB1.out⟩

theorem rRight_calls (m : MsgD) (A : Option Addr) (c : Nat) (w : World) (hm : m.ptext.size ≤ maxLen) (hm2 : m.mark.size ≤ maxLen) (hL : ListAt w A c m.list) :
    Calls Try.prog 28 #[.agg (m.cells A c)] w fun e w' => e = .returned (.bool (rightB m)) ∧ Below w.heap.size w w' := by
  cases hh : headB m
  · exact rRight_no m A c w hh
  · exact rRight_yes m A c w hm hm2 hL hh
end Go.Proofs.Ytpegefcpanijhaa
end
