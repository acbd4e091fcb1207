/- The walk of barquelaw03's 'awake' (chapter 3's second example): it answers true, and nothing that was there has turned. -/
import Derived.Test.YtpegefcpanijhaaB3
namespace Go.Proofs.Ytpegefcpanijhaa
set_option linter.unusedVariables false
set_option linter.unusedSimpArgs false
open Go.RowKit Go.Maps

def tx : ByteArray := ⟨#[120]⟩
def ty : ByteArray := ⟨#[121]⟩

theorem below_of_grown {w w' : World} {m : Nat} {W : World} (hb : Below W.heap.size W w) (hg : w.grownBy w' (some m)) (hm : W.heap.size ≤ m) : Below W.heap.size W w' :=
  hb.grown hg hb.size (fun k hk => by injection hk with hk; omega)

/-- Mark, the number and the list behind it being known. -/
theorem mark_to {W w : World} {b m : Nat} {l l' : List ByteArray} {s : ByteArray} {n : Int} (h : IsIdeal w b m l) (hB : Below W.heap.size W w) (hW : W.heap.size ≤ m) (hs : s.size ≤ maxLen) (hl : l.length ≤ 2000)
    (hn : (l.idxOf s + 1 : Int) = n) (hl' : seen l s = l') :
    Calls Try.prog 20 #[.pointer (some ⟨b, 0, none⟩), .string s] w fun e w' => e = .returned (.string (mk n)) ∧ IsIdeal w' b m l' ∧ Below W.heap.size W w' := by
  subst hn hl'
  exact (mark_ideal h hs hl).mono fun e w' ⟨he, hi, hg⟩ => ⟨he, hi, below_of_grown hB hg hW⟩

theorem Number_to {W w : World} {b m : Nat} {l : List ByteArray} (h : IsIdeal w b m l) (hB : Below W.heap.size W w) (n : Int) (h0 : 0 ≤ n) (hn : n ≤ 9223372036854775807) :
    Calls Try.prog 24 #[.int .i64 n] w fun e w' => e = .returned (.string (mk n)) ∧ IsIdeal w' b m l ∧ Below W.heap.size W w' :=
  (Number_calls n h0 hn w).mono fun e w' ⟨he, hb⟩ => ⟨he, h.below hb, hB.trans (hb.mono hB.size)⟩

set_option maxHeartbeats 400000 in
theorem awake3 (w : World) : Calls Try.prog 22 #[] w fun e w' => e = .returned (.bool true) ∧ Below w.heap.size w w' := by
  have hx : tx.size ≤ maxLen := by decide
  have hy : ty.size ≤ maxLen := by decide
  go_enter Try.func22, Try.ntmps22
  go_wp2_with fail
  refine (ideal_new _).mono ?_
  rintro e w' ⟨rfl, rfl⟩
  have hI := isIdeal_new w
  have hB : Below w.heap.size w ((w.alloc (.map #[] 0)).alloc (.cells (idealCells w.heap.size) 63)) := ((Below.refl _ _).alloc (Nat.le_refl _) _).alloc (by simp) _
  generalize ((w.alloc (.map #[] 0)).alloc (.cells (idealCells w.heap.size) 63)) = w1 at *
  go_wp2_with fail
  refine (mark_to (s := tx) (n := 1) (l' := [tx]) hI hB (Nat.le_refl _) hx (by simp) rfl rfl).mono ?_
  rintro e w2 ⟨rfl, hI2, hB2⟩
  go_wp2_with fail
  refine (Number_to hI2 hB2 1 (by omega) (by omega)).mono ?_
  rintro e w3 ⟨rfl, hI3, hB3⟩
  go_wp2_with fail
  refine (mark_to (s := ty) (n := 2) (l' := [tx, ty]) hI3 hB3 (Nat.le_refl _) hy (by simp) (by decide) (by decide)).mono ?_
  rintro e w4 ⟨rfl, hI4, hB4⟩
  go_wp2_with fail
  refine (Number_to hI4 hB4 2 (by omega) (by omega)).mono ?_
  rintro e w5 ⟨rfl, hI5, hB5⟩
  go_wp2_with fail
  refine (mark_to (s := tx) (n := 1) (l' := [tx, ty]) hI5 hB5 (Nat.le_refl _) hx (by simp) (by decide) (by decide)).mono ?_
  rintro e w6 ⟨rfl, hI6, hB6⟩
  go_wp2_with fail
  refine (Number_to hI6 hB6 1 (by omega) (by omega)).mono ?_
  rintro e w7 ⟨rfl, hI7, hB7⟩
  go_wp2_with fail
  go_ret
  exact ⟨rfl, hB7⟩
end Go.Proofs.Ytpegefcpanijhaa
