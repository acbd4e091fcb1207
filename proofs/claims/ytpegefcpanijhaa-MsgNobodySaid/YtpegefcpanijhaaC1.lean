/- The document's book (barqueref03.Book), ideal: the walks of place, Mark and Is. Conditions: texts no longer than a slice's greatest length, fewer than 2000 texts marked. -/
import Derived.Test.YtpegefcpanijhaaB9
import Derived.Outline
namespace Go.Proofs.Ytpegefcpanijhaa
set_option linter.unusedVariables false
set_option linter.unusedSimpArgs false
open Go.RowKit Go.Maps

theorem infoStr9 : (Try.prog.info? 9).map (fun i => (i.zero, i.size, i.bytes)) = some (some (.string ⟨#[]⟩), 1, 16) := by kernel_rfl

/-- Only blocks of S, and new ones, have turned. -/
structure Within (S : Nat → Prop) (w w' : World) : Prop where
  os : w'.os = w.os
  tape : w'.tape = w.tape
  output : w'.output = w.output
  size : w.heap.size ≤ w'.heap.size
  block : ∀ k, k < w.heap.size → ¬ S k → w'.heap[k]? = w.heap[k]?
namespace Within
variable {S T : Nat → Prop} {a b c : World}
theorem refl (S : Nat → Prop) (w : World) : Within S w w := ⟨rfl, rfl, rfl, Nat.le_refl _, fun _ _ _ => rfl⟩
theorem mono (h : Within S a b) (hs : ∀ k, k < a.heap.size → S k → T k) : Within T a b := ⟨h.os, h.tape, h.output, h.size, fun k hk hn => h.block k hk (fun hS => hn (hs k hk hS))⟩
theorem trans (h : Within S a b) (g : Within T b c) (hs : ∀ k, k < a.heap.size → T k → S k) : Within S a c :=
  ⟨g.os.trans h.os, g.tape.trans h.tape, g.output.trans h.output, Nat.le_trans h.size g.size, fun k hk hn => (g.block k (Nat.lt_of_lt_of_le hk h.size) (fun hT => hn (hs k hk hT))).trans (h.block k hk hn)⟩
theorem of_grown {row : Option Nat} (h : a.grownBy b row) : Within (fun k => some k = row) a b := ⟨h.os, h.tape, h.output, h.size, fun k hk hn => h.block k hk hn⟩
theorem of_below (h : Below a.heap.size a b) (S : Nat → Prop) : Within S a b := ⟨h.os, h.tape, h.output, h.size, fun k hk _ => h.block k hk⟩
theorem below (h : Within S b c) {W : World} (hB : Below W.heap.size W b) (hS : ∀ k, S k → W.heap.size ≤ k) : Below W.heap.size W c :=
  ⟨h.os.trans hB.os, h.tape.trans hB.tape, h.output.trans hB.output, Nat.le_trans hB.size h.size, fun k hk => (h.block k (Nat.lt_of_lt_of_le hk hB.size) (fun hs => by have := hS k hs; omega)).trans (hB.block k hk)⟩
theorem drew (h : Within S a b) : Within S a b.drew := ⟨h.os, h.tape, h.output, h.size, h.block⟩
end Within

/-- Block q is a book of the document's, ideal, whose list is v: the texts l. -/
structure IsRef (w : World) (base q : Nat) (v : Value) (l : List ByteArray) : Prop where
  blk : w.heap[q]? = some (.cells #[.bool false, v] 33 (0, 0))
  row : w.ownsRow base 9 1 v l.length (l.map Value.string)
  small : ∀ s ∈ l, s.size ≤ maxLen
namespace IsRef
variable {w w' : World} {base q : Nat} {v : Value} {l : List ByteArray}
theorem lt (h : IsRef w base q v l) : q < w.heap.size := (Array.getElem?_eq_some_iff.1 h.blk).1
theorem c0 (h : IsRef w base q v l) : w.cell? ⟨q, 0, none⟩ = some (.bool false) := cell_of_row w q 0 _ _ _ h.blk
theorem c1 (h : IsRef w base q v l) : w.cell? ⟨q, 1, none⟩ = some v := cell_of_row w q 1 _ _ _ h.blk
theorem kept (h : IsRef w base q v l) {S : Nat → Prop} (hg : Within S w w') (hq : ¬ S q) (hv : ∀ k, v.ownBlock = some k → ¬ S k) : IsRef w' base q v l := by
  refine ⟨(hg.block q h.lt hq).trans h.blk, ?_, h.small⟩
  refine ⟨h.row.1, ?_⟩
  rcases h.row.2 with hn | ⟨g, cap, cur, rfl, hb, hgg, rest⟩
  · exact .inl hn
  · exact .inr ⟨g, cap, cur, rfl, hb, (hg.block g (Array.getElem?_eq_some_iff.1 hgg).1 (hv g rfl)).trans hgg, rest⟩
theorem below (h : IsRef w base q v l) (hb : Below w.heap.size w w') : IsRef w' base q v l := h.kept (Within.of_below hb (fun _ => False)) (fun x => x) (fun _ _ x => x)
theorem drew (h : IsRef w base q v l) : IsRef w.drew base q v l := ⟨h.blk, h.row, h.small⟩
theorem drewN (h : IsRef w base q v l) (n : Nat) : IsRef (w.drewN n) base q v l := ⟨h.blk, h.row, h.small⟩
theorem strs (h : IsRef w base q v l) : ∃ A c, v = .slice A l.length c ∧ StrsAt w A l.length c l := strs_of_row h.row h.small
theorem rowlt (h : IsRef w base q v l) : ∀ k, v.ownBlock = some k → base ≤ k ∧ k < w.heap.size := h.row.lt
/-- The list's row is neither the book's own block. -/
theorem ne (h : IsRef w base q v l) : v.ownBlock ≠ some q := by
  rcases h.row.2 with ⟨rfl, _⟩ | ⟨g, cap, cur, rfl, _, hg, _⟩
  · simp [Value.ownBlock]
  · intro e
    have : g = q := by simpa [Value.ownBlock] using e
    subst this
    have := h.blk
    rw [hg] at this
    injection this with this
    injection this with _ this
    exact absurd this (by decide)
end IsRef

/-- Where a text stands; -1: nowhere. -/
def placeOf (l : List ByteArray) (s : ByteArray) : Int := if s ∈ l then (l.idxOf s : Int) else -1

theorem idxOf_first {l : List ByteArray} {s : ByteArray} {k : Nat} (hk : l[k]? = some s) (hn : ∀ j t, j < k → l[j]? = some t → t ≠ s) : l.idxOf s = k := by
  have hlt : k < l.length := (List.getElem?_eq_some_iff.1 hk).1
  have hm : s ∈ l := List.mem_of_getElem? hk
  have hi := List.idxOf_lt_length_of_mem hm
  have hg : l[l.idxOf s]? = some s := by rw [List.getElem?_eq_getElem hi, List.getElem_idxOf hi]
  have h1 : l.idxOf s ≤ k := by
    rcases Nat.lt_or_ge k (l.idxOf s) with h | h
    · have h2 := List.not_of_lt_findIdx (p := (· == s)) (xs := l) (i := k) h
      rw [List.getElem?_eq_getElem hlt] at hk
      simp at h2
      exact absurd (Option.some.inj hk) h2
    · exact h
  rcases Nat.lt_or_ge (l.idxOf s) k with h | h
  · exact absurd rfl (hn _ s h hg)
  · omega

set_option maxHeartbeats 400000 in
theorem place_any {w : World} {base q : Nat} {v : Value} {l : List ByteArray} {s : ByteArray} (h : IsRef w base q v l) (hl : l.length ≤ 2000) :
    Calls Try.prog 72 #[.pointer (some ⟨q, 0, none⟩), .string s] w fun e w' => e = .returned (.int .i64 (placeOf l s)) ∧ w = w' := by
  obtain ⟨A, c, rfl, hS⟩ := h.strs
  have c1 := h.c1
  clear h
  go_enter Try.func72, Try.ntmps72
  go_wp2_with fail
  go_loop [5] (fun i => ∃ k : Nat, k ≤ l.length ∧ i = .int .i64 k ∧ Hid (∀ j t, j < k → l[j]? = some t → t ≠ s)) (fun i => 2000 - (intOf i).toNat)
  case atStart => exact ⟨0, Nat.zero_le _, rfl, fun j t hj => by omega⟩
  case round =>
    obtain ⟨k, hk1, rfl, HN⟩ := hrel
    by_cases hlt : k < l.length
    · obtain ⟨a, t, rfl, -, ht, hts, hab, hc⟩ := hS.at_ hlt
      have HT := Lib.hid ht
      clear ht
      cases he : (t.toList == s.toList)
      · go_wp2_with fail
        go_round
        case rel =>
          refine ⟨k + 1, by omega, by go_num, fun j u hj hu => ?_⟩
          by_cases e : j = k
          · subst e
            rw [HT.out] at hu
            obtain rfl : t = u := by simpa using hu
            rintro rfl
            simp at he
          · exact HN.out j u (by omega) hu
        case measure => simp [intOf]; omega
      · have hts : t = s := by rw [beq_toList] at he; simpa using he
        have HE := Lib.hid (show placeOf l s = k by
          unfold placeOf
          rw [if_pos (by rw [← hts]; exact List.mem_of_getElem? HT.out), idxOf_first (by rw [← hts]; exact HT.out) HN.out])
        clear hts
        go_wp2_with fail
        go_ret
        exact ⟨by rw [HE.out]; rfl, rfl⟩
    · have HE := Lib.hid (show placeOf l s = -1 by
        unfold placeOf
        rw [if_neg]
        intro hm
        obtain ⟨j, hj, e⟩ := List.getElem_of_mem hm
        exact HN.out j s (by omega) (by rw [List.getElem?_eq_getElem hj, e]) rfl)
      go_wp2_with fail
      go_ret
      exact ⟨by rw [HE.out]; rfl, rfl⟩
end Go.Proofs.Ytpegefcpanijhaa
