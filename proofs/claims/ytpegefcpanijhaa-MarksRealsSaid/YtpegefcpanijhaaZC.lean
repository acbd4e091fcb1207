/- What an ideal book knows behind a list of texts, in plain words; and the walks of barquelaw03.MarksHonest and MarksNobody: they answer true; nothing that was there has turned. The walk of barquelaw03.MarksApart: it answers true; nothing that was there has turned. The document's book (barqueref03.Book), ideal: the walks of place, Mark and Is. Conditions: texts no longer than a slice's greatest length, fewer than 2000 texts marked. The document's book (barqueref03.Book), ideal: the walks of Mark and Is. The walk of barquelaw03's 'step', an ideal book beside the document's: the two answer alike. The walk of barquelaw03's 'step', an ideal book beside the document's, whatever the call: the two answer alike. A slice of calls as it is read. What the rows over scripts of calls share: a slice of calls that came in, opened. -/
import Derived.Test.YtpegefcpanijhaaZB
import Derived.Deep.RegionHeld3
import Derived.Outline
import Derived.Deep.DrawnRows
import Derived.Deep.Slices
import Derived.ChangeArms
section
namespace Go.Proofs.Ytpegefcpanijhaa
set_option linter.unusedVariables false
set_option linter.unusedSimpArgs false
open Go.RowKit Go.Maps

/-- What is known behind marking the texts of a list, one by one. -/
def known (ts : List ByteArray) : List ByteArray := ts.foldl seen []
theorem known_nil : known [] = [] := rfl
theorem known_snoc (ts : List ByteArray) (t : ByteArray) : known (ts ++ [t]) = seen (known ts) t := by simp [known, List.foldl_append]
theorem known_take {l : List ByteArray} {k : Nat} {s : ByteArray} (h : l[k]? = some s) : known (l.take (k + 1)) = seen (known (l.take k)) s := by
  rw [List.take_add_one, h]
  exact known_snoc _ _
theorem known_length (ts : List ByteArray) : (known ts).length ≤ ts.length := by
  suffices h : ∀ (ts acc : List ByteArray), (ts.foldl seen acc).length ≤ acc.length + ts.length by simpa [known] using h ts []
  intro ts
  induction ts with
  | nil => intro acc; simp
  | cons t ts ih => intro acc; have := ih (seen acc t); have := seen_length acc t; simp only [List.foldl_cons, List.length_cons]; omega
theorem known_take_length (l : List ByteArray) (k : Nat) : (known (l.take k)).length ≤ k := Nat.le_trans (known_length _) (by rw [List.length_take]; omega)
theorem mem_seen_of (l : List ByteArray) (t s : ByteArray) (h : s ∈ l) : s ∈ seen l t := by
  unfold seen; split
  · exact h
  · simp [h]
theorem mem_seen_iff (l : List ByteArray) (t s : ByteArray) : s ∈ seen l t ↔ s ∈ l ∨ s = t := by
  unfold seen; split
  · exact ⟨Or.inl, fun h => h.elim id (fun e => by rw [e]; assumption)⟩
  · simp
/-- The numbers stay. -/
theorem idxOf_seen (l : List ByteArray) (t s : ByteArray) (h : s ∈ l) : (seen l t).idxOf s = l.idxOf s := by
  unfold seen; split
  · rfl
  · rw [List.idxOf_append, if_pos h]
theorem idxOf_seen_self (l : List ByteArray) (s : ByteArray) : (seen l s).idxOf s = l.idxOf s := by
  by_cases h : s ∈ l
  · exact idxOf_seen l s s h
  · rw [seen_of_not h, List.idxOf_append, if_neg h, idxOf_of_not h]
    simp

/-- A question behind one more text. -/
theorem isB_seen (l : List ByteArray) (t s mark : ByteArray) : isB (seen l t) s mark = (isB l s mark || (decide (t = s) && decide (mk (l.idxOf t + 1) = mark))) := by
  unfold isB
  by_cases e : t = s
  · subst e
    rw [idxOf_seen_self, decide_eq_true (mem_seen l t)]
    by_cases h : t ∈ l <;> simp [h]
  · by_cases h : s ∈ l
    · rw [idxOf_seen l t s h, decide_eq_true (mem_seen_of l t s h)]
      simp [e, h]
    · have : s ∉ seen l t := fun h' => by
        rcases (mem_seen_iff l t s).1 h' with h2 | h2
        · exact h h2
        · exact e h2.symm
      simp [e, h, this]

/-- What holds at the head of MarksHonest's round k. -/
def HonestAt (l : List ByteArray) (s mark : ByteArray) (k : Nat) (kn : List ByteArray) (bw : Bool) : Prop := kn = known (l.take k) ∧ bw = isB kn s mark
theorem HonestAt.step {l : List ByteArray} {s mark t : ByteArray} {k : Nat} {kn : List ByteArray} {bw : Bool} (h : HonestAt l s mark k kn bw) (ht : l[k]? = some t) :
    HonestAt l s mark (k + 1) (seen kn t) (bw || (t.toList == s.toList && (mk (kn.idxOf t + 1)).toList == mark.toList)) := by
  obtain ⟨rfl, rfl⟩ := h
  exact ⟨(known_take ht).symm, by rw [isB_seen, beq_toList, beq_toList]⟩

/-- The walk from behind 'l' being cut: n texts, at most 40. -/
theorem honest_body_kn {l : List ByteArray} {s mark : ByteArray} {k : Nat} {kn : List ByteArray} {bw : Bool} (h : HonestAt l s mark k kn bw) : kn.length ≤ k := by rw [h.1]; exact known_take_length l k
end Go.Proofs.Ytpegefcpanijhaa
end
section
namespace Go.Proofs.Ytpegefcpanijhaa
set_option linter.unusedVariables false
set_option linter.unusedSimpArgs false
open Go.RowKit Go.Maps

theorem IsIdeal.ne_row {w : World} {b m : Nat} {l : List ByteArray} (h : IsIdeal w b m l) {base e size n : Nat} {v : Value} {xs : List Value} (ho : w.ownsRow base e size v n xs) (he : e ≠ 63) : some b ≠ v.ownBlock ∧ some m ≠ v.ownBlock := by
  rcases ho.2 with ⟨rfl, _⟩ | ⟨g, cap, cur, rfl, _, hg, _⟩
  · simp [Value.ownBlock]
  · constructor
    · intro hh
      have : b = g := by simpa [Value.ownBlock] using hh
      subst this
      have := h.blk
      rw [hg] at this
      injection this with this
      injection this with _ this
      exact he this
    · intro hh
      have : m = g := by simpa [Value.ownBlock] using hh
      subst this
      obtain ⟨D, ⟨es, clock, hb, _⟩, _⟩ := h.own
      rw [hg] at hb
      cases hb

/-- What a row of the call's own holds, as texts. -/
theorem strs_of_row {w : World} {base : Nat} {v : Value} {n : Nat} {ms : List ByteArray} (h : w.ownsRow base 9 1 v n (ms.map Value.string)) (hs : ∀ s ∈ ms, s.size ≤ maxLen) : ∃ A c, v = .slice A n c ∧ StrsAt w A n c ms := by
  have hl : ms.length = n := by have := h.1; simpa using this
  rcases h.2 with ⟨rfl, h0⟩ | ⟨g, cap, cur, rfl, hb, hg, hle, hmax, hsz, htk⟩
  · subst h0
    obtain rfl : ms = [] := List.eq_nil_of_length_eq_zero hl
    exact ⟨none, 0, rfl, rfl, Nat.le_refl _, Nat.zero_le _, hs, fun k hk => by simp at hk⟩
  · refine ⟨_, _, rfl, hl, hle, hmax, hs, fun k hk => ⟨_, rfl, ?_⟩⟩
    refine h.cells (g := g) rfl k _ ?_
    simp [List.getElem?_map, List.getElem?_eq_getElem hk]

/-- What holds at the head of the first loop's round k: which marks were handed out. -/
def ApartAt (l : List ByteArray) (k : Nat) (kn ms : List ByteArray) : Prop :=
  kn = known (l.take k) ∧ ms.length = k ∧ ∀ j t, j < k → l[j]? = some t → t ∈ kn ∧ ms[j]? = some (mk (kn.idxOf t + 1))
theorem ApartAt.step {l : List ByteArray} {k : Nat} {kn ms : List ByteArray} {t : ByteArray} (h : ApartAt l k kn ms) (ht : l[k]? = some t) : ApartAt l (k + 1) (seen kn t) (ms ++ [mk (kn.idxOf t + 1)]) := by
  obtain ⟨h1, h2, h3⟩ := h
  refine ⟨by rw [h1]; exact (known_take ht).symm, by simp [h2], fun j s hj hs => ?_⟩
  by_cases e : j = k
  · subst e
    rw [ht] at hs
    obtain rfl : t = s := by simpa using hs
    exact ⟨mem_seen _ _, by rw [idxOf_seen_self, List.getElem?_append_right (by omega), h2]; simp⟩
  · obtain ⟨a, b⟩ := h3 j s (by omega) hs
    exact ⟨mem_seen_of _ _ _ a, by rw [idxOf_seen _ _ _ a, List.getElem?_append_left (by omega)]; exact b⟩
theorem ApartAt.short {l : List ByteArray} {k : Nat} {kn ms : List ByteArray} (h : ApartAt l k kn ms) : kn.length ≤ k := by rw [h.1]; exact known_take_length l k
theorem ApartAt.sizes {l : List ByteArray} {k : Nat} {kn ms : List ByteArray} (h : ApartAt l k kn ms) (hk : k ≤ l.length) : ∀ s ∈ ms, s.size ≤ maxLen := by
  intro s hs
  obtain ⟨j, hj, rfl⟩ := List.getElem_of_mem hs
  have hj' : j < k := by rw [h.2.1] at hj; exact hj
  obtain ⟨_, e⟩ := h.2.2 j l[j] hj' (List.getElem?_eq_getElem (by omega))
  rw [List.getElem?_eq_getElem hj] at e
  rw [Option.some.inj e, mk_size]
  decide

/-- The two tests of the second loops. -/
theorem ApartAt.tests {l : List ByteArray} {kn ms : List ByteArray} {i k n : Nat} {s t p q : ByteArray} (h : ApartAt l n kn ms) (hn : n ≤ 40) (hi : i < n) (hk : k < n) (hs : l[i]? = some s) (ht : l[k]? = some t) (hp : ms[i]? = some p) (hq : ms[k]? = some q) :
    (s = t ∧ p = q ∧ isB kn s q = true) ∨ ((s.toList == t.toList) = false ∧ (p.toList == q.toList) = false ∧ isB kn s q = false) := by
  obtain ⟨a, e1⟩ := h.2.2 i s hi hs
  obtain ⟨b, e2⟩ := h.2.2 k t hk ht
  rw [hp] at e1
  rw [hq] at e2
  obtain rfl : p = _ := by simpa using e1
  obtain rfl : q = _ := by simpa using e2
  by_cases e : s = t
  · subst e
    exact .inl ⟨rfl, rfl, by simp [isB, a]⟩
  · refine .inr ⟨by rw [beq_toList]; simpa using e, ?_, ?_⟩
    all_goals
      have hne : mk (kn.idxOf s + 1) ≠ mk (kn.idxOf t + 1) := by
        intro he
        have la := List.idxOf_lt_length_of_mem a
        have lb := List.idxOf_lt_length_of_mem b
        have hsh := h.short
        have := mk_inj (by omega) (by omega) (by omega) (by omega) he
        have h2 : kn.idxOf s = kn.idxOf t := by omega
        have g1 : kn[kn.idxOf s]'la = s := List.getElem_idxOf la
        have g2 : kn[kn.idxOf t]'lb = t := List.getElem_idxOf lb
        apply e
        rw [← g1, ← g2]
        congr 1
    · rw [beq_toList]; simpa using hne
    · simp [isB, hne]
end Go.Proofs.Ytpegefcpanijhaa
end
section
namespace Go.Proofs.Ytpegefcpanijhaa
set_option linter.unusedVariables false
set_option linter.unusedSimpArgs false
open Go.RowKit Go.Maps

theorem infoStr9 : (Try.prog.info? 9).map (fun i => (i.zero, i.size, i.bytes)) = some (some (.string ⟨#[]⟩), 1, 16) := by kernel_rfl

/-- Only blocks of S, and new ones, have turned. -/
structure Within (S : Nat → Prop) (w w' : World) : Prop where
  os : w'.os = w.os
  tape : w'.tape = w.tape
  output : w'.output = w.output
  size : w.heap.size ≤ w'.heap.size
  block : ∀ k, k < w.heap.size → ¬ S k → w'.heap[k]? = w.heap[k]?
namespace Within
variable {S T : Nat → Prop} {a b c : World}
theorem refl (S : Nat → Prop) (w : World) : Within S w w := ⟨rfl, rfl, rfl, Nat.le_refl _, fun _ _ _ => rfl⟩
theorem mono (h : Within S a b) (hs : ∀ k, k < a.heap.size → S k → T k) : Within T a b := ⟨h.os, h.tape, h.output, h.size, fun k hk hn => h.block k hk (fun hS => hn (hs k hk hS))⟩
theorem trans (h : Within S a b) (g : Within T b c) (hs : ∀ k, k < a.heap.size → T k → S k) : Within S a c :=
  ⟨g.os.trans h.os, g.tape.trans h.tape, g.output.trans h.output, Nat.le_trans h.size g.size, fun k hk hn => (g.block k (Nat.lt_of_lt_of_le hk h.size) (fun hT => hn (hs k hk hT))).trans (h.block k hk hn)⟩
theorem of_grown {row : Option Nat} (h : a.grownBy b row) : Within (fun k => some k = row) a b := ⟨h.os, h.tape, h.output, h.size, fun k hk hn => h.block k hk hn⟩
theorem of_below (h : Below a.heap.size a b) (S : Nat → Prop) : Within S a b := ⟨h.os, h.tape, h.output, h.size, fun k hk _ => h.block k hk⟩
theorem below (h : Within S b c) {W : World} (hB : Below W.heap.size W b) (hS : ∀ k, S k → W.heap.size ≤ k) : Below W.heap.size W c :=
  ⟨h.os.trans hB.os, h.tape.trans hB.tape, h.output.trans hB.output, Nat.le_trans hB.size h.size, fun k hk => (h.block k (Nat.lt_of_lt_of_le hk hB.size) (fun hs => by have := hS k hs; omega)).trans (hB.block k hk)⟩
theorem drew (h : Within S a b) : Within S a b.drew := ⟨h.os, h.tape, h.output, h.size, h.block⟩
end Within

/-- Block q is a book of the document's, ideal, whose list is v: the texts l. -/
structure IsRef (w : World) (base q : Nat) (v : Value) (l : List ByteArray) : Prop where
  blk : w.heap[q]? = some (.cells #[.bool false, v] 33 (0, 0))
  row : w.ownsRow base 9 1 v l.length (l.map Value.string)
  small : ∀ s ∈ l, s.size ≤ maxLen
namespace IsRef
variable {w w' : World} {base q : Nat} {v : Value} {l : List ByteArray}
theorem lt (h : IsRef w base q v l) : q < w.heap.size := (Array.getElem?_eq_some_iff.1 h.blk).1
theorem c0 (h : IsRef w base q v l) : w.cell? ⟨q, 0, none⟩ = some (.bool false) := cell_of_row w q 0 _ _ _ h.blk
theorem c1 (h : IsRef w base q v l) : w.cell? ⟨q, 1, none⟩ = some v := cell_of_row w q 1 _ _ _ h.blk
theorem kept (h : IsRef w base q v l) {S : Nat → Prop} (hg : Within S w w') (hq : ¬ S q) (hv : ∀ k, v.ownBlock = some k → ¬ S k) : IsRef w' base q v l := by
  refine ⟨(hg.block q h.lt hq).trans h.blk, ?_, h.small⟩
  refine ⟨h.row.1, ?_⟩
  rcases h.row.2 with hn | ⟨g, cap, cur, rfl, hb, hgg, rest⟩
  · exact .inl hn
  · exact .inr ⟨g, cap, cur, rfl, hb, (hg.block g (Array.getElem?_eq_some_iff.1 hgg).1 (hv g rfl)).trans hgg, rest⟩
theorem below (h : IsRef w base q v l) (hb : Below w.heap.size w w') : IsRef w' base q v l := h.kept (Within.of_below hb (fun _ => False)) (fun x => x) (fun _ _ x => x)
theorem drew (h : IsRef w base q v l) : IsRef w.drew base q v l := ⟨h.blk, h.row, h.small⟩
theorem drewN (h : IsRef w base q v l) (n : Nat) : IsRef (w.drewN n) base q v l := ⟨h.blk, h.row, h.small⟩
theorem strs (h : IsRef w base q v l) : ∃ A c, v = .slice A l.length c ∧ StrsAt w A l.length c l := strs_of_row h.row h.small
theorem rowlt (h : IsRef w base q v l) : ∀ k, v.ownBlock = some k → base ≤ k ∧ k < w.heap.size := h.row.lt
/-- The list's row is neither the book's own block. -/
theorem ne (h : IsRef w base q v l) : v.ownBlock ≠ some q := by
  rcases h.row.2 with ⟨rfl, _⟩ | ⟨g, cap, cur, rfl, _, hg, _⟩
  · simp [Value.ownBlock]
  · intro e
    have : g = q := by simpa [Value.ownBlock] using e
    subst this
    have := h.blk
    rw [hg] at this
    injection this with this
    injection this with _ this
    exact absurd this (by decide)
end IsRef

/-- Where a text stands; -1: nowhere. -/
def placeOf (l : List ByteArray) (s : ByteArray) : Int := if s ∈ l then (l.idxOf s : Int) else -1

theorem idxOf_first {l : List ByteArray} {s : ByteArray} {k : Nat} (hk : l[k]? = some s) (hn : ∀ j t, j < k → l[j]? = some t → t ≠ s) : l.idxOf s = k := by
  have hlt : k < l.length := (List.getElem?_eq_some_iff.1 hk).1
  have hm : s ∈ l := List.mem_of_getElem? hk
  have hi := List.idxOf_lt_length_of_mem hm
  have hg : l[l.idxOf s]? = some s := by rw [List.getElem?_eq_getElem hi, List.getElem_idxOf hi]
  have h1 : l.idxOf s ≤ k := by
    rcases Nat.lt_or_ge k (l.idxOf s) with h | h
    · have h2 := List.not_of_lt_findIdx (p := (· == s)) (xs := l) (i := k) h
      rw [List.getElem?_eq_getElem hlt] at hk
      simp at h2
      exact absurd (Option.some.inj hk) h2
    · exact h
  rcases Nat.lt_or_ge (l.idxOf s) k with h | h
  · exact absurd rfl (hn _ s h hg)
  · omega

set_option maxHeartbeats 400000 in
theorem place_any {w : World} {base q : Nat} {v : Value} {l : List ByteArray} {s : ByteArray} (h : IsRef w base q v l) (hl : l.length ≤ 2000) :
    Calls Try.prog 72 #[.pointer (some ⟨q, 0, none⟩), .string s] w fun e w' => e = .returned (.int .i64 (placeOf l s)) ∧ w = w' := by
  obtain ⟨A, c, rfl, hS⟩ := h.strs
  have c1 := h.c1
  clear h
  go_enter Try.func72, Try.ntmps72
  go_wp2_with fail
  go_loop [5] (fun i => ∃ k : Nat, k ≤ l.length ∧ i = .int .i64 k ∧ Hid (∀ j t, j < k → l[j]? = some t → t ≠ s)) (fun i => 2000 - (intOf i).toNat)
  case atStart => exact ⟨0, Nat.zero_le _, rfl, fun j t hj => by omega⟩
  case round =>
    obtain ⟨k, hk1, rfl, HN⟩ := hrel
    by_cases hlt : k < l.length
    · obtain ⟨a, t, rfl, -, ht, hts, hab, hc⟩ := hS.at_ hlt
      have HT := Lib.hid ht
      clear ht
      cases he : (t.toList == s.toList)
      · go_wp2_with fail
        go_round
        case rel =>
          refine ⟨k + 1, by omega, by go_num, fun j u hj hu => ?_⟩
          by_cases e : j = k
          · subst e
            rw [HT.out] at hu
            obtain rfl : t = u := by simpa using hu
            rintro rfl
            simp at he
          · exact HN.out j u (by omega) hu
        case measure => simp [intOf]; omega
      · have hts : t = s := by rw [beq_toList] at he; simpa using he
        have HE := Lib.hid (show placeOf l s = k by
          unfold placeOf
          rw [if_pos (by rw [← hts]; exact List.mem_of_getElem? HT.out), idxOf_first (by rw [← hts]; exact HT.out) HN.out])
        clear hts
        go_wp2_with fail
        go_ret
        exact ⟨by rw [HE.out]; rfl, rfl⟩
    · have HE := Lib.hid (show placeOf l s = -1 by
        unfold placeOf
        rw [if_neg]
        intro hm
        obtain ⟨j, hj, e⟩ := List.getElem_of_mem hm
        exact HN.out j s (by omega) (by rw [List.getElem?_eq_getElem hj, e]) rfl)
      go_wp2_with fail
      go_ret
      exact ⟨by rw [HE.out]; rfl, rfl⟩
end Go.Proofs.Ytpegefcpanijhaa
end
section
namespace Go.Proofs.Ytpegefcpanijhaa
set_option linter.unusedVariables false
set_option linter.unusedSimpArgs false
open Go.RowKit Go.Maps

theorem frozen_of_blk {w : World} {b t : Nat} {cs : Array Value} (h : w.heap[b]? = some (.cells cs t (0, 0))) (i : Nat) : w.frozen? ⟨b, i, none⟩ = false := by simp [World.frozen?, h]

theorem slice_of_row {w : World} {base e size n : Nat} {v : Value} {xs : List Value} (h : w.ownsRow base e size v n xs) : ∃ A c, v = .slice A n c := by
  rcases h.2 with ⟨rfl, rfl⟩ | ⟨g, cap, cur, rfl, _⟩
  · exact ⟨_, _, rfl⟩
  · exact ⟨_, _, rfl⟩

theorem isRef_store {w : World} {base q : Nat} {v0 v : Value} {l : List ByteArray} (hb : w.heap[q]? = some (.cells #[.bool false, v0] 33 (0, 0))) (hr : w.ownsRow base 9 1 v l.length (l.map Value.string)) (hs : ∀ s ∈ l, s.size ≤ maxLen) :
    IsRef (w.setCell ⟨q, 1, none⟩ v) base q v l := by
  refine ⟨by simp [World.setCell, Array.getElem?_modify, hb], ⟨hr.1, ?_⟩, hs⟩
  rcases hr.2 with hn | ⟨g, cap, cur, rfl, hg, hh, rest⟩
  · exact .inl hn
  · refine .inr ⟨g, cap, cur, rfl, hg, (Below.heap_setCell _ _ _ _ ?_).trans hh, rest⟩
    rintro rfl
    rw [hb] at hh
    injection hh with hh
    injection hh with _ hh
    exact absurd hh (by decide)

set_option maxHeartbeats 400000 in
theorem refMark_known {w : World} {base q : Nat} {v : Value} {l : List ByteArray} {s : ByteArray} (h : IsRef w base q v l) (hl : l.length ≤ 2000) (hm : s ∈ l) :
    Calls Try.prog 44 #[.pointer (some ⟨q, 0, none⟩), .string s] w fun e w' => e = .returned (.string (mk (l.idxOf s + 1))) ∧ Below w.heap.size w w' := by
  have c0 := h.c0
  have HP := Lib.hid (show placeOf l s = (l.idxOf s : Int) from if_pos hm)
  have hi := List.idxOf_lt_length_of_mem hm
  have HH := Lib.hid h
  clear hm h
  go_enter Try.func44, Try.ntmps44
  go_wp2_with fail
  refine (place_any HH.out hl).mono ?_
  rintro e w' ⟨rfl, rfl⟩
  rw [HP.out]
  go_wp2_with fail
  refine (Number_calls _ (by omega) (by omega) _).mono ?_
  rintro e w' ⟨rfl, hb⟩
  go_wp2_with fail
  go_ret
  exact ⟨rfl, hb⟩

set_option maxRecDepth 100000 in
set_option maxHeartbeats 400000 in
theorem refMark_new {w : World} {base q : Nat} {v : Value} {l : List ByteArray} {s : ByteArray} (h : IsRef w base q v l) (hs : s.size ≤ maxLen) (hl : l.length ≤ 2000) (hm : s ∉ l) (hbase : base ≤ w.heap.size) :
    Calls Try.prog 44 #[.pointer (some ⟨q, 0, none⟩), .string s] w fun e w' => e = .returned (.string (mk (l.length + 1))) ∧ ∃ v', IsRef w' base q v' (l ++ [s]) ∧ Within (fun k => k = q ∨ some k = v.ownBlock) w w' ∧
      (v'.ownBlock = v.ownBlock ∨ ∃ g, v'.ownBlock = some g ∧ w.heap.size ≤ g) := by
  obtain ⟨i0, hi, hz0, hz1, hz2⟩ := info_parts infoStr9
  have HZ0 := Lib.hid hz0; have HZ1 := Lib.hid hz1; have HZ2 := Lib.hid hz2; have HI0 := Lib.hid hi
  obtain ⟨A, c, hv, hS⟩ := h.strs
  have c0 := h.c0
  have c1 := h.c1
  rw [hv] at c1
  have HP := Lib.hid (show placeOf l s = -1 from if_neg hm)
  have HH := Lib.hid h
  have HM := Lib.hid hm
  have HV := Lib.hid hv
  have hown : w.ownsRow base 9 1 (.slice A l.length c) l.length (l.map Value.string) := by rw [← hv]; exact h.row
  clear hz0 hz1 hz2 hi hm h hv
  go_enter Try.func44, Try.ntmps44
  go_wp2_with fail
  refine (place_any HH.out hl).mono ?_
  rintro e w' ⟨rfl, rfl⟩
  rw [HP.out]
  have hb1 : base ≤ (w.alloc (.cells #[.string s] 9)).heap.size := by simp; omega
  have hblk : (w.alloc (.cells #[.string s] 9)).heap[q]? = some (.cells #[.bool false, .slice A l.length c] 33 (0, 0)) := by rw [← HV.out]; exact (heap_alloc_old w _ HH.out.lt).trans HH.out.blk
  have hqlt : q < (w.alloc (.cells #[.string s] 9)).heap.size := by have := HH.out.lt; simp; omega
  have hqne : some q ≠ (Value.slice A l.length c).ownBlock := by rw [← HV.out]; exact Ne.symm HH.out.ne
  have HB := Lib.hid hblk
  clear hblk
  go_wp2_with (at_builtin; refine wpList_append_own_at _ rfl (.tmp 26) (.tmp 28) 22 rfl base 9 i0 _ 1 16 Try.underlying22 HI0.out HZ0.out HZ1.out HZ2.out rfl (by decide) (.slice A l.length c) l.length (l.map Value.string) rfl (hown.alloc _) ⟨w.heap.size, 0, none⟩ 1 1 [.string s] rfl rfl (cell_one_new _ _ _) (by simp [Value.oneCell']) (by unfold maxLen; omega) (by omega) hb1 ?_; intro v5 w5 hown5 hg5 _ hat5; have hb5 := (hg5.block q hqlt hqne).trans HB.out; have d1 := cell_of_row w5 q 1 _ _ _ hb5; have f1 := frozen_of_blk hb5 1; have HB5 := Lib.hid hb5; have HAT := Lib.hid hat5; (obtain ⟨A5, c5, hv5⟩ := slice_of_row hown5); have HV5 := Lib.hid hv5; rw [hv5]; clear hv5 hb5 hat5)
  refine (Number_calls _ (by omega) (by omega) _).mono ?_
  rintro e w7 ⟨rfl, hb⟩
  go_wp2_with fail
  go_ret
  refine ⟨rfl, v5, ?_, ?_, ?_⟩
  · refine IsRef.below ?_ hb
    rw [← HV5.out]
    have hr : w5.ownsRow base 9 1 v5 (l ++ [s]).length ((l ++ [s]).map Value.string) := by simpa using hown5
    exact isRef_store HB5.out hr (fun t ht => by
      rcases List.mem_append.1 ht with h | h
      · exact HH.out.small t h
      · rw [List.mem_singleton.1 h]; exact hs)
  · have g1 : Within (fun k => k = q ∨ some k = v.ownBlock) w w5 :=
      (Within.of_below ((Below.refl w.heap.size w).alloc (Nat.le_refl _) (.cells #[.string s] 9)) (fun k => k = q ∨ some k = v.ownBlock)).trans (Within.of_grown hg5) (fun k _ hk => .inr (by rw [HV.out]; exact hk))
    refine g1.trans (T := fun k => k = q) ⟨hb.os, hb.tape, hb.output, by simpa [World.setCell] using hb.size, fun k hk hn => ?_⟩ (fun k _ hk => .inl hk)
    exact (hb.block k (by simpa [World.setCell] using hk)).trans (Below.heap_setCell _ _ _ _ hn)
  · rcases HAT.out with h | h
    · exact .inl (by rw [h, HV.out])
    · exact .inr ⟨_, h, by simp⟩

/-- Mark, whatever text. -/
theorem refMark_any {w : World} {base q : Nat} {v : Value} {l : List ByteArray} {s : ByteArray} (h : IsRef w base q v l) (hs : s.size ≤ maxLen) (hl : l.length ≤ 2000) (hbase : base ≤ w.heap.size) :
    Calls Try.prog 44 #[.pointer (some ⟨q, 0, none⟩), .string s] w fun e w' => e = .returned (.string (mk (l.idxOf s + 1))) ∧ ∃ v', IsRef w' base q v' (seen l s) ∧ Within (fun k => k = q ∨ some k = v.ownBlock) w w' ∧
      (v'.ownBlock = v.ownBlock ∨ ∃ g, v'.ownBlock = some g ∧ w.heap.size ≤ g) := by
  by_cases hm : s ∈ l
  · refine (refMark_known h hl hm).mono fun e w' ⟨he, hb⟩ => ⟨he, v, ?_, Within.of_below hb _, .inl rfl⟩
    rw [seen_of_mem hm]
    exact h.below hb
  · refine (refMark_new h hs hl hm hbase).mono fun e w' ⟨he, hi⟩ => ⟨?_, ?_⟩
    · rw [idxOf_of_not hm]; exact he
    · rw [seen_of_not hm]; exact hi

set_option maxHeartbeats 400000 in
/-- Is, whatever text and mark. -/
theorem refIs {w : World} {base q : Nat} {v : Value} {l : List ByteArray} {s mark : ByteArray} (h : IsRef w base q v l) (hl : l.length ≤ 2000) :
    Calls Try.prog 45 #[.pointer (some ⟨q, 0, none⟩), .string s, .string mark] w fun e w' => e = .returned (.bool (isB l s mark)) ∧ Below w.heap.size w w' := by
  have c0 := h.c0
  have HH := Lib.hid h
  clear h
  by_cases hm : s ∈ l
  · have HP := Lib.hid (show placeOf l s = (l.idxOf s : Int) from if_pos hm)
    have hi := List.idxOf_lt_length_of_mem hm
    have HE := Lib.hid (show isB l s mark = (mark.toList == (mk (l.idxOf s + 1)).toList) by
      unfold isB
      rw [decide_eq_true hm, Bool.true_and, beq_toList]
      rw [Bool.eq_iff_iff, decide_eq_true_iff, decide_eq_true_iff]
      exact eq_comm)
    clear hm
    go_enter Try.func45, Try.ntmps45
    go_wp2_with fail
    refine (place_any HH.out hl).mono ?_
    rintro e w' ⟨rfl, rfl⟩
    rw [HP.out]
    go_wp2_with fail
    refine (Number_calls _ (by omega) (by omega) _).mono ?_
    rintro e w' ⟨rfl, hb⟩
    go_wp2_with fail
    go_ret
    exact ⟨by rw [HE.out]; rfl, hb⟩
  · have HP := Lib.hid (show placeOf l s = -1 from if_neg hm)
    have HE := Lib.hid (show isB l s mark = false by simp [isB, hm])
    clear hm
    go_enter Try.func45, Try.ntmps45
    go_wp2_with fail
    refine (place_any HH.out hl).mono ?_
    rintro e w' ⟨rfl, rfl⟩
    rw [HP.out]
    go_wp2_with fail
    go_ret
    exact ⟨by rw [HE.out]; rfl, Below.refl _ _⟩
end Go.Proofs.Ytpegefcpanijhaa
end
section
namespace Go.Proofs.Ytpegefcpanijhaa
set_option linter.unusedVariables false
set_option linter.unusedSimpArgs false
open Go.RowKit Go.Maps Go.Proofs.YtpegefcpanijhaaW.PrintWords
attribute [local go_sem ↓] Go.wp_at_zero Go.wp_at_succ

/-- A text, or its first bytes. -/
def cutB (s : ByteArray) (n : Nat) : ByteArray := if s.size > n then s.extract 0 n else s
theorem cutB_size (s : ByteArray) (n : Nat) : (cutB s n).size ≤ n := by
  unfold cutB; split
  · simp; omega
  · omega
theorem cut_is (s : ByteArray) (n : Nat) : PF.barquelaw03_cut.f s n = some (cutB s n) := by
  unfold PF.barquelaw03_cut.f cutB
  by_cases h : s.size > n
  · rw [if_pos (by omega), if_pos (by omega), if_pos (by omega), if_pos h]; simp
  · rw [if_neg (by omega), if_neg h]
theorem cut_calls (s : ByteArray) (n : Nat) (k : Int) (hk : k = n) (w : World) : Calls Try.prog 33 #[.string s, .int .i64 k] w fun e w' => e = .returned (.string (cutB s n)) ∧ Below w.heap.size w w' := by
  subst hk
  exact (PF.barquelaw03_cut.calls s n _ w (cut_is s n)).mono fun e w' ⟨he, hd⟩ => ⟨he, hd.below⟩

/-- A call of a book. -/
structure OpD where
  kind : Int
  n : Int
  text : ByteArray
  mark : ByteArray
def OpD.val (o : OpD) : Value := .agg #[.int .i64 o.kind, .int .i64 o.n, .string o.text, .string o.mark]
def OpD.seen (l : List ByteArray) (o : OpD) : List ByteArray := if o.kind = 0 then Ytpegefcpanijhaa.seen l (cutB o.text 300) else l
structure OpD.Ok (o : OpD) : Prop where
  text : o.text.size ≤ maxLen
  mark : o.mark.size ≤ maxLen
  n0 : -9223372036854775808 ≤ o.n
  n1 : o.n ≤ 9223372036854775807
theorem OpD.seen_length (l : List ByteArray) (o : OpD) : (o.seen l).length ≤ l.length + 1 := by
  unfold OpD.seen; split
  · exact Ytpegefcpanijhaa.seen_length l _
  · omega

/-- An ideal book b (its table m) and the document's book q (its list v) know the same texts l. -/
structure Both (w : World) (b m base q : Nat) (v : Value) (l : List ByteArray) : Prop where
  ideal : IsIdeal w b m l
  ref : IsRef w base q v l
namespace Both
variable {w w' : World} {b m base q : Nat} {v : Value} {l : List ByteArray}
theorem below (h : Both w b m base q v l) (hb : Below w.heap.size w w') : Both w' b m base q v l := ⟨h.ideal.below hb, h.ref.below hb⟩
theorem drewN (h : Both w b m base q v l) (n : Nat) : Both (w.drewN n) b m base q v l := ⟨h.ideal.drewN n, h.ref.drewN n⟩
theorem drew (h : Both w b m base q v l) : Both w.drew b m base q v l := ⟨h.ideal.drew, h.ref.drew⟩
theorem alloc (h : Both w b m base q v l) (o : Obj) : Both (w.alloc o) b m base q v l := h.below ((Below.refl _ _).alloc (Nat.le_refl _) o)
theorem ne_q (h : Both w b m base q v l) : q ≠ b ∧ q ≠ m := by
  constructor
  · rintro rfl
    have := h.ref.blk
    rw [h.ideal.blk] at this
    injection this with this
    injection this with _ this
    exact absurd this (by decide)
  · rintro rfl
    obtain ⟨D, ⟨es, clock, hb, _⟩, _⟩ := h.ideal.own
    rw [h.ref.blk] at hb
    cases hb
theorem ne_v (h : Both w b m base q v l) : some b ≠ v.ownBlock ∧ some m ≠ v.ownBlock := h.ideal.ne_row h.ref.row (by decide)
end Both

/-- What a call leaves: both know the same texts; only the table, the document's book and its list have turned. -/
def After (w : World) (b m base q : Nat) (v : Value) (l' : List ByteArray) (w' : World) : Prop :=
  ∃ v', Both w' b m base q v' l' ∧ Within (fun k => k = m ∨ k = q ∨ some k = v.ownBlock) w w' ∧ (v'.ownBlock = v.ownBlock ∨ ∃ g, v'.ownBlock = some g ∧ w.heap.size ≤ g)
theorem After.of_below {w w' : World} {b m base q : Nat} {v : Value} {l : List ByteArray} (h : Both w b m base q v l) (hb : Below w.heap.size w w') : After w b m base q v l w' :=
  ⟨v, h.below hb, Within.of_below hb _, .inl rfl⟩
theorem After.then_below {w w1 w' : World} {b m base q : Nat} {v : Value} {l : List ByteArray} (h : After w b m base q v l w1) (hb : Below w1.heap.size w1 w') : After w b m base q v l w' := by
  obtain ⟨v', hB, hW, hv⟩ := h
  exact ⟨v', hB.below hb, hW.trans (Within.of_below hb (fun _ => False)) (fun _ _ x => x.elim), hv⟩
theorem After.behind {w0 w w' : World} {b m base q : Nat} {v : Value} {l : List ByteArray} (h : After w b m base q v l w') (hb : Below w0.heap.size w0 w) : After w0 b m base q v l w' := by
  obtain ⟨v', hB, hW, hv⟩ := h
  refine ⟨v', hB, (Within.of_below hb (fun k => k = m ∨ k = q ∨ some k = v.ownBlock)).trans hW (fun _ _ x => x), ?_⟩
  rcases hv with h | ⟨g, h1, h2⟩
  · exact .inl h
  · exact .inr ⟨g, h1, Nat.le_trans hb.size h2⟩

/-- The call 'b.Mark(s)', then 'q.Mark(s)'. -/
theorem both_mark1 {w : World} {b m base q : Nat} {v : Value} {l : List ByteArray} {s : ByteArray} (h : Both w b m base q v l) (hs : s.size ≤ maxLen) (hl : l.length ≤ 1000) :
    Calls Try.prog 20 #[.pointer (some ⟨b, 0, none⟩), .string s] w fun e w' => e = .returned (.string (mk (l.idxOf s + 1))) ∧ IsIdeal w' b m (seen l s) ∧ IsRef w' base q v l ∧ Within (fun k => k = m) w w' := by
  refine (mark_ideal h.ideal hs (by omega)).mono fun e w' ⟨he, hi, hg⟩ => ⟨he, hi, ?_, ?_⟩
  · exact h.ref.kept (Within.of_grown hg) (fun e => h.ne_q.2 (by injection e)) (fun k hk e => h.ne_v.2 (by rw [hk, e]))
  · exact (Within.of_grown hg).mono (fun k _ e => by injection e)
theorem both_mark2 {w0 w : World} {b m base q : Nat} {v : Value} {l : List ByteArray} {s : ByteArray} (hne : q ≠ b ∧ q ≠ m) (hnv : some b ≠ v.ownBlock ∧ some m ≠ v.ownBlock) (hi : IsIdeal w b m (seen l s)) (hr : IsRef w base q v l) (hW : Within (fun k => k = m) w0 w) (hs : s.size ≤ maxLen) (hl : l.length ≤ 1000) (hbase : base ≤ w.heap.size) :
    Calls Try.prog 44 #[.pointer (some ⟨q, 0, none⟩), .string s] w fun e w' => e = .returned (.string (mk (l.idxOf s + 1))) ∧ After w0 b m base q v (seen l s) w' := by
  refine (refMark_any hr hs (by omega) hbase).mono fun e w' ⟨he, v', hr', hg, hv⟩ => ⟨he, v', ⟨?_, hr'⟩, ?_, ?_⟩
  · refine ⟨(hg.block b hi.lt ?_).trans hi.blk, ?_⟩
    · rintro (e | e)
      · exact hne.1 e.symm
      · exact hnv.1 e
    · obtain ⟨D, ho, hsh⟩ := hi.own
      refine ⟨D, ?_, hsh⟩
      obtain ⟨es, clock, hb, r⟩ := ho
      refine ⟨es, clock, (hg.block m hi.ltm ?_).trans hb, r⟩
      rintro (e | e)
      · exact hne.2 e.symm
      · exact hnv.2 e
  · exact (hW.mono (T := fun k => k = m ∨ k = q ∨ some k = v.ownBlock) (fun k _ e => .inl e)).trans hg (fun k _ e => .inr e)
  · rcases hv with h | ⟨g, h1, h2⟩
    · exact .inl h
    · exact .inr ⟨g, h1, Nat.le_trans hW.size h2⟩

/-- The cells of a call's own copy of an Op, in whatever world comes later. -/
theorem op_cells {w w2 : World} {x0 x1 x2 x3 : Value} (hb : Below (w.alloc (.cells #[x0, x1, x2, x3] 36)).heap.size (w.alloc (.cells #[x0, x1, x2, x3] 36)) w2) :
    w2.cell? ⟨w.heap.size, 0, none⟩ = some x0 ∧ w2.cell? ⟨w.heap.size, 1, none⟩ = some x1 ∧ w2.cell? ⟨w.heap.size, 2, none⟩ = some x2 ∧ w2.cell? ⟨w.heap.size, 3, none⟩ = some x3 := by
  have hblk : w2.heap[w.heap.size]? = some (.cells #[x0, x1, x2, x3] 36 (0, 0)) := (hb.block _ (by simp)).trans (heap_alloc_new w _)
  exact ⟨cell_of_row _ _ 0 _ _ _ hblk, cell_of_row _ _ 1 _ _ _ hblk, cell_of_row _ _ 2 _ _ _ hblk, cell_of_row _ _ 3 _ _ _ hblk⟩

set_option maxHeartbeats 400000 in
theorem step0 {w : World} {b m base q : Nat} {v : Value} {l : List ByteArray} (h : Both w b m base q v l) (hl : l.length ≤ 900) (hbase : base ≤ w.heap.size) (n : Int) (text mark : ByteArray) :
    Calls Try.prog 23 #[.pointer (some ⟨b, 0, none⟩), .pointer (some ⟨q, 0, none⟩), .agg #[.int .i64 0, .int .i64 n, .string text, .string mark]] w fun e w' => e = .returned (.bool true) ∧ After w b m base q v (seen l (cutB text 300)) w' := by
  have hcs := cutB_size text 300
  have hcs' : (cutB text 300).size ≤ maxLen := by unfold maxLen; omega
  have hB := (Below.refl w.heap.size w).alloc (Nat.le_refl _) (.cells #[.int .i64 0, .int .i64 n, .string text, .string mark] 36)
  have h1 := h.alloc (.cells #[.int .i64 0, .int .i64 n, .string text, .string mark] 36)
  have hne := h.ne_q
  have hnv := h.ne_v
  go_enter Try.func23, Try.ntmps23
  go_wp2_with fail
  refine (cut_calls text 300 _ rfl _).mono ?_
  rintro e w2 ⟨rfl, hb2⟩
  obtain ⟨c0, c1, c2, c3⟩ := op_cells hb2
  have h2 := h1.below hb2
  have hB2 : Below w.heap.size w w2 := hB.trans (hb2.mono hB.size)
  clear hB hb2 h1
  go_wp2_with fail
  refine (both_mark1 h2 hcs' (by omega)).mono ?_
  rintro e w3 ⟨rfl, hi3, hr3, hW3⟩
  have hb3 : base ≤ w3.heap.size := by have := hB2.size; have := hW3.size; omega
  go_wp2_with fail
  refine (both_mark2 hne hnv hi3 hr3 hW3 hcs' (by omega) hb3).mono ?_
  rintro e w4 ⟨rfl, hA⟩
  go_wp2_with fail
  go_ret
  exact ⟨rfl, hA.behind hB2⟩

/-- Both books' answers to a question, the world told against an elder one. -/
theorem both_is1 {W w : World} {b m base q : Nat} {v : Value} {l : List ByteArray} {s mark : ByteArray} (h : Both w b m base q v l) (hs : s.size ≤ maxLen) (hB : Below W.heap.size W w) {a1 : Addr} {v1 : Value} (c1 : w.cell? a1 = some v1) :
    Calls Try.prog 21 #[.pointer (some ⟨b, 0, none⟩), .string s, .string mark] w fun e w' => e = .returned (.bool (isB l s mark)) ∧ Both w' b m base q v l ∧ Below W.heap.size W w' ∧ w'.cell? a1 = some v1 :=
  (is_ideal h.ideal hs).mono fun e w' ⟨he, hb⟩ => ⟨he, h.below hb, hB.trans (hb.mono hB.size), (hb.cell (World.block_lt_of_cell? w _ c1)).trans c1⟩
theorem both_is2 {W w : World} {b m base q : Nat} {v : Value} {l : List ByteArray} {s mark : ByteArray} (h : Both w b m base q v l) (hl : l.length ≤ 2000) (hB : Below W.heap.size W w) {a1 : Addr} {v1 : Value} (c1 : w.cell? a1 = some v1) :
    Calls Try.prog 45 #[.pointer (some ⟨q, 0, none⟩), .string s, .string mark] w fun e w' => e = .returned (.bool (isB l s mark)) ∧ Both w' b m base q v l ∧ Below W.heap.size W w' ∧ w'.cell? a1 = some v1 :=
  (refIs h.ref hl).mono fun e w' ⟨he, hb⟩ => ⟨he, h.below hb, hB.trans (hb.mono hB.size), (hb.cell (World.block_lt_of_cell? w _ c1)).trans c1⟩

set_option maxHeartbeats 1000000 in
theorem step1 {w : World} {b m base q : Nat} {v : Value} {l : List ByteArray} (h : Both w b m base q v l) (hl : l.length ≤ 900) (n : Int) (text mark : ByteArray) :
    Calls Try.prog 23 #[.pointer (some ⟨b, 0, none⟩), .pointer (some ⟨q, 0, none⟩), .agg #[.int .i64 1, .int .i64 n, .string text, .string mark]] w fun e w' => e = .returned (.bool true) ∧ Both w' b m base q v l ∧ Below w.heap.size w w' := by
  have hcs := cutB_size text 300
  have hcs' : (cutB text 300).size ≤ maxLen := by unfold maxLen; omega
  have hB := (Below.refl w.heap.size w).alloc (Nat.le_refl _) (.cells #[.int .i64 1, .int .i64 n, .string text, .string mark] 36)
  have h1 := h.alloc (.cells #[.int .i64 1, .int .i64 n, .string text, .string mark] 36)
  go_enter Try.func23, Try.ntmps23
  go_wp2_with fail
  refine (cut_calls text 300 _ rfl _).mono ?_
  rintro e w2 ⟨rfl, hb2⟩
  obtain ⟨c0, c1, c2, c3⟩ := op_cells hb2
  have h2 := h1.below hb2
  have hB2 : Below w.heap.size w w2 := hB.trans (hb2.mono hB.size)
  clear hB hb2 h1 c1 c2
  cases hq : isB l (cutB text 300) mark
  all_goals
    have HQ := Lib.hid hq
    clear hq
    go_wp2_with fail
    go_region_held3 (fun w' => w'.cell? ⟨w.heap.size, 3, none⟩ = some (.string mark)) (go_keep)
      (first
        | (go_at_call 21; refine (both_is1 (W := w) (a1 := ⟨w.heap.size, 3, none⟩) (v1 := .string mark) (by first | exact h2 | exact h2.drewN _ | exact h2.drew) hcs' (by first | exact hB2 | exact below_drewN hB2 _ | exact hB2.drew) (by assumption)).mono ?_; rintro e w5 ⟨rfl, h5, hB5, f5⟩; rw [HQ.out])
        | (go_at_call 45; refine (both_is2 (W := w) (a1 := ⟨w.heap.size, 3, none⟩) (v1 := .string mark) (by first | exact h5 | exact h5.drewN _ | exact h5.drew) (by omega) (by first | exact hB5 | exact below_drewN hB5 _ | exact hB5.drew) (by assumption)).mono ?_; rintro e w6 ⟨rfl, h6, hB6, f6⟩; rw [HQ.out]))
    go_wp2_with fail
    go_ret
    exact ⟨rfl, h6, hB6⟩
end Go.Proofs.Ytpegefcpanijhaa
end
section
namespace Go.Proofs.Ytpegefcpanijhaa
set_option linter.unusedVariables false
set_option linter.unusedSimpArgs false
open Go.RowKit Go.Maps

/-- Both books' answers to a question behind one another. -/
theorem both_is1' {W w : World} {b m base q : Nat} {v : Value} {l : List ByteArray} {s mark : ByteArray} (h : Both w b m base q v l) (hs : s.size ≤ maxLen) (hB : Below W.heap.size W w) :
    Calls Try.prog 21 #[.pointer (some ⟨b, 0, none⟩), .string s, .string mark] w fun e w' => e = .returned (.bool (isB l s mark)) ∧ Both w' b m base q v l ∧ Below W.heap.size W w' :=
  (is_ideal h.ideal hs).mono fun e w' ⟨he, hb⟩ => ⟨he, h.below hb, hB.trans (hb.mono hB.size)⟩
theorem both_is2' {W w : World} {b m base q : Nat} {v : Value} {l : List ByteArray} {s mark : ByteArray} (h : Both w b m base q v l) (hl : l.length ≤ 2000) (hB : Below W.heap.size W w) :
    Calls Try.prog 45 #[.pointer (some ⟨q, 0, none⟩), .string s, .string mark] w fun e w' => e = .returned (.bool (isB l s mark)) ∧ Both w' b m base q v l ∧ Below W.heap.size W w' :=
  (refIs h.ref hl).mono fun e w' ⟨he, hb⟩ => ⟨he, h.below hb, hB.trans (hb.mono hB.size)⟩

set_option maxHeartbeats 1000000 in
theorem step2 {w : World} {b m base q : Nat} {v : Value} {l : List ByteArray} (h : Both w b m base q v l) (hl : l.length ≤ 900) (k n : Int) (h0 : k ≠ 0) (h1' : k ≠ 1) (text mark : ByteArray) :
    Calls Try.prog 23 #[.pointer (some ⟨b, 0, none⟩), .pointer (some ⟨q, 0, none⟩), .agg #[.int .i64 k, .int .i64 n, .string text, .string mark]] w fun e w' => e = .returned (.bool true) ∧ Both w' b m base q v l ∧ Below w.heap.size w w' := by
  have hcs := cutB_size text 300
  have hcs' : (cutB text 300).size ≤ maxLen := by unfold maxLen; omega
  have hB := (Below.refl w.heap.size w).alloc (Nat.le_refl _) (.cells #[.int .i64 k, .int .i64 n, .string text, .string mark] 36)
  have h1 := h.alloc (.cells #[.int .i64 k, .int .i64 n, .string text, .string mark] 36)
  have k0 : (k == 0) = false := beq_eq_false_iff_ne.2 h0
  have k1 : (k == 1) = false := beq_eq_false_iff_ne.2 h1'
  clear h0 h1'
  by_cases hn : n < 0
  all_goals
    go_enter Try.func23, Try.ntmps23
    go_wp2_with fail
    refine (cut_calls text 300 _ rfl _).mono ?_
    rintro e w2 ⟨rfl, hb2⟩
    obtain ⟨c0, c1, c2, c3⟩ := op_cells hb2
    have h2 := h1.below hb2
    have hB2 : Below w.heap.size w w2 := hB.trans (hb2.mono hB.size)
    clear hB hb2 h1 c2
    go_wp2_with fail
    refine (Number_calls_any n _).mono ?_
    rintro e w3 ⟨rfl, hb3⟩
    have d1 := (hb3.cell (World.block_lt_of_cell? w2 _ c1)).trans c1
    have d3 := (hb3.cell (World.block_lt_of_cell? w2 _ c3)).trans c3
    have h3 := h2.below hb3
    have hB3 : Below w.heap.size w w3 := hB2.trans (hb3.mono hB2.size)
    clear c0 c1 c3 hb3 hB2 h2
    go_wp2_with fail
    refine (both_is1' (W := w) h3 hcs' hB3).mono ?_
    rintro e w4 ⟨rfl, h4, hB4⟩
    go_wp2_with fail
    refine (both_is2' (W := w) h4 (by omega) hB4).mono ?_
    rintro e w5 ⟨rfl, h5, hB5⟩
    go_wp2_with fail
    go_ret
    exact ⟨by simp, h5, hB5⟩

/-- The step, whatever the call. -/
theorem step_any {w : World} {b m base q : Nat} {v : Value} {l : List ByteArray} (o : OpD) (h : Both w b m base q v l) (hl : l.length ≤ 900) (hbase : base ≤ w.heap.size) :
    Calls Try.prog 23 #[.pointer (some ⟨b, 0, none⟩), .pointer (some ⟨q, 0, none⟩), o.val] w fun e w' => e = .returned (.bool true) ∧ After w b m base q v (o.seen l) w' := by
  obtain ⟨k, n, text, mark⟩ := o
  unfold OpD.val OpD.seen
  by_cases k0 : k = 0
  · subst k0
    rw [if_pos rfl]
    exact step0 h hl hbase n text mark
  · rw [if_neg k0]
    by_cases k1 : k = 1
    · subst k1
      exact (step1 h hl n text mark).mono fun e w' ⟨he, h', hb⟩ => ⟨he, v, h', Within.of_below hb _, .inl rfl⟩
    · exact (step2 h hl k n k0 k1 text mark).mono fun e w' ⟨he, h', hb⟩ => ⟨he, v, h', Within.of_below hb _, .inl rfl⟩

/-- A slice value that reads as the calls ops. -/
structure OpsAt (w : World) (A : Option Addr) (n c : Nat) (ops : List OpD) : Prop where
  len : ops.length = n
  le : n ≤ c
  max : c ≤ maxLen
  small : ∀ o ∈ ops, o.Ok
  cell : ∀ k (h : k < ops.length), ∃ a, A = some a ∧ w.cell? (a.add (k * 4)) = some (.int .i64 ops[k].kind) ∧ w.cell? ⟨(a.add (k * 4)).block, (a.add (k * 4)).off + 1, none⟩ = some (.int .i64 ops[k].n) ∧
    w.cell? ⟨(a.add (k * 4)).block, (a.add (k * 4)).off + 2, none⟩ = some (.string ops[k].text) ∧ w.cell? ⟨(a.add (k * 4)).block, (a.add (k * 4)).off + 3, none⟩ = some (.string ops[k].mark)
theorem OpsAt.at_ {w w' : World} {A : Option Addr} {n c : Nat} {ops : List OpD} (h : OpsAt w A n c ops) (hb : Below w.heap.size w w') {k : Nat} (hk : k < n) : ∃ (a : Addr) (o : OpD), A = some a ∧ o.Ok ∧ w'.cell? (a.add (k * 4)) = some (.int .i64 o.kind) ∧ w'.cell? ⟨(a.add (k * 4)).block, (a.add (k * 4)).off + 1, none⟩ = some (.int .i64 o.n) ∧
    w'.cell? ⟨(a.add (k * 4)).block, (a.add (k * 4)).off + 2, none⟩ = some (.string o.text) ∧ w'.cell? ⟨(a.add (k * 4)).block, (a.add (k * 4)).off + 3, none⟩ = some (.string o.mark) := by
  have hk' : k < ops.length := by rw [h.len]; exact hk
  obtain ⟨a, e, c0, c1, c2, c3⟩ := h.cell k hk'
  exact ⟨a, ops[k], e, h.small _ (List.getElem_mem hk'), (hb.cell (World.block_lt_of_cell? w _ c0)).trans c0, (hb.cell (World.block_lt_of_cell? w _ c1)).trans c1, (hb.cell (World.block_lt_of_cell? w _ c2)).trans c2, (hb.cell (World.block_lt_of_cell? w _ c3)).trans c3⟩
end Go.Proofs.Ytpegefcpanijhaa
end
section
namespace Go.Proofs.Ytpegefcpanijhaa
set_option linter.unusedVariables false
set_option linter.unusedSimpArgs false
open Go.ChangeShapes Go.WideShapes Go.RowKit Go.Deep

theorem list_of {α : Type} {P : Nat → α → Prop} {n : Nat} (h : ∀ k, k < n → ∃ x, P k x) : ∃ l : List α, l.length = n ∧ ∀ k (hk : k < l.length), P k l[k] := by
  refine ⟨List.ofFn fun i : Fin n => Classical.choose (h i i.2), by simp, fun k hk => ?_⟩
  have hk' : k < n := by simpa using hk
  rw [List.getElem_ofFn]
  exact Classical.choose_spec (h k hk')

section
variable {H : Type} {enc : TypeId × Value → H} {w : World} {base : Nat} {spare : Nat → Bool} {held : Bool} {fuel : Nat}

theorem one3 : Try.prog.cellsOf 3 = 1 := by kernel_rfl
theorem one9 : Try.prog.cellsOf 9 = 1 := by kernel_rfl
theorem four36 : Try.prog.cellsOf 36 = 4 := by kernel_rfl

/-- A field of a struct that was read. -/
theorem field_of {t : TypeId} {fs : Array Field} {cs : List Value} {x : DataW H × List MemPlace} (ht : Try.prog.underlying t = some (.struct fs)) (h : DataW.trod enc Try.prog w base spare held fuel t cs = some x) :
    cs.length = Try.prog.cellsOf t ∧ ∃ n, ∀ (i : Nat) (f : Field), fs[i]? = some f → ∃ y, DataW.trod enc Try.prog w base spare held n f.type ((cs.drop f.offset).take (Try.prog.cellsOf f.type)) = some y := by
  obtain ⟨xs, n, -, -, hl, hx, hf⟩ := DataW.trod_struct ht h
  refine ⟨hl, n, fun i f hi => ?_⟩
  have hlt : i < xs.length := by rw [hx]; exact (Array.getElem?_eq_some_iff.1 hi).1
  exact ⟨xs[i], (hf i f hi).trans (List.getElem?_eq_getElem hlt)⟩

theorem int_field {t : TypeId} {fs : Array Field} {cs : List Value} {n : Nat} (hf : ∀ (i : Nat) (f : Field), fs[i]? = some f → ∃ y, DataW.trod enc Try.prog w base spare held n f.type ((cs.drop f.offset).take (Try.prog.cellsOf f.type)) = some y) (i : Nat) (f : Field) (hi : fs[i]? = some f) (ht : f.type = 3) :
    ∃ a : Int, (cs.drop f.offset).take 1 = [.int .i64 a] ∧ (Lit.int .i64 a).wf = true := by
  obtain ⟨y, hy⟩ := hf i f hi
  rw [ht, one3] at hy
  obtain ⟨a, h1, _, h2⟩ := DataW.trod_int Try.underlying3 hy
  exact ⟨a, h1, h2⟩
theorem str_field {t : TypeId} {fs : Array Field} {cs : List Value} {n : Nat} (hf : ∀ (i : Nat) (f : Field), fs[i]? = some f → ∃ y, DataW.trod enc Try.prog w base spare held n f.type ((cs.drop f.offset).take (Try.prog.cellsOf f.type)) = some y) (i : Nat) (f : Field) (hi : fs[i]? = some f) (ht : f.type = 9) :
    ∃ s : ByteArray, (cs.drop f.offset).take 1 = [.string s] ∧ s.size ≤ maxLen := by
  obtain ⟨y, hy⟩ := hf i f hi
  rw [ht, one9] at hy
  obtain ⟨s, h1, _, h2⟩ := DataW.trod_string Try.underlying9 hy
  exact ⟨s, h1, h2⟩

theorem i64_bounds {a : Int} (h : (Lit.int .i64 a).wf = true) : -9223372036854775808 ≤ a ∧ a ≤ 9223372036854775807 := by
  simp [Lit.wf, IntKind.min, IntKind.max, IntKind.signed, IntKind.bits] at h
  exact ⟨by omega, by omega⟩

set_option maxRecDepth 100000 in
theorem op_cs {cs : List Value} {x : DataW H × List MemPlace} (h : DataW.trod enc Try.prog w base spare held fuel 36 cs = some x) :
    ∃ o : OpD, o.Ok ∧ cs = [.int .i64 o.kind, .int .i64 o.n, .string o.text, .string o.mark] := by
  obtain ⟨hl, n, hf⟩ := field_of Try.underlying36 h
  rw [four36] at hl
  obtain ⟨k, h0, _⟩ := int_field (t := 36) hf 0 _ rfl rfl
  obtain ⟨m, h1, b1⟩ := int_field (t := 36) hf 1 _ rfl rfl
  obtain ⟨t, h2, b2⟩ := str_field (t := 36) hf 2 _ rfl rfl
  obtain ⟨s, h3, b3⟩ := str_field (t := 36) hf 3 _ rfl rfl
  match cs, hl with
  | [c0, c1, c2, c3], _ =>
    obtain rfl : c0 = _ := (List.cons.inj (show [c0] = _ from h0)).1
    obtain rfl : c1 = _ := (List.cons.inj (show [c1] = _ from h1)).1
    obtain rfl : c2 = _ := (List.cons.inj (show [c2] = _ from h2)).1
    obtain rfl : c3 = _ := (List.cons.inj (show [c3] = _ from h3)).1
    exact ⟨⟨k, m, t, s⟩, ⟨b2, b3, (i64_bounds b1).1, (i64_bounds b1).2⟩, rfl⟩

theorem ops_open {A : Option Addr} {len cap : Nat} {x : DataW H × List MemPlace}
    (h : DataW.trod enc Try.prog w base spare held fuel 30 (Value.slice A len cap).cells.toList = some x) : ∃ l, OpsAt w A len cap l := by
  rcases open_slice Try.underlying30 h with ⟨hcs, _⟩ | ⟨a, l, c, m, n, D, Pl, hcs, _, hl, hm, hmm, _, hi⟩
  · simp [Value.cells] at hcs
    obtain ⟨rfl, rfl, rfl⟩ := hcs
    exact ⟨[], rfl, Nat.le_refl _, Nat.zero_le _, fun s hs => by simp at hs, fun k hk => by simp at hk⟩
  · simp [Value.cells] at hcs
    obtain ⟨rfl, rfl, rfl⟩ := hcs
    have hle : len ≤ m := by
      rw [hmm]; split
      · exact hl
      · exact Nat.le_refl _
    have hall : ∀ k, k < len → ∃ o : OpD, o.Ok ∧ w.cell? (a.add (k * 4)) = some (.int .i64 o.kind) ∧ w.cell? ⟨(a.add (k * 4)).block, (a.add (k * 4)).off + 1, none⟩ = some (.int .i64 o.n) ∧
        w.cell? ⟨(a.add (k * 4)).block, (a.add (k * 4)).off + 2, none⟩ = some (.string o.text) ∧ w.cell? ⟨(a.add (k * 4)).block, (a.add (k * 4)).off + 3, none⟩ = some (.string o.mark) := by
      intro k hk
      obtain ⟨cs', hc, ht⟩ := hi k (by omega)
      rw [four36] at hc
      obtain ⟨o, ho, rfl⟩ := op_cs ht
      obtain ⟨_, _, hat⟩ := World.cells?_some hc
      have e : ∀ j, 0 < j → (a.add (k * 4)).add j = ⟨(a.add (k * 4)).block, (a.add (k * 4)).off + j, none⟩ := fun j hj => (Go.Deep.add_add _ _ _).trans (Go.Proofs.YtpegefcpanijhaaW.PrintWords.add_field _ _ _ hj)
      refine ⟨o, ho, ?_, ?_, ?_, ?_⟩
      · have := hat 0 (by omega)
        simpa [Addr.add] using this
      · rw [← e 1 (by omega)]; exact (hat 1 (by omega)).trans rfl
      · rw [← e 2 (by omega)]; exact (hat 2 (by omega)).trans rfl
      · rw [← e 3 (by omega)]; exact (hat 3 (by omega)).trans rfl
    obtain ⟨l, h1, h2⟩ := list_of hall
    refine ⟨l, h1, hl, hm, fun o ho => ?_, fun k hk => ?_⟩
    · obtain ⟨k, hk, rfl⟩ := List.getElem_of_mem ho
      exact (h2 k hk).1
    · obtain ⟨_, e0, e1, e2, e3⟩ := h2 k hk
      exact ⟨a, rfl, e0, e1, e2, e3⟩
end
end Go.Proofs.Ytpegefcpanijhaa
end
