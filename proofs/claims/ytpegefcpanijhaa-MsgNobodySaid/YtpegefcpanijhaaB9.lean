/- The walk of barquelaw03.MarksApart: it answers true; nothing that was there has turned. -/
import Derived.Test.YtpegefcpanijhaaB6
import Derived.Deep.RegionHeld3
namespace Go.Proofs.Ytpegefcpanijhaa
set_option linter.unusedVariables false
set_option linter.unusedSimpArgs false
open Go.RowKit Go.Maps

theorem IsIdeal.ne_row {w : World} {b m : Nat} {l : List ByteArray} (h : IsIdeal w b m l) {base e size n : Nat} {v : Value} {xs : List Value} (ho : w.ownsRow base e size v n xs) (he : e ≠ 63) : some b ≠ v.ownBlock ∧ some m ≠ v.ownBlock := by
  rcases ho.2 with ⟨rfl, _⟩ | ⟨g, cap, cur, rfl, _, hg, _⟩
  · simp [Value.ownBlock]
  · constructor
    · intro hh
      have : b = g := by simpa [Value.ownBlock] using hh
      subst this
      have := h.blk
      rw [hg] at this
      injection this with this
      injection this with _ this
      exact he this
    · intro hh
      have : m = g := by simpa [Value.ownBlock] using hh
      subst this
      obtain ⟨D, ⟨es, clock, hb, _⟩, _⟩ := h.own
      rw [hg] at hb
      cases hb

/-- What a row of the call's own holds, as texts. -/
theorem strs_of_row {w : World} {base : Nat} {v : Value} {n : Nat} {ms : List ByteArray} (h : w.ownsRow base 9 1 v n (ms.map Value.string)) (hs : ∀ s ∈ ms, s.size ≤ maxLen) : ∃ A c, v = .slice A n c ∧ StrsAt w A n c ms := by
  have hl : ms.length = n := by have := h.1; simpa using this
  rcases h.2 with ⟨rfl, h0⟩ | ⟨g, cap, cur, rfl, hb, hg, hle, hmax, hsz, htk⟩
  · subst h0
    obtain rfl : ms = [] := List.eq_nil_of_length_eq_zero hl
    exact ⟨none, 0, rfl, rfl, Nat.le_refl _, Nat.zero_le _, hs, fun k hk => by simp at hk⟩
  · refine ⟨_, _, rfl, hl, hle, hmax, hs, fun k hk => ⟨_, rfl, ?_⟩⟩
    refine h.cells (g := g) rfl k _ ?_
    simp [List.getElem?_map, List.getElem?_eq_getElem hk]

/-- What holds at the head of the first loop's round k: which marks were handed out. -/
def ApartAt (l : List ByteArray) (k : Nat) (kn ms : List ByteArray) : Prop :=
  kn = known (l.take k) ∧ ms.length = k ∧ ∀ j t, j < k → l[j]? = some t → t ∈ kn ∧ ms[j]? = some (mk (kn.idxOf t + 1))
theorem ApartAt.step {l : List ByteArray} {k : Nat} {kn ms : List ByteArray} {t : ByteArray} (h : ApartAt l k kn ms) (ht : l[k]? = some t) : ApartAt l (k + 1) (seen kn t) (ms ++ [mk (kn.idxOf t + 1)]) := by
  obtain ⟨h1, h2, h3⟩ := h
  refine ⟨by rw [h1]; exact (known_take ht).symm, by simp [h2], fun j s hj hs => ?_⟩
  by_cases e : j = k
  · subst e
    rw [ht] at hs
    obtain rfl : t = s := by simpa using hs
    exact ⟨mem_seen _ _, by rw [idxOf_seen_self, List.getElem?_append_right (by omega), h2]; simp⟩
  · obtain ⟨a, b⟩ := h3 j s (by omega) hs
    exact ⟨mem_seen_of _ _ _ a, by rw [idxOf_seen _ _ _ a, List.getElem?_append_left (by omega)]; exact b⟩
theorem ApartAt.short {l : List ByteArray} {k : Nat} {kn ms : List ByteArray} (h : ApartAt l k kn ms) : kn.length ≤ k := by rw [h.1]; exact known_take_length l k
theorem ApartAt.sizes {l : List ByteArray} {k : Nat} {kn ms : List ByteArray} (h : ApartAt l k kn ms) (hk : k ≤ l.length) : ∀ s ∈ ms, s.size ≤ maxLen := by
  intro s hs
  obtain ⟨j, hj, rfl⟩ := List.getElem_of_mem hs
  have hj' : j < k := by rw [h.2.1] at hj; exact hj
  obtain ⟨_, e⟩ := h.2.2 j l[j] hj' (List.getElem?_eq_getElem (by omega))
  rw [List.getElem?_eq_getElem hj] at e
  rw [Option.some.inj e, mk_size]
  decide

/-- The two tests of the second loops. -/
theorem ApartAt.tests {l : List ByteArray} {kn ms : List ByteArray} {i k n : Nat} {s t p q : ByteArray} (h : ApartAt l n kn ms) (hn : n ≤ 40) (hi : i < n) (hk : k < n) (hs : l[i]? = some s) (ht : l[k]? = some t) (hp : ms[i]? = some p) (hq : ms[k]? = some q) :
    (s = t ∧ p = q ∧ isB kn s q = true) ∨ ((s.toList == t.toList) = false ∧ (p.toList == q.toList) = false ∧ isB kn s q = false) := by
  obtain ⟨a, e1⟩ := h.2.2 i s hi hs
  obtain ⟨b, e2⟩ := h.2.2 k t hk ht
  rw [hp] at e1
  rw [hq] at e2
  obtain rfl : p = _ := by simpa using e1
  obtain rfl : q = _ := by simpa using e2
  by_cases e : s = t
  · subst e
    exact .inl ⟨rfl, rfl, by simp [isB, a]⟩
  · refine .inr ⟨by rw [beq_toList]; simpa using e, ?_, ?_⟩
    all_goals
      have hne : mk (kn.idxOf s + 1) ≠ mk (kn.idxOf t + 1) := by
        intro he
        have la := List.idxOf_lt_length_of_mem a
        have lb := List.idxOf_lt_length_of_mem b
        have hsh := h.short
        have := mk_inj (by omega) (by omega) (by omega) (by omega) he
        have h2 : kn.idxOf s = kn.idxOf t := by omega
        have g1 : kn[kn.idxOf s]'la = s := List.getElem_idxOf la
        have g2 : kn[kn.idxOf t]'lb = t := List.getElem_idxOf lb
        apply e
        rw [← g1, ← g2]
        congr 1
    · rw [beq_toList]; simpa using hne
    · simp [isB, hne]
end Go.Proofs.Ytpegefcpanijhaa
