/- What an ideal book knows behind a list of texts, in plain words; and the walks of barquelaw03.MarksHonest and MarksNobody: they answer true; nothing that was there has turned. -/
import Derived.Test.YtpegefcpanijhaaB5
namespace Go.Proofs.Ytpegefcpanijhaa
set_option linter.unusedVariables false
set_option linter.unusedSimpArgs false
open Go.RowKit Go.Maps

/-- What is known behind marking the texts of a list, one by one. -/
def known (ts : List ByteArray) : List ByteArray := ts.foldl seen []
theorem known_nil : known [] = [] := rfl
theorem known_snoc (ts : List ByteArray) (t : ByteArray) : known (ts ++ [t]) = seen (known ts) t := by simp [known, List.foldl_append]
theorem known_take {l : List ByteArray} {k : Nat} {s : ByteArray} (h : l[k]? = some s) : known (l.take (k + 1)) = seen (known (l.take k)) s := by
  rw [List.take_add_one, h]
  exact known_snoc _ _
theorem known_length (ts : List ByteArray) : (known ts).length ≤ ts.length := by
  suffices h : ∀ (ts acc : List ByteArray), (ts.foldl seen acc).length ≤ acc.length + ts.length by simpa [known] using h ts []
  intro ts
  induction ts with
  | nil => intro acc; simp
  | cons t ts ih => intro acc; have := ih (seen acc t); have := seen_length acc t; simp only [List.foldl_cons, List.length_cons]; omega
theorem known_take_length (l : List ByteArray) (k : Nat) : (known (l.take k)).length ≤ k := Nat.le_trans (known_length _) (by rw [List.length_take]; omega)
theorem mem_seen_of (l : List ByteArray) (t s : ByteArray) (h : s ∈ l) : s ∈ seen l t := by
  unfold seen; split
  · exact h
  · simp [h]
theorem mem_seen_iff (l : List ByteArray) (t s : ByteArray) : s ∈ seen l t ↔ s ∈ l ∨ s = t := by
  unfold seen; split
  · exact ⟨Or.inl, fun h => h.elim id (fun e => by rw [e]; assumption)⟩
  · simp
/-- The numbers stay. -/
theorem idxOf_seen (l : List ByteArray) (t s : ByteArray) (h : s ∈ l) : (seen l t).idxOf s = l.idxOf s := by
  unfold seen; split
  · rfl
  · rw [List.idxOf_append, if_pos h]
theorem idxOf_seen_self (l : List ByteArray) (s : ByteArray) : (seen l s).idxOf s = l.idxOf s := by
  by_cases h : s ∈ l
  · exact idxOf_seen l s s h
  · rw [seen_of_not h, List.idxOf_append, if_neg h, idxOf_of_not h]
    simp

/-- A question behind one more text. -/
theorem isB_seen (l : List ByteArray) (t s mark : ByteArray) : isB (seen l t) s mark = (isB l s mark || (decide (t = s) && decide (mk (l.idxOf t + 1) = mark))) := by
  unfold isB
  by_cases e : t = s
  · subst e
    rw [idxOf_seen_self, decide_eq_true (mem_seen l t)]
    by_cases h : t ∈ l <;> simp [h]
  · by_cases h : s ∈ l
    · rw [idxOf_seen l t s h, decide_eq_true (mem_seen_of l t s h)]
      simp [e, h]
    · have : s ∉ seen l t := fun h' => by
        rcases (mem_seen_iff l t s).1 h' with h2 | h2
        · exact h h2
        · exact e h2.symm
      simp [e, h, this]

/-- What holds at the head of MarksHonest's round k. -/
def HonestAt (l : List ByteArray) (s mark : ByteArray) (k : Nat) (kn : List ByteArray) (bw : Bool) : Prop := kn = known (l.take k) ∧ bw = isB kn s mark
theorem HonestAt.step {l : List ByteArray} {s mark t : ByteArray} {k : Nat} {kn : List ByteArray} {bw : Bool} (h : HonestAt l s mark k kn bw) (ht : l[k]? = some t) :
    HonestAt l s mark (k + 1) (seen kn t) (bw || (t.toList == s.toList && (mk (kn.idxOf t + 1)).toList == mark.toList)) := by
  obtain ⟨rfl, rfl⟩ := h
  exact ⟨(known_take ht).symm, by rw [isB_seen, beq_toList, beq_toList]⟩

/-- The walk from behind 'l' being cut: n texts, at most 40. -/
theorem honest_body_kn {l : List ByteArray} {s mark : ByteArray} {k : Nat} {kn : List ByteArray} {bw : Bool} (h : HonestAt l s mark k kn bw) : kn.length ≤ k := by rw [h.1]; exact known_take_length l k
end Go.Proofs.Ytpegefcpanijhaa
