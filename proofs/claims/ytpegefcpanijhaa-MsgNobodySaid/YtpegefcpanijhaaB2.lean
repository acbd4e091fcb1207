/- The ideal book's table, in plain words: what a map that shows a list of texts tells of each text. No walk. -/
import Derived.Test.YtpegefcpanijhaaB1
import Derived.Maps.OwnSet
namespace Go.Proofs.Ytpegefcpanijhaa
set_option linter.unusedVariables false
set_option linter.unusedSimpArgs false
open Go.RowKit Go.Maps

instance bytesLawful : LawfulBEq ByteArray where
  rfl := by
    intro a
    show (a.data == a.data) = true
    simp
  eq_of_beq := by
    intro a b h
    have h' : (a.data == b.data) = true := h
    exact ByteArray.ext (by simpa using h')

abbrev ikey (s : ByteArray) : Lit := .string s.data.toList
abbrev inum (n : Int) : DataW Unit := .lit (.int .i64 n)

theorem ikey_inj {s t : ByteArray} (h : ikey s = ikey t) : s = t := by
  injection h with h
  exact ByteArray.ext (Array.toList_inj.1 h)

/-- The texts that are known behind 'Mark s'. -/
def seen (l : List ByteArray) (s : ByteArray) : List ByteArray := if s ∈ l then l else l ++ [s]

/-- The map's datum shows the list: each text stands at its place, counted from 1. -/
structure Shows (D : DataW Unit) (l : List ByteArray) : Prop where
  tidy : Tidy D
  size : Maps.size D = l.length
  has : ∀ s, Maps.has D (ikey s) = decide (s ∈ l)
  at_ : ∀ s, s ∈ l → D.atKey (ikey s) (inum 0) = inum (l.idxOf s + 1)

theorem Shows.empty : Shows (.map []) [] := ⟨tidy_empty, rfl, fun s => by simp [Maps.has], fun s h => by simp at h⟩

theorem Shows.add {D : DataW Unit} {l : List ByteArray} (h : Shows D l) {s : ByteArray} (hs : s ∉ l) : Shows (D.put (ikey s) (inum (l.length + 1))) (l ++ [s]) := by
  have hk : WideAt.IsKeyLit (ikey s) := trivial
  refine ⟨h.tidy.put hk _, ?_, fun t => ?_, fun t ht => ?_⟩
  · rw [size_put h.tidy, h.has s, decide_eq_false hs, h.size]
    simp
  · by_cases e : t = s
    · subst e
      rw [has_put_same h.tidy.isMap hk]
      simp
    · rw [has_put_other (fun e' => e (ikey_inj e')), h.has t]
      simp [e]
  · by_cases e : t = s
    · subst e
      rw [atKey_put_same h.tidy.isMap hk, List.idxOf_append, if_neg hs]
      simp
    · have ht' : t ∈ l := by simpa [e] using ht
      rw [atKey_put_other (fun e' => e (ikey_inj e')), h.at_ t ht', List.idxOf_append, if_pos ht']

theorem seen_of_mem {l : List ByteArray} {s : ByteArray} (h : s ∈ l) : seen l s = l := if_pos h
theorem seen_of_not {l : List ByteArray} {s : ByteArray} (h : s ∉ l) : seen l s = l ++ [s] := if_neg h
theorem idxOf_of_not {l : List ByteArray} {s : ByteArray} (h : s ∉ l) : l.idxOf s = l.length := List.idxOf_eq_length h
theorem mem_seen (l : List ByteArray) (s : ByteArray) : s ∈ seen l s := by
  unfold seen; split
  · assumption
  · simp
theorem seen_length (l : List ByteArray) (s : ByteArray) : (seen l s).length ≤ l.length + 1 := by
  unfold seen; split <;> simp
end Go.Proofs.Ytpegefcpanijhaa
