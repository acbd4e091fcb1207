/- The walk of barquelaw03.MarksTwo: it answers true; nothing that was there has turned. -/
import Derived.Test.YtpegefcpanijhaaC5
namespace Go.Proofs.Ytpegefcpanijhaa
set_option linter.unusedVariables false
set_option linter.unusedSimpArgs false
open Go.RowKit Go.Maps

/-- Two pairs of books that share no block. -/
structure Apart (b m q : Nat) (v : Value) (b' m' q' : Nat) (v' : Value) : Prop where
  bq : b' ≠ m ∧ b' ≠ q ∧ some b' ≠ v.ownBlock
  mq : m' ≠ m ∧ m' ≠ q ∧ some m' ≠ v.ownBlock
  qq : q' ≠ m ∧ q' ≠ q ∧ some q' ≠ v.ownBlock
  vq : ∀ k, v'.ownBlock = some k → k ≠ m ∧ k ≠ q ∧ some k ≠ v.ownBlock

theorem Both.far {w w' : World} {b m base q b' m' q' : Nat} {v v' : Value} {l' : List ByteArray} (h : Both w b' m' base q' v' l') (hW : Within (fun k => k = m ∨ k = q ∨ some k = v.ownBlock) w w') (ha : Apart b m q v b' m' q' v') : Both w' b' m' base q' v' l' := by
  have hno : ∀ k, k ≠ m ∧ k ≠ q ∧ some k ≠ v.ownBlock → ¬ (k = m ∨ k = q ∨ some k = v.ownBlock) := fun k ⟨x, y, z⟩ e => by
    rcases e with e | e | e
    · exact x e
    · exact y e
    · exact z e
  refine ⟨⟨(hW.block b' h.ideal.lt (hno _ ha.bq)).trans h.ideal.blk, ?_⟩, h.ref.kept hW (hno _ ha.qq) (fun k hk => hno _ (ha.vq k hk))⟩
  obtain ⟨D, ⟨es, clock, hb, r⟩, hsh⟩ := h.ideal.own
  exact ⟨D, ⟨es, clock, (hW.block m' h.ideal.ltm (hno _ ha.mq)).trans hb, r⟩, hsh⟩

/-- What holds at the head of MarksTwo's round. -/
structure TwoAt (w wr : World) (b m q b' m' q' : Nat) (v v' : Value) (l l' : List ByteArray) : Prop where
  one : Both wr b m w.heap.size q v l
  two : Both wr b' m' w.heap.size q' v' l'
  apart : Apart b m q v b' m' q' v'
  apart' : Apart b' m' q' v' b m q v
  below : Below w.heap.size w wr
  lows : w.heap.size ≤ m ∧ w.heap.size ≤ q ∧ w.heap.size ≤ m' ∧ w.heap.size ≤ q'

theorem TwoAt.swap {w wr : World} {b m q b' m' q' : Nat} {v v' : Value} {l l' : List ByteArray} (h : TwoAt w wr b m q b' m' q' v v' l l') : TwoAt w wr b' m' q' b m q v' v l' l :=
  ⟨h.two, h.one, h.apart', h.apart, h.below, h.lows.2.2.1, h.lows.2.2.2, h.lows.1, h.lows.2.1⟩

/-- A step of the first pair. -/
theorem TwoAt.step {w wr w' : World} {b m q b' m' q' : Nat} {v v' : Value} {l l' l1 : List ByteArray} (h : TwoAt w wr b m q b' m' q' v v' l l') (hA : After wr b m w.heap.size q v l1 w') : ∃ v1, TwoAt w w' b m q b' m' q' v1 v' l1 l' := by
  have hb := hA.below h.below h.lows.1 h.lows.2.1 (Nat.le_refl _) h.one
  obtain ⟨v1, h1, hW, hv⟩ := hA
  refine ⟨v1, h1, h.two.far hW h.apart, ?_, ?_, hb, h.lows⟩
  · have key : ∀ k, k < wr.heap.size → some k ≠ v.ownBlock → some k ≠ v1.ownBlock := fun k hk hne e => by
      rcases hv with e2 | ⟨g, e2, hg⟩
      · exact hne (e.trans e2)
      · rw [e2] at e
        injection e with e
        omega
    exact ⟨⟨h.apart.bq.1, h.apart.bq.2.1, key _ h.two.ideal.lt h.apart.bq.2.2⟩, ⟨h.apart.mq.1, h.apart.mq.2.1, key _ h.two.ideal.ltm h.apart.mq.2.2⟩, ⟨h.apart.qq.1, h.apart.qq.2.1, key _ h.two.ref.lt h.apart.qq.2.2⟩,
      fun k hk => ⟨(h.apart.vq k hk).1, (h.apart.vq k hk).2.1, key _ (h.two.ref.rowlt k hk).2 (h.apart.vq k hk).2.2⟩⟩
  · refine ⟨h.apart'.bq, h.apart'.mq, h.apart'.qq, fun k hk => ?_⟩
    rcases hv with e2 | ⟨g, e2, hg⟩
    · exact h.apart'.vq k (by rw [← e2]; exact hk)
    · rw [e2] at hk
      injection hk with hk
      subst hk
      exact ⟨fun e => by have := h.two.ideal.ltm; omega, fun e => by have := h.two.ref.lt; omega, fun e => by have := (h.two.ref.rowlt g e.symm).2; omega⟩
end Go.Proofs.Ytpegefcpanijhaa
