/- The walk of barquelaw03.MarksSums. -/
import Derived.Test.YtpegefcpanijhaaZI
import Derived.Test.YtpegefcpanijhaaZL
import Derived.Test.YtpegefcpanijhaaZS
import Derived.Test.YtpegefcpanijhaaZB
section
namespace Go.Proofs.Ytpegefcpanijhaa
set_option linter.unusedVariables false
set_option linter.unusedSimpArgs false
open Go.RowKit Go.Proofs.YtpegefcpanijhaaW.PrintWords Go.Proofs.YtpegefcpanijhaaW.PrintMore PF

theorem cut_any (s : ByteArray) : ∃ t, barquelaw03_cut.f s 4096 = some t ∧ t.size ≤ 4096 := by
  unfold barquelaw03_cut.f
  by_cases h : (s.size : Int) > 4096
  · rw [if_pos h, if_pos (by decide), if_pos (by omega)]
    refine ⟨_, rfl, ?_⟩
    rw [ByteArray.size_extract]
    show min 4096 s.size - 0 ≤ 4096
    omega
  · rw [if_neg h]
    exact ⟨s, rfl, by omega⟩
set_option maxHeartbeats 400000 in
set_option maxRecDepth 100000 in
theorem marksSums_walk (w : World) (s : ByteArray) (_hs : s.size ≤ 140737488351232) : Calls Try.prog 11 #[.string s] w fun e w' => e = .returned (.bool true) ∧ Below w.heap.size w w' := by
  clear _hs
  obtain ⟨t, hc, ht⟩ := cut_any s
  go_enter Try.func11, Try.ntmps11
  go_wp2_with fail
  refine (barquelaw03_cut.calls s 4096 t w hc).mono ?_
  rintro e w1 ⟨rfl, ⟨nd, rfl⟩⟩
  have hB1 : Below w.heap.size w (w.drewN nd) := pw_below_drewN (Below.refl _ _) nd
  generalize w.drewN nd = w1 at hB1 ⊢
  clear hc
  have HT := Lib.hid ht
  clear ht
  go_wp2_with fail
  refine (refsum_calls (w := w1) (s := t) (by have := HT.out; omega) roots64 roots8).mono ?_
  rintro e w2 ⟨rfl, hb⟩
  have hB2 := hB1.trans (hb.mono hB1.size)
  clear hb hB1
  obtain ⟨S, hS⟩ : ∃ S, S = bx (shaL Kc Hc t.data.toList) := ⟨_, rfl⟩
  rw [← hS]
  have HS := Lib.hid hS
  clear hS
  go_wp2_with fail
  refine (Sum_calls w2 t (by have := HT.out; omega)).mono ?_
  rintro e w3 ⟨rfl, hb⟩
  rw [← HS.out]
  have hB3 := hB2.trans (hb.mono hB2.size)
  clear hb hB2
  go_wp2_with fail
  refine (Real_calls w3).mono ?_
  rintro e w4 ⟨b, rfl, hI, hb, -⟩
  have hB4 := hB3.trans (hb.mono hB3.size)
  clear hb hB3
  go_wp2_with fail
  refine (mark_of (s := t) hI (by have := HT.out; omega)).mono ?_
  rintro e w5 ⟨rfl, hb⟩
  rw [← HS.out]
  have hB5 := hB4.trans (hb.mono hB4.size)
  clear hb hB4 hI
  go_wp2_with fail
  refine (awake_to hB5).mono ?_
  rintro e w6 ⟨rfl, hB6⟩
  go_wp2_with fail
  go_ret
  exact ⟨rfl, hB6⟩
end Go.Proofs.Ytpegefcpanijhaa
end
