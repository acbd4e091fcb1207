/- The walk of barquelaw03.MarksHonest: it answers true; nothing that was there has turned. -/
import Derived.Test.YtpegefcpanijhaaB6
namespace Go.Proofs.Ytpegefcpanijhaa
set_option linter.unusedVariables false
set_option linter.unusedSimpArgs false
open Go.RowKit Go.Maps

set_option maxHeartbeats 600000 in
theorem marksHonest_walk (w : World) (A : Option Addr) (n c : Nat) (l : List ByteArray) (s mark : ByteArray) (h : StrsAt w A n c l) (hs : s.size ≤ 140737488351232) (hmk : mark.size ≤ 140737488351232) :
    Calls Try.prog 4 #[.slice A n c, .string s, .string mark] w fun e w' => e = .returned (.bool true) ∧ Below w.heap.size w w' := by
  have hss : s.size ≤ maxLen := by unfold maxLen; omega
  obtain ⟨n', l', hcut, h', hn'⟩ : ∃ (n' : Nat) (l' : List ByteArray), (n ≤ 40 ∧ n' = n ∨ 40 < n ∧ n' = 40) ∧ StrsAt w A n' c l' ∧ n' ≤ 40 := by
    by_cases h40 : n ≤ 40
    · exact ⟨n, l, .inl ⟨h40, rfl⟩, h, h40⟩
    · exact ⟨40, l.take 40, .inr ⟨by omega, rfl⟩, h.take (by omega), Nat.le_refl _⟩
  have hl1 : l'.length ≤ n' := Nat.le_of_eq h'.len
  have hl2 : n' ≤ l'.length := Nat.le_of_eq h'.len.symm
  have hle := h.le
  have hmax := h.max
  unfold maxLen at hmax
  have hB0 := Below.refl w.heap.size w
  clear h
  rcases hcut with ⟨hcut, rfl⟩ | ⟨hcut, rfl⟩
  all_goals
    go_enter Try.func4, Try.ntmps4
    go_wp2_with fail
    refine (ideal_to hB0).mono ?_
    rintro e w1 ⟨b, m, rfl, hI, hB, hm, hb0⟩
    go_wp2_with fail
    go_loopw [8, 9, 10] (fun was i _ wr => ∃ (k : Nat) (bw : Bool) (kn : List ByteArray), k ≤ l'.length ∧ i = .int .i64 k ∧ was = .bool bw ∧ IsIdeal wr b m kn ∧ Below w.heap.size w wr ∧ Hid (HonestAt l' s mark k kn bw)) (fun _ i _ _ => 40 - (intOf i).toNat)
  case atStart => exact ⟨0, false, [], Nat.zero_le _, rfl, rfl, hI, hB, rfl, rfl⟩
  case atStart => exact ⟨0, false, [], Nat.zero_le _, rfl, rfl, hI, hB, rfl, rfl⟩
  all_goals
    obtain ⟨k, bw, kn, hk1, rfl, rfl, hI3, hB3, HK⟩ := hrel
    by_cases hlt : k < l'.length
    · obtain ⟨a, t, rfl, -, ht, hts, hab, hc⟩ := h'.at_ (Nat.lt_of_lt_of_le hlt hl1)
      have hc3 := (hB3.cell (World.block_lt_of_cell? w _ hc)).trans hc
      have HS := Lib.hid (HK.out.step ht)
      have hkn : kn.length ≤ k := honest_body_kn HK.out
      clear ht HK
      go_wp2_with fail
      refine (mark_to (n := kn.idxOf t + 1) (l' := seen kn t) hI3 hB3 hm hts (by omega) rfl rfl).mono ?_
      rintro e w4 ⟨rfl, hI4, hB4⟩
      have hc4 := (hB4.cell (World.block_lt_of_cell? w _ hc)).trans hc
      cases bw
      · cases he : (t.toList == s.toList)
        · go_wp2_with fail
          go_roundw
          case rel => exact ⟨k + 1, _, _, by omega, by go_num, rfl, hI4, hB4, Lib.hid (by simpa [he] using HS.out)⟩
          case measure => simp [intOf]; omega
        · go_wp2_with fail
          go_roundw
          case rel => exact ⟨k + 1, _, _, by omega, by go_num, rfl, hI4, hB4, Lib.hid (by simpa [he] using HS.out)⟩
          case measure => simp [intOf]; omega
      · go_wp2_with fail
        go_roundw
        case rel => exact ⟨k + 1, _, _, by omega, by go_num, rfl, hI4, hB4, Lib.hid (by simpa using HS.out)⟩
        case measure => simp [intOf]; omega
    · have hge : l'.length ≤ k := by omega
      clear hlt
      go_wp2_with fail
      refine (is_to hI3 hB3 hss).mono ?_
      rintro e w4 ⟨rfl, hI4, hB4⟩
      have he : isB kn s mark = bw := by rw [HK.out.2]
      rw [he]
      clear he HK
      go_wp2_with fail
      refine (awake_to hB4).mono ?_
      rintro e w6 ⟨rfl, hB6⟩
      go_wp2_with fail
      go_ret
      exact ⟨rfl, hB6⟩
end Go.Proofs.Ytpegefcpanijhaa
