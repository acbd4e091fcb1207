/- The walk of code.Reader's Num. The walks of code.Reader's Raw, Count, Text, End; of code.Read. The walk of msg.read: it reads what the plain reading says. The walk of msg.read, joined. The walk of msg.Of: what message any bytes are, or why they are none. -/
import Derived.Test.YtpegefcpanijhaaZE
import Derived.Test.YtpegefcpanijhaaZD
import Derived.Maps.AppendAt
section
namespace Go.Proofs.Ytpegefcpanijhaa
set_option linter.unusedVariables false
set_option linter.unusedSimpArgs false
open Go.RowKit Go.Proofs.YtpegefcpanijhaaW.PrintWords PF

theorem numR_off {w : World} {b : Nat} {s : ByteArray} {x : Rd} (h : RdAt w b s x) (h2 : x.2 ≠ 0) :
    Calls Try.prog 77 #[.pointer (some ⟨b, 0, none⟩)] w fun e w' => e = .returned (.int .i64 0) ∧ RdAt w' b s x ∧ Only b w w' := by
  go_enter Try.func77, Try.ntmps77
  go_wp2_with fail
  refine wp_loop_once ?_
  go_wp2_with fail
  refine (byte_off h h2).mono ?_
  rintro e w1 ⟨rfl, h1, ho⟩
  go_wp2_with fail
  refine (off_yes h1 h2).mono ?_
  rintro e w2 ⟨rfl, rfl⟩
  go_wp2_with fail
  go_ret
  exact ⟨rfl, h1, ho⟩

theorem numA_bad {k N : Nat} {c : UInt8} {r : List UInt8} (h : (k = 8 ∧ 63 < c.toNat) ∨ (0 < k ∧ c.toNat = 0)) : numA k N (c :: r) = (0, r, 5) := by
  unfold numA
  rw [if_pos h]
theorem numA_last {k N : Nat} {c : UInt8} {r : List UInt8} (h : ¬ ((k = 8 ∧ 63 < c.toNat) ∨ (0 < k ∧ c.toNat = 0))) (hc : c.toNat < 128) : numA k N (c :: r) = (((N + c.toNat % 128 * 128 ^ k : Nat) : Int), r, 0) := by
  unfold numA
  rw [if_neg h, if_pos hc]
theorem numA_more {k N : Nat} {c : UInt8} {r : List UInt8} (h : ¬ ((k = 8 ∧ 63 < c.toNat) ∨ (0 < k ∧ c.toNat = 0))) (hc : ¬ c.toNat < 128) : numA k N (c :: r) = numA (k + 1) (N + c.toNat % 128 * 128 ^ k) r := by
  conv => lhs; unfold numA
  rw [if_neg h, if_neg hc]

theorem good_lt {k : Nat} {c : UInt8} (hk : k ≤ 8) (hc : c.toNat < 2 ^ 8) (h : ¬ ((k = 8 ∧ 63 < c.toNat) ∨ (0 < k ∧ c.toNat = 0))) : c.toNat % 128 * 128 ^ k < 2 ^ 62 := by
  have h1 : c.toNat % 128 < 128 := Nat.mod_lt _ (by decide)
  obtain rfl | rfl | rfl | rfl | rfl | rfl | rfl | rfl | rfl : k = 0 ∨ k = 1 ∨ k = 2 ∨ k = 3 ∨ k = 4 ∨ k = 5 ∨ k = 6 ∨ k = 7 ∨ k = 8 := by omega
  all_goals simp only [Nat.reducePow]; omega
theorem or_of {N V k : Nat} {x : Nat} (hk : k ≤ 8) (hN : N < 128 ^ k) (hV : V = x * 128 ^ k) (h : V < 2 ^ 62) : Go.bits .or .i64 (N : Int) (V : Int) = ((N + V : Nat) : Int) := by
  have hc : Go.bits .or .i64 (N : Int) (V : Int) = Go.bits .or .i64 (V : Int) (N : Int) := by simp only [bits, BitVec.or_comm]
  have hp : (128 : Nat) ^ k = 2 ^ (7 * k) := by rw [Nat.pow_mul]
  have hN2 : (N : Int) < 2 ^ (7 * k) := by
    rw [hp] at hN
    exact_mod_cast hN
  have hN3 : (N : Int) < 2 ^ 63 := by
    have h8 : 128 ^ k ≤ 128 ^ 8 := Nat.pow_le_pow_right (by decide) hk
    have : (128 : Nat) ^ 8 = 72057594037927936 := by decide
    omega
  rw [hc, bits_join .i64 63 (by decide) (fun n _ _ => by rw [IntKind.wrap_i64]; omega) (7 * k) (V : Int) (N : Int) (by omega) (by
    rw [hV, hp]
    push_cast
    exact Int.mul_emod_left _ _) (by omega) (by omega) hN2 hN3]
  omega

theorem orshl_of {k N : Nat} {c : UInt8} (hk : k ≤ 8) (hc : c.toNat < 2 ^ 8) (hN : N < 128 ^ k) (h : ¬ ((k = 8 ∧ 63 < c.toNat) ∨ (0 < k ∧ c.toNat = 0))) :
    Go.bits .or .i64 (N : Int) (wrap64 ((c.toNat : Int) % 128 * 2 ^ (7 * k))) = ((N + c.toNat % 128 * 128 ^ k : Nat) : Int) := by
  have hV := good_lt hk hc h
  have e2 : (c.toNat : Int) % 128 * 2 ^ (7 * k) = ((c.toNat % 128 * 128 ^ k : Nat) : Int) := by
    rw [Int.pow_mul]
    push_cast
    rfl
  rw [e2, wr64 (by omega) (by omega)]
  exact or_of hk hN rfl hV
theorem more_lt {k N x : Nat} (hN : N < 128 ^ k) : N + x % 128 * 128 ^ k < 128 ^ (k + 1) := by
  have h1 : x % 128 ≤ 127 := by omega
  have h2 := Nat.mul_le_mul_right (128 ^ k) h1
  rw [Nat.pow_succ]
  omega

set_option maxHeartbeats 2000000 in
set_option maxRecDepth 100000 in
theorem numR_on {w : World} {b : Nat} {s : ByteArray} {l : List UInt8} (h : RdAt w b s (l, 0)) :
    Calls Try.prog 77 #[.pointer (some ⟨b, 0, none⟩)] w fun e w' => e = .returned (.int .i64 (numA 0 0 l).1) ∧ RdAt w' b s (numA 0 0 l).2 ∧ Only b w w' := by
  go_enter Try.func77, Try.ntmps77
  go_wp2_with fail
  go_loopw [3, 4] (fun n i wr => ∃ (k N : Nat) (r : List UInt8), k ≤ 8 ∧ i = .int .i64 k ∧ n = .int .i64 N ∧ N < 128 ^ k ∧ RdAt wr b s (r, 0) ∧ Only b w wr ∧ Hid (numA k N r = numA 0 0 l)) (fun n i _ => 9 - (intOf i).toNat)
  case atStart => exact ⟨0, 0, l, by omega, rfl, rfl, by decide, h, Only.refl _ _, Lib.hid rfl⟩
  case round =>
    obtain ⟨k, N, r, hk, rfl, rfl, hN, hr, ho, HE⟩ := hrel
    cases r with
    | nil =>
      go_wp2_with fail
      refine (byte_end hr).mono ?_
      rintro e w1 ⟨rfl, h1, ho1⟩
      go_wp2_with fail
      refine (off_yes h1 (by decide)).mono ?_
      rintro e w2 ⟨rfl, rfl⟩
      go_wp2_with fail
      go_ret
      rw [← HE.out]
      exact ⟨rfl, h1, ho.trans ho1⟩
    | cons c r =>
      have hc := c.toNat_lt
      go_wp2_with fail
      refine (byte_more hr).mono ?_
      rintro e w1 ⟨rfl, h1, ho1⟩
      go_wp2_with fail
      refine (off_no h1 rfl).mono ?_
      rintro e w2 ⟨rfl, rfl⟩
      have HC := Lib.hid hc
      have HNk := Lib.hid hN
      have HK := Lib.hid hk
      have za : Go.bits .and .i64 (c.toNat : Int) 127 = (c.toNat : Int) % 128 := i64_and127 _
      have s1 : wrap64 (7 * (k : Int)) = 7 * (k : Int) := wr64 (by omega) (by omega)
      have s2 : (0 : Int) ≤ 7 * (k : Int) := by omega
      have s3 : 7 * (k : Int) ≤ 64 := by omega
      have s4 : wrap64 ((k : Int) + 1) = (k : Int) + 1 := wr64 (by omega) (by omega)
      have s5 : min (7 * k) 64 = 7 * k := by omega
      clear hc hN hk
      by_cases h8 : k = 8
      · have e8 : ((k : Int) == 8) = true := by rw [beq_iff_eq]; omega
        have k0 : (0 : Int) < (k : Int) := by omega
        by_cases h63 : 63 < c.toNat
        · have z1 : (63 : Int) < (c.toNat : Int) := by omega
          have HN := Lib.hid (numA_bad (k := k) (N := N) (r := r) (c := c) (.inl ⟨h8, h63⟩))
          clear h63 h8
          go_wp2_with fail
          refine (fail_calls h1 rfl 5).mono ?_
          rintro e w3 ⟨rfl, h3, ho3⟩
          go_wp2_with fail
          go_ret
          rw [← HE.out, HN.out]
          exact ⟨rfl, h3, (ho.trans ho1).trans ho3⟩
        · have z1 : ¬ (63 : Int) < (c.toNat : Int) := by omega
          by_cases h0 : c.toNat = 0
          · have z2 : ((c.toNat : Int) == 0) = true := by rw [beq_iff_eq]; omega
            have HN := Lib.hid (numA_bad (k := k) (N := N) (r := r) (c := c) (.inr ⟨by omega, h0⟩))
            clear h63 h0 h8
            go_wp2_with fail
            refine (fail_calls h1 rfl 5).mono ?_
            rintro e w3 ⟨rfl, h3, ho3⟩
            go_wp2_with fail
            go_ret
            rw [← HE.out, HN.out]
            exact ⟨rfl, h3, (ho.trans ho1).trans ho3⟩
          · have z2 : ((c.toNat : Int) == 0) = false := by rw [beq_eq_false_iff_ne]; omega
            have HG := Lib.hid (show ¬ ((k = 8 ∧ 63 < c.toNat) ∨ (0 < k ∧ c.toNat = 0)) by omega)
            clear h63 h0 h8
            have HOR := Lib.hid (orshl_of HK.out HC.out HNk.out HG.out)
            by_cases hcc : c.toNat < 128
            · have z9 : (c.toNat : Int) < 128 := by omega
              have HL := Lib.hid hcc
              clear hcc
              go_wp2_with fail
              go_ret
              rw [← HE.out, numA_last HG.out HL.out]
              exact ⟨congrArg (fun v => Ending.returned (.int .i64 v)) HOR.out, h1, ho.trans ho1⟩
            · have z9 : ¬ (c.toNat : Int) < 128 := by omega
              have HL := Lib.hid hcc
              clear hcc
              go_wp2_with fail
      · have e8 : ((k : Int) == 8) = false := by rw [beq_eq_false_iff_ne]; omega
        by_cases h0 : k = 0
        · have k0 : ¬ (0 : Int) < (k : Int) := by omega
          have HG := Lib.hid (show ¬ ((k = 8 ∧ 63 < c.toNat) ∨ (0 < k ∧ c.toNat = 0)) by omega)
          clear h0 h8
          have HOR := Lib.hid (orshl_of HK.out HC.out HNk.out HG.out)
          by_cases hcc : c.toNat < 128
          · have z9 : (c.toNat : Int) < 128 := by omega
            have HL := Lib.hid hcc
            clear hcc
            go_wp2_with fail
            go_ret
            rw [← HE.out, numA_last HG.out HL.out]
            exact ⟨congrArg (fun v => Ending.returned (.int .i64 v)) HOR.out, h1, ho.trans ho1⟩
          · have z9 : ¬ (c.toNat : Int) < 128 := by omega
            have HL := Lib.hid hcc
            clear hcc
            go_wp2_with fail
            go_roundw
            case rel =>
              refine ⟨k + 1, N + c.toNat % 128 * 128 ^ k, r, ?_, by go_num, congrArg (Value.int .i64) HOR.out, more_lt HNk.out, h1, ho.trans ho1, Lib.hid ((numA_more HG.out HL.out).symm.trans HE.out)⟩
              have := HG.out
              have := HL.out
              have := HK.out
              omega
            case measure =>
              have := HK.out
              simp [intOf]
              omega
        · have k0 : (0 : Int) < (k : Int) := by omega
          by_cases h00 : c.toNat = 0
          · have z2 : ((c.toNat : Int) == 0) = true := by rw [beq_iff_eq]; omega
            have HN := Lib.hid (numA_bad (k := k) (N := N) (r := r) (c := c) (.inr ⟨by omega, h00⟩))
            clear h0 h00 h8
            go_wp2_with fail
            refine (fail_calls h1 rfl 5).mono ?_
            rintro e w3 ⟨rfl, h3, ho3⟩
            go_wp2_with fail
            go_ret
            rw [← HE.out, HN.out]
            exact ⟨rfl, h3, (ho.trans ho1).trans ho3⟩
          · have z2 : ((c.toNat : Int) == 0) = false := by rw [beq_eq_false_iff_ne]; omega
            have HG := Lib.hid (show ¬ ((k = 8 ∧ 63 < c.toNat) ∨ (0 < k ∧ c.toNat = 0)) by omega)
            clear h0 h00 h8
            have HOR := Lib.hid (orshl_of HK.out HC.out HNk.out HG.out)
            by_cases hcc : c.toNat < 128
            · have z9 : (c.toNat : Int) < 128 := by omega
              have HL := Lib.hid hcc
              clear hcc
              go_wp2_with fail
              go_ret
              rw [← HE.out, numA_last HG.out HL.out]
              exact ⟨congrArg (fun v => Ending.returned (.int .i64 v)) HOR.out, h1, ho.trans ho1⟩
            · have z9 : ¬ (c.toNat : Int) < 128 := by omega
              have HL := Lib.hid hcc
              clear hcc
              go_wp2_with fail
              go_roundw
              case rel =>
                refine ⟨k + 1, N + c.toNat % 128 * 128 ^ k, r, ?_, by go_num, congrArg (Value.int .i64) HOR.out, more_lt HNk.out, h1, ho.trans ho1, Lib.hid ((numA_more HG.out HL.out).symm.trans HE.out)⟩
                have := HG.out
                have := HL.out
                have := HK.out
                omega
              case measure =>
                have := HK.out
                simp [intOf]
                omega

theorem numR_calls {w : World} {b : Nat} {s : ByteArray} {x : Rd} (h : RdAt w b s x) :
    Calls Try.prog 77 #[.pointer (some ⟨b, 0, none⟩)] w fun e w' => e = .returned (.int .i64 (numR x).1) ∧ RdAt w' b s (numR x).2 ∧ Only b w w' := by
  obtain ⟨l, e⟩ := x
  by_cases he : e = 0
  · subst he
    exact numR_on h
  · have : numR (l, e) = (0, l, e) := by unfold numR; rw [if_neg he]
    rw [this]
    exact numR_off h he
end Go.Proofs.Ytpegefcpanijhaa
end
section
namespace Go.Proofs.Ytpegefcpanijhaa
set_option linter.unusedVariables false
set_option linter.unusedSimpArgs false
open Go.RowKit Go.Proofs.YtpegefcpanijhaaW.PrintWords PF

theorem rawR_off {w : World} {b : Nat} {s : ByteArray} {x : Rd} (h : RdAt w b s x) (h2 : x.2 ≠ 0) (n : Int) :
    Calls Try.prog 78 #[.pointer (some ⟨b, 0, none⟩), .int .i64 n] w fun e w' => e = .returned (.string ⟨#[]⟩) ∧ RdAt w' b s x ∧ Only b w w' := by
  go_enter Try.func78, Try.ntmps78
  go_wp2_with fail
  refine (off_yes h h2).mono ?_
  rintro e w1 ⟨rfl, rfl⟩
  go_wp2_with fail
  go_ret
  exact ⟨rfl, h, Only.refl _ _⟩
theorem rawR_neg {w : World} {b : Nat} {s : ByteArray} {l : List UInt8} (h : RdAt w b s (l, 0)) (n : Int) (hn : n < 0) :
    Calls Try.prog 78 #[.pointer (some ⟨b, 0, none⟩), .int .i64 n] w fun e w' => e = .returned (.string ⟨#[]⟩) ∧ RdAt w' b s (l, 1) ∧ Only b w w' := by
  go_enter Try.func78, Try.ntmps78
  go_wp2_with fail
  refine (off_no h rfl).mono ?_
  rintro e w1 ⟨rfl, rfl⟩
  go_wp2_with fail
  refine (fail_calls h rfl 1).mono ?_
  rintro e w3 ⟨rfl, h3, ho3⟩
  go_wp2_with fail
  go_ret
  exact ⟨rfl, h3, ho3⟩
theorem rawR_short {w : World} {b : Nat} {s : ByteArray} {l : List UInt8} (h : RdAt w b s (l, 0)) (n : Int) (hn : (l.length : Int) < n) :
    Calls Try.prog 78 #[.pointer (some ⟨b, 0, none⟩), .int .i64 n] w fun e w' => e = .returned (.string ⟨#[]⟩) ∧ RdAt w' b s (l, 3) ∧ Only b w w' := by
  have h0 : ¬ n < 0 := by omega
  go_enter Try.func78, Try.ntmps78
  go_wp2_with fail
  refine (off_no h rfl).mono ?_
  rintro e w1 ⟨rfl, rfl⟩
  go_wp2_with fail
  refine (left_calls h).mono ?_
  rintro e w2 ⟨rfl, nd, rfl⟩
  go_wp2_with fail
  refine (fail_calls (h.drewN nd) rfl 3).mono ?_
  rintro e w3 ⟨rfl, h3, ho3⟩
  go_wp2_with fail
  go_ret
  exact ⟨rfl, h3, ((Only.refl _ _).drewN nd).trans ho3⟩

theorem RdAt.skip {w : World} {b : Nat} {s : ByteArray} {l : List UInt8} (h : RdAt w b s (l, 0)) (n : Nat) (hn : n ≤ l.length) (v : Int) (hv : v = ((s.size - (l.length - n) : Nat) : Int)) : RdAt (w.setCell ⟨b, 1, none⟩ (.int .i64 v)) b s (l.drop n, 0) := by
  have hle := h.le
  have hd := h.drop
  simp only at hle hd
  refine ⟨blk_put h.blk 1 _ (by rw [hv]; simp [List.length_drop]), by show (l.drop n).length ≤ s.size; rw [List.length_drop]; omega, ?_, h.max⟩
  show s.data.toList.drop (s.size - (l.drop n).length) = l.drop n
  rw [List.length_drop]
  have e : s.size - (l.length - n) = (s.size - l.length) + n := by omega
  rw [e, ← List.drop_drop, hd]

theorem extract_of {s : ByteArray} {l : List UInt8} {p n : Nat} (hd : s.data.toList.drop p = l) : s.extract p (p + n) = ⟨(l.take n).toArray⟩ := by
  apply ByteArray.ext
  apply Array.toList_inj.1
  rw [ByteArray.data_extract, Array.toList_extract, ← hd]
  simp [List.extract_eq_take_drop]

set_option maxHeartbeats 1000000 in
theorem rawR_more {w : World} {b : Nat} {s : ByteArray} {l : List UInt8} (h : RdAt w b s (l, 0)) (n : Nat) (hn : n ≤ l.length) :
    Calls Try.prog 78 #[.pointer (some ⟨b, 0, none⟩), .int .i64 (n : Int)] w fun e w' => e = .returned (.string ⟨(l.take n).toArray⟩) ∧ RdAt w' b s (l.drop n, 0) ∧ Only b w w' := by
  have h0 : ¬ (n : Int) < 0 := by omega
  have h1 : ¬ (l.length : Int) < (n : Int) := by omega
  have hle := h.le
  have hmx := h.max
  simp only at hle
  obtain ⟨p, hp⟩ : ∃ p : Nat, p = s.size - l.length := ⟨_, rfl⟩
  have hw : wrap64 ((p : Int) + (n : Int)) = (p : Int) + (n : Int) := wr64 (by omega) (by omega)
  have hw2 : IntKind.i64.wrap ((p : Int) + (n : Int)) = (p : Int) + (n : Int) := by rw [IntKind.wrap_i64]; omega
  have hw3 : IntKind.i64.wrap (p : Int) = (p : Int) := by rw [IntKind.wrap_i64]; omega
  have hv := Lib.hid (show (p : Int) + (n : Int) = ((s.size - (l.length - n) : Nat) : Int) by omega)
  have HX := Lib.hid (extract_of (s := s) (l := l) (p := p) (n := n) (by rw [hp]; exact h.drop))
  have c1p : w.cell? ⟨b, 1, none⟩ = some (.int .i64 (p : Int)) := by rw [hp]; exact h.c1
  have z1 := h.frozen 1
  have z2 : (0 : Int) ≤ (p : Int) := by omega
  have z3 : (p : Int) + (n : Int) ≤ (s.size : Int) := by omega
  have z4 : (p : Int) ≤ (p : Int) + (n : Int) := by omega
  clear hp hle hmx
  go_enter Try.func78, Try.ntmps78
  go_wp2_with fail
  refine (off_no h rfl).mono ?_
  rintro e w1 ⟨rfl, rfl⟩
  go_wp2_with fail
  refine (left_calls h).mono ?_
  rintro e w2 ⟨rfl, nd, rfl⟩
  go_upto_region 10 with (fail)
  have h7 := (h.drewN nd).skip n hn _ hv.out
  have ho7 : Only b w1 ((w1.drewN nd).setCell ⟨b, 1, none⟩ (.int .i64 ((p : Int) + (n : Int)))) := ((Only.refl _ _).drewN nd).setCell 1 _
  generalize (w1.drewN nd).setCell ⟨b, 1, none⟩ (.int .i64 ((p : Int) + (n : Int))) = w7 at h7 ho7 ⊢
  clear c1p z1
  have c0 := h7.c0
  have c1 : w7.cell? ⟨b, 1, none⟩ = some (.int .i64 ((p : Int) + (n : Int))) := by rw [hv.out]; exact h7.c1.trans (by simp [List.length_drop])
  go_quiet (fail)
  go_wp2_with fail
  go_ret
  exact ⟨congrArg (fun v => Ending.returned (.string v)) HX.out, h7.drewN _, ho7.drewN _⟩

theorem rawR_calls {w : World} {b : Nat} {s : ByteArray} {x : Rd} (h : RdAt w b s x) (n : Int) :
    Calls Try.prog 78 #[.pointer (some ⟨b, 0, none⟩), .int .i64 n] w fun e w' => e = .returned (.string (rawR n x).1) ∧ RdAt w' b s (rawR n x).2 ∧ Only b w w' := by
  obtain ⟨l, e⟩ := x
  by_cases he : e = 0
  · subst he
    by_cases h0 : n < 0
    · have : rawR n (l, 0) = (⟨#[]⟩, l, 1) := by unfold rawR; rw [if_pos rfl, if_pos h0]
      rw [this]
      exact rawR_neg h n h0
    · by_cases h1 : (l.length : Int) < n
      · have : rawR n (l, 0) = (⟨#[]⟩, l, 3) := by unfold rawR; rw [if_pos rfl, if_neg h0, if_pos h1]
        rw [this]
        exact rawR_short h n h1
      · have : rawR n (l, 0) = (⟨(l.take n.toNat).toArray⟩, l.drop n.toNat, 0) := by unfold rawR; rw [if_pos rfl, if_neg h0, if_neg h1]
        rw [this]
        obtain ⟨k, rfl⟩ := Int.eq_ofNat_of_zero_le (Int.not_lt.1 h0)
        exact rawR_more h k (by omega)
  · have : rawR n (l, e) = (⟨#[]⟩, l, e) := by unfold rawR; rw [if_neg he]
    rw [this]
    exact rawR_off h he n

theorem countR_calls {w : World} {b : Nat} {s : ByteArray} {x : Rd} (h : RdAt w b s x) (most : Int) :
    Calls Try.prog 80 #[.pointer (some ⟨b, 0, none⟩), .int .i64 most] w fun e w' => e = .returned (.int .i64 (countR most x).1) ∧ RdAt w' b s (countR most x).2 ∧ Only b w w' := by
  by_cases h0 : (numR x).2.2 = 0
  · by_cases h1 : most < (numR x).1
    · have e : countR most x = (0, (numR x).2.1, 4) := by unfold countR; rw [if_pos ⟨h0, h1⟩]
      rw [e]
      go_enter Try.func80, Try.ntmps80
      go_wp2_with fail
      refine (numR_calls h).mono ?_
      rintro e w1 ⟨rfl, h2, ho⟩
      go_wp2_with fail
      refine (off_no h2 h0).mono ?_
      rintro e w2 ⟨rfl, rfl⟩
      go_wp2_with fail
      refine (fail_calls h2 h0 4).mono ?_
      rintro e w3 ⟨rfl, h3, ho3⟩
      go_wp2_with fail
      go_ret
      exact ⟨rfl, h3, ho.trans ho3⟩
    · have e : countR most x = numR x := by unfold countR; rw [if_neg (fun h => h1 h.2)]
      rw [e]
      go_enter Try.func80, Try.ntmps80
      go_wp2_with fail
      refine (numR_calls h).mono ?_
      rintro e w1 ⟨rfl, h2, ho⟩
      go_wp2_with fail
      refine (off_no h2 h0).mono ?_
      rintro e w2 ⟨rfl, rfl⟩
      go_wp2_with fail
      go_ret
      exact ⟨rfl, h2, ho⟩
  · have e : countR most x = numR x := by unfold countR; rw [if_neg (fun h => h0 h.1)]
    rw [e]
    go_enter Try.func80, Try.ntmps80
    go_wp2_with fail
    refine (numR_calls h).mono ?_
    rintro e w1 ⟨rfl, h2, ho⟩
    go_wp2_with fail
    refine (off_yes h2 h0).mono ?_
    rintro e w2 ⟨rfl, rfl⟩
    go_wp2_with fail
    go_ret
    exact ⟨rfl, h2, ho⟩

theorem textR_calls {w : World} {b : Nat} {s : ByteArray} {x : Rd} (h : RdAt w b s x) (most : Int) :
    Calls Try.prog 79 #[.pointer (some ⟨b, 0, none⟩), .int .i64 most] w fun e w' => e = .returned (.string (textR most x).1) ∧ RdAt w' b s (textR most x).2 ∧ Only b w w' := by
  go_enter Try.func79, Try.ntmps79
  go_wp2_with fail
  refine (countR_calls h most).mono ?_
  rintro e w1 ⟨rfl, h1, ho1⟩
  go_wp2_with fail
  refine (rawR_calls h1 _).mono ?_
  rintro e w2 ⟨rfl, h2, ho2⟩
  go_wp2_with fail
  go_ret
  exact ⟨rfl, h2, ho1.trans ho2⟩

theorem endR_calls {w : World} {b : Nat} {s : ByteArray} {x : Rd} (h : RdAt w b s x) :
    Calls Try.prog 49 #[.pointer (some ⟨b, 0, none⟩)] w fun e w' => e = .returned (.int .i64 (endR x)) ∧ Only b w w' := by
  obtain ⟨l, e⟩ := x
  by_cases he : e = 0
  · subst he
    by_cases hl : l = []
    · subst hl
      have hE : endR ([], 0) = 0 := rfl
      rw [hE]
      go_enter Try.func49, Try.ntmps49
      go_wp2_with fail
      refine (off_no h rfl).mono ?_
      rintro e w1 ⟨rfl, rfl⟩
      go_wp2_with fail
      refine (left_calls h).mono ?_
      rintro e w2 ⟨rfl, nd, rfl⟩
      go_wp2_with fail
      refine (err_calls (h.drewN nd)).mono ?_
      rintro e w3 ⟨rfl, rfl⟩
      go_wp2_with fail
      go_ret
      exact ⟨rfl, (Only.refl _ _).drewN nd⟩
    · have hE : endR (l, 0) = 4 := by unfold endR; rw [if_pos ⟨rfl, hl⟩]
      rw [hE]
      have hp : (0 : Int) < (l.length : Int) := by have := List.length_pos_iff.2 hl; omega
      clear hl
      go_enter Try.func49, Try.ntmps49
      go_wp2_with fail
      refine (off_no h rfl).mono ?_
      rintro e w1 ⟨rfl, rfl⟩
      go_wp2_with fail
      refine (left_calls h).mono ?_
      rintro e w2 ⟨rfl, nd, rfl⟩
      go_wp2_with fail
      refine (fail_calls (h.drewN nd) rfl 4).mono ?_
      rintro e w3 ⟨rfl, h3, ho3⟩
      go_wp2_with fail
      refine (err_calls h3).mono ?_
      rintro e w4 ⟨rfl, rfl⟩
      go_wp2_with fail
      go_ret
      exact ⟨rfl, ((Only.refl _ _).drewN nd).trans ho3⟩
  · have hE : endR (l, e) = e := by unfold endR; rw [if_neg (fun h => he h.1)]
    rw [hE]
    go_enter Try.func49, Try.ntmps49
    go_wp2_with fail
    refine (off_yes h he).mono ?_
    rintro e w1 ⟨rfl, rfl⟩
    go_wp2_with fail
    refine (err_calls h).mono ?_
    rintro e w4 ⟨rfl, rfl⟩
    go_wp2_with fail
    go_ret
    exact ⟨rfl, Only.refl _ _⟩

theorem codeRead_calls (w : World) (s : ByteArray) (hs : s.size ≤ 4611686018427387903) :
    Calls Try.prog 47 #[.string s] w fun e w' => ∃ b, e = .returned (.pointer (some ⟨b, 0, none⟩)) ∧ RdAt w' b s (s.data.toList, 0) ∧ Below w.heap.size w w' ∧ w.heap.size ≤ b := by
  go_enter Try.func47, Try.ntmps47
  go_wp2_with fail
  go_ret
  have hl : s.data.toList.length = s.size := by rw [Array.length_toList]; rfl
  refine ⟨_, rfl, ⟨?_, by show s.data.toList.length ≤ s.size; omega, by show s.data.toList.drop (s.size - s.data.toList.length) = _; rw [hl, Nat.sub_self]; rfl, hs⟩, (Below.refl _ _).alloc (Nat.le_refl _) _, Nat.le_refl _⟩
  have e : s.size - (s.data.toList, (0 : Int)).1.length = 0 := by show s.size - s.data.toList.length = 0; omega
  rw [e]
  exact heap_alloc_new w _
end Go.Proofs.Ytpegefcpanijhaa
end
section
namespace Go.Proofs.Ytpegefcpanijhaa
set_option linter.unusedVariables false
set_option linter.unusedSimpArgs false
open Go.RowKit Go.Maps Go.Proofs.YtpegefcpanijhaaW.PrintWords PF

theorem info80 : (Try.prog.info? 80).map (fun i => (i.zero, i.size, i.bytes)) = some (some (.agg #[.int .i64 0, .int .i64 0, .string ⟨#[]⟩]), 3, 32) := by kernel_rfl

/-- A message's cells, its list's value beside. -/
abbrev rowV (m : MsgD) (v : Value) : Array Value := #[.int .i64 m.kind, .int .i64 m.frm, .int .i64 m.dst, .int .i64 m.ballot, .int .i64 m.gen, .int .i64 m.basis, .int .i64 m.floor, .int .i64 m.top, .int .i64 m.read, .string m.mark, .int .i64 m.pat, .int .i64 m.pof, .string m.ptext, v]
abbrev entC (x : S80) : List Value := [.int .i64 x.f0, .int .i64 x.f1, .string x.f2]
theorem entC_length (l : List S80) : (l.flatMap entC).length = l.length * 3 := by
  induction l with
  | nil => rfl
  | cons x l ih => simp only [List.flatMap_cons, List.length_append, ih, List.length_cons]; show 3 + _ = _; omega

/-- How far msg.read is: the reader, the message so far, the result's block; what was there is as it was. -/
structure ReadSt (w wr : World) (b M R g n1 : Nat) (row : Array Value) (s : ByteArray) (v : Value) (a : MsgD) (x : Rd) : Prop where
  rd : RdAt wr b s x
  blk : wr.heap[M]? = some (.cells (rowV a v) 44 (0, 0))
  res : wr.heap[R]? = some (.cells (zM.cells none 0) 44 (0, 0))
  own : wr.ownsRow w.heap.size 80 3 v a.list.length (a.list.flatMap entC)
  byt : wr.heap[g]? = some (.cells row 5 (n1, n1 + 1))
  only : Only b w wr
  lt : b < w.heap.size
  geM : w.heap.size ≤ M
  geR : w.heap.size ≤ R
  ne : R ≠ M

theorem Only.far {b : Nat} {w w' : World} (h : Only b w w') {p : Addr} (hp : w.heap.size ≤ p.block) (u : Value) : Only b w (w'.setCell p u) :=
  ⟨h.os, h.tape, h.output, by simpa [World.setCell] using h.size, fun k hk hb => (Below.heap_setCell w' p u k (by omega)).trans (h.block k hk hb)⟩
theorem Only.grown {b : Nat} {w w' w'' : World} {row : Option Nat} (h : Only b w w') (hg : w'.grownBy w'' row) (hr : ∀ k, row = some k → w.heap.size ≤ k) : Only b w w'' :=
  ⟨hg.os.trans h.os, hg.tape.trans h.tape, hg.output.trans h.output, Nat.le_trans h.size hg.size, fun k hk hb => (hg.block k (Nat.lt_of_lt_of_le hk h.size) (fun e => by have := hr k e.symm; omega)).trans (h.block k hk hb)⟩

namespace ReadSt
variable {w wr w1 : World} {b M R g n1 : Nat} {row : Array Value} {s : ByteArray} {v : Value} {a : MsgD} {x x' : Rd}
theorem own_ne (h : ReadSt w wr b M R g n1 row s v a x) {k t : Nat} {cs : Array Value} {fr : Nat × Nat} (hk : wr.heap[k]? = some (.cells cs t fr)) (ht : t ≠ 80) : v.ownBlock ≠ some k := by
  rcases h.own.2 with ⟨rfl, _⟩ | ⟨g, cap, cur, rfl, _, hg, _⟩
  · simp [Value.ownBlock]
  · intro e
    have : g = k := by simpa [Value.ownBlock] using e
    subst this
    rw [hg] at hk
    injection hk with hk
    injection hk with _ e1
    exact ht e1.symm
theorem own_ge (h : ReadSt w wr b M R g n1 row s v a x) : ∀ k, v.ownBlock = some k → w.heap.size ≤ k ∧ k < wr.heap.size := by
  rcases h.own.2 with ⟨rfl, _⟩ | ⟨g, cap, cur, rfl, hb, hg, _⟩
  · intro k hk; simp [Value.ownBlock] at hk
  · intro k hk
    have : g = k := by simpa [Value.ownBlock] using hk
    subst this
    exact ⟨hb, blk_lt hg⟩
theorem bM (h : ReadSt w wr b M R g n1 row s v a x) : b ≠ M := by have := h.lt; have := h.geM; omega
theorem bR (h : ReadSt w wr b M R g n1 row s v a x) : b ≠ R := by have := h.lt; have := h.geR; omega
theorem gM (h : ReadSt w wr b M R g n1 row s v a x) : g ≠ M := by
  rintro rfl
  have := h.byt
  rw [h.blk] at this
  injection this with this
  injection this with _ e1
  exact absurd e1 (by decide)
theorem gb (h : ReadSt w wr b M R g n1 row s v a x) : g ≠ b := by
  rintro rfl
  have := h.byt
  rw [h.rd.blk] at this
  injection this with this
  injection this with _ e1
  exact absurd e1 (by decide)
/-- The reader has read on. -/
theorem went (h : ReadSt w wr b M R g n1 row s v a x) (h1 : RdAt w1 b s x') (ho : Only b wr w1) : ReadSt w w1 b M R g n1 row s v a x' :=
  ⟨h1, (ho.block M (blk_lt h.blk) h.bM.symm).trans h.blk, (ho.block R (blk_lt h.res) h.bR.symm).trans h.res,
   own_move h.own (fun k hk => ho.block k (h.own_ge k hk).2 (by have := (h.own_ge k hk).1; have := h.lt; omega)),
   (ho.block g (blk_lt h.byt) h.gb).trans h.byt, h.only.trans ho, h.lt, h.geM, h.geR, h.ne⟩
/-- A field has been set. -/
theorem set (h : ReadSt w wr b M R g n1 row s v a x) (i : Nat) (u : Value) (a' : MsgD) (hr : (rowV a v).setIfInBounds i u = rowV a' v) (hl : a'.list = a.list) : ReadSt w (wr.setCell ⟨M, i, none⟩ u) b M R g n1 row s v a' x :=
  ⟨⟨blk_far h.rd.blk h.bM u, h.rd.le, h.rd.drop, h.rd.max⟩, blk_put h.blk i u hr, blk_far h.res h.ne u,
   by rw [hl]; exact own_move h.own (fun k hk => Below.heap_setCell wr ⟨M, i, none⟩ u k (fun e => h.own_ne h.blk (by decide) (by rw [hk]; exact congrArg some e))),
   (Below.heap_setCell wr ⟨M, i, none⟩ u g h.gM).trans h.byt, h.only.far h.geM u, h.lt, h.geM, h.geR, h.ne⟩
theorem alloc (h : ReadSt w wr b M R g n1 row s v a x) (o : Obj) : ReadSt w (wr.alloc o) b M R g n1 row s v a x :=
  ⟨h.rd.alloc o, blk_alloc h.blk o, blk_alloc h.res o, h.own.alloc o, blk_alloc h.byt o, h.only.trans (Only.of_below ((Below.refl _ _).alloc (Nat.le_refl _) o)), h.lt, h.geM, h.geR, h.ne⟩
theorem frozen (h : ReadSt w wr b M R g n1 row s v a x) (i : Nat) : wr.frozen? ⟨M, i, none⟩ = false := blk_frozen h.blk i
/-- An entry has been appended, its value not yet laid down. -/
theorem grew (h : ReadSt w wr b M R g n1 row s v a x) {v' : Value} {e : S80} (hown : w1.ownsRow w.heap.size 80 3 v' (a.list.length + 1) (a.list.flatMap entC ++ entC e)) (hg : wr.grownBy w1 v.ownBlock) :
    ReadSt w (w1.setCell ⟨M, 13, none⟩ v') b M R g n1 row s v' { a with list := a.list ++ [e] } x := by
  have hge := fun k (hk : v.ownBlock = some k) => (h.own_ge k hk).1
  have hM : w1.heap[M]? = some (.cells (rowV a v) 44 (0, 0)) := (hg.block M (blk_lt h.blk) (fun e => h.own_ne h.blk (by decide) e.symm)).trans h.blk
  have hne : v'.ownBlock ≠ some M := by
    rcases hown.2 with ⟨rfl, _⟩ | ⟨g, cap, cur, rfl, _, hg, _⟩
    · simp [Value.ownBlock]
    · intro e
      have : g = M := by simpa [Value.ownBlock] using e
      subst this
      rw [hM] at hg
      injection hg with hg
      injection hg with _ e1
      exact absurd e1 (by decide)
  refine ⟨⟨blk_far ((hg.block b (blk_lt h.rd.blk) (fun e => h.own_ne h.rd.blk (by decide) e.symm)).trans h.rd.blk) h.bM v', h.rd.le, h.rd.drop, h.rd.max⟩, blk_put hM 13 v' rfl, blk_far ((hg.block R (blk_lt h.res) (fun e => h.own_ne h.res (by decide) e.symm)).trans h.res) h.ne v', ?_, (Below.heap_setCell w1 ⟨M, 13, none⟩ v' g h.gM).trans ((hg.block g (blk_lt h.byt) (fun e => h.own_ne h.byt (by decide) e.symm)).trans h.byt), (h.only.grown hg hge).far h.geM v', h.lt, h.geM, h.geR, h.ne⟩
  have e1 : (a.list ++ [e]).length = a.list.length + 1 := by simp
  have e2 : (a.list ++ [e]).flatMap entC = a.list.flatMap entC ++ entC e := by simp [List.flatMap_append]
  show (w1.setCell ⟨M, 13, none⟩ v').ownsRow w.heap.size 80 3 v' (a.list ++ [e]).length ((a.list ++ [e]).flatMap entC)
  rw [e1, e2]
  exact own_move hown (fun k hk => Below.heap_setCell w1 ⟨M, 13, none⟩ v' k (fun e => hne (by rw [hk]; exact congrArg some e)))
end ReadSt
theorem foldl_step {k : Int} {j : Nat} {x : Fd} {a0 a : MsgD × Rd} (hx : (fieldsOf k)[j]? = some x) (h : a = ((fieldsOf k).take j).foldl stepR a0) : stepR a x = ((fieldsOf k).take (j + 1)).foldl stepR a0 := by
  have hj : j < (fieldsOf k).length := (List.getElem?_eq_some_iff.1 hx).1
  have e : (fieldsOf k)[j] = x := (List.getElem?_eq_some_iff.1 hx).2
  rw [List.take_succ_eq_append_getElem hj, List.foldl_append, ← h, e]
  rfl
theorem numA_nonneg : ∀ (l : List UInt8) (i n : Nat), 0 ≤ (numA i n l).1 := by
  intro l
  induction l with
  | nil => intro i n; exact Int.le_refl _
  | cons c r ih =>
    intro i n
    unfold numA
    split
    · exact Int.le_refl _
    · split
      · exact Int.natCast_nonneg _
      · exact ih _ _
theorem numR_nonneg (x : Rd) : 0 ≤ (numR x).1 := by
  unfold numR
  split
  · exact numA_nonneg _ _ _
  · exact Int.le_refl _
theorem numA_zero : ∀ (l : List UInt8) (i n : Nat), (numA i n l).2.2 ≠ 0 → (numA i n l).1 = 0 := by
  intro l
  induction l with
  | nil => intro i n _; rfl
  | cons c r ih =>
    intro i n
    unfold numA
    split
    · intro _; rfl
    · split
      · intro h; exact absurd rfl h
      · exact ih _ _
theorem numR_zero {x : Rd} (h : (numR x).2.2 ≠ 0) : (numR x).1 = 0 := by
  by_cases h0 : x.2 = 0
  · unfold numR at *
    rw [if_pos h0] at *
    exact numA_zero _ _ _ h
  · unfold numR
    rw [if_neg h0]
theorem countR_range (x : Rd) : 0 ≤ (countR 64 x).1 ∧ (countR 64 x).1 ≤ 64 := by
  unfold countR
  have h0 := numR_nonneg x
  split
  · exact ⟨Int.le_refl _, show (0 : Int) ≤ 64 by decide⟩
  · rename_i h
    refine ⟨h0, ?_⟩
    by_cases h1 : (numR x).2.2 = 0
    · have : ¬ 64 < (numR x).1 := fun h2 => h ⟨h1, h2⟩
      omega
    · rw [numR_zero h1]
      decide
end Go.Proofs.Ytpegefcpanijhaa
end
section
namespace Go.Proofs.Ytpegefcpanijhaa
set_option linter.unusedVariables false
set_option linter.unusedSimpArgs false
open Go.RowKit Go.Maps Go.Proofs.YtpegefcpanijhaaW.PrintWords PF

theorem news3 (w : World) (e : S80) : ∀ (j : Nat) (u : Value), (entC e)[j]? = some u → (w.alloc (.cells #[.int .i64 e.f0, .int .i64 e.f1, .string e.f2] 80)).cell? ((⟨w.heap.size, 0, none⟩ : Addr).add j) = some u := by
  intro j u hu
  have e1 : (⟨w.heap.size, 0, none⟩ : Addr).add j = ⟨w.heap.size, j, none⟩ := by unfold Addr.add; split <;> simp_all
  rw [e1, cell_of_row _ _ j _ _ _ (heap_alloc_new w _)]
  have : (#[Value.int .i64 e.f0, .int .i64 e.f1, .string e.f2] : Array Value)[j]? = (entC e)[j]? := by simp [entC]
  rw [this, hu]
theorem own_slice {w : World} {base n : Nat} {v : Value} {xs : List Value} (h : w.ownsRow base 80 3 v n xs) : ∃ A c, v = .slice A n c := by
  rcases h.2 with ⟨rfl, rfl⟩ | ⟨g, cap, cur, rfl, _⟩
  · exact ⟨none, 0, rfl⟩
  · exact ⟨_, _, rfl⟩

theorem flat3 {l : List S80} {j i : Nat} {p : S80} {u : Value} (hp : l[j]? = some p) (hu : (entC p)[i]? = some u) : (l.flatMap entC)[j * 3 + i]? = some u := by
  induction l generalizing j with
  | nil => simp at hp
  | cons x l ih =>
    rw [List.flatMap_cons]
    have hi : i < 3 := by have := (List.getElem?_eq_some_iff.1 hu).1; simpa using this
    cases j with
    | zero =>
      simp only [List.getElem?_cons_zero, Option.some.injEq] at hp
      subst hp
      rw [Nat.zero_mul, Nat.zero_add, List.getElem?_append_left (by simpa using hi)]
      exact hu
    | succ j =>
      rw [List.getElem?_append_right (by show 3 ≤ _; omega)]
      have e : (j + 1) * 3 + i - (entC x).length = j * 3 + i := by show (j + 1) * 3 + i - 3 = _; omega
      rw [e]
      exact ih (by simpa using hp)
theorem far14 {w : World} {b k : Nat} (hk : k ≠ b) (v0 v1 v2 v3 v4 v5 v6 v7 v8 v9 v10 v11 v12 v13 : Value) : ((((((((((((((w.setCell ⟨b, 0, none⟩ v0).setCell ⟨b, 1, none⟩ v1).setCell ⟨b, 2, none⟩ v2).setCell ⟨b, 3, none⟩ v3).setCell ⟨b, 4, none⟩ v4).setCell ⟨b, 5, none⟩ v5).setCell ⟨b, 6, none⟩ v6).setCell ⟨b, 7, none⟩ v7).setCell ⟨b, 8, none⟩ v8).setCell ⟨b, 9, none⟩ v9).setCell ⟨b, 10, none⟩ v10).setCell ⟨b, 11, none⟩ v11).setCell ⟨b, 12, none⟩ v12).setCell ⟨b, 13, none⟩ v13).heap[k]? = w.heap[k]? := (Below.heap_setCell (((((((((((((w.setCell ⟨b, 0, none⟩ v0).setCell ⟨b, 1, none⟩ v1).setCell ⟨b, 2, none⟩ v2).setCell ⟨b, 3, none⟩ v3).setCell ⟨b, 4, none⟩ v4).setCell ⟨b, 5, none⟩ v5).setCell ⟨b, 6, none⟩ v6).setCell ⟨b, 7, none⟩ v7).setCell ⟨b, 8, none⟩ v8).setCell ⟨b, 9, none⟩ v9).setCell ⟨b, 10, none⟩ v10).setCell ⟨b, 11, none⟩ v11).setCell ⟨b, 12, none⟩ v12) ⟨b, 13, none⟩ v13 k hk).trans ((Below.heap_setCell ((((((((((((w.setCell ⟨b, 0, none⟩ v0).setCell ⟨b, 1, none⟩ v1).setCell ⟨b, 2, none⟩ v2).setCell ⟨b, 3, none⟩ v3).setCell ⟨b, 4, none⟩ v4).setCell ⟨b, 5, none⟩ v5).setCell ⟨b, 6, none⟩ v6).setCell ⟨b, 7, none⟩ v7).setCell ⟨b, 8, none⟩ v8).setCell ⟨b, 9, none⟩ v9).setCell ⟨b, 10, none⟩ v10).setCell ⟨b, 11, none⟩ v11) ⟨b, 12, none⟩ v12 k hk).trans ((Below.heap_setCell (((((((((((w.setCell ⟨b, 0, none⟩ v0).setCell ⟨b, 1, none⟩ v1).setCell ⟨b, 2, none⟩ v2).setCell ⟨b, 3, none⟩ v3).setCell ⟨b, 4, none⟩ v4).setCell ⟨b, 5, none⟩ v5).setCell ⟨b, 6, none⟩ v6).setCell ⟨b, 7, none⟩ v7).setCell ⟨b, 8, none⟩ v8).setCell ⟨b, 9, none⟩ v9).setCell ⟨b, 10, none⟩ v10) ⟨b, 11, none⟩ v11 k hk).trans ((Below.heap_setCell ((((((((((w.setCell ⟨b, 0, none⟩ v0).setCell ⟨b, 1, none⟩ v1).setCell ⟨b, 2, none⟩ v2).setCell ⟨b, 3, none⟩ v3).setCell ⟨b, 4, none⟩ v4).setCell ⟨b, 5, none⟩ v5).setCell ⟨b, 6, none⟩ v6).setCell ⟨b, 7, none⟩ v7).setCell ⟨b, 8, none⟩ v8).setCell ⟨b, 9, none⟩ v9) ⟨b, 10, none⟩ v10 k hk).trans ((Below.heap_setCell (((((((((w.setCell ⟨b, 0, none⟩ v0).setCell ⟨b, 1, none⟩ v1).setCell ⟨b, 2, none⟩ v2).setCell ⟨b, 3, none⟩ v3).setCell ⟨b, 4, none⟩ v4).setCell ⟨b, 5, none⟩ v5).setCell ⟨b, 6, none⟩ v6).setCell ⟨b, 7, none⟩ v7).setCell ⟨b, 8, none⟩ v8) ⟨b, 9, none⟩ v9 k hk).trans ((Below.heap_setCell ((((((((w.setCell ⟨b, 0, none⟩ v0).setCell ⟨b, 1, none⟩ v1).setCell ⟨b, 2, none⟩ v2).setCell ⟨b, 3, none⟩ v3).setCell ⟨b, 4, none⟩ v4).setCell ⟨b, 5, none⟩ v5).setCell ⟨b, 6, none⟩ v6).setCell ⟨b, 7, none⟩ v7) ⟨b, 8, none⟩ v8 k hk).trans ((Below.heap_setCell (((((((w.setCell ⟨b, 0, none⟩ v0).setCell ⟨b, 1, none⟩ v1).setCell ⟨b, 2, none⟩ v2).setCell ⟨b, 3, none⟩ v3).setCell ⟨b, 4, none⟩ v4).setCell ⟨b, 5, none⟩ v5).setCell ⟨b, 6, none⟩ v6) ⟨b, 7, none⟩ v7 k hk).trans ((Below.heap_setCell ((((((w.setCell ⟨b, 0, none⟩ v0).setCell ⟨b, 1, none⟩ v1).setCell ⟨b, 2, none⟩ v2).setCell ⟨b, 3, none⟩ v3).setCell ⟨b, 4, none⟩ v4).setCell ⟨b, 5, none⟩ v5) ⟨b, 6, none⟩ v6 k hk).trans ((Below.heap_setCell (((((w.setCell ⟨b, 0, none⟩ v0).setCell ⟨b, 1, none⟩ v1).setCell ⟨b, 2, none⟩ v2).setCell ⟨b, 3, none⟩ v3).setCell ⟨b, 4, none⟩ v4) ⟨b, 5, none⟩ v5 k hk).trans ((Below.heap_setCell ((((w.setCell ⟨b, 0, none⟩ v0).setCell ⟨b, 1, none⟩ v1).setCell ⟨b, 2, none⟩ v2).setCell ⟨b, 3, none⟩ v3) ⟨b, 4, none⟩ v4 k hk).trans ((Below.heap_setCell (((w.setCell ⟨b, 0, none⟩ v0).setCell ⟨b, 1, none⟩ v1).setCell ⟨b, 2, none⟩ v2) ⟨b, 3, none⟩ v3 k hk).trans ((Below.heap_setCell ((w.setCell ⟨b, 0, none⟩ v0).setCell ⟨b, 1, none⟩ v1) ⟨b, 2, none⟩ v2 k hk).trans ((Below.heap_setCell (w.setCell ⟨b, 0, none⟩ v0) ⟨b, 1, none⟩ v1 k hk).trans ((Below.heap_setCell w ⟨b, 0, none⟩ v0 k hk).trans (rfl))))))))))))))
theorem only14 {c b : Nat} {w0 w : World} (h : Only c w0 w) (hn : w0.heap.size ≤ b) (v0 v1 v2 v3 v4 v5 v6 v7 v8 v9 v10 v11 v12 v13 : Value) : Only c w0 ((((((((((((((w.setCell ⟨b, 0, none⟩ v0).setCell ⟨b, 1, none⟩ v1).setCell ⟨b, 2, none⟩ v2).setCell ⟨b, 3, none⟩ v3).setCell ⟨b, 4, none⟩ v4).setCell ⟨b, 5, none⟩ v5).setCell ⟨b, 6, none⟩ v6).setCell ⟨b, 7, none⟩ v7).setCell ⟨b, 8, none⟩ v8).setCell ⟨b, 9, none⟩ v9).setCell ⟨b, 10, none⟩ v10).setCell ⟨b, 11, none⟩ v11).setCell ⟨b, 12, none⟩ v12).setCell ⟨b, 13, none⟩ v13) := Only.far (Only.far (Only.far (Only.far (Only.far (Only.far (Only.far (Only.far (Only.far (Only.far (Only.far (Only.far (Only.far (Only.far (h) hn v0) hn v1) hn v2) hn v3) hn v4) hn v5) hn v6) hn v7) hn v8) hn v9) hn v10) hn v11) hn v12) hn v13
theorem listAt_own {w : World} {base : Nat} {A : Option Addr} {c : Nat} {l : List S80} (h : w.ownsRow base 80 3 (.slice A l.length c) l.length (l.flatMap entC)) : ListAt w A c l := by
  rcases h.2 with ⟨hv, hl⟩ | ⟨g, cap, cur, hv, _, hg, h1, h2, h3, h4⟩
  · injection hv with e1 e2 e3
    subst e1 e3
    have : l = [] := List.length_eq_zero_iff.1 hl
    subst this
    exact ⟨Nat.le_refl _, Nat.zero_le _, rfl, Nat.zero_le _, fun h => absurd h (Nat.lt_irrefl _)⟩
  · injection hv with e1 e2 e3
    subst e1 e3
    refine ⟨h1, h2, rfl, by unfold maxLen at h2; omega, fun _ => ⟨_, rfl, fun j p hp => ⟨entC p, rfl, k80_mk _ _, fun i u hu => ?_⟩⟩⟩
    have hj : j < l.length := (List.getElem?_eq_some_iff.1 hp).1
    have hi : i < 3 := by have := (List.getElem?_eq_some_iff.1 hu).1; simpa using this
    have e1 : (⟨g, 0, none⟩ : Addr).add (j * 3 + i) = ⟨g, j * 3 + i, none⟩ := by unfold Addr.add; split <;> simp_all
    show w.cell? ((⟨g, 0, none⟩ : Addr).add (j * 3 + i)) = some u
    rw [e1, cell_of_row _ _ _ _ _ _ hg]
    have h5 : cur.toList[j * 3 + i]? = (l.flatMap entC)[j * 3 + i]? := by
      rw [← h4, List.getElem?_take, if_pos (by omega)]
    rw [← Array.getElem?_toList, h5]
    exact flat3 hp hu

set_option maxHeartbeats 8000000 in
set_option maxRecDepth 100000 in
theorem read_calls {w : World} {b : Nat} {s : ByteArray} {l : List UInt8} (h : RdAt w b s (l, 0)) :
    Calls Try.prog 48 #[.pointer (some ⟨b, 0, none⟩)] w fun e w' => ∃ A c, e = .returned (.agg ((msgR l).1.cells A c)) ∧ RdAt w' b s (msgR l).2 ∧ w'.ownsRow w.heap.size 80 3 (.slice A (msgR l).1.list.length c) (msgR l).1.list.length ((msgR l).1.list.flatMap entC) ∧ Only b w w' := by
  obtain ⟨i0, hi, hz0, hz1, hz2⟩ := info_parts info80
  have HZ0 := Lib.hid hz0; have HZ1 := Lib.hid hz1; have HZ2 := Lib.hid hz2; have HI0 := Lib.hid hi
  clear hz0 hz1 hz2 hi
  have hlt := h.lt
  go_enter Try.func48, Try.ntmps48
  go_wp2_with fail
  have ha := h.alloc (.cells (zM.cells none 0) 44)
  have hoA : Only b w (w.alloc (.cells (zM.cells none 0) 44)) := Only.of_below ((Below.refl _ _).alloc (Nat.le_refl _) _)
  refine (numR_calls ha).mono ?_
  rintro e w1 ⟨rfl, h1, ho1⟩
  go_wp2_with fail
  refine (numR_calls h1).mono ?_
  rintro e w2 ⟨rfl, h2, ho2⟩
  go_wp2_with fail
  refine (numR_calls h2).mono ?_
  rintro e w3 ⟨rfl, h3, ho3⟩
  have hres := (((ho1.trans ho2).trans ho3).block w.heap.size (by simp) (by omega)).trans (heap_alloc_new w (.cells (zM.cells none 0) 44))
  have hoW := ((hoA.trans ho1).trans ho2).trans ho3
  obtain ⟨K0, hK0⟩ : ∃ k, (numR (l, 0)).1 = k := ⟨_, rfl⟩
  obtain ⟨K1, hK1⟩ : ∃ k, (numR (numR (l, 0)).2).1 = k := ⟨_, rfl⟩
  obtain ⟨K2, hK2⟩ : ∃ k, (numR (numR (numR (l, 0)).2).2).1 = k := ⟨_, rfl⟩
  have HH := Lib.hid (show headR l = (headM K0 K1 K2, (numR (numR (numR (l, 0)).2).2).2) by unfold headR; rw [hK0, hK1, hK2])
  rw [hK0, hK1, hK2]
  clear hK0 hK1 hK2
  go_upto_region 2 with (fail)
  have hMs : w.heap.size < w3.heap.size := blk_lt hres
  change Code.wp _ _ _ _ (w3.alloc (.cells (rowV (headM K0 K1 K2) (.slice none 0 0)) 44))
  have hM := heap_alloc_new w3 (.cells (rowV (headM K0 K1 K2) (.slice none 0 0)) 44)
  have h4 := h3.alloc (.cells (rowV (headM K0 K1 K2) (.slice none 0 0)) 44)
  have hres4 := blk_alloc hres (.cells (rowV (headM K0 K1 K2) (.slice none 0 0)) 44)
  have hoW4 : Only b w (w3.alloc (.cells (rowV (headM K0 K1 K2) (.slice none 0 0)) 44)) := hoW.trans (Only.of_below ((Below.refl _ _).alloc (Nat.le_refl _) _))
  generalize w3.alloc (.cells (rowV (headM K0 K1 K2) (.slice none 0 0)) 44) = w4 at hM h4 hres4 hoW4 ⊢
  generalize w3.heap.size = M at hM hMs ⊢
  obtain ⟨R, hR⟩ : ∃ R, R = w.heap.size := ⟨_, rfl⟩
  rw [← hR] at hMs hres4
  clear hres hoW h3 ho3 h2 ho2 h1 ho1 ha hoA w1 w2 w3
  have d0 : w4.cell? ⟨M, 0, none⟩ = some (.int .i64 K0) := (blk_cell hM 0).trans rfl
  go_wp2_with fail
  refine (form_calls K0 _).mono ?_
  rintro e w5 ⟨rfl, hb5⟩
  obtain ⟨w6, cap, n1, row, g, hg, hcv, hb6, hrow, hrc⟩ := conv_bytes w5 (bytesLo (fieldsOf K0))
  have hb56 : Below w4.heap.size w4 w6 := hb5.trans (hb6.mono hb5.size)
  have hst : ReadSt w w6 b M R g n1 row s (.slice none 0 0) (headM K0 K1 K2) (numR (numR (numR (l, 0)).2).2).2 :=
    ⟨h4.below hb56, blk_below hM hb56, blk_below hres4 hb56, ⟨rfl, .inl ⟨rfl, rfl⟩⟩, hrow, hoW4.trans (Only.of_below hb56), hlt, by omega, by omega, by omega⟩
  have hsz := bytesLo_size (fieldsOf K0)
  rw [← hR]
  clear hg hM h4 hres4 hoW4 hb5 hb6 hb56 d0 hMs hR
  go_wp2_with fail
  clear hcv hsz hrow
  have HRC := Lib.hid hrc
  clear hrc
  have hfl := fields_short K0
  go_loopw [19] (fun i wr => ∃ (j : Nat) (v : Value) (a : MsgD) (x : Rd), j ≤ (fieldsOf K0).length ∧ i = .int .i64 j ∧ ReadSt w wr b M R g n1 row s v a x ∧ a.list.length ≤ 64 * j ∧ Hid ((a, x) = ((fieldsOf K0).take j).foldl stepR (headR l))) (fun i _ => 5 - (intOf i).toNat)
  case atStart => exact ⟨0, _, _, _, Nat.zero_le _, rfl, hst, Nat.zero_le _, Lib.hid HH.out.symm⟩
  case round =>
    clear hst
    obtain ⟨j, v, a, x, hj, rfl, hS, hll, HF⟩ := hrel
    by_cases hlt2 : j < (fieldsOf K0).length
    · obtain ⟨y, hy⟩ : ∃ y, (fieldsOf K0)[j]? = some y := ⟨_, List.getElem?_eq_getElem hlt2⟩
      have hcx := row_cell hS.byt HRC.out hy
      have HX := Lib.hid hy
      clear hy
      have z1 : (0 : Int) ≤ (j : Int) := by omega
      have z2 : (j : Int) < ((fieldsOf K0).length : Int) := by omega
      cases y
      · replace hcx : wr.cell? ⟨g, j, none⟩ = some (.int .u8 98) := hcx
        go_wp2_with fail
        refine (numR_calls hS.rd).mono ?_
        rintro e v1 ⟨rfl, k1, q1⟩
        have hS1 := hS.went k1 q1
        have d : v1.cell? ⟨M, 3, none⟩ = some (.int .i64 a.ballot) := (blk_cell hS1.blk 3).trans rfl
        have f := hS1.frozen 3
        go_wp2_with fail
        go_roundw
        case rel => exact ⟨j + 1, v, _, _, by omega, by go_num, hS1.set 3 _ { a with ballot := (numR x).1 } rfl rfl, (by show a.list.length ≤ _; omega), Lib.hid (foldl_step HX.out HF.out)⟩
        case measure => simp [intOf]; omega
      · replace hcx : wr.cell? ⟨g, j, none⟩ = some (.int .u8 103) := hcx
        go_wp2_with fail
        refine (numR_calls hS.rd).mono ?_
        rintro e v1 ⟨rfl, k1, q1⟩
        have hS1 := hS.went k1 q1
        have d : v1.cell? ⟨M, 4, none⟩ = some (.int .i64 a.gen) := (blk_cell hS1.blk 4).trans rfl
        have f := hS1.frozen 4
        go_wp2_with fail
        go_roundw
        case rel => exact ⟨j + 1, v, _, _, by omega, by go_num, hS1.set 4 _ { a with gen := (numR x).1 } rfl rfl, (by show a.list.length ≤ _; omega), Lib.hid (foldl_step HX.out HF.out)⟩
        case measure => simp [intOf]; omega
      · replace hcx : wr.cell? ⟨g, j, none⟩ = some (.int .u8 115) := hcx
        go_wp2_with fail
        refine (numR_calls hS.rd).mono ?_
        rintro e v1 ⟨rfl, k1, q1⟩
        have hS1 := hS.went k1 q1
        have d : v1.cell? ⟨M, 5, none⟩ = some (.int .i64 a.basis) := (blk_cell hS1.blk 5).trans rfl
        have f := hS1.frozen 5
        go_wp2_with fail
        go_roundw
        case rel => exact ⟨j + 1, v, _, _, by omega, by go_num, hS1.set 5 _ { a with basis := (numR x).1 } rfl rfl, (by show a.list.length ≤ _; omega), Lib.hid (foldl_step HX.out HF.out)⟩
        case measure => simp [intOf]; omega
      · replace hcx : wr.cell? ⟨g, j, none⟩ = some (.int .u8 102) := hcx
        go_wp2_with fail
        refine (numR_calls hS.rd).mono ?_
        rintro e v1 ⟨rfl, k1, q1⟩
        have hS1 := hS.went k1 q1
        have d : v1.cell? ⟨M, 6, none⟩ = some (.int .i64 a.floor) := (blk_cell hS1.blk 6).trans rfl
        have f := hS1.frozen 6
        go_wp2_with fail
        go_roundw
        case rel => exact ⟨j + 1, v, _, _, by omega, by go_num, hS1.set 6 _ { a with floor := (numR x).1 } rfl rfl, (by show a.list.length ≤ _; omega), Lib.hid (foldl_step HX.out HF.out)⟩
        case measure => simp [intOf]; omega
      · replace hcx : wr.cell? ⟨g, j, none⟩ = some (.int .u8 116) := hcx
        go_wp2_with fail
        refine (numR_calls hS.rd).mono ?_
        rintro e v1 ⟨rfl, k1, q1⟩
        have hS1 := hS.went k1 q1
        have d : v1.cell? ⟨M, 7, none⟩ = some (.int .i64 a.top) := (blk_cell hS1.blk 7).trans rfl
        have f := hS1.frozen 7
        go_wp2_with fail
        go_roundw
        case rel => exact ⟨j + 1, v, _, _, by omega, by go_num, hS1.set 7 _ { a with top := (numR x).1 } rfl rfl, (by show a.list.length ≤ _; omega), Lib.hid (foldl_step HX.out HF.out)⟩
        case measure => simp [intOf]; omega
      · replace hcx : wr.cell? ⟨g, j, none⟩ = some (.int .u8 114) := hcx
        go_wp2_with fail
        refine (numR_calls hS.rd).mono ?_
        rintro e v1 ⟨rfl, k1, q1⟩
        have hS1 := hS.went k1 q1
        have d : v1.cell? ⟨M, 8, none⟩ = some (.int .i64 a.read) := (blk_cell hS1.blk 8).trans rfl
        have f := hS1.frozen 8
        go_wp2_with fail
        go_roundw
        case rel => exact ⟨j + 1, v, _, _, by omega, by go_num, hS1.set 8 _ { a with read := (numR x).1 } rfl rfl, (by show a.list.length ≤ _; omega), Lib.hid (foldl_step HX.out HF.out)⟩
        case measure => simp [intOf]; omega
      · replace hcx : wr.cell? ⟨g, j, none⟩ = some (.int .u8 109) := hcx
        go_wp2_with fail
        refine (rawR_calls hS.rd 32).mono ?_
        rintro e v1 ⟨rfl, k1, q1⟩
        have hS1 := hS.went k1 q1
        have d : v1.cell? ⟨M, 9, none⟩ = some (.string a.mark) := (blk_cell hS1.blk 9).trans rfl
        have f := hS1.frozen 9
        go_wp2_with fail
        go_roundw
        case rel => exact ⟨j + 1, v, _, _, by omega, by go_num, hS1.set 9 _ { a with mark := (rawR 32 x).1 } rfl rfl, (by show a.list.length ≤ _; omega), Lib.hid (foldl_step HX.out HF.out)⟩
        case measure => simp [intOf]; omega
      · replace hcx : wr.cell? ⟨g, j, none⟩ = some (.int .u8 112) := hcx
        go_wp2_with fail
        refine (numR_calls hS.rd).mono ?_
        rintro e v1 ⟨rfl, k1, q1⟩
        have hS1 := hS.went k1 q1
        go_wp2_with fail
        refine (numR_calls hS1.rd).mono ?_
        rintro e v2 ⟨rfl, k2, q2⟩
        have hS2 := hS1.went k2 q2
        go_wp2_with fail
        refine (textR_calls hS2.rd 1024).mono ?_
        rintro e v3 ⟨rfl, k3, q3⟩
        have hS3 := hS2.went k3 q3
        have d10 : v3.cell? ⟨M, 10, none⟩ = some (.int .i64 a.pat) := (blk_cell hS3.blk 10).trans rfl
        have d11 : v3.cell? ⟨M, 11, none⟩ = some (.int .i64 a.pof) := (blk_cell hS3.blk 11).trans rfl
        have d12 : v3.cell? ⟨M, 12, none⟩ = some (.string a.ptext) := (blk_cell hS3.blk 12).trans rfl
        have f10 := hS3.frozen 10
        have f11 := hS3.frozen 11
        have f12 := hS3.frozen 12
        go_wp2_with fail
        go_roundw
        case rel => exact ⟨j + 1, v, _, _, by omega, by go_num, ((hS3.set 10 _ { a with pat := (numR x).1 } rfl rfl).set 11 _ { a with pat := (numR x).1, pof := (numR (numR x).2).1 } rfl rfl).set 12 _ { a with pat := (numR x).1, pof := (numR (numR x).2).1, ptext := (textR 1024 (numR (numR x).2).2).1 } rfl rfl, (by show a.list.length ≤ _; omega), Lib.hid (foldl_step HX.out HF.out)⟩
        case measure => simp [intOf]; omega
      · replace hcx : wr.cell? ⟨g, j, none⟩ = some (.int .u8 108) := hcx
        go_wp2_with fail
        refine (countR_calls hS.rd 64).mono ?_
        rintro e v1 ⟨rfl, k1, q1⟩
        have hS1 := hS.went k1 q1
        go_wp2_with fail
        obtain ⟨N, hN⟩ : ∃ N : Nat, (countR 64 x).1 = (N : Int) := ⟨(countR 64 x).1.toNat, by have := countR_range x; omega⟩
        have hN64 : N ≤ 64 := by have := (countR_range x).2; omega
        have HFS := Lib.hid (foldl_step HX.out HF.out)
        have HNN := Lib.hid hN
        rw [hN]
        clear hN
        have hj5 : j ≤ 4 := by omega
        have HLL := Lib.hid hll
        have HT2 := Lib.hid hlt2
        clear hcx hll hlt2 z1 z2
        go_wp2_with fail
        go_loopw [73] (fun i wv => ∃ (k : Nat) (v' : Value) (l' : List S80) (x' : Rd), k ≤ N ∧ i = .int .i64 k ∧ ReadSt w wv b M R g n1 row s v' { a with list := l' } x' ∧ l'.length = a.list.length + k ∧ Hid (listR (N - k) l' x' = listR N a.list (countR 64 x).2)) (fun i _ => N - (intOf i).toNat)
        case atStart => exact ⟨0, v, a.list, _, Nat.zero_le _, rfl, hS1, rfl, Lib.hid rfl⟩
        case round =>
          clear hS1 k1 q1 hS
          obtain ⟨k, v', l', x', hk, rfl, hS, hl', HL⟩ := hrel
          have hl4 : l'.length ≤ 400 := by have := HLL.out; omega
          have HLN := Lib.hid hl'
          clear hl'
          by_cases hlt3 : k < N
          · have z1 : (k : Int) < (N : Int) := by omega
            go_wp2_with fail
            refine (numR_calls hS.rd).mono ?_
            rintro e v1 ⟨rfl, k1, q1⟩
            have hS1 := hS.went k1 q1
            go_wp2_with fail
            refine (numR_calls hS1.rd).mono ?_
            rintro e v2 ⟨rfl, k2, q2⟩
            have hS2 := hS1.went k2 q2
            go_wp2_with fail
            refine (rawR_calls hS2.rd 32).mono ?_
            rintro e v3 ⟨rfl, k3, q3⟩
            have hS3 := hS2.went k3 q3
            clear hS hS1 hS2 k1 k2 k3 q1 q2 q3
            go_upto_region 26 with (fail)
            obtain ⟨E, hE⟩ : ∃ E : S80, (entR x').1 = E := ⟨_, rfl⟩
            have E0 : (numR x').1 = E.f0 := by rw [← hE]; rfl
            have E1 : (numR (numR x').2).1 = E.f1 := by rw [← hE]; rfl
            have E2 : (rawR 32 (numR (numR x').2).2).1 = E.f2 := by rw [← hE]; rfl
            have HE := Lib.hid hE
            rw [E0, E1, E2]
            clear E0 E1 E2 hE
            have hS4 := hS3.alloc (.cells #[.int .i64 E.f0, .int .i64 E.f1, .string E.f2] 80)
            have hX := heap_alloc_new v3 (.cells #[.int .i64 E.f0, .int .i64 E.f1, .string E.f2] 80)
            generalize v3.alloc (.cells #[.int .i64 E.f0, .int .i64 E.f1, .string E.f2] 80) = v4 at hS4 hX ⊢
            generalize v3.heap.size = X at hX ⊢
            clear hS3
            obtain ⟨A', c', hv'⟩ := own_slice hS4.own
            subst hv'
            have d13 : v4.cell? ⟨M, 13, none⟩ = some (.slice A' l'.length c') := (blk_cell hS4.blk 13).trans rfl
            have x0 : v4.cell? ⟨X, 0, none⟩ = some (.int .i64 E.f0) := (blk_cell hX 0).trans rfl
            have x1 : v4.cell? ⟨X, 1, none⟩ = some (.int .i64 E.f1) := (blk_cell hX 1).trans rfl
            have x2 : v4.cell? ⟨X, 2, none⟩ = some (.string E.f2) := (blk_cell hX 2).trans rfl
            have hbase : w.heap.size ≤ (v4.alloc (.cells #[.int .i64 E.f0, .int .i64 E.f1, .string E.f2] 80)).heap.size := by have := hS4.only.size; simp; omega
            clear hX
            go_wp2_with (at_builtin; refine wpList_append_own_at _ rfl (.tmp 83) (.tmp 85) 42 rfl w.heap.size 80 i0 _ 3 32 Try.underlying42 HI0.out HZ0.out HZ1.out HZ2.out rfl (by decide) (.slice A' l'.length c') l'.length (l'.flatMap entC) rfl (hS4.own.alloc _) ⟨v4.heap.size, 0, none⟩ 1 1 (entC E) rfl rfl (news3 v4 E) (by simp [entC, Value.oneCell']) (by unfold maxLen; omega) (by omega) hbase ?_; intro v5 w5 hown5 hg5 _ _; (obtain ⟨A5, c5, hv5⟩ := own_slice hown5); subst hv5; have hS5 := hS4.alloc (.cells #[.int .i64 E.f0, .int .i64 E.f1, .string E.f2] 80); have hM5 := (hg5.block M (blk_lt hS5.blk) (fun e => hS5.own_ne hS5.blk (by decide) e.symm)).trans hS5.blk; have d13' := (blk_cell hM5 13).trans rfl; have f13 := blk_frozen hM5 13; have HG := Lib.hid (hS5.grew (e := E) hown5 hg5); clear hM5 hS5)
            go_roundw
            case rel =>
              refine ⟨k + 1, _, l' ++ [E], (entR x').2, by omega, by go_num, HG.out, by have := HLN.out; simp; omega, Lib.hid ?_⟩
              rw [← HL.out, show N - k = (N - (k + 1)) + 1 by omega, ← HE.out]
              rfl
            case measure => simp [intOf]; omega
          · have z1 : ¬ (k : Int) < (N : Int) := by omega
            obtain rfl : k = N := by omega
            go_wp2_with fail
            go_roundw
            case rel =>
              refine ⟨j + 1, v', { a with list := l' }, x', by have := HT2.out; omega, by go_num, hS, by show l'.length ≤ _; have := HLL.out; have := HLN.out; omega, Lib.hid ?_⟩
              rw [← HFS.out]
              have e1 : (countR 64 x).1.toNat = k := by rw [HNN.out, Int.toNat_natCast]
              have e2 := HL.out
              rw [Nat.sub_self] at e2
              show ({ a with list := l' }, x') = ({ a with list := (listR (countR 64 x).1.toNat a.list (countR 64 x).2).1 }, (listR (countR 64 x).1.toNat a.list (countR 64 x).2).2)
              rw [e1, ← e2]
              rfl
            case measure =>
              have := HT2.out
              simp [intOf]; omega
    · obtain rfl : j = (fieldsOf K0).length := by omega
      have hmsg : msgR l = (a, x) := by
        have e1 := HF.out
        rw [List.take_length] at e1
        unfold msgR
        rw [HH.out] at *
        exact e1.symm
      obtain ⟨A', c', hv'⟩ := own_slice hS.own
      subst hv'
      have d0 : wr.cell? ⟨M, 0, none⟩ = some (.int .i64 a.kind) := (blk_cell hS.blk 0).trans rfl
      have d1 : wr.cell? ⟨M, 1, none⟩ = some (.int .i64 a.frm) := (blk_cell hS.blk 1).trans rfl
      have d2 : wr.cell? ⟨M, 2, none⟩ = some (.int .i64 a.dst) := (blk_cell hS.blk 2).trans rfl
      have d3 : wr.cell? ⟨M, 3, none⟩ = some (.int .i64 a.ballot) := (blk_cell hS.blk 3).trans rfl
      have d4 : wr.cell? ⟨M, 4, none⟩ = some (.int .i64 a.gen) := (blk_cell hS.blk 4).trans rfl
      have d5 : wr.cell? ⟨M, 5, none⟩ = some (.int .i64 a.basis) := (blk_cell hS.blk 5).trans rfl
      have d6 : wr.cell? ⟨M, 6, none⟩ = some (.int .i64 a.floor) := (blk_cell hS.blk 6).trans rfl
      have d7 : wr.cell? ⟨M, 7, none⟩ = some (.int .i64 a.top) := (blk_cell hS.blk 7).trans rfl
      have d8 : wr.cell? ⟨M, 8, none⟩ = some (.int .i64 a.read) := (blk_cell hS.blk 8).trans rfl
      have d9 : wr.cell? ⟨M, 9, none⟩ = some (.string a.mark) := (blk_cell hS.blk 9).trans rfl
      have d10 : wr.cell? ⟨M, 10, none⟩ = some (.int .i64 a.pat) := (blk_cell hS.blk 10).trans rfl
      have d11 : wr.cell? ⟨M, 11, none⟩ = some (.int .i64 a.pof) := (blk_cell hS.blk 11).trans rfl
      have d12 : wr.cell? ⟨M, 12, none⟩ = some (.string a.ptext) := (blk_cell hS.blk 12).trans rfl
      have d13 : wr.cell? ⟨M, 13, none⟩ = some (.slice A' a.list.length c') := (blk_cell hS.blk 13).trans rfl
      have r0 : wr.cell? ⟨R, 0, none⟩ = some (.int .i64 0) := (blk_cell hS.res 0).trans rfl
      have t0 := blk_frozen hS.res 0
      have r1 : wr.cell? ⟨R, 1, none⟩ = some (.int .i64 0) := (blk_cell hS.res 1).trans rfl
      have t1 := blk_frozen hS.res 1
      have r2 : wr.cell? ⟨R, 2, none⟩ = some (.int .i64 0) := (blk_cell hS.res 2).trans rfl
      have t2 := blk_frozen hS.res 2
      have r3 : wr.cell? ⟨R, 3, none⟩ = some (.int .i64 0) := (blk_cell hS.res 3).trans rfl
      have t3 := blk_frozen hS.res 3
      have r4 : wr.cell? ⟨R, 4, none⟩ = some (.int .i64 0) := (blk_cell hS.res 4).trans rfl
      have t4 := blk_frozen hS.res 4
      have r5 : wr.cell? ⟨R, 5, none⟩ = some (.int .i64 0) := (blk_cell hS.res 5).trans rfl
      have t5 := blk_frozen hS.res 5
      have r6 : wr.cell? ⟨R, 6, none⟩ = some (.int .i64 0) := (blk_cell hS.res 6).trans rfl
      have t6 := blk_frozen hS.res 6
      have r7 : wr.cell? ⟨R, 7, none⟩ = some (.int .i64 0) := (blk_cell hS.res 7).trans rfl
      have t7 := blk_frozen hS.res 7
      have r8 : wr.cell? ⟨R, 8, none⟩ = some (.int .i64 0) := (blk_cell hS.res 8).trans rfl
      have t8 := blk_frozen hS.res 8
      have r9 : wr.cell? ⟨R, 9, none⟩ = some (.string ⟨#[]⟩) := (blk_cell hS.res 9).trans rfl
      have t9 := blk_frozen hS.res 9
      have r10 : wr.cell? ⟨R, 10, none⟩ = some (.int .i64 0) := (blk_cell hS.res 10).trans rfl
      have t10 := blk_frozen hS.res 10
      have r11 : wr.cell? ⟨R, 11, none⟩ = some (.int .i64 0) := (blk_cell hS.res 11).trans rfl
      have t11 := blk_frozen hS.res 11
      have r12 : wr.cell? ⟨R, 12, none⟩ = some (.string ⟨#[]⟩) := (blk_cell hS.res 12).trans rfl
      have t12 := blk_frozen hS.res 12
      have r13 : wr.cell? ⟨R, 13, none⟩ = some (.slice none 0 0) := (blk_cell hS.res 13).trans rfl
      have t13 := blk_frozen hS.res 13
      have z2 : ¬ ((fieldsOf K0).length : Int) < ((fieldsOf K0).length : Int) := by omega
      have HM := Lib.hid hmsg
      clear hmsg hll hj
      go_wp2_with fail
      refine ret_row (p := 2) (g := R) rfl rfl (puts14 hS.res _ _ _ _ _ _ _ _ _ _ _ _ _ _) Try.underlying44 (by kernel_rfl) ?_
      rw [HM.out]
      refine ⟨A', c', rfl, ⟨(far14 hS.bR _ _ _ _ _ _ _ _ _ _ _ _ _ _).trans hS.rd.blk, hS.rd.le, hS.rd.drop, hS.rd.max⟩, own_move hS.own (fun k hk => far14 (fun e => hS.own_ne hS.res (by decide) (by rw [hk, e])) _ _ _ _ _ _ _ _ _ _ _ _ _ _), only14 hS.only hS.geR _ _ _ _ _ _ _ _ _ _ _ _ _ _⟩
end Go.Proofs.Ytpegefcpanijhaa
end
section
namespace Go.Proofs.Ytpegefcpanijhaa
set_option linter.unusedVariables false
set_option linter.unusedSimpArgs false
open Go.RowKit Go.Proofs.YtpegefcpanijhaaW.PrintWords Go.Proofs.YtpegefcpanijhaaW.PrintLast PF

theorem own_only {w w' : World} {base n b t : Nat} {v : Value} {xs : List Value} {cs : Array Value} {fr : Nat × Nat} (h : w.ownsRow base 80 3 v n xs) (hb : w.heap[b]? = some (.cells cs t fr)) (ht : t ≠ 80) (ho : Only b w w') : w'.ownsRow base 80 3 v n xs := by
  refine own_move h (fun k hk => ?_)
  rcases h.2 with ⟨rfl, _⟩ | ⟨g, cap, cur, rfl, _, hg, _⟩
  · simp [Value.ownBlock] at hk
  · have : g = k := by simpa [Value.ownBlock] using hk
    subst this
    refine ho.block g (blk_lt hg) ?_
    rintro rfl
    rw [hg] at hb
    injection hb with hb
    injection hb with _ e1
    exact ht e1.symm

/-- What was read holds short texts. -/
def smallD (m : MsgD) : Prop := m.mark.size ≤ 32 ∧ m.ptext.size ≤ 1024
theorem raw_size (n : Int) (x : Rd) : ((rawR n x).1.size : Int) ≤ max n 0 := by
  have hm1 := Int.le_max_left n 0
  have hm2 := Int.le_max_right n 0
  unfold rawR
  split
  · split
    · show (0 : Int) ≤ _; omega
    · split
      · show (0 : Int) ≤ _; omega
      · have : (⟨(x.1.take n.toNat).toArray⟩ : ByteArray).size = (x.1.take n.toNat).length := (List.size_toArray : _)
        rw [this, List.length_take]
        omega
  · show (0 : Int) ≤ _; omega
theorem count_le (most : Int) (hm : 0 ≤ most) (x : Rd) : (countR most x).1 ≤ most := by
  unfold countR
  split
  · exact hm
  · rename_i h
    by_cases h1 : (numR x).2.2 = 0
    · have : ¬ most < (numR x).1 := fun h2 => h ⟨h1, h2⟩
      omega
    · rw [numR_zero h1]
      exact hm
theorem small_step {a : MsgD × Rd} (h : smallD a.1) (y : Fd) : smallD (stepR a y).1 := by
  obtain ⟨h1, h2⟩ := h
  cases y
  case m =>
    have := raw_size 32 a.2
    exact ⟨by show (rawR 32 a.2).1.size ≤ 32; omega, h2⟩
  case p =>
    refine ⟨h1, ?_⟩
    show (rawR _ _).1.size ≤ 1024
    have h3 := raw_size (countR 1024 (numR (numR a.2).2).2).1 (countR 1024 (numR (numR a.2).2).2).2
    have h4 := count_le 1024 (by decide) (numR (numR a.2).2).2
    omega
  all_goals exact ⟨h1, h2⟩
theorem small_fold : ∀ (l : List Fd) (a : MsgD × Rd), smallD a.1 → smallD (l.foldl stepR a).1 := by
  intro l
  induction l with
  | nil => intro a h; exact h
  | cons x l ih => intro a h; exact ih _ (small_step h x)
theorem small_msgR (l : List UInt8) : smallD (msgR l).1 := small_fold _ _ ⟨by show 0 ≤ 32; decide, by show 0 ≤ 1024; decide⟩

/-- What Of answers of bytes t that a mark stands behind: r: is the mark theirs. -/
def ofD (r : Bool) (t : ByteArray) : MsgD × Int := if r then readD t.data.toList else (zM, 6)
theorem small_ofD (r : Bool) (t : ByteArray) : smallD (ofD r t).1 := by
  have hz : smallD (headM 0 0 0) := ⟨by show 0 ≤ 32; decide, by show 0 ≤ 1024; decide⟩
  cases r
  · exact hz
  · show smallD (readD _).1
    unfold readD
    split
    · split
      · exact small_msgR _
      · exact hz
    · exact hz

theorem self14 {w : World} {b : Nat} (v0 v1 v2 v3 v4 v5 v6 v7 v8 v9 v10 v11 v12 v13 : Value) : Only b w ((((((((((((((w.setCell ⟨b, 0, none⟩ v0).setCell ⟨b, 1, none⟩ v1).setCell ⟨b, 2, none⟩ v2).setCell ⟨b, 3, none⟩ v3).setCell ⟨b, 4, none⟩ v4).setCell ⟨b, 5, none⟩ v5).setCell ⟨b, 6, none⟩ v6).setCell ⟨b, 7, none⟩ v7).setCell ⟨b, 8, none⟩ v8).setCell ⟨b, 9, none⟩ v9).setCell ⟨b, 10, none⟩ v10).setCell ⟨b, 11, none⟩ v11).setCell ⟨b, 12, none⟩ v12).setCell ⟨b, 13, none⟩ v13) := Only.setCell (Only.setCell (Only.setCell (Only.setCell (Only.setCell (Only.setCell (Only.setCell (Only.setCell (Only.setCell (Only.setCell (Only.setCell (Only.setCell (Only.setCell (Only.setCell (Only.refl b w) 0 v0) 1 v1) 2 v2) 3 v3) 4 v4) 5 v5) 6 v6) 7 v7) 8 v8) 9 v9) 10 v10) 11 v11) 12 v12) 13 v13

set_option maxHeartbeats 4000000 in
set_option maxRecDepth 100000 in
theorem Of_with {w : World} {bv : Value} {s : ByteArray} {n : Nat} (hn : s.size = n + 32) (hs : s.size ≤ 4611686018427387903) (r : Bool) (P : World → Prop)
    (hIs : ∀ w', Below w.heap.size w w' → Calls Try.prog 21 #[bv, .string (s.extract 0 n), .string (s.extract n s.size)] w' fun e w'' => e = .returned (.bool r) ∧ P w'' ∧ Below w'.heap.size w' w'')
    (hP : ∀ (w1 w2 : World) (k : Nat), w.heap.size ≤ k → P w1 → Only k w1 w2 → P w2) :
    Calls Try.prog 27 #[bv, .string s] w fun e w' => ∃ A c, e = .returned (.tuple #[.agg ((ofD r (s.extract 0 n)).1.cells A c), .int .i64 (ofD r (s.extract 0 n)).2]) ∧ ListAt w' A c (ofD r (s.extract 0 n)).1.list ∧ P w' ∧ Below w.heap.size w w' := by
  have h1 : (s.size : Int) - 32 = (n : Int) := by omega
  have hsz2 : n ≤ s.size := by omega
  have h2 : ¬ ((n : Int) < 0) := by omega
  have z1 : (n : Int) ≤ (s.size : Int) := by omega
  have z2 : (0 : Int) ≤ (n : Int) := by omega
  have hts : (s.extract 0 n).size ≤ 4611686018427387903 := by rw [ByteArray.size_extract]; omega
  have HN := Lib.hid hn
  clear hn hsz2
  go_enter Try.func27, Try.ntmps27
  go_upto_region 4 with (fail)
  have hR := heap_alloc_new w (.cells (zM.cells none 0) 44)
  have hB1 : Below w.heap.size w (w.alloc (.cells (zM.cells none 0) 44)) := (Below.refl _ _).alloc (Nat.le_refl _) _
  change Code.wp _ _ _ _ (w.alloc (.cells (zM.cells none 0) 44))
  generalize w.alloc (.cells (zM.cells none 0) 44) = w1 at hR hB1 ⊢
  obtain ⟨R, hRR⟩ : ∃ R, R = w.heap.size := ⟨_, rfl⟩
  rw [← hRR] at hR ⊢
  have HRR := Lib.hid hRR
  clear hRR
  refine start_ (n := 9) (S := fun w' => True) (ds := []) #[false, false, false, false, false, false, false, false, false] (by kernel_rfl) rfl rfl trivial (fun hHeld => ?_)
  have hB2 : Below w.heap.size w w1.drew := hB1.drew
  have hR2 : w1.drew.heap[R]? = some (.cells (zM.cells none 0) 44 (0, 0)) := hR
  generalize w1.drew = w2 at hHeld hB2 hR2 ⊢
  clear hR hB1
  refine pure_ (i := 0) (N := some 16) (v := ?_) (a' := ?_) #[true, false, false, false, false, false, false, false, false] rfl rfl (by kernel_rfl) (fun _ _ _ h => h) (Or.inl ⟨by rfl, ?_⟩) ?_ ?_
  rotate_left
  · intro w'
    go_simp
    with_reducible rfl
  rotate_left
  · simp only [Act.put, List.setIfInBounds_toArray, List.set_cons_zero, List.set_cons_succ, i64_w, i32_w]
    rfl
  refine pure_ (i := 1) (N := some 17) (v := ?_) (a' := ?_) #[true, true, false, false, false, false, false, false, false] rfl rfl (by kernel_rfl) (fun _ _ _ h => h) (Or.inl ⟨by rfl, ?_⟩) ?_ ?_
  rotate_left
  · intro w'
    go_simp
    with_reducible rfl
  rotate_left
  · simp only [Act.put, List.setIfInBounds_toArray, List.set_cons_zero, List.set_cons_succ, i64_w, i32_w]
    rfl
  refine pure_ (i := 2) (N := some 18) (v := ?_) (a' := ?_) #[true, true, true, false, false, false, false, false, false] rfl rfl (by kernel_rfl) (fun _ _ _ h => h) (Or.inl ⟨by rfl, ?_⟩) ?_ ?_
  rotate_left
  · intro w'
    go_simp
    with_reducible rfl
  rotate_left
  · simp only [Act.put, List.setIfInBounds_toArray, List.set_cons_zero, List.set_cons_succ, i64_w, i32_w]
    rfl
  refine pure_ (i := 4) (N := some 20) (v := ?_) (a' := ?_) #[true, true, true, false, true, false, false, false, false] rfl rfl (by kernel_rfl) (fun _ _ _ h => h) (Or.inl ⟨by rfl, ?_⟩) ?_ ?_
  rotate_left
  · intro w'
    go_simp
    with_reducible rfl
  rotate_left
  · simp only [Act.put, List.setIfInBounds_toArray, List.set_cons_zero, List.set_cons_succ, i64_w, i32_w]
    rfl
  refine pure_ (i := 5) (N := some 21) (v := ?_) (a' := ?_) #[true, true, true, false, true, true, false, false, false] rfl rfl (by kernel_rfl) (fun _ _ _ h => h) (Or.inl ⟨by rfl, ?_⟩) ?_ ?_
  rotate_left
  · intro w'
    go_simp
    with_reducible rfl
  rotate_left
  · simp only [Act.put, List.setIfInBounds_toArray, List.set_cons_zero, List.set_cons_succ, i64_w, i32_w]
    rfl
  refine pure_ (i := 3) (N := some 19) (v := ?_) (a' := ?_) #[true, true, true, true, true, true, false, false, false] rfl rfl (by kernel_rfl) (fun _ _ _ h => h) (Or.inl ⟨by rfl, ?_⟩) ?_ ?_
  rotate_left
  · intro w'
    go_simp
    with_reducible rfl
  rotate_left
  · simp only [Act.put, List.setIfInBounds_toArray, List.set_cons_zero, List.set_cons_succ, i64_w, i32_w]
    rfl
  refine pure_ (i := 6) (N := some 22) (v := ?_) (a' := ?_) #[true, true, true, true, true, true, true, false, false] rfl rfl (by kernel_rfl) (fun _ _ _ h => h) (Or.inl ⟨by rfl, ?_⟩) ?_ ?_
  rotate_left
  · intro w'
    go_simp
    with_reducible rfl
  rotate_left
  · simp only [Act.put, List.setIfInBounds_toArray, List.set_cons_zero, List.set_cons_succ, i64_w, i32_w]
    rfl
  refine one_ (i := 7) (N := some 23) #[true, true, true, true, true, true, true, true, false] rfl rfl (by kernel_rfl) (by decide) (fun K hK => ?_)
  refine goes_ Try.func21 (by kernel_rfl) rfl #[bv, .string (s.extract 0 n), .string (s.extract n s.size)] (by rfl) rfl rfl (by simp [Act.eval]) ?_
  refine (hIs w2 hB2).mono ?_
  rintro e w3 ⟨rfl, hP3, hb⟩
  refine ⟨_, rfl, hK.out _ _ trivial (fun _ => ?_)⟩
  have hB3 := hB2.trans (hb.mono hB2.size)
  have hR3 := blk_below hR2 hb
  clear hb hB2 hR2 hK K hIs
  simp only [Act.put, List.setIfInBounds_toArray, List.set_cons_zero, List.set_cons_succ]
  refine pure_ (i := 8) (N := some 24) (v := ?_) (a' := ?_) #[true, true, true, true, true, true, true, true, true] rfl rfl (by kernel_rfl) (fun _ _ _ h => h) (Or.inl ⟨by rfl, ?_⟩) ?_ ?_
  rotate_left
  · intro w'
    go_simp
    with_reducible rfl
  rotate_left
  · simp only [Act.put, List.setIfInBounds_toArray, List.set_cons_zero, List.set_cons_succ, i64_w, i32_w]
    rfl
  refine done_ (by kernel_rfl) ?_
  cases r
  · have hR4 := hR3
    have r0 : w3.cell? ⟨R, 0, none⟩ = some (.int .i64 0) := (blk_cell hR4 0).trans rfl
    have t0 := blk_frozen hR4 0
    have r1 : w3.cell? ⟨R, 1, none⟩ = some (.int .i64 0) := (blk_cell hR4 1).trans rfl
    have t1 := blk_frozen hR4 1
    have r2 : w3.cell? ⟨R, 2, none⟩ = some (.int .i64 0) := (blk_cell hR4 2).trans rfl
    have t2 := blk_frozen hR4 2
    have r3 : w3.cell? ⟨R, 3, none⟩ = some (.int .i64 0) := (blk_cell hR4 3).trans rfl
    have t3 := blk_frozen hR4 3
    have r4 : w3.cell? ⟨R, 4, none⟩ = some (.int .i64 0) := (blk_cell hR4 4).trans rfl
    have t4 := blk_frozen hR4 4
    have r5 : w3.cell? ⟨R, 5, none⟩ = some (.int .i64 0) := (blk_cell hR4 5).trans rfl
    have t5 := blk_frozen hR4 5
    have r6 : w3.cell? ⟨R, 6, none⟩ = some (.int .i64 0) := (blk_cell hR4 6).trans rfl
    have t6 := blk_frozen hR4 6
    have r7 : w3.cell? ⟨R, 7, none⟩ = some (.int .i64 0) := (blk_cell hR4 7).trans rfl
    have t7 := blk_frozen hR4 7
    have r8 : w3.cell? ⟨R, 8, none⟩ = some (.int .i64 0) := (blk_cell hR4 8).trans rfl
    have t8 := blk_frozen hR4 8
    have r9 : w3.cell? ⟨R, 9, none⟩ = some (.string ⟨#[]⟩) := (blk_cell hR4 9).trans rfl
    have t9 := blk_frozen hR4 9
    have r10 : w3.cell? ⟨R, 10, none⟩ = some (.int .i64 0) := (blk_cell hR4 10).trans rfl
    have t10 := blk_frozen hR4 10
    have r11 : w3.cell? ⟨R, 11, none⟩ = some (.int .i64 0) := (blk_cell hR4 11).trans rfl
    have t11 := blk_frozen hR4 11
    have r12 : w3.cell? ⟨R, 12, none⟩ = some (.string ⟨#[]⟩) := (blk_cell hR4 12).trans rfl
    have t12 := blk_frozen hR4 12
    have r13 : w3.cell? ⟨R, 13, none⟩ = some (.slice none 0 0) := (blk_cell hR4 13).trans rfl
    have t13 := blk_frozen hR4 13
    go_wp2_with fail
    refine ret_row2 (p := 4) (q := 5) (g := R) rfl rfl (puts14 hR3 _ _ _ _ _ _ _ _ _ _ _ _ _ _) Try.underlying44 (by kernel_rfl) ?_
    have hB4 := below14 hB3 (Nat.le_of_eq HRR.out.symm) (.int .i64 0) (.int .i64 0) (.int .i64 0) (.int .i64 0) (.int .i64 0) (.int .i64 0) (.int .i64 0) (.int .i64 0) (.int .i64 0) (.string ⟨#[]⟩) (.int .i64 0) (.int .i64 0) (.string ⟨#[]⟩) (.slice none 0 0)
    exact ⟨none, 0, rfl, (zM_at _).list, hP _ _ R (Nat.le_of_eq HRR.out.symm) hP3 (self14 _ _ _ _ _ _ _ _ _ _ _ _ _ _ ), hB4⟩
  · go_wp2_with fail
    refine (codeRead_calls _ (s.extract 0 n) hts).mono ?_
    rintro e w4 ⟨b, rfl, hr4, hb, hbb⟩
    have hB4 := hB3.trans (hb.mono hB3.size)
    have hR4 := blk_below hR3 hb
    have hP4 := hP _ _ R (Nat.le_of_eq HRR.out.symm) hP3 (Only.of_below hb)
    have hlt := hr4.lt
    have hRb : R ≠ b := by have := blk_lt hR3; omega
    have hWb : w.heap.size ≤ b := by have := hB3.size; omega
    have HIB := Lib.hid hbb
    clear hb hbb hR3 hP3 hB3
    obtain ⟨L, hL⟩ : ∃ L, L = (s.extract 0 n).data.toList := ⟨_, rfl⟩
    rw [← hL] at hr4
    have HL := Lib.hid hL
    clear hL
    go_wp2_with fail
    refine (read_calls hr4).mono ?_
    rintro e w5 ⟨A, c, rfl, hr5, hl5, ho⟩
    have hB5 := ho.below hB4 hWb
    have hR5 := (ho.block R (blk_lt hR4) hRb).trans hR4
    have hP5 := hP _ _ b hWb hP4 ho
    have HIB5 := Lib.hid (And.intro hRb hWb)
    clear hB4 hR4 hP4 ho hr4 hlt hWb hRb HIB
    go_upto_region 8 with (fail)
    have hsm := small_msgR L
    have HOF := Lib.hid (show ofD true (s.extract 0 n) = readD L by rw [HL.out]; rfl)
    have HRD := Lib.hid (show readD L = (if endR (msgR L).2 = 0 then (if rightB (msgR L).1 then ((msgR L).1, 0) else (headM 0 0 0, 5)) else (headM 0 0 0, endR (msgR L).2)) from rfl)
    generalize readD L = dd at HRD HOF
    generalize (msgR L).1 = a at hl5 hsm HRD ⊢
    generalize (msgR L).2 = x at hr5 HRD ⊢
    have hM := heap_alloc_new w5 (.cells (a.cells A c) 44)
    have hB6 := hB5.alloc hB5.size (.cells (a.cells A c) 44)
    have hbl : Below w5.heap.size w5 (w5.alloc (.cells (a.cells A c) 44)) := (Below.refl _ _).alloc (Nat.le_refl _) _
    have hR6 := blk_alloc hR5 (.cells (a.cells A c) 44)
    have hr6 := hr5.alloc (.cells (a.cells A c) 44)
    have hl6 := hl5.alloc (.cells (a.cells A c) 44)
    have hP6 := hP _ _ b HIB5.out.2 hP5 (Only.of_below hbl)
    have hRM : R ≠ w5.heap.size := by have := blk_lt hR5; omega
    have hWM : w.heap.size ≤ w5.heap.size := hB5.size
    change Code.wp _ _ _ _ (w5.alloc (.cells (a.cells A c) 44))
    generalize w5.alloc (.cells (a.cells A c) 44) = w6 at hM hB6 hR6 hr6 hl6 hP6 ⊢
    generalize w5.heap.size = M at hM hRM hWM ⊢
    clear hB5 hR5 hP5 hr5 hl5 hbl w5
    go_wp2_with fail
    refine (endR_calls hr6).mono ?_
    rintro e w7 ⟨rfl, ho⟩
    have hMb : M ≠ b := by
      rintro rfl
      rw [hr6.blk] at hM
      injection hM with hM
      injection hM with _ e1
      exact absurd e1 (by decide)
    have hB7 := ho.below hB6 HIB5.out.2
    have hR7 := (ho.block R (blk_lt hR6) HIB5.out.1).trans hR6
    have hM7 := (ho.block M (blk_lt hM) hMb).trans hM
    have hP7 := hP _ _ b HIB5.out.2 hP6 ho
    have hl7 := own_only hl6 hr6.blk (by decide) ho
    clear hB6 hR6 hP6 hM hr6 ho hMb hl6 w6
    by_cases he : endR x = 0
    · have e1 : (endR x == 0) = true := by rw [he]; rfl
      have e2 : (endR x != 0) = false := by rw [he]; rfl
      have hD := HRD.out
      rw [if_pos he] at hD
      obtain ⟨c0, c1, c2, c3, c4, c5, c6, c7, c8, c9, c10, c11, c12, c13⟩ := MsgBox.of hM7
      clear he
      go_wp2_with fail
      refine (Right_calls a A c _ (by have := hsm.2; unfold maxLen; omega) (by have := hsm.1; unfold maxLen; omega) (listAt_own hl7)).mono ?_
      rintro e w8 ⟨rfl, hb⟩
      have hB8 := hB7.trans (hb.mono hB7.size)
      have hR8 := blk_below hR7 hb
      have hM8 := blk_below hM7 hb
      have hP8 := hP _ _ b HIB5.out.2 hP7 (Only.of_below hb)
      have hl8 := own_only hl7 hR7 (by decide) (Only.of_below hb)
      clear hb hB7 hR7 hM7 hP7 hl7 c0 c1 c2 c3 c4 c5 c6 c7 c8 c9 c10 c11 c12 c13
      have HD := Lib.hid hD
      clear hD
      have r0 : w8.cell? ⟨R, 0, none⟩ = some (.int .i64 0) := (blk_cell hR8 0).trans rfl
      have t0 := blk_frozen hR8 0
      have r1 : w8.cell? ⟨R, 1, none⟩ = some (.int .i64 0) := (blk_cell hR8 1).trans rfl
      have t1 := blk_frozen hR8 1
      have r2 : w8.cell? ⟨R, 2, none⟩ = some (.int .i64 0) := (blk_cell hR8 2).trans rfl
      have t2 := blk_frozen hR8 2
      have r3 : w8.cell? ⟨R, 3, none⟩ = some (.int .i64 0) := (blk_cell hR8 3).trans rfl
      have t3 := blk_frozen hR8 3
      have r4 : w8.cell? ⟨R, 4, none⟩ = some (.int .i64 0) := (blk_cell hR8 4).trans rfl
      have t4 := blk_frozen hR8 4
      have r5 : w8.cell? ⟨R, 5, none⟩ = some (.int .i64 0) := (blk_cell hR8 5).trans rfl
      have t5 := blk_frozen hR8 5
      have r6 : w8.cell? ⟨R, 6, none⟩ = some (.int .i64 0) := (blk_cell hR8 6).trans rfl
      have t6 := blk_frozen hR8 6
      have r7 : w8.cell? ⟨R, 7, none⟩ = some (.int .i64 0) := (blk_cell hR8 7).trans rfl
      have t7 := blk_frozen hR8 7
      have r8 : w8.cell? ⟨R, 8, none⟩ = some (.int .i64 0) := (blk_cell hR8 8).trans rfl
      have t8 := blk_frozen hR8 8
      have r9 : w8.cell? ⟨R, 9, none⟩ = some (.string ⟨#[]⟩) := (blk_cell hR8 9).trans rfl
      have t9 := blk_frozen hR8 9
      have r10 : w8.cell? ⟨R, 10, none⟩ = some (.int .i64 0) := (blk_cell hR8 10).trans rfl
      have t10 := blk_frozen hR8 10
      have r11 : w8.cell? ⟨R, 11, none⟩ = some (.int .i64 0) := (blk_cell hR8 11).trans rfl
      have t11 := blk_frozen hR8 11
      have r12 : w8.cell? ⟨R, 12, none⟩ = some (.string ⟨#[]⟩) := (blk_cell hR8 12).trans rfl
      have t12 := blk_frozen hR8 12
      have r13 : w8.cell? ⟨R, 13, none⟩ = some (.slice none 0 0) := (blk_cell hR8 13).trans rfl
      have t13 := blk_frozen hR8 13
      obtain ⟨c0, c1, c2, c3, c4, c5, c6, c7, c8, c9, c10, c11, c12, c13⟩ := MsgBox.of hM8
      rcases (Bool.eq_false_or_eq_true (rightB a)).symm with hr | hr
      · have HDD := Lib.hid (show dd = (headM 0 0 0, 5) by rw [HD.out, if_neg (by rw [hr]; decide)])
        rw [hr]
        clear hr
        go_wp2_with fail
        refine ret_row2 (p := 4) (q := 5) (g := R) rfl rfl (puts14 hR8 _ _ _ _ _ _ _ _ _ _ _ _ _ _ ) Try.underlying44 (by kernel_rfl) ?_
        have hB9 := below14 hB8 (Nat.le_of_eq HRR.out.symm) (.int .i64 0) (.int .i64 0) (.int .i64 0) (.int .i64 0) (.int .i64 0) (.int .i64 0) (.int .i64 0) (.int .i64 0) (.int .i64 0) (.string ⟨#[]⟩) (.int .i64 0) (.int .i64 0) (.string ⟨#[]⟩) (.slice none 0 0)
        rw [HOF.out, HDD.out]
        exact ⟨none, 0, rfl, (zM_at _).list, hP _ _ R (Nat.le_of_eq HRR.out.symm) hP8 (self14 _ _ _ _ _ _ _ _ _ _ _ _ _ _ ), hB9⟩
      · have HDD := Lib.hid (show dd = (a, 0) by rw [HD.out, if_pos hr])
        rw [hr]
        clear hr
        go_wp2_with fail
        refine ret_row2 (p := 4) (q := 5) (g := R) rfl rfl (puts14 hR8 _ _ _ _ _ _ _ _ _ _ _ _ _ _ ) Try.underlying44 (by kernel_rfl) ?_
        rw [HOF.out, HDD.out]
        exact ⟨A, c, rfl, listAt_own (own_only hl8 hR8 (by decide) (self14 _ _ _ _ _ _ _ _ _ _ _ _ _ _ )), hP _ _ R (Nat.le_of_eq HRR.out.symm) hP8 (self14 _ _ _ _ _ _ _ _ _ _ _ _ _ _ ), below14 hB8 (Nat.le_of_eq HRR.out.symm) _ _ _ _ _ _ _ _ _ _ _ _ _ _ ⟩
    · have e1 : (endR x == 0) = false := by rw [beq_eq_false_iff_ne]; exact he
      have e2 : (endR x != 0) = true := by rw [bne_iff_ne]; exact he
      have hD := HRD.out
      rw [if_neg he] at hD
      clear he
      have HD := Lib.hid hD
      clear hD
      have r0 : w7.cell? ⟨R, 0, none⟩ = some (.int .i64 0) := (blk_cell hR7 0).trans rfl
      have t0 := blk_frozen hR7 0
      have r1 : w7.cell? ⟨R, 1, none⟩ = some (.int .i64 0) := (blk_cell hR7 1).trans rfl
      have t1 := blk_frozen hR7 1
      have r2 : w7.cell? ⟨R, 2, none⟩ = some (.int .i64 0) := (blk_cell hR7 2).trans rfl
      have t2 := blk_frozen hR7 2
      have r3 : w7.cell? ⟨R, 3, none⟩ = some (.int .i64 0) := (blk_cell hR7 3).trans rfl
      have t3 := blk_frozen hR7 3
      have r4 : w7.cell? ⟨R, 4, none⟩ = some (.int .i64 0) := (blk_cell hR7 4).trans rfl
      have t4 := blk_frozen hR7 4
      have r5 : w7.cell? ⟨R, 5, none⟩ = some (.int .i64 0) := (blk_cell hR7 5).trans rfl
      have t5 := blk_frozen hR7 5
      have r6 : w7.cell? ⟨R, 6, none⟩ = some (.int .i64 0) := (blk_cell hR7 6).trans rfl
      have t6 := blk_frozen hR7 6
      have r7 : w7.cell? ⟨R, 7, none⟩ = some (.int .i64 0) := (blk_cell hR7 7).trans rfl
      have t7 := blk_frozen hR7 7
      have r8 : w7.cell? ⟨R, 8, none⟩ = some (.int .i64 0) := (blk_cell hR7 8).trans rfl
      have t8 := blk_frozen hR7 8
      have r9 : w7.cell? ⟨R, 9, none⟩ = some (.string ⟨#[]⟩) := (blk_cell hR7 9).trans rfl
      have t9 := blk_frozen hR7 9
      have r10 : w7.cell? ⟨R, 10, none⟩ = some (.int .i64 0) := (blk_cell hR7 10).trans rfl
      have t10 := blk_frozen hR7 10
      have r11 : w7.cell? ⟨R, 11, none⟩ = some (.int .i64 0) := (blk_cell hR7 11).trans rfl
      have t11 := blk_frozen hR7 11
      have r12 : w7.cell? ⟨R, 12, none⟩ = some (.string ⟨#[]⟩) := (blk_cell hR7 12).trans rfl
      have t12 := blk_frozen hR7 12
      have r13 : w7.cell? ⟨R, 13, none⟩ = some (.slice none 0 0) := (blk_cell hR7 13).trans rfl
      have t13 := blk_frozen hR7 13
      go_wp2_with fail
      refine ret_row2 (p := 4) (q := 5) (g := R) rfl rfl (puts14 hR7 _ _ _ _ _ _ _ _ _ _ _ _ _ _ ) Try.underlying44 (by kernel_rfl) ?_
      have hB8 := below14 hB7 (Nat.le_of_eq HRR.out.symm) (.int .i64 0) (.int .i64 0) (.int .i64 0) (.int .i64 0) (.int .i64 0) (.int .i64 0) (.int .i64 0) (.int .i64 0) (.int .i64 0) (.string ⟨#[]⟩) (.int .i64 0) (.int .i64 0) (.string ⟨#[]⟩) (.slice none 0 0)
      rw [HOF.out, HD.out]
      exact ⟨none, 0, rfl, (zM_at _).list, hP _ _ R (Nat.le_of_eq HRR.out.symm) hP7 (self14 _ _ _ _ _ _ _ _ _ _ _ _ _ _ ), hB8⟩
end Go.Proofs.Ytpegefcpanijhaa
end
