/- The reference's tables. -/
import Derived.Test.YtpegefcpanijhaaZS
import Derived.Test.YtpegefcpanijhaaZI
import Derived.Test.YtpegefcpanijhaaF2
section
namespace Go.Proofs.Ytpegefcpanijhaa
set_option linter.unusedVariables false
set_option linter.unusedSimpArgs false
set_option maxRecDepth 100000
open Go.RowKit Go.Proofs.YtpegefcpanijhaaW.PrintWords Go.Proofs.YtpegefcpanijhaaW.PrintMore PF

theorem roots8 : barqueref03_Roots.f 100 8 2 = some (listU 8 Hc) := by decide +kernel
/-- The first 64 primes. -/
def P64 : List Nat := [2, 3, 5, 7, 11, 13, 17, 19, 23, 29, 31, 37, 41, 43, 47, 53, 59, 61, 67, 71, 73, 79, 83, 89, 97, 101, 103, 107, 109, 113, 127, 131, 137, 139, 149, 151, 157, 163, 167, 173, 179, 181, 191, 193, 197, 199, 211, 223, 227, 229, 233, 239, 241, 251, 257, 263, 269, 271, 277, 281, 283, 293, 307, 311]
theorem p64_seq : (List.range 64).map prN = P64 := by decide +kernel
theorem p64_prime : ∀ t : Nat, t < 310 → barqueref03_prime.f 80 ((t + 2 : Nat) : Int) = some (decide (t + 2 ∈ P64)) := by decide +kernel
theorem root_2 : barqueref03_root.f 80 2 3 = some (U (rootC 2)) := by decide +kernel
theorem root_3 : barqueref03_root.f 80 3 3 = some (U (rootC 3)) := by decide +kernel
theorem root_5 : barqueref03_root.f 80 5 3 = some (U (rootC 5)) := by decide +kernel
theorem root_7 : barqueref03_root.f 80 7 3 = some (U (rootC 7)) := by decide +kernel
theorem root_11 : barqueref03_root.f 80 11 3 = some (U (rootC 11)) := by decide +kernel
theorem root_13 : barqueref03_root.f 80 13 3 = some (U (rootC 13)) := by decide +kernel
theorem root_17 : barqueref03_root.f 80 17 3 = some (U (rootC 17)) := by decide +kernel
theorem root_19 : barqueref03_root.f 80 19 3 = some (U (rootC 19)) := by decide +kernel
theorem root_23 : barqueref03_root.f 80 23 3 = some (U (rootC 23)) := by decide +kernel
theorem root_29 : barqueref03_root.f 80 29 3 = some (U (rootC 29)) := by decide +kernel
theorem root_31 : barqueref03_root.f 80 31 3 = some (U (rootC 31)) := by decide +kernel
theorem root_37 : barqueref03_root.f 80 37 3 = some (U (rootC 37)) := by decide +kernel
theorem root_41 : barqueref03_root.f 80 41 3 = some (U (rootC 41)) := by decide +kernel
theorem root_43 : barqueref03_root.f 80 43 3 = some (U (rootC 43)) := by decide +kernel
theorem root_47 : barqueref03_root.f 80 47 3 = some (U (rootC 47)) := by decide +kernel
theorem root_53 : barqueref03_root.f 80 53 3 = some (U (rootC 53)) := by decide +kernel
theorem root_59 : barqueref03_root.f 80 59 3 = some (U (rootC 59)) := by decide +kernel
theorem root_61 : barqueref03_root.f 80 61 3 = some (U (rootC 61)) := by decide +kernel
theorem root_67 : barqueref03_root.f 80 67 3 = some (U (rootC 67)) := by decide +kernel
theorem root_71 : barqueref03_root.f 80 71 3 = some (U (rootC 71)) := by decide +kernel
theorem root_73 : barqueref03_root.f 80 73 3 = some (U (rootC 73)) := by decide +kernel
theorem root_79 : barqueref03_root.f 80 79 3 = some (U (rootC 79)) := by decide +kernel
theorem root_83 : barqueref03_root.f 80 83 3 = some (U (rootC 83)) := by decide +kernel
theorem root_89 : barqueref03_root.f 80 89 3 = some (U (rootC 89)) := by decide +kernel
theorem root_97 : barqueref03_root.f 80 97 3 = some (U (rootC 97)) := by decide +kernel
theorem root_101 : barqueref03_root.f 80 101 3 = some (U (rootC 101)) := by decide +kernel
theorem root_103 : barqueref03_root.f 80 103 3 = some (U (rootC 103)) := by decide +kernel
theorem root_107 : barqueref03_root.f 80 107 3 = some (U (rootC 107)) := by decide +kernel
theorem root_109 : barqueref03_root.f 80 109 3 = some (U (rootC 109)) := by decide +kernel
theorem root_113 : barqueref03_root.f 80 113 3 = some (U (rootC 113)) := by decide +kernel
theorem root_127 : barqueref03_root.f 80 127 3 = some (U (rootC 127)) := by decide +kernel
theorem root_131 : barqueref03_root.f 80 131 3 = some (U (rootC 131)) := by decide +kernel
theorem root_137 : barqueref03_root.f 80 137 3 = some (U (rootC 137)) := by decide +kernel
theorem root_139 : barqueref03_root.f 80 139 3 = some (U (rootC 139)) := by decide +kernel
theorem root_149 : barqueref03_root.f 80 149 3 = some (U (rootC 149)) := by decide +kernel
theorem root_151 : barqueref03_root.f 80 151 3 = some (U (rootC 151)) := by decide +kernel
theorem root_157 : barqueref03_root.f 80 157 3 = some (U (rootC 157)) := by decide +kernel
theorem root_163 : barqueref03_root.f 80 163 3 = some (U (rootC 163)) := by decide +kernel
theorem root_167 : barqueref03_root.f 80 167 3 = some (U (rootC 167)) := by decide +kernel
theorem root_173 : barqueref03_root.f 80 173 3 = some (U (rootC 173)) := by decide +kernel
theorem root_179 : barqueref03_root.f 80 179 3 = some (U (rootC 179)) := by decide +kernel
theorem root_181 : barqueref03_root.f 80 181 3 = some (U (rootC 181)) := by decide +kernel
theorem root_191 : barqueref03_root.f 80 191 3 = some (U (rootC 191)) := by decide +kernel
theorem root_193 : barqueref03_root.f 80 193 3 = some (U (rootC 193)) := by decide +kernel
theorem root_197 : barqueref03_root.f 80 197 3 = some (U (rootC 197)) := by decide +kernel
theorem root_199 : barqueref03_root.f 80 199 3 = some (U (rootC 199)) := by decide +kernel
theorem root_211 : barqueref03_root.f 80 211 3 = some (U (rootC 211)) := by decide +kernel
theorem root_223 : barqueref03_root.f 80 223 3 = some (U (rootC 223)) := by decide +kernel
theorem root_227 : barqueref03_root.f 80 227 3 = some (U (rootC 227)) := by decide +kernel
theorem root_229 : barqueref03_root.f 80 229 3 = some (U (rootC 229)) := by decide +kernel
theorem root_233 : barqueref03_root.f 80 233 3 = some (U (rootC 233)) := by decide +kernel
theorem root_239 : barqueref03_root.f 80 239 3 = some (U (rootC 239)) := by decide +kernel
theorem root_241 : barqueref03_root.f 80 241 3 = some (U (rootC 241)) := by decide +kernel
theorem root_251 : barqueref03_root.f 80 251 3 = some (U (rootC 251)) := by decide +kernel
theorem root_257 : barqueref03_root.f 80 257 3 = some (U (rootC 257)) := by decide +kernel
theorem root_263 : barqueref03_root.f 80 263 3 = some (U (rootC 263)) := by decide +kernel
theorem root_269 : barqueref03_root.f 80 269 3 = some (U (rootC 269)) := by decide +kernel
theorem root_271 : barqueref03_root.f 80 271 3 = some (U (rootC 271)) := by decide +kernel
theorem root_277 : barqueref03_root.f 80 277 3 = some (U (rootC 277)) := by decide +kernel
theorem root_281 : barqueref03_root.f 80 281 3 = some (U (rootC 281)) := by decide +kernel
theorem root_283 : barqueref03_root.f 80 283 3 = some (U (rootC 283)) := by decide +kernel
theorem root_293 : barqueref03_root.f 80 293 3 = some (U (rootC 293)) := by decide +kernel
theorem root_307 : barqueref03_root.f 80 307 3 = some (U (rootC 307)) := by decide +kernel
theorem root_311 : barqueref03_root.f 80 311 3 = some (U (rootC 311)) := by decide +kernel
theorem p64_root : ∀ p ∈ P64, barqueref03_root.f 80 (p : Int) 3 = some (U (rootC p)) :=
  List.forall_mem_cons.2 ⟨root_2, List.forall_mem_cons.2 ⟨root_3, List.forall_mem_cons.2 ⟨root_5, List.forall_mem_cons.2 ⟨root_7, List.forall_mem_cons.2 ⟨root_11, List.forall_mem_cons.2 ⟨root_13, List.forall_mem_cons.2 ⟨root_17, List.forall_mem_cons.2 ⟨root_19, List.forall_mem_cons.2 ⟨root_23, List.forall_mem_cons.2 ⟨root_29, List.forall_mem_cons.2 ⟨root_31, List.forall_mem_cons.2 ⟨root_37, List.forall_mem_cons.2 ⟨root_41, List.forall_mem_cons.2 ⟨root_43, List.forall_mem_cons.2 ⟨root_47, List.forall_mem_cons.2 ⟨root_53, List.forall_mem_cons.2 ⟨root_59, List.forall_mem_cons.2 ⟨root_61, List.forall_mem_cons.2 ⟨root_67, List.forall_mem_cons.2 ⟨root_71, List.forall_mem_cons.2 ⟨root_73, List.forall_mem_cons.2 ⟨root_79, List.forall_mem_cons.2 ⟨root_83, List.forall_mem_cons.2 ⟨root_89, List.forall_mem_cons.2 ⟨root_97, List.forall_mem_cons.2 ⟨root_101, List.forall_mem_cons.2 ⟨root_103, List.forall_mem_cons.2 ⟨root_107, List.forall_mem_cons.2 ⟨root_109, List.forall_mem_cons.2 ⟨root_113, List.forall_mem_cons.2 ⟨root_127, List.forall_mem_cons.2 ⟨root_131, List.forall_mem_cons.2 ⟨root_137, List.forall_mem_cons.2 ⟨root_139, List.forall_mem_cons.2 ⟨root_149, List.forall_mem_cons.2 ⟨root_151, List.forall_mem_cons.2 ⟨root_157, List.forall_mem_cons.2 ⟨root_163, List.forall_mem_cons.2 ⟨root_167, List.forall_mem_cons.2 ⟨root_173, List.forall_mem_cons.2 ⟨root_179, List.forall_mem_cons.2 ⟨root_181, List.forall_mem_cons.2 ⟨root_191, List.forall_mem_cons.2 ⟨root_193, List.forall_mem_cons.2 ⟨root_197, List.forall_mem_cons.2 ⟨root_199, List.forall_mem_cons.2 ⟨root_211, List.forall_mem_cons.2 ⟨root_223, List.forall_mem_cons.2 ⟨root_227, List.forall_mem_cons.2 ⟨root_229, List.forall_mem_cons.2 ⟨root_233, List.forall_mem_cons.2 ⟨root_239, List.forall_mem_cons.2 ⟨root_241, List.forall_mem_cons.2 ⟨root_251, List.forall_mem_cons.2 ⟨root_257, List.forall_mem_cons.2 ⟨root_263, List.forall_mem_cons.2 ⟨root_269, List.forall_mem_cons.2 ⟨root_271, List.forall_mem_cons.2 ⟨root_277, List.forall_mem_cons.2 ⟨root_281, List.forall_mem_cons.2 ⟨root_283, List.forall_mem_cons.2 ⟨root_293, List.forall_mem_cons.2 ⟨root_307, List.forall_mem_cons.2 ⟨root_311, fun _ h => nomatch h⟩⟩⟩⟩⟩⟩⟩⟩⟩⟩⟩⟩⟩⟩⟩⟩⟩⟩⟩⟩⟩⟩⟩⟩⟩⟩⟩⟩⟩⟩⟩⟩⟩⟩⟩⟩⟩⟩⟩⟩⟩⟩⟩⟩⟩⟩⟩⟩⟩⟩⟩⟩⟩⟩⟩⟩⟩⟩⟩⟩⟩⟩⟩⟩
theorem p64_step : ∀ t : Nat, t < 310 → P64.filter (fun p => decide (p < t + 3)) = if t + 2 ∈ P64 then P64.filter (fun p => decide (p < t + 2)) ++ [t + 2] else P64.filter (fun p => decide (p < t + 2)) := by decide +kernel
theorem p64_few : ∀ t : Nat, t < 310 → (P64.filter (fun p => decide (p < t + 2))).length < 64 := by decide +kernel
theorem p64_all : P64.filter (fun p => decide (p < 312)) = P64 := by decide +kernel
def accR (t : Nat) : List Int := (P64.filter (fun p => decide (p < t + 2))).map fun p => U (rootC p)
theorem leO_add {α : Type} {f : Nat → Option α} (h : ∀ k, LeO (f k) (f (k + 1))) {r : α} (k : Nat) (hr : f k = some r) : ∀ d, f (k + d) = some r
  | 0 => hr
  | d + 1 => h (k + d) r (leO_add h k hr d)
theorem roots_step (t k : Nat) (ht : t < 310) : barqueref03_Roots.l0 (80 + k + 1) 64 3 (accR t) ((t + 2 : Nat) : Int) = barqueref03_Roots.l0 (80 + k) 64 3 (accR (t + 1)) ((t + 3 : Nat) : Int) := by
  have hp := leO_add (fun k => barqueref03_prime.mono ((t + 2 : Nat) : Int) k) 80 (p64_prime t ht) k
  have hf := p64_few t ht
  have hs := p64_step t ht
  have hw : wrap64 (((t + 2 : Nat) : Int) + 1) = ((t + 3 : Nat) : Int) := by unfold wrap64; omega
  have hl : (accR t).length < 64 := by unfold accR; rw [List.length_map]; exact hf
  have hn : accR (t + 1) = if t + 2 ∈ P64 then accR t ++ [U (rootC (t + 2))] else accR t := by
    unfold accR
    rw [show t + 1 + 2 = t + 3 from rfl, hs]
    split
    · rw [List.map_append]; rfl
    · rfl
  rw [barqueref03_Roots.l0, if_pos (by omega), hp, Option.bind_some, hw, hn]
  by_cases hin : t + 2 ∈ P64
  · have hr := leO_add (fun k => barqueref03_root.mono ((t + 2 : Nat) : Int) 3 k) 80 (p64_root _ hin) k
    rw [if_pos (by simpa using hin), hr, Option.bind_some, if_pos (by omega), if_pos hin]
  · rw [if_neg (by simpa using hin), if_neg hin]
theorem roots_run : ∀ (d t k : Nat), t + d = 310 → barqueref03_Roots.l0 (81 + k + d) 64 3 (accR t) ((t + 2 : Nat) : Int) = some (accR 310) := by
  intro d
  induction d with
  | zero =>
    intro t k h
    obtain rfl : t = 310 := by omega
    have : (accR 310).length = 64 := by
      unfold accR
      rw [List.length_map]
      rw [show 310 + 2 = 312 from rfl, p64_all]
      rfl
    rw [show 81 + k + 0 = (80 + k) + 1 by omega, barqueref03_Roots.l0, if_neg (by omega)]
  | succ d ih =>
    intro t k h
    rw [show 81 + k + (d + 1) = 80 + (k + d + 1) + 1 by omega, roots_step t _ (by omega), show 80 + (k + d + 1) = 81 + k + d by omega]
    exact ih (t + 1) k (by omega)
theorem accR_all : accR 310 = listU 64 Kc := by
  unfold accR listU
  rw [show 310 + 2 = 312 from rfl, p64_all, ← p64_seq, List.map_map]
  rfl
theorem roots64 : barqueref03_Roots.f 391 64 3 = some (listU 64 Kc) := by
  have h := roots_run 310 0 0 rfl
  rw [accR_all] at h
  exact h
end Go.Proofs.Ytpegefcpanijhaa
end
