/- The walk of barquelaw17.MsgForged. -/
import Derived.Test.YtpegefcpanijhaaZH
import Derived.Test.YtpegefcpanijhaaZD
section
namespace Go.Proofs.Ytpegefcpanijhaa
set_option linter.unusedVariables false
set_option linter.unusedSimpArgs false
open Go.RowKit Go.Proofs.YtpegefcpanijhaaW.PrintWords PF

theorem infoStr9' : (Try.prog.info? 9).map (fun i => (i.zero, i.size, i.bytes)) = some (some (.string ⟨#[]⟩), 1, 16) := by kernel_rfl

theorem MsgD.small {m : MsgD} (h : rightB m = true) : m.mark.size ≤ maxLen ∧ m.ptext.size ≤ maxLen := by
  obtain ⟨-, hm, hp, -⟩ := right_zero h
  have hF := MsgD.Fit.of h
  refine ⟨?_, ?_⟩
  · by_cases h1 : Fd.m ∈ fieldsOf m.kind
    · rw [hF.mark h1]; decide
    · rw [hm h1]; decide
  · by_cases h1 : Fd.p ∈ fieldsOf m.kind
    · have := (hF.part h1).2.2.2.2
      unfold maxLen
      omega
    · rw [(hp h1).2.2]; decide

theorem conv_bytes2 (w : World) (s : ByteArray) : ∃ (w' : World) (cap : Nat) (row : Array Value) (g : Nat), g = w.heap.size ∧ (convert 9 69 (.string s)).run Try.prog w = .ok (.slice (some ⟨g, 0, none⟩) s.size cap) w' ∧ Below w.heap.size w w' ∧
    w'.heap[g]? = some (.cells row 5 (row.size, row.size + 1)) ∧ ∀ j (hj : j < s.data.size), row[j]? = some (.int .u8 (s.data[j].toNat : Int)) := by
  refine ⟨w.drew.alloc (.cells (bytesRow s (grownCap w s.size 0 5)) 5 ((bytesRow s (grownCap w s.size 0 5)).size, (bytesRow s (grownCap w s.size 0 5)).size + 1)), grownCap w s.size 0 5, bytesRow s (grownCap w s.size 0 5), w.heap.size, rfl, run_bytes_of_string w 9 69 5 s Try.underlying9 Try.underlying69 Try.underlying5, ?_, ?_, fun j hj => bytesRow_at s _ j hj⟩
  · exact ((Below.refl _ _).drew).alloc (Nat.le_refl _) _
  · show (w.heap.push _)[w.heap.size]? = _
    simp
theorem conv_back {w : World} {g cap : Nat} {cs : Array Value} {fr : Nat × Nat} (s : ByteArray) (h : w.heap[g]? = some (.cells cs 5 fr)) (hc : ∀ j (hj : j < s.data.size), cs[j]? = some (.int .u8 (s.data[j].toNat : Int))) :
    (convert 69 9 (.slice (some ⟨g, 0, none⟩) s.size cap)).run Try.prog w = .ok (.string s) w := by
  have := run_convert_bytes_back (P := Try.prog) w 69 9 5 ⟨g, 0, none⟩ cap s.data.toList Try.underlying69 Try.underlying5 Try.underlying9 (fun j hj => by
    have e1 : (⟨g, 0, none⟩ : Addr).add j = ⟨g, j, none⟩ := by unfold Addr.add; split <;> simp_all
    rw [e1, cell_of_row _ _ _ _ _ _ h]
    have hj2 : j < s.data.size := by simpa using hj
    rw [hc j hj2]
    simp)
  rw [size_list] at this
  exact this

theorem blk_setF {w : World} {g : Nat} {t : TypeId} {cs : Array Value} {fr : Nat × Nat} (h : w.heap[g]? = some (.cells cs t fr)) (i : Nat) (u : Value) : (w.setCell ⟨g, i, none⟩ u).heap[g]? = some (.cells (cs.setIfInBounds i u) t fr) := by
  simp [World.setCell, Array.getElem?_modify, h]
theorem set_row {row : Array Value} {t : ByteArray} (hrc : ∀ j (hj : j < t.data.size), row[j]? = some (.int .u8 (t.data[j].toNat : Int))) {ka : Nat} (hk : ka < t.data.size) (v : UInt8) (j : Nat) (hj : j < (t.data.set ka v hk).size) :
    (row.setIfInBounds ka (.int .u8 (v.toNat : Int)))[j]? = some (.int .u8 (((t.data.set ka v hk)[j]'hj).toNat : Int)) := by
  have hj2 : j < t.data.size := by simpa using hj
  rw [Array.getElem?_setIfInBounds]
  have hlr : ka < row.size := (Array.getElem?_eq_some_iff.1 (hrc ka hk)).1
  by_cases e : ka = j
  · subst e
    simp [hlr]
  · rw [if_neg e, hrc j hj2, Array.getElem_set_ne _ _ (by omega)]

/-- A message's cells from an address on. -/
structure MsgCells (w : World) (p : Addr) (m : MsgD) (A : Option Addr) (c : Nat) : Prop where
  e0 : w.cell? (p) = some (.int .i64 m.kind)
  e1 : w.cell? ⟨(p).block, (p).off + 1, none⟩ = some (.int .i64 m.frm)
  e2 : w.cell? ⟨(p).block, (p).off + 2, none⟩ = some (.int .i64 m.dst)
  e3 : w.cell? ⟨(p).block, (p).off + 3, none⟩ = some (.int .i64 m.ballot)
  e4 : w.cell? ⟨(p).block, (p).off + 4, none⟩ = some (.int .i64 m.gen)
  e5 : w.cell? ⟨(p).block, (p).off + 5, none⟩ = some (.int .i64 m.basis)
  e6 : w.cell? ⟨(p).block, (p).off + 6, none⟩ = some (.int .i64 m.floor)
  e7 : w.cell? ⟨(p).block, (p).off + 7, none⟩ = some (.int .i64 m.top)
  e8 : w.cell? ⟨(p).block, (p).off + 8, none⟩ = some (.int .i64 m.read)
  e9 : w.cell? ⟨(p).block, (p).off + 9, none⟩ = some (.string m.mark)
  e10 : w.cell? ⟨(p).block, (p).off + 10, none⟩ = some (.int .i64 m.pat)
  e11 : w.cell? ⟨(p).block, (p).off + 11, none⟩ = some (.int .i64 m.pof)
  e12 : w.cell? ⟨(p).block, (p).off + 12, none⟩ = some (.string m.ptext)
  e13 : w.cell? ⟨(p).block, (p).off + 13, none⟩ = some (.slice A m.list.length c)

theorem MsgsAt.cells {w : World} {A : Option Addr} {n c : Nat} {l : List (MsgD × Option Addr × Nat)} (h : MsgsAt w A n c l) {k : Nat} (hk : k < l.length) :
    ∃ a m A' c', A = some a ∧ MsgCells w (a.add (k * 14)) m A' c' ∧ MsgIn w A' c' m := by
  obtain ⟨a, ha, hc⟩ := h.cell k hk
  have e : ∀ j, 0 < j → (a.add (k * 14)).add j = ⟨(a.add (k * 14)).block, (a.add (k * 14)).off + j, none⟩ := fun j hj => (Go.Deep.add_add _ _ _).trans (Go.Proofs.YtpegefcpanijhaaW.PrintWords.add_field _ _ _ hj)
  refine ⟨a, l[k].1, l[k].2.1, l[k].2.2, ha, ⟨?_, ?_, ?_, ?_, ?_, ?_, ?_, ?_, ?_, ?_, ?_, ?_, ?_, ?_⟩, h.in_ _ (List.getElem_mem hk)⟩
  · have := hc 0 _ rfl
    simpa [Addr.add] using this
  · rw [← e 1 (by decide)]; exact hc 1 _ rfl
  · rw [← e 2 (by decide)]; exact hc 2 _ rfl
  · rw [← e 3 (by decide)]; exact hc 3 _ rfl
  · rw [← e 4 (by decide)]; exact hc 4 _ rfl
  · rw [← e 5 (by decide)]; exact hc 5 _ rfl
  · rw [← e 6 (by decide)]; exact hc 6 _ rfl
  · rw [← e 7 (by decide)]; exact hc 7 _ rfl
  · rw [← e 8 (by decide)]; exact hc 8 _ rfl
  · rw [← e 9 (by decide)]; exact hc 9 _ rfl
  · rw [← e 10 (by decide)]; exact hc 10 _ rfl
  · rw [← e 11 (by decide)]; exact hc 11 _ rfl
  · rw [← e 12 (by decide)]; exact hc 12 _ rfl
  · rw [← e 13 (by decide)]; exact hc 13 _ rfl

theorem MsgCells.below {w w' : World} {p : Addr} {m : MsgD} {A : Option Addr} {c : Nat} (h : MsgCells w p m A c) (hb : Below w.heap.size w w') : MsgCells w' p m A c :=
  ⟨pw_cell_below hb h.e0, pw_cell_below hb h.e1, pw_cell_below hb h.e2, pw_cell_below hb h.e3, pw_cell_below hb h.e4, pw_cell_below hb h.e5, pw_cell_below hb h.e6, pw_cell_below hb h.e7, pw_cell_below hb h.e8, pw_cell_below hb h.e9, pw_cell_below hb h.e10, pw_cell_below hb h.e11, pw_cell_below hb h.e12, pw_cell_below hb h.e13⟩

set_option maxHeartbeats 40000000 in
set_option maxRecDepth 100000 in
theorem msgForged_walk (w : World) (A : Option Addr) (n c : Nat) (l : List (MsgD × Option Addr × Nat)) (ask : ByteArray) (which at_ : Int) (by_ : Int) (h : MsgsAt w A n c l) (hask : ask.size ≤ 140737488351232)
    (hw1 : (Lit.int .i64 which).wf = true) (hw2 : (Lit.int .i64 at_).wf = true) (hw3 : (Lit.int .u8 by_).wf = true) :
    Calls Try.prog 18 #[.slice A n c, .string ask, .int .i64 which, .int .i64 at_, .int .u8 by_] w fun e w' => e = .returned (.bool true) ∧ Below w.heap.size w w' := by
  obtain ⟨i0, hi, hz0, hz1, hz2⟩ := info_parts infoStr9'
  have HZ0 := Lib.hid hz0; have HZ1 := Lib.hid hz1; have HZ2 := Lib.hid hz2; have HI0 := Lib.hid hi
  clear hz0 hz1 hz2 hi hw1 hw2 hw3
  have HLEN := Lib.hid h.len
  by_cases hlong : 2000 < ask.size ∨ 12 < n
  · by_cases h1 : 2000 < ask.size
    · have z1 : (2000 : Int) < (ask.size : Int) := by omega
      clear hlong
      go_enter Try.func18, Try.ntmps18
      go_wp2_with fail
      refine (awake17_to (Below.refl _ _)).mono ?_
      rintro e w1 ⟨rfl, hB⟩
      go_wp2_with fail
      go_ret
      exact ⟨rfl, hB⟩
    · have z1 : ¬ (2000 : Int) < (ask.size : Int) := by omega
      have z2 : (12 : Int) < (n : Int) := by omega
      clear hlong h1
      go_enter Try.func18, Try.ntmps18
      go_wp2_with fail
      refine (awake17_to (Below.refl _ _)).mono ?_
      rintro e w1 ⟨rfl, hB⟩
      go_wp2_with fail
      go_ret
      exact ⟨rfl, hB⟩
  have z1 : ¬ (2000 : Int) < (ask.size : Int) := by omega
  have z2 : ¬ (12 : Int) < (n : Int) := by omega
  have has : ask.size ≤ 2000 := by omega
  have hn12 : n ≤ 12 := by omega
  clear hlong hask
  go_enter Try.func18, Try.ntmps18
  go_wp2_with fail
  refine (ideal_to (W := w) (Below.refl _ _)).mono ?_
  rintro e w1 ⟨b, mm, rfl, hI, hB, hmm, hbb⟩
  go_wp2_with fail
  go_loopw [12, 13] (fun u i wr => ∃ (mv : Value) (k : Nat) (kn told : List ByteArray), u = mv ∧ k ≤ n ∧ i = .int .i64 k ∧ wr.ownsRow w.heap.size 9 1 mv told.length (told.map Value.string) ∧ IsIdeal wr b mm kn ∧ Below w.heap.size w wr ∧ kn.length ≤ k ∧ told.length ≤ k ∧ Hid (Told kn told)) (fun _ i _ => 13 - (intOf i).toNat)
  case atStart => exact ⟨_, 0, [], [], rfl, Nat.zero_le _, rfl, World.ownsRow_nil _ _ _ _, hI, hB, Nat.le_refl _, Nat.le_refl _, Lib.hid Told.nil⟩
  case round =>
    clear hI hB
    obtain ⟨mv, k, kn, told, rfl, hk, rfl, hown, hI, hB, hkn, htd, HT⟩ := hrel
    by_cases hlt : k < n
    · obtain ⟨a, m, A2, c2, rfl, hcs, hin⟩ := h.cells (k := k) (by rw [HLEN.out]; exact hlt)
      have hcs := hcs.below hB
      have hat := hin.at_.below hB
      clear hin
      obtain ⟨e0, e1, e2, e3, e4, e5, e6, e7, e8, e9, e10, e11, e12, e13⟩ := hcs
      have z3 : (k : Int) < (n : Int) := by omega
      have z4 : (0 : Int) ≤ (k : Int) := by omega
      go_wp2_with fail
      refine (few_calls hat).mono ?_
      rintro e w2 ⟨rfl, hb2⟩
      have hI2 := hI.below hb2
      have hB2 := hB.trans (hb2.mono hB.size)
      have hown2 := hown.kept (grown_of_below' hb2 (some mm)) (.inr (Ne.symm (hI.ne_row hown (by decide)).2))
      have hat2 := (hat.cut).below hb2
      clear e0 e1 e2 e3 e4 e5 e6 e7 e8 e9 e10 e11 e12 e13 hcs hat hb2 hI hown hB
      generalize cutM m = p at hat2 ⊢
      go_wp2_with fail
      rcases (Bool.eq_false_or_eq_true (rightB p)).symm with hR | hR
      · refine (bytes_bad _ hat2 hR).mono ?_
        rintro e w3 ⟨rfl, hb3⟩
        have hI3 := hI2.below hb3
        have hB3 := hB2.trans (hb3.mono hB2.size)
        have hown3 := hown2.kept (grown_of_below' hb3 (some mm)) (.inr (Ne.symm (hI2.ne_row hown2 (by decide)).2))
        go_wp2_with fail
        go_roundw
        case rel => exact ⟨_, k + 1, kn, told, rfl, by omega, by go_num, hown3, hI3, hB3, by omega, by omega, HT⟩
        case measure => simp [intOf]; omega
      · have HS := Lib.hid (HT.out.step hR)
        refine (bytes_grown hI2 (by omega) hat2 hR).mono ?_
        rintro e w3 ⟨rfl, hI3, hg3⟩
        have hown3 := hown2.kept hg3 (.inr (Ne.symm (hI2.ne_row hown2 (by decide)).2))
        have hB3 := below_of_grown hB2 hg3 hmm
        have hkn2 : (seen kn (txt p)).length ≤ k + 1 := by
          unfold seen
          split
          · omega
          · rw [List.length_append]; show _ + 1 ≤ _; omega
        clear hR hg3 hI2 hown2 hB2
        generalize txt p ++ mk (kn.idxOf (txt p) + 1) = st at HS ⊢
        generalize seen kn (txt p) = kn2 at HS hI3 hkn2
        have hb4 : w.heap.size ≤ (w3.alloc (.cells #[.string st] 9)).heap.size := by have := hB3.size; simp; omega
        go_wp2_with (at_builtin; refine wpList_append_own _ rfl (.tmp 51) (.tmp 53) 22 rfl w.heap.size 9 i0 _ 1 16 Try.underlying22 HI0.out HZ0.out HZ1.out HZ2.out rfl (by decide) _ _ _ rfl (hown3.alloc _) ⟨w3.heap.size, 0, none⟩ 1 1 [.string st] rfl rfl (cell_one_new _ _ _) (by simp [Value.oneCell']) (by unfold maxLen; omega) (by omega) hb4 ?_; intro v5 w5 hown5 hg5 _)
        have hne5 := (hI3.alloc (.cells #[.string st] 9)).ne_row (hown3.alloc (.cells #[.string st] 9)) (by decide)
        have hI5 := (hI3.alloc (.cells #[.string st] 9)).kept hg5 hne5.1 hne5.2
        have hB5 := (hB3.alloc hB3.size (.cells #[.string st] 9)).grown hg5 hb4 (fun g hg => ((hown3.alloc (.cells #[.string st] 9)).lt g hg).1)
        have hown5' : w5.ownsRow w.heap.size 9 1 v5 (told ++ [st]).length ((told ++ [st]).map Value.string) := by simpa using hown5
        go_roundw
        case rel => exact ⟨_, k + 1, kn2, told ++ [st], rfl, by omega, by go_num, hown5', hI5, hB5, hkn2, by simp; omega, HS⟩
        case measure => simp [intOf]; omega
    · obtain rfl : k = n := by omega
      have hsizes : ∀ t ∈ told, t.size ≤ maxLen := fun t ht => by have := HT.out.size ht; unfold maxLen; omega
      obtain ⟨A2, c2, rfl, hms⟩ := strs_of_row hown hsizes
      have hBw := hB
      clear hown hlt hk hB
      have z9 : ¬ (k : Int) < (k : Int) := by omega
      go_upto_region 11 with (fail)
      clear z9
      go_cut [62] from 55 to 61 (fun v wc => v = .bool (decide (0 ≤ which ∧ which < (told.length : Int))) ∧ wc = wr)
      case first =>
        by_cases hw0 : 0 ≤ which
        · by_cases hw1 : which < (told.length : Int)
          · have hd : decide (0 ≤ which ∧ which < (told.length : Int)) = true := decide_eq_true ⟨hw0, hw1⟩
            go_wp2_with fail
            go_meet
            case rel => exact ⟨congrArg Value.bool hd.symm, rfl⟩
          · have hd : decide (0 ≤ which ∧ which < (told.length : Int)) = false := decide_eq_false (fun h => hw1 h.2)
            go_wp2_with fail
            go_meet
            case rel => exact ⟨congrArg Value.bool hd.symm, rfl⟩
        · have hd : decide (0 ≤ which ∧ which < (told.length : Int)) = false := decide_eq_false (fun h => hw0 h.1)
          go_wp2_with fail
          go_meet
          case rel => exact ⟨congrArg Value.bool hd.symm, rfl⟩
      case rest =>
        obtain ⟨rfl, rfl⟩ := hcut
        generalize hq0 : wc = wq at *
        clear hq0
        go_upto_if 62 with (fail)
        go_cut [1, 16] from 62 to 86 (fun v1 v16 wz => ∃ x : ByteArray, v1 = .string x ∧ x.size ≤ 20132 ∧ Below wq.heap.size wq wz)
        case first =>
          by_cases hP : 0 ≤ which ∧ which < (told.length : Int)
          · have hd : decide (0 ≤ which ∧ which < (told.length : Int)) = true := decide_eq_true hP
            rw [hd]
            clear hd
            obtain ⟨kk, rfl⟩ := Int.eq_ofNat_of_zero_le hP.1
            obtain ⟨a, t, rfl, htm, ht, hts, hab, hc0⟩ := hms.at_ (k := kk) (by omega)
            have hsz := HT.out.size htm
            have z3 : (kk : Int) < (told.length : Int) := hP.2
            have z4 : (0 : Int) ≤ (kk : Int) := hP.1
            obtain ⟨w6, cap, row, g, hg, hcv, hb6, hrow, hrc⟩ := conv_bytes2 wq t
            have HG := Lib.hid hg
            clear hP htm ht hab hg
            by_cases ha0 : 0 ≤ at_
            · by_cases ha1 : at_ < (t.size : Int)
              · obtain ⟨ka, rfl⟩ := Int.eq_ofNat_of_zero_le ha0
                have hkd : ka < t.data.size := by show ka < t.size; omega
                have hcell : w6.cell? ⟨g, ka, none⟩ = some (.int .u8 (t.data[ka].toNat : Int)) := (cell_of_row _ _ _ _ _ _ hrow).trans (hrc ka hkd)
                have hfz : w6.frozen? ⟨g, ka, none⟩ = false := by
                  have hlr : ka < row.size := (Array.getElem?_eq_some_iff.1 (hrc ka hkd)).1
                  simp [World.frozen?, hrow]
                  omega
                have z5 : (ka : Int) < (t.size : Int) := ha1
                have z6 : (0 : Int) ≤ (ka : Int) := ha0
                clear ha0 ha1
                go_upto_region 15 with (fail)
                have hlo := Go.bits_lo_u8 .xor (t.data[ka].toNat : Int) by_
                have hhi := Go.bits_hi_u8 .xor (t.data[ka].toNat : Int) by_
                obtain ⟨v, hv⟩ : ∃ v : UInt8, Go.bits .xor .u8 (t.data[ka].toNat : Int) by_ = (v.toNat : Int) := by
                  refine ⟨UInt8.ofNat (Go.bits .xor .u8 (t.data[ka].toNat : Int) by_).toNat, ?_⟩
                  rw [UInt8.toNat_ofNat']
                  omega
                rw [hv]
                have hrow7 := blk_setF hrow ka (.int .u8 (v.toNat : Int))
                have hcv7 := conv_back (cap := cap) (⟨t.data.set ka v hkd⟩ : ByteArray) hrow7 (fun j hj => set_row hrc hkd v j hj)
                have hsz7 : (⟨t.data.set ka v hkd⟩ : ByteArray).size = t.size := by
                  show (t.data.set ka v hkd).size = t.data.size
                  simp
                rw [hsz7] at hcv7
                have hB7 : Below wq.heap.size wq (w6.setCell ⟨g, ka, none⟩ (.int .u8 (v.toNat : Int))) := hb6.setCell (Nat.le_of_eq HG.out.symm) _
                generalize w6.setCell ⟨g, ka, none⟩ (.int .u8 (v.toNat : Int)) = w7 at hcv7 hB7 ⊢
                clear hcv hrow hcell hfz hrow7 hlo hhi hv
                go_wp2_with fail
                go_meet
                case rel => exact ⟨_, rfl, by rw [hsz7]; exact hsz, hB7⟩
              · have z5 : ¬ at_ < (t.size : Int) := ha1
                have hback := conv_back (cap := cap) t hrow hrc
                go_wp2_with fail
                go_meet
                case rel => exact ⟨_, rfl, hsz, hb6⟩
            · have hback := conv_back (cap := cap) t hrow hrc
              go_wp2_with fail
              go_meet
              case rel => exact ⟨_, rfl, hsz, hb6⟩
          · have hd : decide (0 ≤ which ∧ which < (told.length : Int)) = false := decide_eq_false hP
            rw [hd]
            clear hd hP
            go_wp2_with fail
            go_meet
            case rel => exact ⟨ask, rfl, by omega, Below.refl _ _⟩
        case rest =>
          obtain ⟨x, rfl, hxs, hBx⟩ := hcut
          generalize hq1 : wc = wx at *
          clear hq1
          go_wp2_with fail
          go_loopw [17, 18] (fun u i wv => ∃ k : Nat, k ≤ told.length ∧ i = .int .i64 k ∧ u = .bool (decide (x ∈ told.take k)) ∧ wv = wx) (fun _ i _ => told.length - (intOf i).toNat)
          case atStart => exact ⟨0, Nat.zero_le _, rfl, by simp, rfl⟩
          case round =>
            obtain ⟨k, hk, rfl, rfl, rfl⟩ := hrel
            by_cases hlt : k < told.length
            · obtain ⟨a, t, rfl, htm, ht, hts, hab, hc0⟩ := hms.at_ hlt
              have hc := (hBx.cell (World.block_lt_of_cell? _ _ hc0)).trans hc0
              have z3 : (k : Int) < (told.length : Int) := by omega
              have z4 : (0 : Int) ≤ (k : Int) := by omega
              have HTK := Lib.hid (show told.take (k + 1) = told.take k ++ [t] by rw [List.take_succ_eq_append_getElem hlt, (List.getElem?_eq_some_iff.1 ht).2])
              clear hc0 ht htm
              by_cases hq : x ∈ told.take k
              · have e1 : decide (x ∈ told.take k) = true := decide_eq_true hq
                have HQ := Lib.hid (show decide (x ∈ told.take (k + 1)) = true by rw [HTK.out]; exact decide_eq_true (List.mem_append.2 (.inl hq)))
                rw [e1]
                clear hq e1
                go_wp2_with fail
                go_roundw
                case rel => exact ⟨k + 1, by omega, by go_num, by rw [HQ.out], by first | rfl | trivial⟩
                case measure => simp [intOf]; omega
              · have e1 : decide (x ∈ told.take k) = false := decide_eq_false hq
                rw [e1]
                by_cases hxt : t = x
                · subst hxt
                  have HQ := Lib.hid (show decide (t ∈ told.take (k + 1)) = true by rw [HTK.out]; exact decide_eq_true (List.mem_append.2 (.inr (by simp))))
                  clear hq e1
                  go_wp2_with fail
                  go_roundw
                  case rel => exact ⟨k + 1, by omega, by go_num, by rw [HQ.out], by first | rfl | trivial⟩
                  case measure => simp [intOf]; omega
                · have HQ := Lib.hid (show decide (x ∈ told.take (k + 1)) = false by rw [HTK.out]; exact decide_eq_false (fun h => (List.mem_append.1 h).elim hq (fun h => hxt (List.mem_singleton.1 h).symm)))
                  have e2 : (t.toList == x.toList) = false := by rw [beq_toList]; exact decide_eq_false hxt
                  clear hq e1 hxt
                  go_wp2_with fail
                  go_roundw
                  case rel => exact ⟨k + 1, by omega, by go_num, by rw [HQ.out], by first | rfl | trivial⟩
                  case measure => simp [intOf]; omega
            · obtain rfl : k = told.length := by omega
              rw [List.take_length]
              have hIx := hI.below hBx
              clear hlt hk
              by_cases hq : x ∈ told
              · obtain ⟨m, nn, hR, hsz, hext, hIsB, hsx, htk⟩ := HT.out.taken hq
                have e1 : decide (x ∈ told) = true := decide_eq_true hq
                rw [e1]
                clear hq e1
                have HSX := Lib.hid hsx
                have HSZ := Lib.hid hsz
                have HEX := Lib.hid hext
                have HIB := Lib.hid hIsB
                have HTK := Lib.hid htk
                have HRR := Lib.hid hR
                clear hsx hsz hext hIsB htk hR
                go_wp2_with fail
                refine (Of_with HSZ.out (by omega) true (fun w' => IsIdeal w' b mm kn) (fun w' hB' => ?_) (fun w1' w2' kk hkk hP hO => ?_)).mono ?_
                · refine (is_to (W := w') (hIx.below hB') (Below.refl _ _) (by rw [ByteArray.size_extract]; unfold maxLen; omega)).mono ?_
                  rintro e w'' ⟨rfl, hi, hb⟩
                  exact ⟨by rw [HIB.out], hi, hb⟩
                · have h1 := hIx.lt
                  have h2 := hIx.ltm
                  exact hP.kept (row := some kk) ⟨hO.os, hO.tape, hO.output, hO.size, fun j hj hjj => hO.block j hj (fun e => hjj (congrArg some e))⟩ (by intro e; injection e with e; omega) (by intro e; injection e with e; omega)
                rintro e w3 ⟨AA, cc, rfl, hl3, hI3, hB3⟩
                have HD := Lib.hid (show ofD true (x.extract 0 nn) = (m, 0) by
                  rw [HEX.out]
                  show readD (txt m).data.toList = _
                  have : (txt m).data.toList = bodyL m := by simp [txt]
                  rw [this]
                  exact readD_of HRR.out)
                rw [HD.out] at hl3 ⊢
                have hl3 : ListAt w3 AA cc m.list := hl3
                have hB3w := hBx.trans (hB3.mono hBx.size)
                clear hB3 hIx hBx
                go_upto_region 22 with (fail)
                change Code.wp _ _ _ _ (w3.alloc (.cells (m.cells AA cc) 44))
                have hM := heap_alloc_new w3 (.cells (m.cells AA cc) 44)
                have hI4 := hI3.alloc (.cells (m.cells AA cc) 44)
                have hl4 := hl3.below ((Below.refl w3.heap.size w3).alloc (Nat.le_refl _) (.cells (m.cells AA cc) 44))
                have hB4 := hB3w.alloc hB3w.size (.cells (m.cells AA cc) 44)
                generalize w3.alloc (.cells (m.cells AA cc) 44) = w4 at hM hI4 hl4 hB4 ⊢
                generalize w3.heap.size = M at hM ⊢
                clear hI3 hl3 hB3w
                obtain ⟨c0, c1, c2, c3, c4, c5, c6, c7, c8, c9, c10, c11, c12, c13⟩ := MsgBox.of hM
                have hsm := MsgD.small HRR.out
                go_wp2_with fail
                refine (bytes_ideal (W := w) hI4 (hBw.trans (hB4.mono hBw.size)) hmm (by omega) ⟨hsm.2, hsm.1, hl4⟩ HRR.out).mono ?_
                rintro e w5 ⟨rfl, hI5, hB5⟩
                rw [← HSX.out]
                clear c0 c1 c2 c3 c4 c5 c6 c7 c8 c9 c10 c11 c12 c13 hM hI4 hl4 hB4
                go_wp2_with fail
                refine (awake17_to hB5).mono ?_
                rintro e w9 ⟨rfl, hB9⟩
                go_wp2_with fail
                go_ret
                exact ⟨rfl, hB9⟩
              · have e1 : decide (x ∈ told) = false := decide_eq_false hq
                rw [e1]
                clear e1
                have HQ := Lib.hid hq
                clear hq
                by_cases h32 : x.size < 32
                · have z32 : (x.size : Int) < 32 := by omega
                  go_wp2_with fail
                  refine (Of_short _ _ x h32).mono ?_
                  rintro e w3 ⟨rfl, hB3⟩
                  have hB3w := hBx.trans (hB3.mono hBx.size)
                  clear hB3 hIx hBx h32
                  go_upto_region 22 with (fail)
                  change Code.wp _ _ _ _ (w3.alloc (.cells (zM.cells none 0) 44))
                  have hM := heap_alloc_new w3 (.cells (zM.cells none 0) 44)
                  have hB4 := hB3w.alloc hB3w.size (.cells (zM.cells none 0) 44)
                  generalize w3.alloc (.cells (zM.cells none 0) 44) = w4 at hM hB4 ⊢
                  generalize w3.heap.size = M at hM ⊢
                  clear hB3w
                  obtain ⟨c0, c1, c2, c3, c4, c5, c6, c7, c8, c9, c10, c11, c12, c13⟩ := MsgBox.of hM
                  go_wp2_with fail
                  refine (Same_calls (m := zM) (n := zM) (A := none) (B := none) (c := 0) (d := 0) (zM_at _).list (zM_at _).list).mono ?_
                  rintro e w5 ⟨rfl, hb⟩
                  rw [sameD_true rfl]
                  have hB5 := hB4.trans (hb.mono hB4.size)
                  clear c0 c1 c2 c3 c4 c5 c6 c7 c8 c9 c10 c11 c12 c13 hM hb hB4
                  go_wp2_with fail
                  refine (awake17_to (hBw.trans (hB5.mono hBw.size))).mono ?_
                  rintro e w9 ⟨rfl, hB9⟩
                  go_wp2_with fail
                  go_ret
                  exact ⟨rfl, hB9⟩
                · have z32 : ¬ (x.size : Int) < 32 := by omega
                  obtain ⟨nn, hsz⟩ : ∃ nn, x.size = nn + 32 := ⟨x.size - 32, by omega⟩
                  have hIB := HT.out.not HQ.out nn hsz
                  have HSZ := Lib.hid hsz
                  have HIB := Lib.hid hIB
                  clear hsz hIB h32
                  go_wp2_with fail
                  refine (Of_with HSZ.out (by omega) false (fun w' => True) (fun w' hB' => ?_) (fun w1' w2' kk hkk hP hO => trivial)).mono ?_
                  · refine (is_to (W := w') (hIx.below hB') (Below.refl _ _) (by rw [ByteArray.size_extract]; unfold maxLen; omega)).mono ?_
                    rintro e w'' ⟨rfl, hi, hb⟩
                    exact ⟨by rw [HIB.out], trivial, hb⟩
                  rintro e w3 ⟨AA, cc, rfl, hl3, -, hB3⟩
                  have hl3 : ListAt w3 AA cc zM.list := hl3
                  have hB3w := hBx.trans (hB3.mono hBx.size)
                  clear hB3 hIx hBx
                  go_upto_region 22 with (fail)
                  change Code.wp _ _ _ _ (w3.alloc (.cells (zM.cells AA cc) 44))
                  have hM := heap_alloc_new w3 (.cells (zM.cells AA cc) 44)
                  have hl4 := hl3.below ((Below.refl w3.heap.size w3).alloc (Nat.le_refl _) (.cells (zM.cells AA cc) 44))
                  have hB4 := hB3w.alloc hB3w.size (.cells (zM.cells AA cc) 44)
                  generalize w3.alloc (.cells (zM.cells AA cc) 44) = w4 at hM hl4 hB4 ⊢
                  generalize w3.heap.size = M at hM ⊢
                  clear hB3w hl3
                  obtain ⟨c0, c1, c2, c3, c4, c5, c6, c7, c8, c9, c10, c11, c12, c13⟩ := MsgBox.of hM
                  go_wp2_with fail
                  refine (Same_calls (m := zM) (n := zM) (A := AA) (B := none) (c := cc) (d := 0) hl4 (zM_at _).list).mono ?_
                  rintro e w5 ⟨rfl, hb⟩
                  rw [sameD_true rfl]
                  have hB5 := hB4.trans (hb.mono hB4.size)
                  clear c0 c1 c2 c3 c4 c5 c6 c7 c8 c9 c10 c11 c12 c13 hM hb hB4
                  go_wp2_with fail
                  refine (awake17_to (hBw.trans (hB5.mono hBw.size))).mono ?_
                  rintro e w9 ⟨rfl, hB9⟩
                  go_wp2_with fail
                  go_ret
                  exact ⟨rfl, hB9⟩
end Go.Proofs.Ytpegefcpanijhaa
end
