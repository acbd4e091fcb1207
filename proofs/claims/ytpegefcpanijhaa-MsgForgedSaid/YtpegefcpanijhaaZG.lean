/- The reference's Body: a message's bytes without their mark, as the plain law says. -/
import Derived.Test.YtpegefcpanijhaaF7
import Derived.Test.YtpegefcpanijhaaZD
import Derived.Test.YtpegefcpanijhaaZE
section
namespace Go.Proofs.Ytpegefcpanijhaa
set_option linter.unusedVariables false
set_option linter.unusedSimpArgs false
open Go.RowKit Go.Proofs.YtpegefcpanijhaaW.PrintWords PF

abbrev bts (l : List UInt8) : ByteArray := ⟨l.toArray⟩
theorem bts_append (a b : List UInt8) : bts a ++ bts b = bts (a ++ b) := by
  apply ByteArray.ext
  simp [bts]
theorem bts_size (a : List UInt8) : (bts a).size = a.length := by
  show a.toArray.size = _
  simp
theorem bts_self (s : ByteArray) : bts s.data.toList = s := rfl
theorem append_bts (a : List UInt8) (s : ByteArray) : bts a ++ s = bts (a ++ s.data.toList) := bts_append a s.data.toList

theorem str_bts (l : List UInt8) : strOfNums (l.map fun b => (b.toNat : Int)) = bts l := by
  apply ByteArray.ext
  apply Array.toList_inj.1
  rw [strOfNums_data]
  simp [bts, List.map_map, Function.comp_def]

theorem num_l0 : ∀ (j k q : Nat) (acc : List UInt8), 1 ≤ j → q < 128 ^ j → j ≤ k → q < 2 ^ 62 → acc.length + j ≤ 100 →
    barqueref01_Num.l0 k (q : Int) (acc.map fun b => (b.toNat : Int)) = some (bts (acc ++ numF j q), 0) := by
  intro j
  induction j with
  | zero =>
    intro k q acc h0
    exact absurd h0 (by decide)
  | succ j ih =>
    intro k q acc h0 h1 h2 h3 h4
    obtain ⟨k, rfl⟩ : ∃ f, k = f + 1 := ⟨k - 1, by omega⟩
    by_cases hq : 127 < q
    · rw [barqueref01_Num.l0, if_pos (by omega), if_pos (by rw [List.length_map]; omega), numF_more hq]
      have e1 : wrap64 (Int.tdiv (q : Int) 128) = ((q / 128 : Nat) : Int) := by
        have : Int.tdiv (q : Int) 128 = ((q / 128 : Nat) : Int) := rfl
        rw [this, w64 (by omega) (by omega)]
      have hj : 1 ≤ j := by
        rcases Nat.eq_zero_or_pos j with rfl | h
        · simp at h1; omega
        · exact h
      have e2 : (wrap64 (Int.tmod (q : Int) 128 + 128)) % 256 = (((q % 128 + 128).toUInt8.toNat : Nat) : Int) := by
        rw [toUInt8_small (by omega)]
        have : Int.tmod (q : Int) 128 = ((q % 128 : Nat) : Int) := rfl
        rw [this, w64 (by omega) (by omega)]
        omega
      rw [e1, e2]
      have e3 : (acc.map fun b => (b.toNat : Int)) ++ [(((q % 128 + 128).toUInt8.toNat : Nat) : Int)] = ((acc ++ [(q % 128 + 128).toUInt8]).map fun b => (b.toNat : Int)) := by simp
      rw [e3, ih k (q / 128) (acc ++ [(q % 128 + 128).toUInt8]) hj (by rw [Nat.pow_succ] at h1; omega) (by omega) (by omega) (by simp; omega)]
      simp
    · rw [barqueref01_Num.l0, if_neg (by omega), if_pos (by rw [List.length_map]; omega), numF_last hq]
      have e2 : (q : Int) % 256 = ((q.toUInt8.toNat : Nat) : Int) := by rw [toUInt8_small (by omega)]; omega
      rw [e2]
      have e3 : (acc.map fun b => (b.toNat : Int)) ++ [((q.toUInt8.toNat : Nat) : Int)] = ((acc ++ [q.toUInt8]).map fun b => (b.toNat : Int)) := by simp
      rw [e3, str_bts]

theorem bytes_f {q : Int} (h0 : 0 ≤ q) (h1 : q ≤ 4611686018427387903) (k : Nat) (hk : 12 ≤ k) : barqueref01_Bytes.f k q = some (bts (numL q.toNat)) := by
  obtain ⟨k, rfl⟩ : ∃ f, k = f + 1 := ⟨k - 1, by omega⟩
  obtain ⟨n, rfl⟩ := Int.eq_ofNat_of_zero_le h0
  unfold barqueref01_Bytes.f barqueref01_Num.f
  rw [if_neg (by omega), show decide ((n : Int) > 4611686018427387903) = false from decide_eq_false (by omega), barqueref01_Num.j0, if_neg (by decide)]
  have h9 : (128 : Nat) ^ 9 = 9223372036854775808 := by decide
  have := num_l0 9 k n [] (by decide) (by omega) (by omega) (by omega) (by decide)
  rw [show ([] : List Int) = ([] : List UInt8).map fun b => (b.toNat : Int) from rfl, this]
  rfl
theorem text_f {s : ByteArray} (h : s.size ≤ 1024) (k : Nat) (hk : 12 ≤ k) : barqueref01_Text.f k s = some (bts (numL s.size ++ s.data.toList), 0) := by
  unfold barqueref01_Text.f
  have hb := bytes_f (q := (s.size : Int)) (Int.natCast_nonneg _) (by omega) k hk
  rw [if_neg (by omega), hb, Int.toNat_natCast]
  have hl := numL_length s.size
  show (if (bts (numL s.size)).size + s.size ≤ 9223372036854775807 then some (bts (numL s.size) ++ s, (0 : Int)) else none) = _
  rw [if_pos (by rw [bts_size]; omega), append_bts]

abbrev bl (k : Nat) (out s : ByteArray) (i : Int) (m : MsgD) : Option ByteArray := barqueref17_Body.l0 k out s i m.kind m.frm m.dst m.ballot m.gen m.basis m.floor m.top m.read m.mark m.pat m.pof m.ptext m.list
abbrev bm (k : Nat) (out s : ByteArray) (i e : Int) (m : MsgD) : Option ByteArray := barqueref17_Body.l1 k out s i e m.kind m.frm m.dst m.ballot m.gen m.basis m.floor m.top m.read m.mark m.pat m.pof m.ptext m.list

theorem bm_val (m : MsgD) (s : ByteArray) (i : Int) (pre : List UInt8) (hp : pre.length ≤ 30000) (hl : m.list.length ≤ 64) (hL : ∀ x ∈ m.list, 0 ≤ x.f0 ∧ x.f0 ≤ 4611686018427387903 ∧ 0 ≤ x.f1 ∧ x.f1 ≤ 4611686018427387903 ∧ x.f2.size = 32) :
    ∀ (e j k : Nat), j + e = m.list.length → 12 ≤ k → bm (k + e + 1) (bts (pre ++ (m.list.take j).flatMap entL)) s i j m = bl k (bts (pre ++ m.list.flatMap entL)) s (wrap64 (i + 1)) m := by
  intro e
  induction e with
  | zero =>
    intro j k h1 h2
    have : m.list.take j = m.list := List.take_of_length_le (by omega)
    rw [this]
    conv => lhs; unfold bm; rw [barqueref17_Body.l1]
    rw [if_neg (by omega)]
  | succ e ih =>
    intro j k h1 h2
    have hj : j < m.list.length := by omega
    have he : rd_T80 m.list (j : Int) = m.list[j] := by
      unfold rd_T80
      rw [Int.toNat_natCast, List.getD_eq_getElem?_getD, List.getElem?_eq_getElem hj]
      rfl
    obtain ⟨q0, q1, q2, q3, q4⟩ := hL _ (List.getElem_mem hj)
    have hw : wrap64 ((j : Int) + 1) = ((j + 1 : Nat) : Int) := by
      rw [w64 (by omega) (by omega)]
      omega
    have hpl : ((m.list.take j).flatMap entL).length ≤ 64 * 50 := by
      have : ∀ l : List S80, (∀ x ∈ l, (entL x).length ≤ 50) → (l.flatMap entL).length ≤ l.length * 50 := by
        intro l
        induction l with
        | nil => intro _; simp
        | cons x l ih => intro h; have h1 := h x (by simp); have h2 := ih (fun y hy => h y (by simp [hy])); simp only [List.flatMap_cons, List.length_append, List.length_cons]; omega
      have h3 := this (m.list.take j) (fun x hx => by
        have h4 := hL x (List.mem_of_mem_take hx)
        have h5 := numL_length x.f0.toNat
        have h6 := numL_length x.f1.toNat
        have h7 : x.f2.data.toList.length = x.f2.size := by rw [Array.length_toList]; rfl
        unfold entL
        simp only [List.length_append]
        omega)
      have : (m.list.take j).length ≤ 64 := by rw [List.length_take]; omega
      omega
    have n0 := numL_length m.list[j].f0.toNat
    have n1 := numL_length m.list[j].f1.toNat
    have ht : m.list.take (j + 1) = m.list.take j ++ [m.list[j]] := List.take_succ_eq_append_getElem hj
    have goal : bm (k + (e + 1) + 1) (bts (pre ++ (m.list.take j).flatMap entL)) s i j m = bm (k + e + 1) (bts (pre ++ (m.list.take (j + 1)).flatMap entL)) s i ((j + 1 : Nat) : Int) m := by
      conv => lhs; unfold bm; rw [barqueref17_Body.l1]
      rw [if_pos (by omega), if_pos (by omega), he, bytes_f q0 q1 _ (by omega)]
      show (if _ then ((barqueref01_Bytes.f _ _).bind _) else none) = _
      rw [if_pos (by simp only [bts_size, List.length_append]; omega), bytes_f q2 q3 _ (by omega)]
      show (if _ then (if _ then _ else none) else none) = _
      rw [if_pos (by simp only [bts_append, bts_size, List.length_append]; omega), if_pos (by simp only [bts_append, bts_size, List.length_append, q4]; omega), hw]
      have e5 : (m.list.take (j + 1)).flatMap entL = (m.list.take j).flatMap entL ++ (numL m.list[j].f0.toNat ++ (numL m.list[j].f1.toNat ++ m.list[j].f2.data.toList)) := by
        rw [ht, List.flatMap_append]
        simp [entL]
      rw [bts_append, bts_append, append_bts, e5]
      simp only [List.append_assoc]
      rfl
    rw [goal]
    exact ih (j + 1) k (by omega) h2

theorem bt_up {l : List Fd} {j : Nat} {x : Fd} (h : l[j]? = some x) : bt (bytesUp l) (j : Int) = (x.up.toNat : Int) := by
  have hj : j < l.length := (List.getElem?_eq_some_iff.1 h).1
  refine bt_drop (r := ((l.map Fd.up).drop (j + 1))) ?_
  show ((l.map Fd.up).toArray.toList.drop j) = _
  have : (l.map Fd.up)[j]? = some x.up := by simp [h]
  obtain ⟨h1, h2⟩ := List.getElem?_eq_some_iff.1 this
  rw [List.toList_toArray, List.drop_eq_getElem_cons h1, h2]
theorem up_size (l : List Fd) : (bytesUp l).size = l.length := by simp [bytesUp, ByteArray.size]

theorem Fields_is200 (k : Nat) (hk : 5 ≤ k) (n : Int) : barqueref17_Fields.f k n = some (bytesUp (fieldsOf n)) := by
  induction k with
  | zero => omega
  | succ k ih =>
    rcases Nat.lt_or_ge k 5 with h | h
    · obtain rfl : k = 4 := by omega
      exact Fields_is n
    · exact barqueref17_Fields.mono n k _ (ih h)

theorem num_f (m : MsgD) (x : Fd) (hx : x ∈ six) : barqueref17_number.f m.kind m.frm m.dst m.ballot m.gen m.basis m.floor m.top m.read m.mark m.pat m.pof m.ptext m.list (x.up.toNat : Int) = some (m.num x) := by
  cases x <;> first | rfl | (exact absurd hx (by decide))

theorem bl_val {m : MsgD} (hF : m.Fit) : ∀ (d j k : Nat), j + d = (fieldsOf m.kind).length → 14 + 80 * d ≤ k → bl k (bts (preL m j)) (bytesUp (fieldsOf m.kind)) (j : Int) m = some (bts (bodyL m)) := by
  intro d
  have hfs := fields_short m.kind
  induction d with
  | zero =>
    intro j k h1 h2
    obtain ⟨k, rfl⟩ : ∃ f, k = f + 1 := ⟨k - 1, by omega⟩
    obtain rfl : j = (fieldsOf m.kind).length := by omega
    unfold bl
    rw [barqueref17_Body.l0, if_neg (by rw [up_size]; omega)]
    rfl
  | succ d ih =>
    intro j k h1 h2
    obtain ⟨k, rfl⟩ : ∃ f, k = f + 1 := ⟨k - 1, by omega⟩
    have hj : j < (fieldsOf m.kind).length := by omega
    obtain ⟨x, hx⟩ : ∃ x, (fieldsOf m.kind)[j]? = some x := ⟨_, List.getElem?_eq_getElem hj⟩
    have hm := List.mem_of_getElem? hx
    have hw : wrap64 ((j : Int) + 1) = ((j + 1 : Nat) : Int) := by
      rw [w64 (by omega) (by omega)]
      omega
    have hpl := preL_length hF j (by omega)
    have hps := preL_succ hx
    have hb := bt_up hx
    have head : bl (k + 1) (bts (preL m j)) (bytesUp (fieldsOf m.kind)) (j : Int) m = bl k (bts (preL m (j + 1))) (bytesUp (fieldsOf m.kind)) ((j + 1 : Nat) : Int) m ∨
        ∃ k', 14 + 80 * d ≤ k' ∧ bl (k + 1) (bts (preL m j)) (bytesUp (fieldsOf m.kind)) (j : Int) m = bl k' (bts (preL m (j + 1))) (bytesUp (fieldsOf m.kind)) ((j + 1 : Nat) : Int) m := by
      have hnum : x ∈ six → fieldL m x = numL (m.num x).toNat → (¬ (x.up.toNat : Int) = 77 ∧ ¬ (x.up.toNat : Int) = 80 ∧ ¬ (x.up.toNat : Int) = 76) → bl (k + 1) (bts (preL m j)) (bytesUp (fieldsOf m.kind)) (j : Int) m = bl k (bts (preL m (j + 1))) (bytesUp (fieldsOf m.kind)) ((j + 1 : Nat) : Int) m := by
        intro h6 hf hne
        have hn := hF.num x h6 hm
        have hl := numL_length (m.num x).toNat
        conv => lhs; unfold bl; rw [barqueref17_Body.l0]
        rw [if_pos (by rw [up_size]; omega), if_pos (by omega), hb, if_neg hne.1, if_neg hne.2.1, if_neg hne.2.2, num_f m x h6]
        show ((barqueref01_Bytes.f k (m.num x)).bind _) = _
        rw [bytes_f hn.1 hn.2 k (by omega)]
        show (if _ then _ else none) = _
        rw [if_pos (by simp only [bts_size]; omega), hw, bts_append, hps, hf]
      cases x
      case m =>
        left
        have hk := hF.mark hm
        conv => lhs; unfold bl; rw [barqueref17_Body.l0]
        rw [if_pos (by rw [up_size]; omega), if_pos (by omega), hb, if_pos (by decide), if_pos (by rw [bts_size]; omega), hw, append_bts, hps]
        rfl
      case p =>
        left
        obtain ⟨p1, p2, p3, p4, p5⟩ := hF.part hm
        have l1 := numL_length m.pat.toNat
        have l2 := numL_length m.pof.toNat
        have l3 := numL_length m.ptext.size
        have l4 : m.ptext.data.toList.length = m.ptext.size := by rw [Array.length_toList]; rfl
        conv => lhs; unfold bl; rw [barqueref17_Body.l0]
        rw [if_pos (by rw [up_size]; omega), if_pos (by omega), hb, if_neg (by decide), if_pos (by decide), text_f p5 k (by omega)]
        show ((barqueref01_Bytes.f k m.pat).bind _) = _
        rw [bytes_f p1 (by omega) k (by omega)]
        show (if _ then ((barqueref01_Bytes.f k m.pof).bind _) else none) = _
        rw [if_pos (by simp only [bts_size]; omega), bytes_f p3 (by omega) k (by omega)]
        show (if _ then (if _ then _ else none) else none) = _
        rw [if_pos (by simp only [bts_append, bts_size, List.length_append]; omega), if_pos (by simp only [bts_append, bts_size, List.length_append]; omega), hw, bts_append, bts_append, bts_append, hps]
        simp only [fieldL, List.append_assoc]
      case l =>
        right
        obtain ⟨q1, q2⟩ := hF.list hm
        have l1 := numL_length m.list.length
        refine ⟨k - m.list.length - 1, by omega, ?_⟩
        conv => lhs; unfold bl; rw [barqueref17_Body.l0]
        rw [if_pos (by rw [up_size]; omega), if_pos (by omega), hb, if_neg (by decide), if_neg (by decide), if_pos (by decide), bytes_f (Int.natCast_nonneg _) (by omega) k (by omega), Int.toNat_natCast]
        show (if _ then _ else none) = _
        rw [if_pos (by simp only [bts_size]; omega), bts_append]
        have hv := bm_val m (bytesUp (fieldsOf m.kind)) (j : Int) (preL m j ++ numL m.list.length) (by simp only [List.length_append]; omega) q1 q2 m.list.length 0 (k - m.list.length - 1) (by omega) (by omega)
        have ek : k - m.list.length - 1 + m.list.length + 1 = k := by omega
        rw [ek] at hv
        simp only [List.take_zero, List.flatMap_nil, List.append_nil] at hv
        refine hv.trans ?_
        rw [hw, hps]
        simp only [fieldL, List.append_assoc]
      all_goals exact .inl (hnum (by decide) rfl (by decide))
    rcases head with h | ⟨k', hk', h⟩
    · rw [h]
      exact ih (j + 1) k (by omega) (by omega)
    · rw [h]
      exact ih (j + 1) k' (by omega) hk'

theorem body_f {m : MsgD} (hF : m.Fit) (k : Nat) (hk : 420 ≤ k) : barqueref17_Body.f k m.kind m.frm m.dst m.ballot m.gen m.basis m.floor m.top m.read m.mark m.pat m.pof m.ptext m.list = some (txt m) := by
  have hkd := kind_le m.kind hF.some_
  have h1 := hF.frm
  have h2 := hF.dst
  have l1 := numL_length m.kind.toNat
  have l2 := numL_length m.frm.toNat
  have l3 := numL_length m.dst.toNat
  have hfs := fields_short m.kind
  unfold barqueref17_Body.f
  rw [bytes_f hkd.1 (by omega) k (by omega)]
  show ((barqueref01_Bytes.f k m.frm).bind _) = _
  rw [bytes_f h1.1 (by omega) k (by omega)]
  show (if _ then ((barqueref01_Bytes.f k m.dst).bind _) else none) = _
  rw [if_pos (by simp only [bts_size]; omega), bytes_f h2.1 (by omega) k (by omega)]
  show (if _ then ((barqueref17_Fields.f k m.kind).bind _) else none) = _
  rw [if_pos (by simp only [bts_append, bts_size, List.length_append]; omega), Fields_is200 k (by omega), bts_append, bts_append]
  have hv := bl_val hF (fieldsOf m.kind).length 0 k (by omega) (by omega)
  have e0 : preL m 0 = numL m.kind.toNat ++ numL m.frm.toNat ++ numL m.dst.toNat := by simp [preL]
  rw [e0] at hv
  exact hv

theorem Body_calls {m : MsgD} {A : Option Addr} {c : Nat} {w : World} (hR : rightB m = true) (hL : ListAt w A c m.list) :
    Calls Try.prog 37 #[.agg (m.cells A c)] w fun e w' => e = .returned (.string (txt m)) ∧ Below w.heap.size w w' :=
  barqueref17_Body.calls 600 _ _ _ _ _ _ _ _ _ _ _ _ _ A c m.list _ w hL.cells hL.le (body_f (MsgD.Fit.of hR) 600 (by decide))
end Go.Proofs.Ytpegefcpanijhaa
end
