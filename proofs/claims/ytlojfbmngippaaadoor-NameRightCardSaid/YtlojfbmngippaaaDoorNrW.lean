/- The walk of NameRight. -/
import Derived.Test.YtlojfbmngippaaaDoorFit
import Derived.Test.YtlojfbmngippaaaDoorNbW
namespace Go.Proofs.YtlojfbmngippaaaDoor
open Go.RowKit
set_option linter.unusedVariables false
theorem countByte_46 (l : Lb.Bytes) : Lib.countByte l 46 = l.count 46 := by
  unfold Lib.countByte
  first | rfl | (rw [List.count_eq_countP, List.countP_eq_length_filter])
theorem dots_any (s : ByteArray) (w : World) (hs : s.size ≤ 1000000) :
    Calls Tryd.prog 23 #[.string s] w fun e w' => e = .returned (.int .i64 (s.data.toList.count 46)) ∧ w = w' := by
  have hcb := Tryd.strings_Count_one s 46 w
  rw [countByte_46] at hcb
  obtain ⟨c, hc⟩ : ∃ c, s.data.toList.count 46 = c := ⟨_, rfl⟩
  rw [hc] at hcb ⊢
  have HCB := Lib.hid hcb
  clear hc hcb
  go_enter Tryd.func23, Tryd.ntmps23
  go_wp2_with fail
  refine HCB.out.mono ?_
  rintro e w' ⟨rfl, rfl⟩
  go_wp2_with fail
  go_ret
  exact ⟨rfl, rfl⟩
set_option maxRecDepth 20000 in
set_option maxHeartbeats 4000000 in
theorem nameRight_any (s : ByteArray) (hs : s.size ≤ maxLen) (w : World) (hT : Tabs w) :
    Calls Tryd.prog 10 #[.string s] w fun e w' => e = .returned (.bool true) ∧ Below w.heap.size w w' := by
  unfold maxLen at hs
  go_enter Tryd.func10, Tryd.ntmps10
  go_wp2_with fail
  refine (fit_any w hT).mono ?_
  rintro e w1 ⟨rfl, hb1⟩
  by_cases h9 : 1500 < s.size
  · have h1 : (1500 : Int) < (s.size : Int) := by omega
    go_wp2_with fail
    go_ret
    exact ⟨rfl, hb1⟩
  have h1 : ¬ (1500 : Int) < (s.size : Int) := by omega
  have HT1 := Lib.hid (hT.below hb1 (Nat.le_refl _))
  have HLAW := Lib.hid (fun t h => Nm.nameRight_law (s := s.data.toList) (t := t) h)
  clear hT
  go_wp2_with fail
  refine (toASCII_any s w1 HT1.out (by omega)).mono ?_
  rintro e w2 ⟨rfl, hb2⟩
  have hb3 := below_chain hb1 hb2 (Nat.le_refl _)
  obtain ⟨r1, hr1⟩ : ∃ r, Nm.toASCII s.data.toList = r := ⟨_, rfl⟩
  rw [hr1] at HLAW ⊢
  clear hr1
  obtain ⟨t, c⟩ := r1
  by_cases h0 : c = 0
  · subst h0
    obtain ⟨l1, l2, l3, l4⟩ := HLAW.out t rfl
    obtain ⟨T, hTt⟩ : ∃ T, Lb.str t = T := ⟨_, rfl⟩
    have hTd : T.data.toList = t := by rw [← hTt]; rfl
    have hTs : T.size ≤ 253 := by rw [← hTt]; exact l2
    rw [show ((Lb.strV ((t, 0) : Lb.Bytes × Nat).1)) = .string T by rw [← hTt]; rfl, show (((t, 0) : Lb.Bytes × Nat).2 : Int) = 0 from rfl]
    have hcnt := Lb.split_length_le t
    have hlowT : Hid (Lb.strV (Lb.lower T.data.toList) = .string T) := by show _ = _; rw [hTd, l3, ← hTt]; rfl
    rw [← hTd] at l1 l4 hcnt
    have hz : T.data.toList.length = T.size := rfl
    rw [hz] at hcnt
    have L1 := Lib.hid l1
    have L4 := Lib.hid l4
    have hnn : 0 < (Lb.split T.data.toList).length := by
      rcases Nat.eq_zero_or_pos (Lb.split T.data.toList).length with e | e
      · exact absurd (List.eq_nil_of_length_eq_zero e) (Lb.split_ne_nil _)
      · exact e
    clear HLAW l1 l2 l3 l4 hTt hTd hz
    go_wp2_with fail
    refine (split_any T w2 (by omega)).mono ?_
    rintro e w3 ⟨va, rfl, howna, hb4⟩
    have hb5 := below_chain hb3 hb4 (Nat.le_refl _)
    have hsa := strsAt_of_own howna
    clear howna
    obtain ⟨xs, hxs⟩ : ∃ xs, Lb.split T.data.toList = xs := ⟨_, rfl⟩
    rw [hxs] at hsa hcnt hnn L1
    rcases hsa with ⟨e, _⟩ | ⟨ba, oa, ca2, e, hba, hca⟩
    · rw [e] at hnn; exact absurd hnn (Nat.lt_irrefl _)
    subst e
    obtain ⟨n, hn⟩ : ∃ n, xs.length = n := ⟨_, rfl⟩
    rw [hn] at hca hcnt hnn ⊢
    have HCA := Lib.hid hca
    have HN := Lib.hid hn
    have HBA := Lib.hid hba
    have hxl : Hid (∀ k, k < n → (xs.getD k []).length ≤ 253) := by
      intro k hk
      have h1 := Lb.join_elem_le xs k (by omega)
      rw [← hxs, Lb.join_split] at h1
      have h2 : T.data.toList.length = T.size := rfl
      rw [← hxs]
      omega
    clear hca hn hba hxs
    go_wp2_with fail
    go_loop [22, 6] (fun i _ => ∃ k : Nat, k ≤ n ∧ i = .int .i64 k) (fun i _ => n - (intOf i).toNat)
    case atStart => exact ⟨0, Nat.zero_le _, rfl⟩
    case round =>
      obtain ⟨k, hk, rfl⟩ := hrel
      by_cases hlt : k < n
      · have hcellA : w3.cell? ⟨ba, oa + k, none⟩ = some (Lb.strV (xs.getD k [])) := HCA.out k hlt
        have hr := L1.out (xs.getD k []) (getD_mem xs k [] (by have := HN.out; omega))
        have hpl := hxl.out k hlt
        obtain ⟨p, hp⟩ : ∃ p, xs.getD k [] = p := ⟨_, rfl⟩
        rw [hp] at hcellA hr hpl
        obtain ⟨X, hX⟩ : ∃ X, Lb.str p = X := ⟨_, rfl⟩
        have hXd : X.data.toList = p := by rw [← hX]; rfl
        have hXs : X.size ≤ 1000000 := by rw [← hX]; show p.length ≤ _; omega
        have hcA : w3.cell? ⟨ba, oa + k, none⟩ = some (.string X) := by rw [← hX]; exact hcellA
        rw [← hXd] at hr
        have HR := Lib.hid hr
        have HXS := Lib.hid hXs
        clear hcellA hp hX hXd hr hXs hpl
        go_wp2_with fail
        refine (right_any X w3 HXS.out).mono ?_
        rintro e w4 ⟨rfl, rfl⟩
        rw [HR.out]
        go_wp2_with fail
        go_round
        case rel => exact ⟨k + 1, by omega, by go_num⟩
        case measure => simp [intOf]; omega
      · have h253 : (T.size : Int) ≤ 253 := by omega
        go_wp2_with fail
        refine (lower_any T w3 (by omega)).mono ?_
        rintro e w4 ⟨rfl, hb6⟩
        rw [hlowT.out]
        have hb7 := below_chain hb5 hb6 (Nat.le_refl _)
        have hq : (T.toList == T.toList) = true := by simp
        go_wp2_with fail
        refine (dots_any T w4 (by omega)).mono ?_
        rintro e w5 ⟨rfl, rfl⟩
        have hcle : T.data.toList.count 46 ≤ 253 := Nat.le_trans List.count_le_length (by show T.size ≤ 253; omega)
        have h4 := L4.out
        obtain ⟨c4, hc4⟩ : ∃ c, T.data.toList.count 46 = c := ⟨_, rfl⟩
        obtain ⟨c5, hc5⟩ : ∃ c, Lb.count T.data.toList = c := ⟨_, rfl⟩
        have HC5 := Lib.hid hc5
        rw [hc4, hc5] at h4
        rw [hc4] at hcle ⊢
        subst h4
        clear hc4 hc5
        go_wp2_with fail
        refine (count_any T w4 (by omega)).mono ?_
        rintro e w5 ⟨rfl, hb8⟩
        have hb9 := below_chain hb7 hb8 (Nat.le_refl _)
        rw [HC5.out]
        have hq2 : ((c4 : Int) + 1 == ((c4 + 1 : Nat) : Int)) = true := by simp
        go_wp2_with fail
        go_ret
        exact ⟨ret_bool (by first | rfl | simp), hb9⟩
  · have hce2 : ((c : Int) != 0) = true := by simp; omega
    clear HLAW h0
    obtain ⟨T, hTt⟩ : ∃ T, Lb.str t = T := ⟨_, rfl⟩
    rw [show ((Lb.strV ((t, c) : Lb.Bytes × Nat).1)) = .string T by rw [← hTt]; rfl, show (((t, c) : Lb.Bytes × Nat).2 : Int) = (c : Int) from rfl]
    clear hTt
    go_wp2_with fail
    go_ret
    exact ⟨rfl, hb3⟩
end Go.Proofs.YtlojfbmngippaaaDoor
