/- The walk of NameReads. -/
import Derived.Test.YtlojfbmngippaaaDoorFit
import Derived.Test.YtlojfbmngippaaaDoorNbW
import Derived.Deep.QuietTactic
import Derived.BigQuiet
namespace Go.Proofs.YtlojfbmngippaaaDoor
open Go.RowKit
set_option linter.unusedVariables false
theorem below_drewN2 {B : Nat} {a w : World} (h : Below B a w) (n : Nat) : Below B a (w.drewN n) := h.trans ⟨rfl, rfl, rfl, Nat.le_refl _, fun _ _ => rfl⟩
theorem pre4 (s : Lb.Bytes) (h : 4 ≤ s.length) : Lib.hasPrefix s Nm.xn = (s.take 4 == Nm.xn) := by
  unfold Lib.hasPrefix
  rw [Bool.eq_iff_iff, List.isPrefixOf_iff_prefix, List.prefix_iff_eq_take, beq_iff_eq]
  exact ⟨fun e => e.symm, fun e => e.symm⟩
set_option maxRecDepth 20000 in
set_option maxHeartbeats 4000000 in
theorem nameReads_any (s : ByteArray) (hs : s.size ≤ maxLen) (w : World) (hT : Tabs w) :
    Calls Tryd.prog 8 #[.string s] w fun e w' => e = .returned (.bool true) ∧ Below w.heap.size w w' := by
  unfold maxLen at hs
  go_enter Tryd.func8, Tryd.ntmps8
  go_wp2_with fail
  refine (fit_any w hT).mono ?_
  rintro e w1 ⟨rfl, hb1⟩
  by_cases h9 : 900 < s.size
  · have h1 : (900 : Int) < (s.size : Int) := by omega
    go_wp2_with fail
    go_ret
    exact ⟨rfl, hb1⟩
  have h1 : ¬ (900 : Int) < (s.size : Int) := by omega
  have HT1 := Lib.hid (hT.below hb1 (Nat.le_refl _))
  have HOK := Lib.hid (Nm.toUnicode_ok (s := s.data.toList))
  have HERR := Lib.hid (fun h => Nm.toUnicode_err (s := s.data.toList) h)
  have HLAW := Lib.hid (fun h => Nm.nameReads_law (s := s.data.toList) h)
  clear hT
  go_wp2_with fail
  refine (toUnicode_any s w1 HT1.out (by omega)).mono ?_
  rintro e w2 ⟨rfl, hb2⟩
  have hb3 := below_chain hb1 hb2 (Nat.le_refl _)
  have HT2 := Lib.hid (HT1.out.below hb2 (Nat.le_refl _))
  obtain ⟨r1, hr1⟩ : ∃ r, Nm.toUnicode s.data.toList = r := ⟨_, rfl⟩
  rw [hr1] at HOK HERR HLAW ⊢
  clear hr1
  obtain ⟨u, c1⟩ := r1
  simp only at HOK HERR HLAW ⊢
  obtain ⟨U, hU⟩ : ∃ U, Lb.str u = U := ⟨_, rfl⟩
  have HU : Hid (U.data.toList = u) := by show _ = _; rw [← hU]; rfl
  rw [show Lb.strV u = .string U by rw [← hU]; rfl]
  clear hU
  go_wp2_with fail
  refine (toASCII_any s w2 HT2.out (by omega)).mono ?_
  rintro e w3 ⟨rfl, hb4⟩
  have hb5 := below_chain hb3 hb4 (Nat.le_refl _)
  obtain ⟨r2, hr2⟩ : ∃ r, Nm.toASCII s.data.toList = r := ⟨_, rfl⟩
  rw [hr2] at HOK ⊢
  clear hr2
  obtain ⟨t, c2⟩ := r2
  simp only at HOK ⊢
  obtain ⟨T, hT⟩ : ∃ T, Lb.str t = T := ⟨_, rfl⟩
  have hTs : (T.toList == s.toList) = decide (t = s.data.toList) := by rw [← hT, Lib.toList_data, Lib.toList_data, Lb.str_toList, Bool.eq_iff_iff]; simp
  rw [show Lb.strV t = .string T by rw [← hT]; rfl]
  clear hT
  by_cases h0 : c1 = 0
  · subst h0
    have hts := HOK.out.1 rfl
    injection hts with ht hc
    subst hc
    rw [decide_eq_true ht] at hTs
    rw [show ((0 : Nat) : Int) = 0 from rfl]
    obtain ⟨ts, xs, l1, l2, l3, l4, l5⟩ := HLAW.out rfl
    have hUs : U.size ≤ 506 := by
      have : U.size = u.length := by rw [← HU.out]; rfl
      omega
    have L1 := Lib.hid l1
    have L2 := Lib.hid l2
    have L3 := Lib.hid l3
    have L5 := Lib.hid l5
    clear l1 l2 l3 l4 l5 ht HOK HERR HLAW
    go_wp2_with fail
    refine (split_any s w3 (by omega)).mono ?_
    rintro e w4 ⟨va, rfl, howna, hb6⟩
    have hb7 := below_chain hb5 hb6 (Nat.le_refl _)
    rw [L1.out] at howna
    have hsa := strsAt_of_own howna
    obtain ⟨A1, ca, rfl⟩ := own_len howna
    have HSA := Lib.hid hsa
    clear howna hsa
    go_wp2_with fail
    refine (split_any U w4 (by omega)).mono ?_
    rintro e w5 ⟨vb, rfl, hownb, hb8⟩
    have hb9 := below_chain hb7 hb8 (Nat.le_refl _)
    rw [HU.out, L2.out] at hownb
    have hsb := strsAt_of_own hownb
    obtain ⟨A2, cb, rfl⟩ := own_len hownb
    have hsa2 := HSA.out.below hb8 (Nat.le_refl _)
    have hn0 : 0 < ts.length := by
      rcases Nat.eq_zero_or_pos ts.length with e | e
      · exact absurd (List.eq_nil_of_length_eq_zero e) (by rw [← L1.out]; exact Lb.split_ne_nil _)
      · exact e
    have hnl : ts.length ≤ s.size + 1 := by rw [← L1.out]; exact Lb.split_length_le _
    rcases hsa2 with ⟨e, _⟩ | ⟨ba, oa, ca2, e, hba, hca⟩
    · rw [e] at hn0; exact absurd hn0 (Nat.lt_irrefl _)
    rcases hsb with ⟨e2, _⟩ | ⟨bb, ob, cb2, e2, hbb, hcb⟩
    · have h3 := L3.out; rw [e2] at h3; rw [h3] at hn0; exact absurd hn0 (Nat.lt_irrefl _)
    rw [e, e2]
    rw [← L3.out] at hcb ⊢
    obtain ⟨n, hn⟩ : ∃ n, ts.length = n := ⟨_, rfl⟩
    rw [hn] at hca hcb hnl hn0 L5 ⊢
    have HCA := Lib.hid hca
    have HCB := Lib.hid hcb
    have HN := Lib.hid hn
    have HBA := Lib.hid hba
    have HBB := Lib.hid hbb
    clear hca hcb hn hba hbb e e2 hownb
    go_wp2_with fail
    go_loopw [51] (fun i wx => ∃ k : Nat, k ≤ n ∧ i = .int .i64 k ∧ Below w5.heap.size w5 wx) (fun i _ => n - (intOf i).toNat)
    case atStart => exact ⟨0, Nat.zero_le _, rfl, Below.refl _ _⟩
    case round =>
      obtain ⟨k, hk, rfl, hbel⟩ := hrel
      by_cases hlt : k < n
      · have hcellA : wr.cell? ⟨ba, oa + k, none⟩ = some (Lb.strV (ts.getD k [])) := (hbel.cell (p := ⟨ba, oa + k, none⟩) HBA.out).trans (HCA.out k hlt)
        have hcellB : wr.cell? ⟨bb, ob + k, none⟩ = some (Lb.strV (xs.getD k [])) := (hbel.cell (p := ⟨bb, ob + k, none⟩) HBB.out).trans (HCB.out k hlt)
        have h5 := L5.out k hlt
        obtain ⟨p, hp⟩ : ∃ p, ts.getD k [] = p := ⟨_, rfl⟩
        obtain ⟨q, hq⟩ : ∃ q, xs.getD k [] = q := ⟨_, rfl⟩
        rw [hp] at hcellA h5
        rw [hq] at hcellB h5
        obtain ⟨X, hX⟩ : ∃ X, Lb.str p = X := ⟨_, rfl⟩
        obtain ⟨Y, hY⟩ : ∃ Y, Lb.str q = Y := ⟨_, rfl⟩
        have hXY : (X.toList == Y.toList) = decide (p = q) := by rw [← hX, ← hY, Lib.toList_data, Lib.toList_data, Lb.str_toList, Lb.str_toList, Bool.eq_iff_iff]; simp
        have hXs : X.size = p.length := by rw [← hX]; rfl
        have hcA : wr.cell? ⟨ba, oa + k, none⟩ = some (.string X) := by rw [← hX]; exact hcellA
        have hcB : wr.cell? ⟨bb, ob + k, none⟩ = some (.string Y) := by rw [← hY]; exact hcellB
        have hsl : 4 < p.length → ((X.extract 0 4).toList == [120, 110, 45, 45]) = Lib.hasPrefix p Nm.xn := by
          intro h4
          rw [pre4 p (by omega), Lib.toList_data, Lib.extract_data, ← hX]
          rfl
        clear hcellA hcellB hp hq hX hY
        rcases h5 with ⟨g1, g2, g3⟩ | ⟨g1, g2⟩
        · have hs4 := hsl g1
          rw [g2] at hs4
          rw [decide_eq_false g3] at hXY
          have g4 : (4 : Int) < (X.size : Int) := by omega
          clear hsl g2 g3
          go_wp2_with fail
          go_quiet (fail)
          go_wp2_with fail
          go_roundw
          case rel => exact ⟨k + 1, by omega, by go_num, below_drewN2 hbel _⟩
          case measure => simp [intOf]; omega
        · rw [decide_eq_true g2] at hXY
          by_cases h4 : 4 < p.length
          · have hs4 := hsl h4
            rw [g1] at hs4
            have g4 : (4 : Int) < (X.size : Int) := by omega
            clear hsl g1 g2
            go_wp2_with fail
            go_quiet (fail)
            go_wp2_with fail
            go_roundw
            case rel => exact ⟨k + 1, by omega, by go_num, below_drewN2 hbel _⟩
            case measure => simp [intOf]; omega
          · have g4 : ¬ (4 : Int) < (X.size : Int) := by omega
            clear hsl g1 g2 h4
            go_wp2_with fail
            go_quiet (fail)
            go_wp2_with fail
            go_roundw
            case rel => exact ⟨k + 1, by omega, by go_num, below_drewN2 hbel _⟩
            case measure => simp [intOf]; omega
      · have hb10 := below_chain hb9 hbel (Nat.le_refl _)
        go_wp2_with fail
        go_ret
        exact ⟨rfl, hb10⟩
  · have hce : ((c1 : Int) == 0) = false := by simp; omega
    have hce2 : ((c1 : Int) != 0) = true := by simp; omega
    have hu0 := HERR.out h0
    have hU0 : U.toList.isEmpty = true := by rw [Lib.toList_data, HU.out, hu0]; rfl
    by_cases h2 : c2 = 0
    · have hne : t ≠ s.data.toList := fun e => h0 (HOK.out.2 (by rw [e, h2]))
      rw [decide_eq_false hne] at hTs
      subst h2
      rw [show ((0 : Nat) : Int) = 0 from rfl]
      clear HOK HERR HLAW hne hu0 h0
      go_wp2_with fail
      go_ret
      exact ⟨ret_bool (by first | rfl | simp), hb5⟩
    · have hce3 : ((c2 : Int) == 0) = false := by simp; omega
      clear HOK HERR HLAW hu0 h0 h2 hTs
      go_wp2_with fail
      go_ret
      exact ⟨ret_bool (by first | rfl | simp), hb5⟩
end Go.Proofs.YtlojfbmngippaaaDoor
