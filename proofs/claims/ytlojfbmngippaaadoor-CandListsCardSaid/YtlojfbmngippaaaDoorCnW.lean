/- nomenclatorlaw12.fit, and the walk of CandNames. -/
import Derived.Test.YtlojfbmngippaaaDoorCdW
namespace Go.Proofs.YtlojfbmngippaaaDoor
open Go.RowKit
set_option linter.unusedVariables false
theorem list_fit : Cd.list 1 [[98]] [97] = ([[97, 46, 98], [97]], 0) := by kernel_rfl
set_option maxRecDepth 20000 in
set_option maxHeartbeats 2000000 in
theorem fit12_any (w : World) (hT : Tabs w) :
    Calls Tryd.prog 25 #[] w fun e w' => e = .returned (.bool true) ∧ Below w.heap.size w w' := by
  have hb0 : ∀ (o : Obj), Below w.heap.size w (w.alloc o) := fun o => (Below.refl _ _).alloc (Nat.le_refl _) _
  have HT := Lib.hid hT
  clear hT
  go_enter Tryd.func25, Tryd.ntmps25
  go_wp2_with fail
  refine (list_any _ _ 1 0 0 [[98]] (Lb.str [97]) _ (HT.out.below (hb0 _) (Nat.le_refl _)) (by decide) (one_str w _ [98] _ rfl) (by decide) (by decide)).mono ?_
  rintro e w1 ⟨⟨v, rfl, hst⟩, hb1⟩
  rw [Lb.str_toList, list_fit] at hst ⊢
  have hb2 : Below w.heap.size w w1 := (hb0 _).trans (hb1.mono (by simp))
  obtain ⟨b, o, c, rfl, hbl, hc⟩ := hst.cellAt (by simp)
  have hc0 : w1.cell? ⟨b, o + 0, none⟩ = some (.string (Lb.str [97, 46, 98])) := hc 0 (by simp)
  have hc1 : w1.cell? ⟨b, o + 1, none⟩ = some (.string (Lb.str [97])) := hc 1 (by simp)
  rw [Nat.add_zero] at hc0
  obtain ⟨X, hX⟩ : ∃ X, Lb.str [97, 46, 98] = X := ⟨_, rfl⟩
  obtain ⟨Y, hY⟩ : ∃ Y, Lb.str [97] = Y := ⟨_, rfl⟩
  have hq1 : (X.toList == [97, 46, 98]) = true := by rw [← hX, Lib.toList_data]; rfl
  have hq2 : (Y.toList == [97]) = true := by rw [← hY, Lib.toList_data]; rfl
  have hd := fun W => dots_any X W (by rw [← hX]; decide)
  have hdc : X.data.toList.count 46 = 1 := by rw [← hX]; rfl
  rw [hdc] at hd
  rw [hX] at hc0
  rw [hY] at hc1
  have HD := Lib.hid hd
  clear hd hdc hX hY hc hst hb1 hb0
  rw [show (([[97, 46, 98], [97]], 0) : List Lb.Bytes × Nat).1.length = 2 from rfl, show ((([[97, 46, 98], [97]], 0) : List Lb.Bytes × Nat).2 : Int) = 0 from rfl]
  go_wp2_with fail
  refine (HD.out w1).mono ?_
  rintro e w2 ⟨rfl, rfl⟩
  rw [show ((1 : Nat) : Int) = 1 from rfl]
  go_wp2_with fail
  go_ret
  exact ⟨rfl, hb2⟩
/-- Each of the first k goes out as it is. -/
def FixTo (xs : List Lb.Bytes) (k : Nat) : Prop := ∀ j, j < k → Nm.toASCII (xs.getD j []) = (xs.getD j [], 0)
theorem FixTo.zero (xs : List Lb.Bytes) : FixTo xs 0 := fun j h => absurd h (Nat.not_lt_zero _)
theorem FixTo.next {xs : List Lb.Bytes} {k : Nat} (h : FixTo xs k) (h1 : Nm.toASCII (xs.getD k []) = (xs.getD k [], 0)) : FixTo xs (k + 1) := by
  intro j hj
  rcases Nat.lt_or_ge j k with h2 | h2
  · exact h j h2
  · obtain rfl : j = k := by omega
    exact h1
theorem FixTo.mem {xs : List Lb.Bytes} (h : FixTo xs xs.length) : ∀ d ∈ xs, Nm.toASCII d = (d, 0) := by
  intro d hd
  obtain ⟨j, hj, rfl⟩ := Nm.getD_of_mem [] hd
  exact h j hj

set_option maxRecDepth 20000 in
set_option maxHeartbeats 8000000 in
theorem candNames_any (v : Value) (xs : List Lb.Bytes) (s : ByteArray) (w : World) (hv : StrsAt w v xs) (hn : xs.length ≤ maxLen) (hx : ∀ x ∈ xs, x.length ≤ maxLen) (hs : s.size ≤ maxLen) (hT : Tabs w) :
    Calls Tryd.prog 12 #[v, .string s] w fun e w' => e = .returned (.bool true) ∧ Below w.heap.size w w' := by
  obtain ⟨Av, cv, hvs⟩ := hv.sliceAt
  have HV := Lib.hid hv
  have HX := Lib.hid hx
  have HT := Lib.hid hT
  unfold maxLen at hn hs
  obtain ⟨n, hnn⟩ : ∃ n, xs.length = n := ⟨_, rfl⟩
  rw [hnn] at hn hvs
  have HN := Lib.hid hnn
  clear hv hx hT hnn
  subst hvs
  go_enter Tryd.func12, Tryd.ntmps12
  go_wp2_with fail
  refine (fit12_any w HT.out).mono ?_
  rintro e w1 ⟨rfl, hb1⟩
  by_cases h12 : 12 < n
  · have h1 : (12 : Int) < (n : Int) := by omega
    go_wp2_with fail
    go_ret
    exact ⟨rfl, hb1⟩
  have h1 : ¬ (12 : Int) < (n : Int) := by omega
  by_cases h6 : 600 < s.size
  · have h2 : (600 : Int) < (s.size : Int) := by omega
    go_wp2_with fail
    go_ret
    exact ⟨rfl, hb1⟩
  have h2 : ¬ (600 : Int) < (s.size : Int) := by omega
  go_wp2_with fail
  go_loopw [29] (fun i wx => ∃ k : Nat, k ≤ n ∧ i = .int .i64 k ∧ Below w1.heap.size w1 wx ∧ FixTo xs k) (fun i _ => n - (intOf i).toNat)
  case atStart => exact ⟨0, Nat.zero_le _, rfl, Below.refl _ _, FixTo.zero xs⟩
  case round =>
    obtain ⟨k, hk, rfl, hbel, hfix⟩ := hrel
    have hbw := below_chain hb1 hbel (Nat.le_refl _)
    have HFIX := Lib.hid hfix
    have HTr := Lib.hid (HT.out.below hbw (Nat.le_refl _))
    clear hfix
    by_cases hlt : k < n
    · obtain ⟨b, o, c', hv, hbl, hcell⟩ := HV.out.cellAt (by intro e; have := HN.out; rw [e] at this; simp at this; omega)
      injection hv with hA hA2 hA3
      clear hA2 hA3
      subst hA
      have hcd : wr.cell? ⟨b, o + k, none⟩ = some (Lb.strV (xs.getD k [])) := (hbw.cell (p := ⟨b, o + k, none⟩) hbl).trans (hcell k (by have := HN.out; omega))
      have hds : (xs.getD k []).length ≤ maxLen := HX.out _ (getD_mem xs k [] (by have := HN.out; omega))
      obtain ⟨D, hD⟩ : ∃ D, Lb.str (xs.getD k []) = D := ⟨_, rfl⟩
      have hcD : wr.cell? ⟨b, o + k, none⟩ = some (.string D) := by rw [← hD]; exact hcd
      have HDS : Hid (D.size ≤ maxLen) := by show _ ≤ _; rw [← hD]; exact hds
      have HDD : Hid (D.data.toList = xs.getD k []) := by show _ = _; rw [← hD]; rfl
      clear hcell hcd hds hD
      go_wp2_with fail
      refine (toASCII_all D wr HTr.out HDS.out).mono ?_
      rintro e w2 ⟨rfl, hb2⟩
      have hbel2 := below_chain hbel hb2 (Nat.le_refl _)
      have hbw2 := below_chain hbw hb2 (Nat.le_refl _)
      obtain ⟨r, hr⟩ : ∃ r, Nm.toASCII D.data.toList = r := ⟨_, rfl⟩
      rw [hr]
      have HR := Lib.hid hr
      clear hr
      obtain ⟨t, c⟩ := r
      obtain ⟨T, hT⟩ : ∃ T, Lb.str t = T := ⟨_, rfl⟩
      have hq : (T.toList == D.toList) = decide (t = D.data.toList) := by
        rw [← hT, Lib.toList_data, Lib.toList_data, Lb.str_toList, Bool.eq_iff_iff]; simp
      have hqn : (T.toList != D.toList) = !(T.toList == D.toList) := rfl
      rw [show Lb.strV ((t, c) : Lb.Bytes × Nat).1 = .string T by rw [← hT]; rfl, show (((t, c) : Lb.Bytes × Nat).2 : Int) = (c : Int) from rfl]
      clear hT
      by_cases hc : c = 0
      · subst hc
        rw [show ((0 : Nat) : Int) = 0 from rfl]
        by_cases ht : t = D.data.toList
        · rw [decide_eq_true ht] at hq
          have HNX : Hid (FixTo xs (k + 1)) := HFIX.out.next (by rw [← HDD.out, HR.out, ht])
          rw [hq] at hqn
          clear ht
          simp only [Bool.not_true] at hqn
          go_wp2_with fail
          go_roundw
          case rel => exact ⟨k + 1, by omega, by go_num, hbel2, HNX.out⟩
          case measure => simp [intOf]; omega
        · rw [decide_eq_false ht] at hq
          rw [hq] at hqn
          clear ht
          simp only [Bool.not_false] at hqn
          go_wp2_with fail
          go_ret
          exact ⟨rfl, hbw2⟩
      · have hce : ((c : Int) != 0) = true := by simp; omega
        clear hq hqn hc
        go_wp2_with fail
        go_ret
        exact ⟨rfl, hbw2⟩
    · have hkn : k = xs.length := by have := HN.out; omega
      have hall : ∀ d ∈ xs, Nm.toASCII d = (d, 0) := by
        have h := HFIX.out
        rw [hkn] at h
        exact h.mem
      have hdl : ∀ d ∈ xs, d.length ≤ 253 := fun d hd => (Cd.toASCII_fix (hall d hd)).2
      have HSA := Lib.hid (HV.out.below hbw (Nat.le_refl _))
      have hlaw := fun m (h : Nm.toASCII s.data.toList = (m, 0)) => Cd.candNames_law (dots := 1) (search := xs) (s := s.data.toList) (n := m) hall h
      have herr : (Nm.toASCII s.data.toList).2 ≠ 0 → (Cd.list 1 xs s.data.toList).2 ≠ 0 := by
        intro h
        unfold Cd.list
        rw [if_pos h]; exact h
      have HLAW := Lib.hid hlaw
      have HERR := Lib.hid herr
      have HDL := Lib.hid hdl
      clear hkn hall hlaw hdl herr
      go_wp2_with fail
      refine (list_any _ _ 1 0 0 xs s wr HTr.out hs HSA.out (by have := HN.out; omega) HDL.out).mono ?_
      rintro e w2 ⟨⟨vl, rfl, hst⟩, hb2⟩
      have hbw2 := below_chain hbw hb2 (Nat.le_refl _)
      have HT2 := Lib.hid (HTr.out.below hb2 (Nat.le_refl _))
      obtain ⟨R, hR⟩ : ∃ R, Cd.list 1 xs s.data.toList = R := ⟨_, rfl⟩
      rw [hR] at hst HLAW HERR ⊢
      clear hR
      by_cases hc : (Nm.toASCII s.data.toList).2 = 0
      · obtain ⟨m, hm⟩ : ∃ m, Nm.toASCII s.data.toList = (m, 0) := ⟨_, Prod.ext rfl hc⟩
        obtain ⟨l, rfl, g1, g2, g3⟩ := HLAW.out m hm
        have HM := Lib.hid hm
        have hml : m.length ≤ 253 := (Nm.toASCII_back hm).2.2
        have HL := Lib.hid g3
        rw [show (((l, 0) : List Lb.Bytes × Nat).2 : Int) = 0 from rfl]
        obtain ⟨b2, o2, c2, rfl, hbl2, hcell2⟩ := hst.cellAt (by intro e; have e2 : l = [] := e; rw [e2] at g1; simp at g1)
        obtain ⟨nl, hnl⟩ : ∃ n, l.length = n := ⟨_, rfl⟩
        have hcell3 : ∀ j, j < nl → w2.cell? ⟨b2, o2 + j, none⟩ = some (Lb.strV (l.getD j [])) := fun j hj => hcell2 j (by show j < l.length; omega)
        rw [show ((l, 0) : List Lb.Bytes × Nat).1.length = nl from hnl]
        rw [hnl] at g1 g2
        have HNL := Lib.hid hnl
        have HC2 := Lib.hid hcell3
        have HBL2 := Lib.hid hbl2
        have g2' : nl ≤ n + 1 := by have := HN.out; omega
        clear hm hc g3 hst hcell2 hcell3 hnl hbl2 HLAW HERR g2
        go_wp2_with fail
        refine (toASCII_all s w2 HT2.out hs).mono ?_
        rintro e w3 ⟨rfl, hb3⟩
        rw [HM.out]
        have hbw3 := below_chain hbw2 hb3 (Nat.le_refl _)
        have HT3 := Lib.hid (HT2.out.below hb3 (Nat.le_refl _))
        obtain ⟨M, hM⟩ : ∃ M, Lb.str m = M := ⟨_, rfl⟩
        have HMS : Hid (M.size = m.length) := by show _ = _; rw [← hM]; rfl
        have hM253 : M.size ≤ 253 := by have := HMS.out; omega
        clear hml
        have HMD : Hid (M.data.toList = m) := by show _ = _; rw [← hM]; rfl
        rw [show Lb.strV ((m, 0) : Lb.Bytes × Nat).1 = .string M by rw [← hM]; rfl, show (((m, 0) : Lb.Bytes × Nat).2 : Int) = 0 from rfl]
        clear hM
        go_wp2_with fail
        go_loopw [62] (fun i wx => ∃ j : Nat, j ≤ nl ∧ i = .int .i64 j ∧ Below w3.heap.size w3 wx) (fun i _ => nl - (intOf i).toNat)
        case atStart => exact ⟨0, Nat.zero_le _, rfl, Below.refl _ _⟩
        case round =>
          obtain ⟨j, hj, rfl, hbel4⟩ := hrel
          have hbw4 := below_chain hbw3 hbel4 (Nat.le_refl _)
          have HT4 := Lib.hid (HT3.out.below hbel4 (Nat.le_refl _))
          by_cases hjl : j < nl
          · have hcj := (hbel4.cell (p := ⟨b2, o2 + j, none⟩) (Nat.lt_of_lt_of_le HBL2.out hb3.size)).trans ((hb3.cell (p := ⟨b2, o2 + j, none⟩) HBL2.out).trans (HC2.out j hjl))
            obtain ⟨z1, z2, z3, z4⟩ := HL.out (l.getD j []) (getD_mem l j [] (by have := HNL.out; omega))
            obtain ⟨x, hx⟩ : ∃ x, l.getD j [] = x := ⟨_, rfl⟩
            rw [hx] at hcj z1 z2 z3 z4
            obtain ⟨X, hX⟩ : ∃ X, Lb.str x = X := ⟨_, rfl⟩
            have hXs : X.size = x.length := by rw [← hX]; rfl
            have hXd : X.data.toList = x := by rw [← hX]; rfl
            have hcX : wr.cell? ⟨b2, o2 + j, none⟩ = some (.string X) := by rw [← hX]; exact hcj
            rw [← hXd] at z1
            have hXV : Lb.strV X.data.toList = .string X := by rw [hXd, ← hX]; rfl
            have hsl : ((X.extract 0 M.size).toList == M.toList) = true := by
              rw [Lib.toList_data, Lib.toList_data, Lib.extract_data, HMD.out, hXd, HMS.out, beq_iff_eq]
              exact z3
            have hsln : ((X.extract 0 M.size).toList != M.toList) = false := by show (!((X.extract 0 M.size).toList == M.toList)) = false; rw [hsl]; rfl
            have hq1 : (X.toList == X.toList) = true := by simp
            have hq2 : (X.toList != X.toList) = false := by simp
            have hle : ¬ (X.size : Int) < (M.size : Int) := by have := HMS.out; omega
            have HZ1 := Lib.hid z1
            have HXV := Lib.hid hXV
            have hX3 : X.size ≤ 253 := by omega
            have hM3 : M.size ≤ X.size := by have := HMS.out; omega
            clear hcj hx z1 z3 hX hXd hXV hXs z2 z4
            go_wp2_with fail
            refine (toASCII_all X wr HT4.out (by unfold maxLen; omega)).mono ?_
            rintro e w5 ⟨rfl, hb5⟩
            rw [HZ1.out]
            have hbel5 := below_chain hbel4 hb5 (Nat.le_refl _)
            rw [show Lb.strV (X.data.toList, 0).1 = .string X from HXV.out, show (((X.data.toList, 0) : Lb.Bytes × Nat).2 : Int) = 0 from rfl]
            go_wp2_with fail
            go_roundw
            case rel => exact ⟨j + 1, by omega, by go_num, hbel5⟩
            case measure => simp [intOf]; omega
          · have hn1 : (1 : Int) ≤ (nl : Int) := by omega
            have hn2 : (nl : Int) ≤ (n : Int) + 1 := by omega
            go_wp2_with fail
            go_ret
            exact ⟨ret_bool (by first | rfl | simp), hbw4⟩
      · obtain ⟨l, c⟩ := R
        have h0 : c ≠ 0 := HERR.out hc
        have hce : ((c : Int) != 0) = true := by simp; omega
        clear hc HERR HLAW
        go_wp2_with fail
        go_ret
        exact ⟨rfl, hbw2⟩
end Go.Proofs.YtlojfbmngippaaaDoor
