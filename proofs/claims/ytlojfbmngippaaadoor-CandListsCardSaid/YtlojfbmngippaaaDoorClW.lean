/- The walk of CandLists. -/
import Derived.Test.YtlojfbmngippaaaDoorCdD
import Derived.Test.YtlojfbmngippaaaDoorCm
import Derived.WalkSpells
namespace Go.Proofs.YtlojfbmngippaaaDoor
open Go.RowKit
set_option linter.unusedVariables false
/-- All names so far: the name itself, if it is tried early; then with the first k search domains. -/
def allK (early : Bool) (xs : List Lb.Bytes) (n : Lb.Bytes) (k : Nat) : List Lb.Bytes := (if early then [n] else []) ++ ((xs.take k).map fun d => n ++ 46 :: d)
theorem allK_snoc (early : Bool) (xs : List Lb.Bytes) (n : Lb.Bytes) (k : Nat) (h : k < xs.length) : allK early xs n (k + 1) = allK early xs n k ++ [n ++ 46 :: xs.getD k []] := by
  unfold allK; rw [take_snoc xs k [] h, List.map_append, ← List.append_assoc]; rfl
theorem allK_end (early : Bool) (xs : List Lb.Bytes) (n : Lb.Bytes) : allK early xs n xs.length ++ [n] = Cd.all early xs n := by
  unfold allK Cd.all; rw [List.take_length]
theorem allK_len (early : Bool) (xs : List Lb.Bytes) (n : Lb.Bytes) (k : Nat) : (allK early xs n k).length ≤ xs.length + 1 := by
  unfold allK
  have h2 : (if early = true then [n] else []).length ≤ 1 := by cases early <;> simp
  have h3 : (xs.take k).length ≤ xs.length := List.length_take_le' _ _
  simp only [List.length_append, List.length_map]
  omega
theorem allK_small {early : Bool} {xs : List Lb.Bytes} {n : Lb.Bytes} (hn : n.length ≤ 253) (hx : ∀ d ∈ xs, d.length ≤ 253) : ∀ x ∈ Cd.all early xs n, x.length ≤ 507 := by
  intro x hx2
  unfold Cd.all at hx2
  rcases List.mem_append.1 hx2 with h | h
  · rcases List.mem_append.1 h with h | h
    · split at h
      · simp only [List.mem_singleton] at h; subst h; omega
      · cases h
    · obtain ⟨d, hd, rfl⟩ := List.mem_map.1 h
      have := hx d hd
      simp only [List.length_append, List.length_cons]; omega
  · simp only [List.mem_singleton] at h; subst h; omega
theorem suf_lastC {s : Lb.Bytes} (h : (s.getD (s.length - 1) 0).toNat ≠ 46) : Lib.hasSuffix s [46] = false := by
  cases hh : Lib.hasSuffix s [46] with
  | false => rfl
  | true =>
    exfalso
    unfold Lib.hasSuffix at hh
    obtain ⟨t, rfl⟩ := List.isSuffixOf_iff_suffix.1 hh
    apply h
    rw [List.length_append, List.getD_eq_getElem?_getD, List.getElem?_append_right (by simp)]
    simp
/-- A row from block nb + 1 on does not lie in block nb. -/
theorem own_not {w : World} (nb : Nat) {e n : Nat} {v : Value} {xs : List Value} (h : w.ownsRow (nb + 1) e 1 v n xs) : v.ownBlock = none ∨ v.ownBlock ≠ some nb := by
  right
  intro e
  exact absurd (own_base_le h e) (Nat.not_succ_le_self nb)
theorem set_kept {w' wz : World} {nb n e N : Nat} {v : Value} {ks : List Lb.Bytes} {xs : List Value} {o : Obj} (h : SetAt w' nb n ks) (hown : w'.ownsRow (nb + 1) e 1 v N xs) (hg : (w'.alloc o).grownBy wz v.ownBlock) : SetAt wz nb n ks := by
  refine World.ownsMap.kept (World.ownsMap.alloc h o) hg ?_
  intro e
  rcases own_not nb hown with h2 | h2
  · rw [h2] at e; cases e
  · exact h2 e.symm
/-- What is wanted of the first k. -/
def wantK (l : List Lb.Bytes) (k : Nat) : List Lb.Bytes := (l.take k).foldl Cd.addL []
theorem wantK_snoc (l : List Lb.Bytes) (k : Nat) (h : k < l.length) : wantK l (k + 1) = Cd.addL (wantK l k) (l.getD k []) := by
  unfold wantK; rw [take_snoc l k [] h, List.foldl_append]; rfl
theorem wantK_end (l : List Lb.Bytes) (k : Nat) (h : l.length ≤ k) : wantK l k = l.foldl Cd.addL [] := by
  unfold wantK; rw [List.take_of_length_le h]
theorem wantK_len (l : List Lb.Bytes) (k : Nat) : (wantK l k).length ≤ k := by
  have := Cd.foldl_len (l.take k) []
  have h2 : (l.take k).length ≤ k := List.length_take_le _ _
  unfold wantK
  simp only [List.length_nil] at this
  omega
/-- What an append to a row of the call's own leaves. -/
theorem own_facts {w wz : World} {B0 L c0 : Nat} {v' u : Value} {A0 : Option Addr} {xs : List Value} {o : Obj} (hB : B0 ≤ w.heap.size) (hown : w.ownsRow B0 9 1 (.slice A0 L c0) L xs)
    (hown' : wz.ownsRow B0 9 1 v' (L + 1) (xs ++ [u])) (hgrow : (w.alloc o).grownBy wz (Value.ownBlock (.slice A0 L c0))) :
    (∃ A5 c5, v' = .slice A5 (L + 1) c5) ∧ Below B0 w wz := by
  have h0 : Below B0 w (w.alloc o) := (((Below.refl w.heap.size w).alloc (Nat.le_refl _) o).mono hB)
  exact ⟨own_len hown', h0.grown hgrow (by simp; omega) (fun g hg => own_base_le hown hg)⟩

set_option maxRecDepth 20000 in
set_option maxHeartbeats 16000000 in
theorem candLists_any (dots : Int) (v : Value) (xs : List Lb.Bytes) (s : ByteArray) (w : World) (hdots : -9223372036854775808 ≤ dots ∧ dots ≤ 9223372036854775807) (hv : StrsAt w v xs) (hn : xs.length ≤ maxLen) (hx : ∀ x ∈ xs, x.length ≤ maxLen) (hs : s.size ≤ maxLen) (hT : Tabs w) :
    Calls Tryd.prog 11 #[.int .i64 dots, v, .string s] w fun e w' => e = .returned (.bool true) ∧ Below w.heap.size w w' := by
  obtain ⟨i0, hi, hz0, hz1, hz2⟩ := info_parts str_info
  obtain ⟨Av, cv, hvs⟩ := hv.sliceAt
  have HV := Lib.hid hv
  have HX := Lib.hid hx
  have HT := Lib.hid hT
  have HSZ : Hid (s.size ≤ maxLen) := hs
  have hmm := @run_makeMap Tryd.prog
  unfold maxLen at hn hs
  obtain ⟨n, hnn⟩ : ∃ n, xs.length = n := ⟨_, rfl⟩
  rw [hnn] at hn hvs
  have HN := Lib.hid hnn
  clear hv hx hT hnn
  subst hvs
  go_enter Tryd.func11, Tryd.ntmps11
  go_wp2_with fail
  refine (fit12_any w HT.out).mono ?_
  rintro e w1 ⟨rfl, hb1⟩
  by_cases h12 : 12 < n
  · have h1 : (12 : Int) < (n : Int) := by omega
    go_wp2_with fail
    go_ret
    exact ⟨rfl, hb1⟩
  have h1 : ¬ (12 : Int) < (n : Int) := by omega
  by_cases h6 : 600 < s.size
  · have h2 : (600 : Int) < (s.size : Int) := by omega
    go_wp2_with fail
    go_ret
    exact ⟨rfl, hb1⟩
  have h2 : ¬ (600 : Int) < (s.size : Int) := by omega
  go_wp2_with fail
  go_loopw [36] (fun i wx => ∃ k : Nat, k ≤ n ∧ i = .int .i64 k ∧ Below w1.heap.size w1 wx ∧ FixTo xs k) (fun i _ => n - (intOf i).toNat)
  case atStart => exact ⟨0, Nat.zero_le _, rfl, Below.refl _ _, FixTo.zero xs⟩
  case round =>
    obtain ⟨k, hk, rfl, hbel, hfix⟩ := hrel
    have hbw := below_chain hb1 hbel (Nat.le_refl _)
    have HFIX := Lib.hid hfix
    have HTr := Lib.hid (HT.out.below hbw (Nat.le_refl _))
    clear hfix
    by_cases hlt : k < n
    · obtain ⟨b, o, c', hv, hbl, hcell⟩ := HV.out.cellAt (by intro e; have := HN.out; rw [e] at this; simp at this; omega)
      injection hv with hA hA2 hA3
      clear hA2 hA3
      subst hA
      have hcd : wr.cell? ⟨b, o + k, none⟩ = some (Lb.strV (xs.getD k [])) := (hbw.cell (p := ⟨b, o + k, none⟩) hbl).trans (hcell k (by have := HN.out; omega))
      have hds : (xs.getD k []).length ≤ maxLen := HX.out _ (getD_mem xs k [] (by have := HN.out; omega))
      obtain ⟨D, hD⟩ : ∃ D, Lb.str (xs.getD k []) = D := ⟨_, rfl⟩
      have hcD : wr.cell? ⟨b, o + k, none⟩ = some (.string D) := by rw [← hD]; exact hcd
      have HDS : Hid (D.size ≤ maxLen) := by show _ ≤ _; rw [← hD]; exact hds
      have HDD : Hid (D.data.toList = xs.getD k []) := by show _ = _; rw [← hD]; rfl
      clear hcell hcd hds hD
      go_wp2_with fail
      refine (toASCII_all D wr HTr.out HDS.out).mono ?_
      rintro e w2 ⟨rfl, hb2⟩
      have hbel2 := below_chain hbel hb2 (Nat.le_refl _)
      have hbw2 := below_chain hbw hb2 (Nat.le_refl _)
      obtain ⟨r, hr⟩ : ∃ r, Nm.toASCII D.data.toList = r := ⟨_, rfl⟩
      rw [hr]
      have HR := Lib.hid hr
      clear hr
      obtain ⟨t, c⟩ := r
      obtain ⟨T, hT⟩ : ∃ T, Lb.str t = T := ⟨_, rfl⟩
      have hq : (T.toList == D.toList) = decide (t = D.data.toList) := by
        rw [← hT, Lib.toList_data, Lib.toList_data, Lb.str_toList, Bool.eq_iff_iff]; simp
      have hqn : (T.toList != D.toList) = !(T.toList == D.toList) := rfl
      rw [show Lb.strV ((t, c) : Lb.Bytes × Nat).1 = .string T by rw [← hT]; rfl, show (((t, c) : Lb.Bytes × Nat).2 : Int) = (c : Int) from rfl]
      clear hT
      by_cases hc : c = 0
      · subst hc
        rw [show ((0 : Nat) : Int) = 0 from rfl]
        by_cases ht : t = D.data.toList
        · rw [decide_eq_true ht] at hq
          have HNX : Hid (FixTo xs (k + 1)) := HFIX.out.next (by rw [← HDD.out, HR.out, ht])
          rw [hq] at hqn
          clear ht
          simp only [Bool.not_true] at hqn
          go_wp2_with fail
          go_roundw
          case rel => exact ⟨k + 1, by omega, by go_num, hbel2, HNX.out⟩
          case measure => simp [intOf]; omega
        · rw [decide_eq_false ht] at hq
          rw [hq] at hqn
          clear ht
          simp only [Bool.not_false] at hqn
          go_wp2_with fail
          go_ret
          exact ⟨rfl, hbw2⟩
      · have hce : ((c : Int) != 0) = true := by simp; omega
        clear hq hqn hc
        go_wp2_with fail
        go_ret
        exact ⟨rfl, hbw2⟩
    · have hkn : k = xs.length := by have := HN.out; omega
      have hall : ∀ d ∈ xs, Nm.toASCII d = (d, 0) := by
        have h := HFIX.out
        rw [hkn] at h
        exact h.mem
      have HDL := Lib.hid (fun d hd => (Cd.toASCII_fix (hall d hd)).2)
      have HSA := Lib.hid (HV.out.below hbw (Nat.le_refl _))
      have hbC : Below w.heap.size w (wr.alloc (.cells #[.slice none 0 0, .slice Av n cv, .int .i64 dots, .int .i64 0, .int .i64 0] 39)) := hbw.alloc hbw.size _
      have HSA2 := Lib.hid (HV.out.below hbC (Nat.le_refl _))
      have HT2 := Lib.hid (HT.out.below hbC (Nat.le_refl _))
      have HXN : Hid (xs.length ≤ 900) := by show _ ≤ _; have := HN.out; omega
      obtain ⟨LS, hLS⟩ : ∃ LS, Cd.list dots xs s.data.toList = LS := ⟨_, rfl⟩
      have HLS := Lib.hid hLS
      clear hall hLS hkn HFIX
      go_wp2_with fail
      with_reducible refine (list_any _ _ _ _ _ xs s _ HT2.out HSZ.out HSA2.out HXN.out HDL.out).mono ?_
      rintro e w2 ⟨⟨vl, rfl, hst⟩, hb2⟩
      have hbw2 := hbC.trans (hb2.mono hbC.size)
      have HT3 := Lib.hid (HT2.out.below hb2 (Nat.le_refl _))
      rw [HLS.out] at hst ⊢
      obtain ⟨l, cl⟩ := LS
      obtain ⟨Al, cll, hvl⟩ := hst.sliceAt
      have HST := Lib.hid hst
      have HVL := Lib.hid hvl
      subst hvl
      clear hst hb2 HSA2 HT2 hbC
      go_wp2_with fail
      with_reducible refine (toASCII_all s w2 HT3.out HSZ.out).mono ?_
      rintro e w3 ⟨rfl, hb3⟩
      have hbw3 := below_chain hbw2 hb3 (Nat.le_refl _)
      have HST3 := Lib.hid (HST.out.below hb3 (Nat.le_refl _))
      have HT4 := Lib.hid (HT3.out.below hb3 (Nat.le_refl _))
      obtain ⟨r, hr⟩ : ∃ r, Nm.toASCII s.data.toList = r := ⟨_, rfl⟩
      have hL2 : (if r.2 ≠ 0 then ([], r.2) else if Lib.hasSuffix s.data.toList [46] then ([r.1], 0) else (Cd.cands (decide (dots ≤ (r.1.count 46 : Nat))) xs r.1, 0)) = (l, cl) := by rw [← hr]; exact HLS.out
      have hn253 : r.2 = 0 → r.1.length ≤ 253 ∧ 0 < s.size := by
        intro h
        obtain ⟨h1, _, h3⟩ := Nm.toASCII_back (s := s.data.toList) (t := r.1) (by rw [hr]; exact Prod.ext rfl h)
        refine ⟨h3, ?_⟩
        rcases Nat.eq_zero_or_pos s.size with e | e
        · exfalso
          have e2 : s.data.toList = [] := List.eq_nil_of_length_eq_zero e
          rw [e2] at hr
          rw [← hr] at h
          exact absurd h (by rw [show Nm.toASCII [] = ([], 1) by kernel_rfl]; decide)
        · exact e
      rw [hr]
      clear hr
      obtain ⟨m, c⟩ := r
      simp only at hL2 hn253 ⊢
      obtain ⟨M, hM⟩ : ∃ M, Lb.str m = M := ⟨_, rfl⟩
      have HMD : Hid (M.data.toList = m) := by show _ = _; rw [← hM]; rfl
      have HMV : Hid (Lb.strV m = .string M) := by show _ = _; rw [← hM]; rfl
      have hMs : M.size = m.length := by rw [← hM]; rfl
      rw [HMV.out]
      clear hM HLS HST HVL hb3
      by_cases hc : c = 0
      · subst hc
        rw [if_neg (by simp)] at hL2
        obtain ⟨hm253, hs0⟩ := hn253 rfl
        have hM253 : M.size ≤ 253 := by omega
        rw [show ((0 : Nat) : Int) = 0 from rfl]
        have HL2 := Lib.hid hL2
        clear hn253 hMs hm253 hL2
        by_cases hdot : s[s.size - 1].toNat = 46
        · have hsf : Lib.hasSuffix s.data.toList [46] = true := by
            have hb : s.data.toList[s.size - 1]? = some 46 := by rw [byte_at s (s.size - 1) (by omega)]; exact congrArg some (UInt8.toNat_inj.1 hdot)
            unfold Lib.hasSuffix
            rw [List.isSuffixOf_iff_suffix]
            refine ⟨s.data.toList.take (s.size - 1), ?_⟩
            have hl : s.data.toList.length = s.size := rfl
            conv => rhs; rw [← List.take_append_drop (s.size - 1) s.data.toList]
            rw [List.drop_eq_getElem_cons (by omega), List.drop_eq_nil_of_le (by omega)]
            rw [List.getElem?_eq_getElem (by omega)] at hb
            injection hb with hb
            rw [hb]
          have h46 : ((s[s.size - 1].toNat : Int) == 46) = true := by simp; omega
          have hl : l = [m] ∧ cl = 0 := by
            have h := HL2.out
            rw [if_pos hsf] at h
            injection h with h1 h2
            exact ⟨h1.symm, h2.symm⟩
          obtain ⟨rfl, rfl⟩ := hl
          obtain ⟨b2, o2, c2, hv2, hbl2, hcell2⟩ := HST3.out.cellAt (by simp)
          have hm0 : w3.cell? ⟨b2, o2, none⟩ = some (.string M) := by
            have h := hcell2 0 (by simp)
            rw [Nat.add_zero] at h
            rw [h, ← HMV.out]; rfl
          injection hv2 with e1 e2 e3
          subst e1
          clear e2 e3 hcell2 hdot hsf
          rw [show (([m], 0) : List Lb.Bytes × Nat).1.length = 1 from rfl, show ((([m], 0) : List Lb.Bytes × Nat).2 : Int) = 0 from rfl]
          have hq : (M.toList == M.toList) = true := by simp
          go_wp2_with fail
          go_ret
          exact ⟨ret_bool (by first | rfl | simp), hbw3⟩
        · have h46 : ((s[s.size - 1].toNat : Int) == 46) = false := by simp; omega
          have hsf : Lib.hasSuffix s.data.toList [46] = false := by
            refine suf_lastC ?_
            show (s.data.toList.getD (s.size - 1) 0).toNat ≠ 46
            have hbz : s.data.toList.getD (s.size - 1) 0 = s[s.size - 1] := by rw [List.getD_eq_getElem?_getD, byte_at s (s.size - 1) (by omega)]; rfl
            rw [hbz]; exact hdot
          have hl : l = Cd.cands (decide (dots ≤ (m.count 46 : Nat))) xs m ∧ cl = 0 := by
            have h := HL2.out
            rw [hsf, if_neg (by decide)] at h
            injection h with h1 h2
            exact ⟨h1.symm, h2.symm⟩
          obtain ⟨hl1, rfl⟩ := hl
          rw [show ((l, 0) : List Lb.Bytes × Nat).1.length = l.length from rfl, show (((l, 0) : List Lb.Bytes × Nat).2 : Int) = 0 from rfl]
          have hdc : ∀ W, Calls Tryd.prog 23 #[.string M] W fun e w' => e = .returned (.int .i64 (m.count 46 : Nat)) ∧ W = w' := fun W => by
            have h := dots_any M W (by omega)
            rw [HMD.out] at h
            exact h
          obtain ⟨q, hq⟩ : ∃ q, m.count 46 = q := ⟨_, rfl⟩
          rw [hq] at hl1 hdc
          have HDC := Lib.hid hdc
          have HM507 : Hid (∀ x ∈ Cd.all (decide (dots ≤ (q : Int))) xs m, x.length ≤ 507) := allK_small (by rw [← HMD.out]; exact hM253) HDL.out
          obtain ⟨B1, hB1⟩ : ∃ B, w3.heap.size = B := ⟨_, rfl⟩
          have hB1l : B1 ≤ w3.heap.size := by omega
          have hwB : w.heap.size ≤ B1 := by rw [← hB1]; exact hbw3.size
          have HST4 : Hid (∀ W, Below B1 w3 W → StrsAt W (.slice Al l.length cll) l) := fun W h => HST3.out.below h (by omega)
          have HSAB : Hid (∀ W, Below B1 w3 W → StrsAt W (.slice Av n cv) xs) := fun W h => (HV.out.below hbw3 (Nat.le_refl _)).below h (by omega)
          have HB1 := Lib.hid hB1
          have HLL := Lib.hid hl1
          obtain ⟨nl, hnl⟩ : ∃ n, l.length = n := ⟨_, rfl⟩
          rw [hnl] at HST4 ⊢
          have HNL := Lib.hid hnl
          clear hdot hsf hq hdc hl1 HL2 hB1 hnl
          go_wp2_with fail
          refine (HDC.out w3).mono ?_
          rintro e w4 ⟨rfl, rfl⟩
          have hown0 : w3.ownsRow B1 9 1 (.slice none 0 0) 0 [] := World.ownsRow_nil _ _ _ _
          by_cases he : dots ≤ (q : Int)
          · rw [decide_eq_true he] at HLL HM507
            go_wp2_with (at_builtin; refine wpList_append_own _ rfl (.tmp 102) (.tmp 104) 27 rfl B1 9 i0 (.string .empty) 1 16 Tryd.underlying27 hi hz0 hz1 hz2 rfl (by decide) _ _ _ rfl (hown0.alloc _) ⟨w3.heap.size, 0, none⟩ 1 1 [.string M] rfl rfl (cell_one_new _ _ _) (by simp [Value.oneCell']) (by unfold maxLen; omega) (by omega) (by simp; omega) ?_; intro v' wz hown' hgrow _; obtain ⟨⟨A5, c5, hv5⟩, hbz⟩ := own_facts (u := .string M) hB1l hown0 hown' hgrow; subst hv5; clear hgrow)
            have HOW : Hid (wz.ownsRow B1 9 1 (.slice A5 (0 + 1) c5) (allK true xs m 0).length ((allK true xs m 0).map Lb.strV)) := by
              show World.ownsRow _ _ _ _ _ _ _
              rw [show allK true xs m 0 = [m] by simp [allK], List.map_cons, List.map_nil, HMV.out]
              exact hown'
            have HBZ := Lib.hid hbz
            clear hown' hown0 hbz he
            go_loopw [108, 16] (fun i al wx => ∃ k : Nat, k ≤ n ∧ i = .int .i64 k ∧ wx.ownsRow B1 9 1 al (allK true xs m k).length ((allK true xs m k).map Lb.strV) ∧ Below B1 w3 wx) (fun i _ _ => n - (intOf i).toNat)
            case atStart => exact ⟨0, Nat.zero_le _, rfl, HOW.out, HBZ.out⟩
            case round =>
              clear HOW HBZ
              obtain ⟨k2, hk2, rfl, hown, hbel2⟩ := hrel
              obtain ⟨wl, rfl⟩ : ∃ wl : World, wl = wr := ⟨_, rfl⟩
              have hbw4 : Below w.heap.size w wl := hbw3.trans (hbel2.mono hwB)
              have hBl : B1 ≤ wl.heap.size := by have := hbel2.size; omega
              have hal := allK_len true xs m k2
              obtain ⟨A0, c0, hv0⟩ := own_len hown
              subst hv0
              obtain ⟨L, hL⟩ : ∃ L, (allK true xs m k2).length = L := ⟨_, rfl⟩
              rw [hL] at hown hal ⊢
              have hL900 : L ≤ 901 := by have := HXN.out; omega
              have HLL2 := Lib.hid hL
              clear hL hal
              by_cases hlt2 : k2 < n
              · obtain ⟨b, o, c', hv, hbl, hcell⟩ := (HSAB.out wl hbel2).cellAt (by intro e; have := HN.out; rw [e] at this; simp at this; omega)
                injection hv with hA hA2 hA3
                clear hA2 hA3
                subst hA
                have hcd := hcell k2 (by have := HN.out; omega)
                have hds : (xs.getD k2 []).length ≤ 253 := HDL.out _ (getD_mem xs k2 [] (by have := HN.out; omega))
                have hsn := allK_snoc true xs m k2 (by have := HN.out; omega)
                obtain ⟨D, hD⟩ : ∃ D, Lb.str (xs.getD k2 []) = D := ⟨_, rfl⟩
                have hcD : wl.cell? ⟨b, o + k2, none⟩ = some (.string D) := by rw [← hD]; exact hcd
                have hDs : D.size ≤ 253 := by rw [← hD]; exact hds
                have hXd : Value.string ((M ++ ⟨#[46]⟩) ++ D) = Lb.strV (m ++ 46 :: xs.getD k2 []) := by
                  rw [← HMD.out, ← hD]
                  show _ = Value.string (Lb.str (M.data.toList ++ ([46] ++ xs.getD k2 [])))
                  rw [← Lb.str_append, ← Lb.str_append, Lb.str_back]
                  congr 1
                  apply ByteArray.ext
                  simp [ByteArray.data_append, Lb.str]
                obtain ⟨XX, hXX⟩ : ∃ XX, ((M ++ ⟨#[46]⟩) ++ D) = XX := ⟨_, rfl⟩
                rw [hXX] at hXd
                have HSN := Lib.hid hsn
                have HXD := Lib.hid hXd
                clear hcell hcd hds hsn hD hXd
                go_wp2_with (at_builtin; refine wpList_append_own _ rfl (.tmp 112) (.tmp 117) 27 rfl B1 9 i0 (.string .empty) 1 16 Tryd.underlying27 hi hz0 hz1 hz2 rfl (by decide) _ _ _ rfl (hown.alloc _) ⟨wl.heap.size, 0, none⟩ 1 1 [.string XX] rfl rfl (cell_one_new _ _ _) (by simp [Value.oneCell']) (by unfold maxLen; omega) (by omega) (by simp; omega) ?_; intro v' wz2 hown' hgrow _; obtain ⟨⟨A5, c5, hv5⟩, hbz⟩ := own_facts (u := .string XX) hBl hown hown' hgrow; subst hv5; clear hgrow)
                clear hXX
                have HOW5 : Hid (wz2.ownsRow B1 9 1 (.slice A5 (L + 1) c5) (allK true xs m (k2 + 1)).length ((allK true xs m (k2 + 1)).map Lb.strV)) := by
                  show World.ownsRow _ _ _ _ _ _ _
                  rw [HSN.out, List.length_append, List.map_append, HLL2.out, List.map_cons, List.map_nil, ← HXD.out]
                  exact hown'
                have HBZ5 := Lib.hid (hbel2.trans hbz)
                clear hown' hown hbz
                go_wp2_with fail
                go_roundw
                case rel => exact ⟨k2 + 1, by omega, by go_num, HOW5.out, HBZ5.out⟩
                case measure => simp [intOf]; omega
              · have hkn2 : k2 = xs.length := by have := HN.out; omega
                have hend := allK_end true xs m
                rw [← hkn2] at hend
                have HEND := Lib.hid hend
                clear hkn2 hend
                go_wp2_with (at_builtin; refine wpList_append_own _ rfl (.tmp 120) (.tmp 122) 27 rfl B1 9 i0 (.string .empty) 1 16 Tryd.underlying27 hi hz0 hz1 hz2 rfl (by decide) _ _ _ rfl (hown.alloc _) ⟨wl.heap.size, 0, none⟩ 1 1 [.string M] rfl rfl (cell_one_new _ _ _) (by simp [Value.oneCell']) (by unfold maxLen; omega) (by omega) (by simp; omega) ?_; intro v' W6 hown' hgrow _; obtain ⟨⟨A5, c5, hv5⟩, hbz⟩ := own_facts (u := .string M) hBl hown hown' hgrow; subst hv5; clear hgrow)
                have hallrow : StrsAt W6 (.slice A5 (L + 1) c5) (Cd.all true xs m) := by
                  refine strsAt_of_own (base := B1) (e := 9) ?_
                  rw [← HEND.out, List.length_append, List.map_append, HLL2.out, List.map_cons, List.map_nil, HMV.out]
                  exact hown'
                have hNA : (Cd.all true xs m).length = L + 1 := by rw [← HEND.out, List.length_append, HLL2.out]; rfl
                have hb6 : Below B1 w3 W6 := hbel2.trans hbz
                have HALL := Lib.hid hallrow
                have HNA := Lib.hid hNA
                have HB6 := Lib.hid hb6
                have hbw6 : Below w.heap.size w W6 := hbw3.trans (hb6.mono hwB)
                have hB6 : B1 ≤ W6.heap.size := by have := hb6.size; omega
                clear hown' hown hbz hallrow hNA hb6 HEND HLL2 hbel2 hbw4 hBl
                obtain ⟨nb, hnb⟩ : ∃ b, W6.heap.size = b := ⟨_, rfl⟩
                have hset0 : SetAt (W6.alloc (.map #[] 0)) nb 0 [] := by rw [← hnb]; exact setAt_made W6
                have hbb0 : Below nb W6 (W6.alloc (.map #[] 0)) := by rw [← hnb]; exact (Below.refl _ _).alloc (Nat.le_refl _) _
                have hB6' : B1 ≤ nb := by omega
                have hwn : w.heap.size ≤ nb := by omega
                have hszn : Hid (W6.heap.size = nb) := hnb
                go_wp2_with fail
                rw [hnb]
                clear hnb hmm
                go_loopw [127, 17] (fun i wt wx => ∃ k3 : Nat, k3 ≤ L + 1 ∧ i = .int .i64 k3 ∧ wx.ownsRow (nb + 1) 9 1 wt (wantK (Cd.all true xs m) k3).length ((wantK (Cd.all true xs m) k3).map Lb.strV) ∧ SetAt wx nb k3 (wantK (Cd.all true xs m) k3) ∧ Below nb W6 wx ∧ nb < wx.heap.size) (fun i _ _ => L + 1 - (intOf i).toNat)
                case atStart => exact ⟨0, Nat.zero_le _, rfl, World.ownsRow_nil _ _ _ _, hset0, hbb0, by rw [← hszn.out]; simp⟩
                case round =>
                  clear hset0 hbb0
                  obtain ⟨k3, hk3, rfl, hown, hset, hbel3, hnbl⟩ := hrel
                  obtain ⟨wm, rfl⟩ : ∃ wm : World, wm = wr := ⟨_, rfl⟩
                  have hwl := wantK_len (Cd.all true xs m) k3
                  obtain ⟨A1, c1, hv1⟩ := own_len hown
                  subst hv1
                  obtain ⟨LW, hLW⟩ : ∃ L, (wantK (Cd.all true xs m) k3).length = L := ⟨_, rfl⟩
                  rw [hLW] at hown hwl ⊢
                  have HLW := Lib.hid hLW
                  have hallm := HALL.out.below hbel3 (Nat.le_of_eq hszn.out)
                  have hbm : Below B1 w3 wm := HB6.out.trans (hbel3.mono hB6')
                  have hbwm : Below w.heap.size w wm := hbw3.trans (hbm.mono hwB)
                  clear hLW
                  by_cases hlt3 : k3 < L + 1
                  · obtain ⟨b, o, c', hv, hbl, hcell⟩ := hallm.cellAt (by intro e; have := HNA.out; rw [e] at this; simp at this)
                    injection hv with hA hA2 hA3
                    clear hA2 hA3
                    subst hA
                    have hcd := hcell k3 (by have := HNA.out; omega)
                    have hx5 : ((Cd.all true xs m).getD k3 []).length ≤ 507 := HM507.out _ (getD_mem _ k3 [] (by have := HNA.out; omega))
                    have hsn := wantK_snoc (Cd.all true xs m) k3 (by have := HNA.out; omega)
                    obtain ⟨x, hx⟩ : ∃ x, (Cd.all true xs m).getD k3 [] = x := ⟨_, rfl⟩
                    rw [hx] at hcd hx5 hsn
                    obtain ⟨X, hX⟩ : ∃ X, Lb.str x = X := ⟨_, rfl⟩
                    have hcX : wm.cell? ⟨b, o + k3, none⟩ = some (.string X) := by rw [← hX]; exact hcd
                    have hXx : X.data.toList = x := by rw [← hX]; rfl
                    have hXV : Value.string X = Lb.strV x := by rw [← hX]; rfl
                    have hX507 : X.size ≤ 507 := by rw [← hX]; exact hx5
                    have hlk := seen_lookup hset X (by unfold maxLen; omega)
                    obtain ⟨g, hg⟩ : ∃ g, ((wantK (Cd.all true xs m) k3).any fun y => x == y) = g := ⟨_, rfl⟩
                    rw [hXx, hg] at hlk
                    have HSN := Lib.hid hsn
                    have HXX := Lib.hid hXx
                    have HXV := Lib.hid hXV
                    have HG := Lib.hid hg
                    have hk3m : k3 < maxLen := by unfold maxLen; omega
                    have hstore := seen_store hset X (by unfold maxLen; omega) hk3m
                    have HSTORE := Lib.hid hstore
                    clear hcell hcd hx5 hsn hx hX hXx hXV hg hallm hstore hk3m
                    cases g with
                    | true =>
                      have HF : Hid (wantK (Cd.all true xs m) (k3 + 1) = wantK (Cd.all true xs m) k3) := by show _ = _; rw [HSN.out]; exact Cd.addL_known HG.out
                      have HSET := Lib.hid (World.ownsMap.mono hset (Nat.le_succ k3))
                      clear hset
                      go_wp2_with fail
                      go_roundw
                      case rel => exact ⟨k3 + 1, by omega, by go_num, by rw [HF.out, HLW.out]; exact hown, by rw [HF.out]; exact HSET.out, hbel3, hnbl⟩
                      case measure => simp [intOf]; omega
                    | false =>
                      by_cases hlg : 253 < X.size
                      · have HF : Hid (wantK (Cd.all true xs m) (k3 + 1) = wantK (Cd.all true xs m) k3) := by
                          show _ = _; rw [HSN.out]; exact Cd.addL_long (by rw [← HXX.out]; exact hlg)
                        have HSET := Lib.hid (World.ownsMap.mono hset (Nat.le_succ k3))
                        have hlgi : ¬ (X.size : Int) ≤ 253 := by omega
                        clear hset hlg
                        go_wp2_with fail
                        go_roundw
                        case rel => exact ⟨k3 + 1, by omega, by go_num, by rw [HF.out, HLW.out]; exact hown, by rw [HF.out]; exact HSET.out, hbel3, hnbl⟩
                        case measure => simp [intOf]; omega
                      · have HF : Hid (wantK (Cd.all true xs m) (k3 + 1) = wantK (Cd.all true xs m) k3 ++ [x]) := by
                          show _ = _; rw [HSN.out]; exact Cd.addL_new HG.out (by rw [← HXX.out]; exact hlg)
                        have hlgi : (X.size : Int) ≤ 253 := by omega
                        obtain ⟨w', hrun, hset', hgrow'⟩ := HSTORE.out
                        have hown2 := hown.kept hgrow' (own_not nb hown)
                        have hbel4 : Below nb W6 w' := hbel3.grown hgrow' (Nat.le_of_lt hnbl) (fun k e => by injection e with e; omega)
                        have hnbl4 : nb + 1 ≤ w'.heap.size := Nat.le_trans hnbl hgrow'.size
                        have HSET' := Lib.hid hset'
                        have HBEL4 := Lib.hid hbel4
                        clear hset hlg hset' hgrow' hown hbel4 HSTORE
                        go_wp2_with (at_builtin; refine wpList_append_own _ rfl (.tmp 142) (.tmp 144) 27 rfl (nb + 1) 9 i0 (.string .empty) 1 16 Tryd.underlying27 hi hz0 hz1 hz2 rfl (by decide) _ _ _ rfl (hown2.alloc _) ⟨w'.heap.size, 0, none⟩ 1 1 [.string X] rfl rfl (cell_one_new _ _ _) (by simp [Value.oneCell']) (by unfold maxLen; omega) (by omega) (by simp; omega) ?_; intro v' wz3 hown' hgrow _; have hset5 := set_kept HSET'.out hown2 hgrow; obtain ⟨⟨A6, c6, hv6⟩, hbz⟩ := own_facts (u := .string X) hnbl4 hown2 hown' hgrow; subst hv6; clear hgrow)
                        have HOW6 : Hid (wz3.ownsRow (nb + 1) 9 1 (.slice A6 (LW + 1) c6) (wantK (Cd.all true xs m) (k3 + 1)).length ((wantK (Cd.all true xs m) (k3 + 1)).map Lb.strV)) := by
                          show World.ownsRow _ _ _ _ _ _ _
                          rw [HF.out, List.length_append, List.map_append, HLW.out, List.map_cons, List.map_nil, ← HXV.out]
                          exact hown'
                        have HSET6 : Hid (SetAt wz3 nb (k3 + 1) (wantK (Cd.all true xs m) (k3 + 1))) := by
                          show SetAt _ _ _ _
                          rw [HF.out, ← HXX.out]
                          exact hset5
                        have HBEL6 := Lib.hid (HBEL4.out.trans (hbz.mono (Nat.le_succ nb)))
                        have HNB6 : Hid (nb < wz3.heap.size) := Nat.lt_of_lt_of_le hnbl4 hbz.size
                        clear hown' hown2 hbz hset5 hrun hlk
                        go_wp2_with fail
                        go_roundw
                        case rel => exact ⟨k3 + 1, by omega, by go_num, HOW6.out, HSET6.out, HBEL6.out, HNB6.out⟩
                        case measure => simp [intOf]; omega
                  · have hend : wantK (Cd.all true xs m) k3 = l := by
                      rw [HLL.out, wantK_end _ _ (by have := HNA.out; omega)]; rfl
                    have hLWn : LW = nl := by rw [← HLW.out, hend, HNL.out]
                    subst hLWn
                    have hwant : StrsAt wm (.slice A1 LW c1) l := by
                      refine strsAt_of_own (base := nb + 1) (e := 9) ?_
                      rw [HNL.out, ← hend]; exact hown
                    have hgot := HST4.out wm hbm
                    have HWANT := Lib.hid hwant
                    have HGOT := Lib.hid hgot
                    clear hend hwant hgot hown hset hallm
                    have hqq : ((LW : Int) != (LW : Int)) = false := by simp
                    go_wp2_with fail
                    clear hqq
                    go_loopw [154] (fun i wx => ∃ j : Nat, j ≤ LW ∧ i = .int .i64 j ∧ Below wm.heap.size wm wx) (fun i _ => LW - (intOf i).toNat)
                    case atStart => exact ⟨0, Nat.zero_le _, rfl, Below.refl _ _⟩
                    case round =>
                      obtain ⟨j, hj, rfl, hbel7⟩ := hrel
                      by_cases hltj : j < LW
                      · have hne : l ≠ [] := by intro e; have := HNL.out; rw [e] at this; simp at this; omega
                        obtain ⟨b1, o1, c1', hv1, hbl1, hcell1⟩ := HGOT.out.cellAt hne
                        injection hv1 with hA hA2 hA3
                        clear hA2 hA3
                        subst hA
                        obtain ⟨b2, o2, c2', hv2, hbl2, hcell2⟩ := HWANT.out.cellAt hne
                        injection hv2 with hA hA2 hA3
                        clear hA2 hA3
                        subst hA
                        have hc1 := (hbel7.cell (p := ⟨b1, o1 + j, none⟩) hbl1).trans (hcell1 j (by have := HNL.out; omega))
                        have hc2 := (hbel7.cell (p := ⟨b2, o2 + j, none⟩) hbl2).trans (hcell2 j (by have := HNL.out; omega))
                        obtain ⟨Y, hY⟩ : ∃ Y, Lb.str (l.getD j []) = Y := ⟨_, rfl⟩
                        have hd1 : wr.cell? ⟨b1, o1 + j, none⟩ = some (.string Y) := by rw [← hY]; exact hc1
                        have hd2 : wr.cell? ⟨b2, o2 + j, none⟩ = some (.string Y) := by rw [← hY]; exact hc2
                        have hqy : (Y.toList == Y.toList) = true := by simp
                        have hqn : (Y.toList != Y.toList) = false := by simp
                        clear hcell1 hcell2 hc1 hc2 hY hne
                        go_wp2_with fail
                        go_quiet (fail)
                        go_wp2_with fail
                        go_roundw
                        case rel => exact ⟨j + 1, by omega, by go_num, below_drewN2 hbel7 _⟩
                        case measure => simp [intOf]; omega
                      · have hb9 := below_chain hbwm hbel7 (Nat.le_refl _)
                        go_wp2_with fail
                        go_ret
                        exact ⟨rfl, hb9⟩
          · rw [decide_eq_false he] at HLL HM507
            obtain ⟨wz, hwz⟩ : ∃ wz, w3 = wz := ⟨_, rfl⟩
            have HOW : Hid (wz.ownsRow B1 9 1 (.slice none 0 0) (allK false xs m 0).length ((allK false xs m 0).map Lb.strV)) := by
              show World.ownsRow _ _ _ _ _ _ _
              rw [show allK false xs m 0 = [] by simp [allK]]
              exact World.ownsRow_nil _ _ _ _
            have HBZ : Hid (Below B1 w3 wz) := by show Below _ _ _; rw [hwz]; exact Below.refl _ _
            rw [hwz]
            clear hown0 hwz
            go_wp2_with fail
            clear he
            go_loopw [108, 16] (fun i al wx => ∃ k : Nat, k ≤ n ∧ i = .int .i64 k ∧ wx.ownsRow B1 9 1 al (allK false xs m k).length ((allK false xs m k).map Lb.strV) ∧ Below B1 w3 wx) (fun i _ _ => n - (intOf i).toNat)
            case atStart => exact ⟨0, Nat.zero_le _, rfl, HOW.out, HBZ.out⟩
            case round =>
              clear HOW HBZ
              obtain ⟨k2, hk2, rfl, hown, hbel2⟩ := hrel
              obtain ⟨wl, rfl⟩ : ∃ wl : World, wl = wr := ⟨_, rfl⟩
              have hbw4 : Below w.heap.size w wl := hbw3.trans (hbel2.mono hwB)
              have hBl : B1 ≤ wl.heap.size := by have := hbel2.size; omega
              have hal := allK_len false xs m k2
              obtain ⟨A0, c0, hv0⟩ := own_len hown
              subst hv0
              obtain ⟨L, hL⟩ : ∃ L, (allK false xs m k2).length = L := ⟨_, rfl⟩
              rw [hL] at hown hal ⊢
              have hL900 : L ≤ 901 := by have := HXN.out; omega
              have HLL2 := Lib.hid hL
              clear hL hal
              by_cases hlt2 : k2 < n
              · obtain ⟨b, o, c', hv, hbl, hcell⟩ := (HSAB.out wl hbel2).cellAt (by intro e; have := HN.out; rw [e] at this; simp at this; omega)
                injection hv with hA hA2 hA3
                clear hA2 hA3
                subst hA
                have hcd := hcell k2 (by have := HN.out; omega)
                have hds : (xs.getD k2 []).length ≤ 253 := HDL.out _ (getD_mem xs k2 [] (by have := HN.out; omega))
                have hsn := allK_snoc false xs m k2 (by have := HN.out; omega)
                obtain ⟨D, hD⟩ : ∃ D, Lb.str (xs.getD k2 []) = D := ⟨_, rfl⟩
                have hcD : wl.cell? ⟨b, o + k2, none⟩ = some (.string D) := by rw [← hD]; exact hcd
                have hDs : D.size ≤ 253 := by rw [← hD]; exact hds
                have hXd : Value.string ((M ++ ⟨#[46]⟩) ++ D) = Lb.strV (m ++ 46 :: xs.getD k2 []) := by
                  rw [← HMD.out, ← hD]
                  show _ = Value.string (Lb.str (M.data.toList ++ ([46] ++ xs.getD k2 [])))
                  rw [← Lb.str_append, ← Lb.str_append, Lb.str_back]
                  congr 1
                  apply ByteArray.ext
                  simp [ByteArray.data_append, Lb.str]
                obtain ⟨XX, hXX⟩ : ∃ XX, ((M ++ ⟨#[46]⟩) ++ D) = XX := ⟨_, rfl⟩
                rw [hXX] at hXd
                have HSN := Lib.hid hsn
                have HXD := Lib.hid hXd
                clear hcell hcd hds hsn hD hXd
                go_wp2_with (at_builtin; refine wpList_append_own _ rfl (.tmp 112) (.tmp 117) 27 rfl B1 9 i0 (.string .empty) 1 16 Tryd.underlying27 hi hz0 hz1 hz2 rfl (by decide) _ _ _ rfl (hown.alloc _) ⟨wl.heap.size, 0, none⟩ 1 1 [.string XX] rfl rfl (cell_one_new _ _ _) (by simp [Value.oneCell']) (by unfold maxLen; omega) (by omega) (by simp; omega) ?_; intro v' wz2 hown' hgrow _; obtain ⟨⟨A5, c5, hv5⟩, hbz⟩ := own_facts (u := .string XX) hBl hown hown' hgrow; subst hv5; clear hgrow)
                clear hXX
                have HOW5 : Hid (wz2.ownsRow B1 9 1 (.slice A5 (L + 1) c5) (allK false xs m (k2 + 1)).length ((allK false xs m (k2 + 1)).map Lb.strV)) := by
                  show World.ownsRow _ _ _ _ _ _ _
                  rw [HSN.out, List.length_append, List.map_append, HLL2.out, List.map_cons, List.map_nil, ← HXD.out]
                  exact hown'
                have HBZ5 := Lib.hid (hbel2.trans hbz)
                clear hown' hown hbz
                go_wp2_with fail
                go_roundw
                case rel => exact ⟨k2 + 1, by omega, by go_num, HOW5.out, HBZ5.out⟩
                case measure => simp [intOf]; omega
              · have hkn2 : k2 = xs.length := by have := HN.out; omega
                have hend := allK_end false xs m
                rw [← hkn2] at hend
                have HEND := Lib.hid hend
                clear hkn2 hend
                go_wp2_with (at_builtin; refine wpList_append_own _ rfl (.tmp 120) (.tmp 122) 27 rfl B1 9 i0 (.string .empty) 1 16 Tryd.underlying27 hi hz0 hz1 hz2 rfl (by decide) _ _ _ rfl (hown.alloc _) ⟨wl.heap.size, 0, none⟩ 1 1 [.string M] rfl rfl (cell_one_new _ _ _) (by simp [Value.oneCell']) (by unfold maxLen; omega) (by omega) (by simp; omega) ?_; intro v' W6 hown' hgrow _; obtain ⟨⟨A5, c5, hv5⟩, hbz⟩ := own_facts (u := .string M) hBl hown hown' hgrow; subst hv5; clear hgrow)
                have hallrow : StrsAt W6 (.slice A5 (L + 1) c5) (Cd.all false xs m) := by
                  refine strsAt_of_own (base := B1) (e := 9) ?_
                  rw [← HEND.out, List.length_append, List.map_append, HLL2.out, List.map_cons, List.map_nil, HMV.out]
                  exact hown'
                have hNA : (Cd.all false xs m).length = L + 1 := by rw [← HEND.out, List.length_append, HLL2.out]; rfl
                have hb6 : Below B1 w3 W6 := hbel2.trans hbz
                have HALL := Lib.hid hallrow
                have HNA := Lib.hid hNA
                have HB6 := Lib.hid hb6
                have hbw6 : Below w.heap.size w W6 := hbw3.trans (hb6.mono hwB)
                have hB6 : B1 ≤ W6.heap.size := by have := hb6.size; omega
                clear hown' hown hbz hallrow hNA hb6 HEND HLL2 hbel2 hbw4 hBl
                obtain ⟨nb, hnb⟩ : ∃ b, W6.heap.size = b := ⟨_, rfl⟩
                have hset0 : SetAt (W6.alloc (.map #[] 0)) nb 0 [] := by rw [← hnb]; exact setAt_made W6
                have hbb0 : Below nb W6 (W6.alloc (.map #[] 0)) := by rw [← hnb]; exact (Below.refl _ _).alloc (Nat.le_refl _) _
                have hB6' : B1 ≤ nb := by omega
                have hwn : w.heap.size ≤ nb := by omega
                have hszn : Hid (W6.heap.size = nb) := hnb
                go_wp2_with fail
                rw [hnb]
                clear hnb hmm
                go_loopw [127, 17] (fun i wt wx => ∃ k3 : Nat, k3 ≤ L + 1 ∧ i = .int .i64 k3 ∧ wx.ownsRow (nb + 1) 9 1 wt (wantK (Cd.all false xs m) k3).length ((wantK (Cd.all false xs m) k3).map Lb.strV) ∧ SetAt wx nb k3 (wantK (Cd.all false xs m) k3) ∧ Below nb W6 wx ∧ nb < wx.heap.size) (fun i _ _ => L + 1 - (intOf i).toNat)
                case atStart => exact ⟨0, Nat.zero_le _, rfl, World.ownsRow_nil _ _ _ _, hset0, hbb0, by rw [← hszn.out]; simp⟩
                case round =>
                  clear hset0 hbb0
                  obtain ⟨k3, hk3, rfl, hown, hset, hbel3, hnbl⟩ := hrel
                  obtain ⟨wm, rfl⟩ : ∃ wm : World, wm = wr := ⟨_, rfl⟩
                  have hwl := wantK_len (Cd.all false xs m) k3
                  obtain ⟨A1, c1, hv1⟩ := own_len hown
                  subst hv1
                  obtain ⟨LW, hLW⟩ : ∃ L, (wantK (Cd.all false xs m) k3).length = L := ⟨_, rfl⟩
                  rw [hLW] at hown hwl ⊢
                  have HLW := Lib.hid hLW
                  have hallm := HALL.out.below hbel3 (Nat.le_of_eq hszn.out)
                  have hbm : Below B1 w3 wm := HB6.out.trans (hbel3.mono hB6')
                  have hbwm : Below w.heap.size w wm := hbw3.trans (hbm.mono hwB)
                  clear hLW
                  by_cases hlt3 : k3 < L + 1
                  · obtain ⟨b, o, c', hv, hbl, hcell⟩ := hallm.cellAt (by intro e; have := HNA.out; rw [e] at this; simp at this)
                    injection hv with hA hA2 hA3
                    clear hA2 hA3
                    subst hA
                    have hcd := hcell k3 (by have := HNA.out; omega)
                    have hx5 : ((Cd.all false xs m).getD k3 []).length ≤ 507 := HM507.out _ (getD_mem _ k3 [] (by have := HNA.out; omega))
                    have hsn := wantK_snoc (Cd.all false xs m) k3 (by have := HNA.out; omega)
                    obtain ⟨x, hx⟩ : ∃ x, (Cd.all false xs m).getD k3 [] = x := ⟨_, rfl⟩
                    rw [hx] at hcd hx5 hsn
                    obtain ⟨X, hX⟩ : ∃ X, Lb.str x = X := ⟨_, rfl⟩
                    have hcX : wm.cell? ⟨b, o + k3, none⟩ = some (.string X) := by rw [← hX]; exact hcd
                    have hXx : X.data.toList = x := by rw [← hX]; rfl
                    have hXV : Value.string X = Lb.strV x := by rw [← hX]; rfl
                    have hX507 : X.size ≤ 507 := by rw [← hX]; exact hx5
                    have hlk := seen_lookup hset X (by unfold maxLen; omega)
                    obtain ⟨g, hg⟩ : ∃ g, ((wantK (Cd.all false xs m) k3).any fun y => x == y) = g := ⟨_, rfl⟩
                    rw [hXx, hg] at hlk
                    have HSN := Lib.hid hsn
                    have HXX := Lib.hid hXx
                    have HXV := Lib.hid hXV
                    have HG := Lib.hid hg
                    have hk3m : k3 < maxLen := by unfold maxLen; omega
                    have hstore := seen_store hset X (by unfold maxLen; omega) hk3m
                    have HSTORE := Lib.hid hstore
                    clear hcell hcd hx5 hsn hx hX hXx hXV hg hallm hstore hk3m
                    cases g with
                    | true =>
                      have HF : Hid (wantK (Cd.all false xs m) (k3 + 1) = wantK (Cd.all false xs m) k3) := by show _ = _; rw [HSN.out]; exact Cd.addL_known HG.out
                      have HSET := Lib.hid (World.ownsMap.mono hset (Nat.le_succ k3))
                      clear hset
                      go_wp2_with fail
                      go_roundw
                      case rel => exact ⟨k3 + 1, by omega, by go_num, by rw [HF.out, HLW.out]; exact hown, by rw [HF.out]; exact HSET.out, hbel3, hnbl⟩
                      case measure => simp [intOf]; omega
                    | false =>
                      by_cases hlg : 253 < X.size
                      · have HF : Hid (wantK (Cd.all false xs m) (k3 + 1) = wantK (Cd.all false xs m) k3) := by
                          show _ = _; rw [HSN.out]; exact Cd.addL_long (by rw [← HXX.out]; exact hlg)
                        have HSET := Lib.hid (World.ownsMap.mono hset (Nat.le_succ k3))
                        have hlgi : ¬ (X.size : Int) ≤ 253 := by omega
                        clear hset hlg
                        go_wp2_with fail
                        go_roundw
                        case rel => exact ⟨k3 + 1, by omega, by go_num, by rw [HF.out, HLW.out]; exact hown, by rw [HF.out]; exact HSET.out, hbel3, hnbl⟩
                        case measure => simp [intOf]; omega
                      · have HF : Hid (wantK (Cd.all false xs m) (k3 + 1) = wantK (Cd.all false xs m) k3 ++ [x]) := by
                          show _ = _; rw [HSN.out]; exact Cd.addL_new HG.out (by rw [← HXX.out]; exact hlg)
                        have hlgi : (X.size : Int) ≤ 253 := by omega
                        obtain ⟨w', hrun, hset', hgrow'⟩ := HSTORE.out
                        have hown2 := hown.kept hgrow' (own_not nb hown)
                        have hbel4 : Below nb W6 w' := hbel3.grown hgrow' (Nat.le_of_lt hnbl) (fun k e => by injection e with e; omega)
                        have hnbl4 : nb + 1 ≤ w'.heap.size := Nat.le_trans hnbl hgrow'.size
                        have HSET' := Lib.hid hset'
                        have HBEL4 := Lib.hid hbel4
                        clear hset hlg hset' hgrow' hown hbel4 HSTORE
                        go_wp2_with (at_builtin; refine wpList_append_own _ rfl (.tmp 142) (.tmp 144) 27 rfl (nb + 1) 9 i0 (.string .empty) 1 16 Tryd.underlying27 hi hz0 hz1 hz2 rfl (by decide) _ _ _ rfl (hown2.alloc _) ⟨w'.heap.size, 0, none⟩ 1 1 [.string X] rfl rfl (cell_one_new _ _ _) (by simp [Value.oneCell']) (by unfold maxLen; omega) (by omega) (by simp; omega) ?_; intro v' wz3 hown' hgrow _; have hset5 := set_kept HSET'.out hown2 hgrow; obtain ⟨⟨A6, c6, hv6⟩, hbz⟩ := own_facts (u := .string X) hnbl4 hown2 hown' hgrow; subst hv6; clear hgrow)
                        have HOW6 : Hid (wz3.ownsRow (nb + 1) 9 1 (.slice A6 (LW + 1) c6) (wantK (Cd.all false xs m) (k3 + 1)).length ((wantK (Cd.all false xs m) (k3 + 1)).map Lb.strV)) := by
                          show World.ownsRow _ _ _ _ _ _ _
                          rw [HF.out, List.length_append, List.map_append, HLW.out, List.map_cons, List.map_nil, ← HXV.out]
                          exact hown'
                        have HSET6 : Hid (SetAt wz3 nb (k3 + 1) (wantK (Cd.all false xs m) (k3 + 1))) := by
                          show SetAt _ _ _ _
                          rw [HF.out, ← HXX.out]
                          exact hset5
                        have HBEL6 := Lib.hid (HBEL4.out.trans (hbz.mono (Nat.le_succ nb)))
                        have HNB6 : Hid (nb < wz3.heap.size) := Nat.lt_of_lt_of_le hnbl4 hbz.size
                        clear hown' hown2 hbz hset5 hrun hlk
                        go_wp2_with fail
                        go_roundw
                        case rel => exact ⟨k3 + 1, by omega, by go_num, HOW6.out, HSET6.out, HBEL6.out, HNB6.out⟩
                        case measure => simp [intOf]; omega
                  · have hend : wantK (Cd.all false xs m) k3 = l := by
                      rw [HLL.out, wantK_end _ _ (by have := HNA.out; omega)]; rfl
                    have hLWn : LW = nl := by rw [← HLW.out, hend, HNL.out]
                    subst hLWn
                    have hwant : StrsAt wm (.slice A1 LW c1) l := by
                      refine strsAt_of_own (base := nb + 1) (e := 9) ?_
                      rw [HNL.out, ← hend]; exact hown
                    have hgot := HST4.out wm hbm
                    have HWANT := Lib.hid hwant
                    have HGOT := Lib.hid hgot
                    clear hend hwant hgot hown hset hallm
                    have hqq : ((LW : Int) != (LW : Int)) = false := by simp
                    go_wp2_with fail
                    clear hqq
                    go_loopw [154] (fun i wx => ∃ j : Nat, j ≤ LW ∧ i = .int .i64 j ∧ Below wm.heap.size wm wx) (fun i _ => LW - (intOf i).toNat)
                    case atStart => exact ⟨0, Nat.zero_le _, rfl, Below.refl _ _⟩
                    case round =>
                      obtain ⟨j, hj, rfl, hbel7⟩ := hrel
                      by_cases hltj : j < LW
                      · have hne : l ≠ [] := by intro e; have := HNL.out; rw [e] at this; simp at this; omega
                        obtain ⟨b1, o1, c1', hv1, hbl1, hcell1⟩ := HGOT.out.cellAt hne
                        injection hv1 with hA hA2 hA3
                        clear hA2 hA3
                        subst hA
                        obtain ⟨b2, o2, c2', hv2, hbl2, hcell2⟩ := HWANT.out.cellAt hne
                        injection hv2 with hA hA2 hA3
                        clear hA2 hA3
                        subst hA
                        have hc1 := (hbel7.cell (p := ⟨b1, o1 + j, none⟩) hbl1).trans (hcell1 j (by have := HNL.out; omega))
                        have hc2 := (hbel7.cell (p := ⟨b2, o2 + j, none⟩) hbl2).trans (hcell2 j (by have := HNL.out; omega))
                        obtain ⟨Y, hY⟩ : ∃ Y, Lb.str (l.getD j []) = Y := ⟨_, rfl⟩
                        have hd1 : wr.cell? ⟨b1, o1 + j, none⟩ = some (.string Y) := by rw [← hY]; exact hc1
                        have hd2 : wr.cell? ⟨b2, o2 + j, none⟩ = some (.string Y) := by rw [← hY]; exact hc2
                        have hqy : (Y.toList == Y.toList) = true := by simp
                        have hqn : (Y.toList != Y.toList) = false := by simp
                        clear hcell1 hcell2 hc1 hc2 hY hne
                        go_wp2_with fail
                        go_quiet (fail)
                        go_wp2_with fail
                        go_roundw
                        case rel => exact ⟨j + 1, by omega, by go_num, below_drewN2 hbel7 _⟩
                        case measure => simp [intOf]; omega
                      · have hb9 := below_chain hbwm hbel7 (Nat.le_refl _)
                        go_wp2_with fail
                        go_ret
                        exact ⟨rfl, hb9⟩
      · rw [if_pos hc] at hL2
        have hce : ((c : Int) != 0) = true := by simp; omega
        have hl : l = [] ∧ cl = c := by
          injection hL2 with h1 h2
          exact ⟨h1.symm, h2.symm⟩
        obtain ⟨rfl, rfl⟩ := hl
        rw [show (([], cl) : List Lb.Bytes × Nat).1.length = 0 from rfl, show ((([], cl) : List Lb.Bytes × Nat).2 : Int) = (cl : Int) from rfl]
        have hq : ((cl : Int) == (cl : Int)) = true := by simp
        have hqn : ((cl : Int) != (cl : Int)) = false := by simp
        clear hL2 hn253 hMs hc
        go_wp2_with fail
        go_ret
        exact ⟨ret_bool (by first | rfl | simp), hbw3⟩
end Go.Proofs.YtlojfbmngippaaaDoor
