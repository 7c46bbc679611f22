/- The walk of NameLong. -/
import Derived.Test.YtlojfbmngippaaaDoorFit
import Derived.Test.YtlojfbmngippaaaDoorNl
namespace Go.Proofs.YtlojfbmngippaaaDoor
open Go.RowKit
set_option linter.unusedVariables false
set_option maxRecDepth 20000 in
set_option maxHeartbeats 2000000 in
theorem nameLong_any (n m : Int) (hn : -9223372036854775808 ≤ n ∧ n ≤ 9223372036854775807) (hm : -9223372036854775808 ≤ m ∧ m ≤ 9223372036854775807) (w : World) (hT : Tabs w) :
    Calls Tryd.prog 9 #[.int .i64 n, .int .i64 m] w fun e w' => e = .returned (.bool true) ∧ Below w.heap.size w w' := by
  obtain ⟨k0, hk0⟩ : ∃ k : Nat, n % 128 = (k : Int) := ⟨(n % 128).toNat, by omega⟩
  obtain ⟨j0, hj0⟩ : ∃ j : Nat, m % 8 = (j : Int) := ⟨(m % 8).toNat, by omega⟩
  have hkb : k0 ≤ 127 := by omega
  have hjb : j0 ≤ 7 := by omega
  have hA : bits .and .i64 n 127 = (k0 : Int) := by rw [i64_and127, hk0]
  have hB : bits .and .i64 m 7 = (j0 : Int) := by rw [Nm.i64_and7, hj0]
  obtain ⟨L1, L2, L3⟩ := Nm.nameLong_law (k := k0 + 1) (j := j0 + 1) (by omega) (by omega)
  have hlen := Nm.ases_len (k0 + 1) (j0 + 1)
  have hlen2 : (j0 + 1) * (k0 + 1 + 1) ≤ 8 * 129 := Nat.mul_le_mul (by omega) (by omega)
  have hS : (Nm.ases (k0 + 1) (j0 + 1)).length ≤ 1032 := by omega
  have HL1 := Lib.hid L1
  have HL2 := Lib.hid L2
  have HL3 := Lib.hid L3
  have HT := Lib.hid hT
  clear hT L1 L2 L3 hlen hlen2
  go_enter Tryd.func9, Tryd.ntmps9
  go_wp2_with fail
  refine (fit_any w HT.out).mono ?_
  rintro e w1 ⟨rfl, hb1⟩
  go_wp2_with fail
  go_loop [5, 19] (fun p i => ∃ c : Nat, c ≤ k0 + 1 ∧ i = .int .i64 c ∧ p = .string (Lb.str (Nm.aaa c))) (fun _ i => k0 + 1 - (intOf i).toNat)
  case atStart => exact ⟨0, Nat.zero_le _, rfl, rfl⟩
  case round =>
    obtain ⟨c, hc, rfl, rfl⟩ := hrel
    by_cases hlt : c < k0 + 1
    · have hs : Lb.str (Nm.aaa c) ++ ⟨#[97]⟩ = Lb.str (Nm.aaa (c + 1)) := by rw [Nm.aaa_succ, ← Lb.str_append]; rfl
      have hz : (Lb.str (Nm.aaa c)).size = c := Nm.aaa_len c
      have HS := Lib.hid hs
      obtain ⟨P, hP⟩ : ∃ P, Lb.str (Nm.aaa c) = P := ⟨_, rfl⟩
      rw [hP] at hz HS ⊢
      clear hs hP
      go_wp2_with fail
      go_round
      case rel => exact ⟨c + 1, by omega, by go_num, by rw [← HS.out]⟩
      case measure => simp [intOf]; omega
    · have hck : c = k0 + 1 := by omega
      obtain ⟨P, hP⟩ : ∃ P, Lb.str (Nm.aaa c) = P := ⟨_, rfl⟩
      have hPs : P.size = k0 + 1 := by rw [← hP, hck]; exact Nm.aaa_len _
      have HP : Hid (P = Lb.str (Nm.aaa (k0 + 1))) := by show _ = _; rw [← hP, hck]
      rw [hP]
      clear hP
      go_wp2_with fail
      go_loop [6, 25] (fun q i => ∃ d : Nat, d ≤ j0 + 1 ∧ i = .int .i64 d ∧ q = .string (Lb.str (Nm.ases (k0 + 1) d))) (fun _ i => j0 + 1 - (intOf i).toNat)
      case atStart => exact ⟨0, Nat.zero_le _, rfl, rfl⟩
      case round =>
        obtain ⟨d, hd, rfl, rfl⟩ := hrel
        have hdl := Nm.ases_len (k0 + 1) d
        have hdm : d * (k0 + 1 + 1) ≤ 8 * 129 := Nat.mul_le_mul (by omega) (by omega)
        obtain ⟨Q, hQ⟩ : ∃ Q, Lb.str (Nm.ases (k0 + 1) d) = Q := ⟨_, rfl⟩
        have hQs : Q.size ≤ 1032 := by rw [← hQ]; show (Nm.ases (k0 + 1) d).length ≤ _; omega
        by_cases hdl2 : d < j0 + 1
        · have hstep := Nm.ases_step (k0 + 1) d
          by_cases h0 : d = 0
          · have hs : Q ++ P = Lb.str (Nm.ases (k0 + 1) (d + 1)) := by
              rw [hstep, if_pos h0, HP.out, ← hQ, h0, Lb.str_append]; rfl
            have HS := Lib.hid hs
            rw [hQ]
            have hd0 : ¬ (0 : Int) < (d : Int) := by omega
            clear hs hstep hQ hdl hdm
            go_wp2_with fail
            go_round
            case rel => exact ⟨d + 1, by omega, by go_num, by rw [← HS.out]⟩
            case measure => simp [intOf]; omega
          · have hs : (Q ++ ⟨#[46]⟩) ++ P = Lb.str (Nm.ases (k0 + 1) (d + 1)) := by
              rw [hstep, if_neg h0, HP.out, ← hQ, ← Lb.str_append, ← Lb.str_append]; rfl
            have HS := Lib.hid hs
            rw [hQ]
            have hd0 : (0 : Int) < (d : Int) := by omega
            clear hs hstep hQ hdl hdm
            go_wp2_with fail
            go_round
            case rel => exact ⟨d + 1, by omega, by go_num, by rw [← HS.out]⟩
            case measure => simp [intOf]; omega
        · have hdj : d = j0 + 1 := by omega
          have hQd : Q.data.toList = Nm.ases (k0 + 1) (j0 + 1) := by rw [← hQ, hdj]; rfl
          have hQl : Q.size = (Nm.ases (k0 + 1) (j0 + 1)).length := by rw [← hQ, hdj]; rfl
          have hQb : Lb.str (Nm.ases (k0 + 1) (j0 + 1)) = Q := by rw [← hQ, hdj]
          rw [hQ]
          have HT1 := Lib.hid (HT.out.below hb1 (Nat.le_refl _))
          obtain ⟨NM, hNM⟩ : ∃ NM, Nm.ases (k0 + 1) (j0 + 1) = NM := ⟨_, rfl⟩
          rw [hNM] at HL1 HL2 HL3 hQd hQl hQb
          rw [← hQl] at HL1 HL2 HL3
          have HQD := Lib.hid hQd
          have HQB := Lib.hid hQb
          clear hQ hQd hQl hNM hdl hdm hQb hS
          go_wp2_with fail
          refine (toASCII_any Q w1 HT1.out (by omega)).mono ?_
          rintro e w2 ⟨rfl, hb2⟩
          have hb3 := below_chain hb1 hb2 (Nat.le_refl _)
          rw [HQD.out]
          obtain ⟨r, hr⟩ : ∃ r, Nm.toASCII NM = r := ⟨_, rfl⟩
          rw [hr] at HL1 HL2 HL3 ⊢
          obtain ⟨t, c2⟩ := r
          simp only at HL1 HL2 HL3 ⊢
          clear hr
          by_cases ha : 63 < k0 + 1
          · have ha' : (63 : Int) < (k0 : Int) + 1 := by omega
            by_cases hb : Q.size ≤ 1012
            · have hb' : (Q.size : Int) ≤ 1012 := by omega
              have hc1 := HL1.out ha hb
              subst hc1
              rw [show ((1 : Nat) : Int) = 1 from rfl]
              go_wp2_with fail
              go_ret
              exact ⟨rfl, hb3⟩
            · have hb' : ¬ (Q.size : Int) ≤ 1012 := by omega
              have hb4 : (253 : Int) < (Q.size : Int) := by omega
              have hc1 := HL2.out (by omega) (by omega)
              subst hc1
              rw [show ((2 : Nat) : Int) = 2 from rfl]
              go_wp2_with fail
              go_ret
              exact ⟨rfl, hb3⟩
          · have ha' : ¬ (63 : Int) < (k0 : Int) + 1 := by omega
            by_cases hb : 253 < Q.size
            · have hb4 : (253 : Int) < (Q.size : Int) := by omega
              have hc1 := HL2.out (by omega) hb
              subst hc1
              rw [show ((2 : Nat) : Int) = 2 from rfl]
              go_wp2_with fail
              go_ret
              exact ⟨rfl, hb3⟩
            · have hb4 : ¬ (253 : Int) < (Q.size : Int) := by omega
              have he := HL3.out ha hb
              injection he with he1 he2
              subst he2
              rw [show Lb.strV t = .string Q by rw [he1]; unfold Lb.strV; rw [HQB.out], show ((0 : Nat) : Int) = 0 from rfl]
              have hqq : (Q.toList == Q.toList) = true := by simp
              go_wp2_with fail
              go_ret
              exact ⟨ret_bool (by first | rfl | simp), hb3⟩
end Go.Proofs.YtlojfbmngippaaaDoor
