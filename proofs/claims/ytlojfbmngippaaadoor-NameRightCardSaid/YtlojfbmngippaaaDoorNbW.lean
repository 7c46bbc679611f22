/- The walk of NameBack. -/
import Derived.Test.YtlojfbmngippaaaDoorFit
import Derived.Test.YtlojfbmngippaaaDoorNt
namespace Go.Proofs.YtlojfbmngippaaaDoor
open Go.RowKit
set_option linter.unusedVariables false
theorem nil_of_size {s : ByteArray} (h : s.size = 0) : s.data.toList = [] := List.eq_nil_of_length_eq_zero h
theorem str_eq_self (t : Lb.Bytes) (Z : ByteArray) (h : Lb.str t = Z) : (Z.toList == Z.toList) = true := by simp
set_option maxRecDepth 20000 in
set_option maxHeartbeats 2000000 in
theorem nameBack_any (s : ByteArray) (hs : s.size ≤ maxLen) (w : World) (hT : Tabs w) :
    Calls Tryd.prog 3 #[.string s] w fun e w' => e = .returned (.bool true) ∧ Below w.heap.size w w' := by
  unfold maxLen at hs
  go_enter Tryd.func3, Tryd.ntmps3
  go_wp2_with fail
  refine (fit_any w hT).mono ?_
  rintro e w1 ⟨rfl, hb1⟩
  by_cases h15 : 1500 < s.size
  · have h1 : (1500 : Int) < (s.size : Int) := by omega
    go_wp2_with fail
    go_ret
    exact ⟨rfl, hb1⟩
  have h1 : ¬ (1500 : Int) < (s.size : Int) := by omega
  have hB := fun t (h : Nm.toASCII s.data.toList = (t, 0)) => Nm.nameBack_law h
  have hE := fun h => Nm.toASCII_err (s := s.data.toList) h
  have hLen : ∀ t, Nm.toASCII s.data.toList = (t, 0) → t.length ≤ 253 := fun t h => (Nm.toASCII_back h).2.2
  have HT1 := Lib.hid (hT.below hb1 (Nat.le_refl _))
  have HB := Lib.hid hB
  have HE := Lib.hid hE
  have HL := Lib.hid hLen
  clear hB hE hT hLen
  go_wp2_with fail
  refine (toASCII_any s w1 HT1.out (by omega)).mono ?_
  rintro e w2 ⟨rfl, hb2⟩
  have hb3 := below_chain hb1 hb2 (Nat.le_refl _)
  have HT2 := Lib.hid (HT1.out.below hb2 (Nat.le_refl _))
  obtain ⟨r, hr⟩ : ∃ r, Nm.toASCII s.data.toList = r := ⟨_, rfl⟩
  rw [hr] at HB HE HL ⊢
  clear hr
  obtain ⟨t, c⟩ := r
  simp only at HE ⊢
  by_cases hc : c = 0
  · subst hc
    rw [show ((0 : Nat) : Int) = 0 from rfl]
    obtain ⟨u, hu1, hu2, hu3, hu4⟩ := HB.out t rfl
    have ht := HL.out t rfl
    obtain ⟨T, hT⟩ : ∃ T, Lb.str t = T := ⟨_, rfl⟩
    have hTt : T.data.toList = t := by rw [← hT]; rfl
    have hTs : T.size ≤ 253 := by rw [← hT]; exact ht
    obtain ⟨U, hU⟩ : ∃ U, Lb.str u = U := ⟨_, rfl⟩
    have hUu : U.data.toList = u := by rw [← hU]; rfl
    have hUs : U.size ≤ 506 := by rw [← hU]; exact hu4
    rw [← hTt] at hu1 hu2 hu3
    rw [show Lb.strV t = .string T by rw [← hT]; rfl]
    have HU1 := Lib.hid hu1
    rw [← hUu] at hu2
    have HU2 := Lib.hid hu2
    have HU3 := Lib.hid hu3
    have hsT : Lb.strV T.data.toList = .string T := by rw [hTt, ← hT]; rfl
    have hsU : Lb.strV u = .string U := by rw [← hU]; rfl
    have HST := Lib.hid hsT
    have HSU := Lib.hid hsU
    clear hu1 hu2 hu3 hTt hUu hT hU HB HE HL ht hu4 hsT hsU
    go_wp2_with fail
    refine (toUnicode_any T w2 HT2.out (by omega)).mono ?_
    rintro e w3 ⟨rfl, hb4⟩
    have hb5 := below_chain hb3 hb4 (Nat.le_refl _)
    have HT3 := Lib.hid (HT2.out.below hb4 (Nat.le_refl _))
    rw [HU1.out]
    simp only
    rw [HSU.out, show ((0 : Nat) : Int) = 0 from rfl]
    go_wp2_with fail
    refine (toASCII_any U w3 HT3.out (by omega)).mono ?_
    rintro e w4 ⟨rfl, hb6⟩
    have hb7 := below_chain hb5 hb6 (Nat.le_refl _)
    have HT4 := Lib.hid (HT3.out.below hb6 (Nat.le_refl _))
    rw [HU2.out]
    simp only
    rw [HST.out, show ((0 : Nat) : Int) = 0 from rfl]
    go_wp2_with fail
    refine (toASCII_any T w4 HT4.out (by omega)).mono ?_
    rintro e w5 ⟨rfl, hb8⟩
    have hb9 := below_chain hb7 hb8 (Nat.le_refl _)
    rw [HU3.out]
    simp only
    rw [HST.out, show ((0 : Nat) : Int) = 0 from rfl]
    have hq : (T.toList == T.toList) = true := by simp
    go_wp2_with fail
    go_ret
    exact ⟨ret_bool (by first | rfl | simp), hb9⟩
  · obtain ⟨h2, h3⟩ := HE.out hc
    have h2 : t = [] := h2
    subst h2
    have hE0 : (ByteArray.empty).toList.isEmpty = true := by rw [Lib.toList_data]; rfl
    rw [show Lb.strV [] = .string ByteArray.empty from rfl]
    clear HB HL HE
    rcases h3 with h3 | h3 | h3
    · subst h3
      rw [show ((1 : Nat) : Int) = 1 from rfl]
      go_wp2_with fail
      go_ret
      exact ⟨ret_bool (by first | rfl | simp), hb3⟩
    · subst h3
      rw [show ((3 : Nat) : Int) = 3 from rfl]
      go_wp2_with fail
      go_ret
      exact ⟨ret_bool (by first | rfl | simp), hb3⟩
    · subst h3
      rw [show ((2 : Nat) : Int) = 2 from rfl]
      go_wp2_with fail
      go_ret
      exact ⟨ret_bool (by first | rfl | simp), hb3⟩
end Go.Proofs.YtlojfbmngippaaaDoor
