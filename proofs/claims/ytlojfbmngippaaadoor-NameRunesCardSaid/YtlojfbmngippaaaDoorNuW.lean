/- The walk of NameRunes. -/
import Derived.Test.YtlojfbmngippaaaDoorFit
import Derived.Test.YtlojfbmngippaaaDoorNp
namespace Go.Proofs.YtlojfbmngippaaaDoor
open Go.RowKit
set_option linter.unusedVariables false
/-- Where a rune beyond ASCII lies, and whether it may stand in a label. -/
theorem rune_cases (n : Nat) (h : 128 ≤ n) (h2 : n ≤ 1114111) : 
    (n < 223 ∧ Nm.good n = false) ∨ (223 ≤ n ∧ n < 247 ∧ Nm.good n = true) ∨ (n = 247 ∧ Nm.good n = false) ∨ (248 ≤ n ∧ n ≤ 255 ∧ Nm.good n = true) ∨
    (256 ≤ n ∧ n ≤ 311 ∧ bits .and .i32 (n : Int) 1 = 1 ∧ Nm.good n = true) ∨ (256 ≤ n ∧ n ≤ 311 ∧ bits .and .i32 (n : Int) 1 = 0 ∧ Nm.good n = false) ∨
    (312 ≤ n ∧ n < 945 ∧ Nm.good n = false) ∨ (945 ≤ n ∧ n ≤ 969 ∧ Nm.good n = true) ∨ (970 ≤ n ∧ n < 1072 ∧ Nm.good n = false) ∨ (1072 ≤ n ∧ n ≤ 1119 ∧ Nm.good n = true) ∨ (1120 ≤ n ∧ Nm.good n = false) := by
  have key : ∀ m : Nat, m < 312 → 256 ≤ m → (bits .and .i32 (m : Int) 1 = 1 ∧ Nm.good m = true) ∨ (bits .and .i32 (m : Int) 1 = 0 ∧ Nm.good m = false) := by decide +kernel
  have g : Nm.good n = (if 223 ≤ n ∧ n ≤ 255 ∧ n ≠ 247 then true else if 256 ≤ n ∧ n ≤ 383 then decide (n % 2 = 1 ∧ n < 312) else (decide (945 ≤ n) && decide (n ≤ 969)) || (decide (1072 ≤ n) && decide (n ≤ 1119))) := rfl
  by_cases c1 : n < 223
  · left; refine ⟨c1, ?_⟩; rw [g, if_neg (by omega), if_neg (by omega)]; simp; omega
  by_cases c2 : n < 247
  · right; left; exact ⟨by omega, c2, by rw [g, if_pos (by omega)]⟩
  by_cases c3 : n = 247
  · right; right; left; refine ⟨c3, ?_⟩; subst c3; rfl
  by_cases c4 : n ≤ 255
  · right; right; right; left; exact ⟨by omega, c4, by rw [g, if_pos (by omega)]⟩
  by_cases c5 : n ≤ 311
  · rcases key n (by omega) (by omega) with k | k
    · right; right; right; right; left; exact ⟨by omega, c5, k.1, k.2⟩
    · right; right; right; right; right; left; exact ⟨by omega, c5, k.1, k.2⟩
  right; right; right; right; right; right
  by_cases c6 : n < 945
  · left; refine ⟨by omega, c6, ?_⟩; rw [g, if_neg (by omega)]; split
    · simp; omega
    · simp; omega
  rw [g, if_neg (by omega), if_neg (by omega)]
  right
  by_cases c7 : n ≤ 969
  · left; exact ⟨by omega, c7, by simp; omega⟩
  right
  by_cases c8 : n < 1072
  · left; exact ⟨by omega, c8, by simp; omega⟩
  right
  by_cases c9 : n ≤ 1119
  · left; exact ⟨by omega, c9, by simp; omega⟩
  · right; exact ⟨by omega, by simp; omega⟩
theorem cons97 (E : ByteArray) : ((⟨#[97]⟩ : ByteArray) ++ E).data.toList = 97 :: E.data.toList := by simp [ByteArray.data_append]
theorem aRune_any (n : Nat) (h : 128 ≤ n) (hv : n ≤ 1114111) (hs : ¬ (55296 ≤ n ∧ n ≤ 57343)) (g : Bool) (hg : Nm.good n = g) (w : World) (hT : Tabs w) :
    Calls Tryd.prog 16 #[.string ((⟨#[97]⟩ : ByteArray) ++ Utf8.encode (n : Int))] w fun e w' => (∃ T : ByteArray, e = .returned (.tuple #[.string T, .int .i64 (if g then 0 else 1)])) ∧ Below w.heap.size w w' := by
  have he : (Utf8.encode (n : Int)).size ≤ 4 := Nm.encode_size _
  have hd := cons97 (Utf8.encode (n : Int))
  have hl := Nm.nameRunes_law n h hv hs
  rw [hg] at hl
  refine (toASCII_any _ w hT ?_).mono ?_
  · rw [ByteArray.size_append]; have : (⟨#[97]⟩ : ByteArray).size = 1 := rfl; omega
  · rintro e w' ⟨rfl, hb⟩
    rw [hd]
    obtain ⟨R, hR⟩ : ∃ R, Nm.toASCII (97 :: (Utf8.encode (n : Int)).data.toList) = R := ⟨_, rfl⟩
    rw [hR] at hl ⊢
    clear hR
    obtain ⟨t, c⟩ := R
    simp only at hl ⊢
    subst hl
    refine ⟨⟨Lb.str t, ?_⟩, hb⟩
    cases g <;> rfl

set_option maxRecDepth 100000 in
set_option maxHeartbeats 8000000 in
theorem nameRunes_any (r : Int) (hr : -2147483648 ≤ r ∧ r ≤ 2147483647) (w : World) (hT : Tabs w) :
    Calls Tryd.prog 5 #[.int .i32 r] w fun e w' => e = .returned (.bool true) ∧ Below w.heap.size w w' := by
  obtain ⟨hr1, hr2⟩ := hr
  by_cases hout : r < 128 ∨ 1114111 < r ∨ (55296 ≤ r ∧ r ≤ 57343)
  · rcases hout with h1 | h1 | ⟨h1, h2⟩
    · go_enter Tryd.func5, Tryd.ntmps5
      go_wp2_with fail
      refine (fit_any w hT).mono ?_
      rintro e w1 ⟨rfl, hb1⟩
      go_wp2_with fail
      go_ret
      exact ⟨rfl, hb1⟩
    · have h0 : ¬ r < 128 := by omega
      go_enter Tryd.func5, Tryd.ntmps5
      go_wp2_with fail
      refine (fit_any w hT).mono ?_
      rintro e w1 ⟨rfl, hb1⟩
      go_wp2_with fail
      go_ret
      exact ⟨rfl, hb1⟩
    · have h0 : ¬ r < 128 := by omega
      have h3 : ¬ 1114111 < r := by omega
      go_enter Tryd.func5, Tryd.ntmps5
      go_wp2_with fail
      refine (fit_any w hT).mono ?_
      rintro e w1 ⟨rfl, hb1⟩
      go_wp2_with fail
      go_ret
      exact ⟨rfl, hb1⟩
  · obtain ⟨n, hrn⟩ : ∃ n : Nat, r = (n : Int) := ⟨r.toNat, by omega⟩
    have hn1 : 128 ≤ n := by omega
    have hn2 : n ≤ 1114111 := by omega
    have hn3 : ¬ (55296 ≤ n ∧ n ≤ 57343) := by omega
    have hn4 : r < 55296 ∨ 57343 < r := by omega
    have hn5 : ¬ r < 128 := by omega
    have hn6 : ¬ 1114111 < r := by omega
    clear hout
    have hcs := rune_cases n hn1 hn2
    have hgood := good_any n
    have harune := aRune_any n hn1 hn2 hn3
    clear hn3 hn1 hn2
    rw [← hrn] at harune hgood
    have hAR := Lib.hid harune
    have hGA := Lib.hid hgood
    have HT := Lib.hid hT
    clear harune hgood hT
    have hcs2 : (r < 223 ∧ Nm.good n = false) ∨ (223 ≤ r ∧ r < 247 ∧ Nm.good n = true) ∨ (247 ≤ r ∧ r ≤ 255 ∧ (r != 247) = false ∧ Nm.good n = false) ∨ (248 ≤ r ∧ r ≤ 255 ∧ Nm.good n = true) ∨
      (256 ≤ r ∧ r ≤ 311 ∧ bits .and .i32 r 1 = 1 ∧ Nm.good n = true) ∨ (256 ≤ r ∧ r ≤ 311 ∧ bits .and .i32 r 1 = 0 ∧ Nm.good n = false) ∨
      (312 ≤ r ∧ r < 945 ∧ Nm.good n = false) ∨ (945 ≤ r ∧ r ≤ 969 ∧ Nm.good n = true) ∨ (969 < r ∧ r < 1072 ∧ Nm.good n = false) ∨ (1072 ≤ r ∧ r ≤ 1119 ∧ Nm.good n = true) ∨ (969 < r ∧ 1119 < r ∧ Nm.good n = false) := by
      subst hrn
      rcases hcs with h | h | h | h | h | h | h | h | h | h | h
      · exact .inl ⟨by omega, h.2⟩
      · exact .inr (.inl ⟨by omega, by omega, h.2.2⟩)
      · exact .inr (.inr (.inl ⟨by omega, by omega, by simp; omega, h.2⟩))
      · exact .inr (.inr (.inr (.inl ⟨by omega, by omega, h.2.2⟩)))
      · exact .inr (.inr (.inr (.inr (.inl ⟨by omega, by omega, h.2.2⟩))))
      · exact .inr (.inr (.inr (.inr (.inr (.inl ⟨by omega, by omega, h.2.2⟩)))))
      · exact .inr (.inr (.inr (.inr (.inr (.inr (.inl ⟨by omega, by omega, h.2.2⟩))))))
      · exact .inr (.inr (.inr (.inr (.inr (.inr (.inr (.inl ⟨by omega, by omega, h.2.2⟩)))))))
      · exact .inr (.inr (.inr (.inr (.inr (.inr (.inr (.inr (.inl ⟨by omega, by omega, h.2.2⟩))))))))
      · exact .inr (.inr (.inr (.inr (.inr (.inr (.inr (.inr (.inr (.inl ⟨by omega, by omega, h.2.2⟩)))))))))
      · exact .inr (.inr (.inr (.inr (.inr (.inr (.inr (.inr (.inr (.inr ⟨by omega, by omega, h.2⟩)))))))))
    clear hcs hrn
    rcases hcs2 with ⟨k1, kg⟩ | ⟨k1, k2, kg⟩ | ⟨k1, k2, k3, kg⟩ | ⟨k1, k2, kg⟩ | ⟨k1, k2, k3, kg⟩ | ⟨k1, k2, k3, kg⟩ | ⟨k1, k2, kg⟩ | ⟨k1, k2, kg⟩ | ⟨k1, k2, kg⟩ | ⟨k1, k2, kg⟩ | ⟨k1, k2, kg⟩
    all_goals
      have HA := fun w hT => hAR.out _ kg w hT
      rw [kg] at hGA
      have HAR := Lib.hid HA
      clear hAR kg HA
      rcases hn4 with h4 | h4
      all_goals try (exfalso; omega)
      all_goals
        obtain ⟨E, hE⟩ : ∃ E, Utf8.encode r = E := ⟨_, rfl⟩
        have hEs : E.size ≤ 4 := by rw [← hE]; exact Nm.encode_size _
        rw [hE] at HAR
        go_enter Tryd.func5, Tryd.ntmps5
        go_wp2_with fail
        refine (fit_any w HT.out).mono ?_
        rintro e w1 ⟨rfl, hb1⟩
        have HT1 := Lib.hid (HT.out.below hb1 (Nat.le_refl _))
        go_wp2_with fail
        refine (HAR.out w1 HT1.out).mono ?_
        rintro e w2 ⟨⟨T, rfl⟩, hb2⟩
        have hb3 := below_chain hb1 hb2 (Nat.le_refl _)
        simp only [if_true, Bool.false_eq_true, if_false]
        go_wp2_with fail
        refine (hGA.out w2).mono ?_
        rintro e w3 ⟨rfl, rfl⟩
        go_wp2_with fail
        go_ret
        exact ⟨ret_bool (by first | rfl | (simp; omega)), hb3⟩
end Go.Proofs.YtlojfbmngippaaaDoor
