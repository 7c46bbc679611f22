/- The walk of NameParts. -/
import Derived.Test.YtlojfbmngippaaaDoorNbW
namespace Go.Proofs.YtlojfbmngippaaaDoor
open Go.RowKit
set_option linter.unusedVariables false
theorem suf_empty {s : Lb.Bytes} (h : s = []) : Lib.hasSuffix s [46] = false := by subst h; rfl
theorem suf_last {s : Lb.Bytes} (h : (s.getD (s.length - 1) 0).toNat ≠ 46) : Lib.hasSuffix s [46] = false := by
  cases hh : Lib.hasSuffix s [46] with
  | false => rfl
  | true =>
    exfalso
    unfold Lib.hasSuffix at hh
    obtain ⟨t, rfl⟩ := List.isSuffixOf_iff_suffix.1 hh
    apply h
    rw [List.length_append, List.getD_eq_getElem?_getD, List.getElem?_append_right (by simp)]
    simp
/-- A text's last byte: there is none; it is a point; it is another one. -/
theorem tail_cases (s : ByteArray) : (s.toList.isEmpty = true ∧ s.size = 0) ∨ (s.toList.isEmpty = false ∧ ∃ h : 0 < s.size, ((s[s.size - 1].toNat : Int) == 46) = true) ∨ (s.toList.isEmpty = false ∧ ∃ h : 0 < s.size, ((s[s.size - 1].toNat : Int) == 46) = false) := by
  rcases Nat.eq_zero_or_pos s.size with e | e
  · left; exact ⟨by rw [empty_iff, decide_eq_true e], e⟩
  · right
    have he : s.toList.isEmpty = false := by rw [empty_iff, decide_eq_false (by omega)]
    by_cases h : s[s.size - 1].toNat = 46
    · exact .inl ⟨he, e, by simp; omega⟩
    · exact .inr ⟨he, e, by simp; omega⟩
theorem suf_of (s : ByteArray) (h : s.size = 0 ∨ ∃ h : 0 < s.size, ((s[s.size - 1].toNat : Int) == 46) = false) : Lib.hasSuffix s.data.toList [46] = false := by
  rcases h with e | ⟨e, h⟩
  · exact suf_empty (List.eq_nil_of_length_eq_zero e)
  · refine suf_last ?_
    show (s.data.toList.getD (s.size - 1) 0).toNat ≠ 46
    have hbz : s.data.toList.getD (s.size - 1) 0 = s[s.size - 1] := by rw [List.getD_eq_getElem?_getD, byte_at s (s.size - 1) (by omega)]; rfl
    rw [hbz]
    intro h46
    rw [h46] at h
    cases h
/-- What the law of the parts says, with the numbers by themselves. -/
structure PartsLaw (la lb : Nat) (x y z : Lb.Bytes) (e f g : Nat) : Prop where
  p1 : e ≠ 0 → e ≠ 2 → g = e
  p2 : e = 0 → lb ≠ 0 → f ≠ 2 → f ≠ 0 → g = f
  p3 : e = 0 → lb ≠ 0 → f = 0 → 253 < x.length + 1 + y.length → g = 2
  p5 : e = 0 → x.length ≤ 253
  p6 : f = 0 → y.length ≤ 253
  p4 : e = 0 → lb ≠ 0 → f = 0 → ¬ 253 < x.length + 1 + y.length → g = 0 ∧ z = x ++ 46 :: y
theorem partsLaw (a b : ByteArray) (hl : a.size + b.size ≤ 400) (ha : Lib.hasSuffix a.data.toList [46] = false) (hb : Lib.hasSuffix b.data.toList [46] = false) :
    PartsLaw a.size b.size (Nm.toASCII a.data.toList).1 (Nm.toASCII b.data.toList).1 (Nm.toASCII (a.data.toList ++ 46 :: b.data.toList)).1 (Nm.toASCII a.data.toList).2 (Nm.toASCII b.data.toList).2 (Nm.toASCII (a.data.toList ++ 46 :: b.data.toList)).2 := by
  obtain ⟨h1, h2, h3⟩ := Nm.nameParts_law (a := a.data.toList) (b := b.data.toList) hl ha hb
  have hb0 : b.size ≠ 0 → b.data.toList ≠ [] := fun h e => h (by have := congrArg List.length e; simpa using this)
  exact ⟨h1, fun e0 e1 e2 e3 => h2 e0 (hb0 e1) e2 e3, fun e0 e1 e2 e3 => (h3 e0 (hb0 e1) e2).1 e3, fun e0 => (Nm.toASCII_back (s := a.data.toList) (Prod.ext rfl e0)).2.2, fun e0 => (Nm.toASCII_back (s := b.data.toList) (Prod.ext rfl e0)).2.2, fun e0 e1 e2 e3 => by have := (h3 e0 (hb0 e1) e2).2 e3; rw [this]; exact ⟨rfl, rfl⟩⟩

set_option maxRecDepth 20000 in
set_option maxHeartbeats 4000000 in
theorem nameParts_any (a b : ByteArray) (ha : a.size ≤ 140737488351232) (hb : b.size ≤ 140737488351232) (w : World) (hT : Tabs w) :
    Calls Tryd.prog 7 #[.string a, .string b] w fun e w' => e = .returned (.bool true) ∧ Below w.heap.size w w' := by
  go_enter Tryd.func7, Tryd.ntmps7
  go_wp2_with fail
  refine (fit_any w hT).mono ?_
  rintro e w1 ⟨rfl, hb1⟩
  by_cases h400 : 400 < a.size + b.size
  · have h1 : (400 : Int) < (a.size : Int) + (b.size : Int) := by omega
    go_wp2_with fail
    go_ret
    exact ⟨rfl, hb1⟩
  have h1 : ¬ (400 : Int) < (a.size : Int) + (b.size : Int) := by omega
  have hsz : a.size ≤ 400 ∧ b.size ≤ 400 := by omega
  obtain ⟨hsa, hsb⟩ := hsz
  have HT1 := Lib.hid (hT.below hb1 (Nat.le_refl _))
  clear hT
  rcases tail_cases a with ⟨hae, haz⟩ | ⟨hae, hap, had⟩ | ⟨hae, hap, had⟩
  rotate_left
  · go_wp2_with fail
    go_ret
    exact ⟨rfl, hb1⟩
  rotate_left
  all_goals
    have hsufa : Hid (Lib.hasSuffix a.data.toList [46] = false) := by
      first | exact suf_of a (.inl haz) | exact suf_of a (.inr ⟨hap, had⟩)
    rcases tail_cases b with ⟨hbe, hbz⟩ | ⟨hbe, hbp, hbd⟩ | ⟨hbe, hbp, hbd⟩
    rotate_left
    · go_wp2_with fail
      go_ret
      exact ⟨rfl, hb1⟩
    rotate_left
    all_goals
      have hsufb : Lib.hasSuffix b.data.toList [46] = false := by
        first | exact suf_of b (.inl hbz) | exact suf_of b (.inr ⟨hbp, hbd⟩)
      have hP := partsLaw a b (by omega) hsufa.out hsufb
      have HP := Lib.hid hP
      have HBZ : Hid (b.size = 0 ∨ 0 < b.size) := by first | exact .inl hbz | exact .inr hbp
      try have HHBZ := Lib.hid hbz
      try clear hbz
      try have HHAZ := Lib.hid haz
      try clear haz
      clear hP hsufb hsufa
      go_wp2_with fail
      refine (toASCII_any a w1 HT1.out (by omega)).mono ?_
      rintro e w2 ⟨rfl, hb2⟩
      have hb3 := below_chain hb1 hb2 (Nat.le_refl _)
      have HT2 := Lib.hid (HT1.out.below hb2 (Nat.le_refl _))
      obtain ⟨r1, hr1⟩ : ∃ r, Nm.toASCII a.data.toList = r := ⟨_, rfl⟩
      rw [hr1] at HP ⊢
      clear hr1
      obtain ⟨x, c1⟩ := r1
      simp only at HP ⊢
      obtain ⟨X, hX⟩ : ∃ X, Lb.str x = X := ⟨_, rfl⟩
      have HX : Hid (X.data.toList = x) := by show _ = _; rw [← hX]; rfl
      rw [show Lb.strV x = .string X by rw [← hX]; rfl]
      clear hX
      go_wp2_with fail
      refine (toASCII_any b w2 HT2.out (by omega)).mono ?_
      rintro e w3 ⟨rfl, hb4⟩
      have hb5 := below_chain hb3 hb4 (Nat.le_refl _)
      have HT3 := Lib.hid (HT2.out.below hb4 (Nat.le_refl _))
      obtain ⟨r2, hr2⟩ : ∃ r, Nm.toASCII b.data.toList = r := ⟨_, rfl⟩
      rw [hr2] at HP ⊢
      clear hr2
      obtain ⟨y, c2⟩ := r2
      simp only at HP ⊢
      obtain ⟨Y, hY⟩ : ∃ Y, Lb.str y = Y := ⟨_, rfl⟩
      have HY : Hid (Y.data.toList = y) := by show _ = _; rw [← hY]; rfl
      rw [show Lb.strV y = .string Y by rw [← hY]; rfl]
      clear hY
      have hdt : ((a ++ ⟨#[46]⟩) ++ b).data.toList = a.data.toList ++ 46 :: b.data.toList := by simp [ByteArray.data_append]
      have hds : ((a ++ ⟨#[46]⟩) ++ b).size ≤ 1000000 := by rw [ByteArray.size_append, ByteArray.size_append]; have : (⟨#[46]⟩ : ByteArray).size = 1 := rfl; omega
      have HDT := Lib.hid hdt
      have HDS := Lib.hid hds
      clear hdt hds
      go_wp2_with fail
      with_reducible refine (toASCII_any _ w3 HT3.out ?_).mono ?_
      · with_reducible exact HDS.out
      rintro e w4 ⟨rfl, hb6⟩
      have hb7 := below_chain hb5 hb6 (Nat.le_refl _)
      rw [HDT.out]
      obtain ⟨r3, hr3⟩ : ∃ r, Nm.toASCII (a.data.toList ++ 46 :: b.data.toList) = r := ⟨_, rfl⟩
      rw [hr3] at HP ⊢
      clear hr3
      obtain ⟨z, c3⟩ := r3
      simp only at HP ⊢
      obtain ⟨Z, hZ⟩ : ∃ Z, Lb.str z = Z := ⟨_, rfl⟩
      have HZ : Hid (Z.data.toList = z) := by show _ = _; rw [← hZ]; rfl
      rw [show Lb.strV z = .string Z by rw [← hZ]; rfl]
      clear hZ
      by_cases e0 : c1 = 0
      · subst e0
        rw [show ((0 : Nat) : Int) = 0 from rfl]
        by_cases e2 : c2 = 2
        · subst e2
          rw [show ((2 : Nat) : Int) = 2 from rfl]
          go_wp2_with fail
          go_ret
          exact ⟨rfl, hb7⟩
        have hf2 : ((c2 : Int) == 2) = false := by simp; omega
        by_cases hz : b.size = 0
        · first
            | (exfalso; omega)
            | (clear hz
               go_wp2_with fail
               go_ret
               exact ⟨rfl, hb7⟩)
        · first
            | (exfalso; exact hz HHBZ.out)
            | skip
          all_goals
            have hz2 : Hid (b.size ≠ 0) := hz
            clear hz
            by_cases e3 : c2 = 0
            · subst e3
              rw [show ((0 : Nat) : Int) = 0 from rfl]
              clear hf2
              by_cases hlg : 253 < x.length + 1 + y.length
              · have h253 : (253 : Int) < (X.size : Int) + 1 + (Y.size : Int) := by
                  have h1 : X.size = x.length := by rw [← HX.out]; rfl
                  have h2 : Y.size = y.length := by rw [← HY.out]; rfl
                  omega
                have hXs : X.size ≤ 253 := by rw [show X.size = x.length by rw [← HX.out]; rfl]; exact HP.out.p5 rfl
                have hYs : Y.size ≤ 253 := by rw [show Y.size = y.length by rw [← HY.out]; rfl]; exact HP.out.p6 rfl
                have hg := HP.out.p3 rfl hz2.out rfl hlg
                subst hg
                rw [show ((2 : Nat) : Int) = 2 from rfl]
                clear hlg
                go_wp2_with fail
                go_ret
                exact ⟨ret_bool (by first | rfl | simp), hb7⟩
              · have h253 : ¬ (253 : Int) < (X.size : Int) + 1 + (Y.size : Int) := by
                  have h1 : X.size = x.length := by rw [← HX.out]; rfl
                  have h2 : Y.size = y.length := by rw [← HY.out]; rfl
                  omega
                obtain ⟨hg, hz3⟩ := HP.out.p4 rfl hz2.out rfl hlg
                subst hg
                have hXYs : X.size ≤ 253 ∧ Y.size ≤ 253 := by omega
                obtain ⟨hXs, hYs⟩ := hXYs
                have hzq : (Z.toList == ((X ++ ⟨#[46]⟩) ++ Y).toList) = true := by
                  rw [Lib.toList_data, Lib.toList_data, HZ.out, hz3, ← HX.out, ← HY.out]
                  simp [ByteArray.data_append]
                rw [show ((0 : Nat) : Int) = 0 from rfl]
                clear hlg hz3
                go_wp2_with fail
                go_ret
                exact ⟨ret_bool (by first | rfl | simp), hb7⟩
            · have hf0 : ((c2 : Int) != 0) = true := by simp; omega
              have hg := HP.out.p2 rfl hz2.out e2 e3
              subst hg
              have hq : ((c3 : Int) == (c3 : Int)) = true := by simp
              go_wp2_with fail
              go_ret
              exact ⟨ret_bool (by first | rfl | simp), hb7⟩
      · have he0 : ((c1 : Int) != 0) = true := by simp; omega
        by_cases e2 : c1 = 2
        · subst e2
          rw [show ((2 : Nat) : Int) = 2 from rfl] at he0 ⊢
          clear he0
          go_wp2_with fail
          go_ret
          exact ⟨rfl, hb7⟩
        · have he2 : ((c1 : Int) != 2) = true := by simp; omega
          have hg := HP.out.p1 e0 e2
          subst hg
          have hq : ((c3 : Int) == (c3 : Int)) = true := by simp
          go_wp2_with fail
          go_ret
          exact ⟨ret_bool (by first | rfl | simp), hb7⟩
end Go.Proofs.YtlojfbmngippaaaDoor
