/- The walks of label.Right, name.Good, name.plain. -/
import Derived.Test.YtffjfggndfcfmaaDoorNm
import Derived.Test.YtffjfggndfcfmaaDoorSh
import Derived.Laws.BitsAll
namespace Go.Proofs.YtffjfggndfcfmaaDoor
open Go.RowKit

set_option maxRecDepth 20000 in
set_option maxHeartbeats 1000000 in
theorem plain_any (s : ByteArray) (w : World) (hs : s.size ≤ 1000000) :
    Calls Tryd.prog 44 #[.string s] w fun e w' => e = .returned (.bool (Nm.plain s.data.toList)) ∧ w = w' := by
  obtain ⟨R, hR⟩ : ∃ R, Nm.plain s.data.toList = R := ⟨_, rfl⟩
  rw [hR]
  have HR := Lib.hid hR
  clear hR
  go_enter Tryd.func44, Tryd.ntmps44
  go_wp2
  go_loop [6] (fun i => ∃ k : Nat, k ≤ s.size ∧ i = .int .i64 k ∧ Hid (∀ j, j < k → (s.data.toList.getD j 0).toNat < 128)) (fun i => s.size - (intOf i).toNat)
  case atStart => exact ⟨0, Nat.zero_le _, rfl, fun j hj => absurd hj (Nat.not_lt_zero _)⟩
  case round =>
    obtain ⟨k, hk, rfl, HL⟩ := hrel
    by_cases hlt : k < s.size
    · have hbt : s.data.toList.getD k 0 = s[k] := by rw [List.getD_eq_getElem?_getD, byte_at s k hlt]; rfl
      have h256 : (s[k].toNat : Int) < 256 := by have := s[k].toNat_lt; omega
      by_cases hhi : 128 ≤ s[k].toNat
      · have hfin : R = false := by rw [← HR.out]; exact Nm.plain_bad hlt (by rw [hbt]; exact hhi)
        have HF := Lib.hid hfin
        have h1 : (128 : Int) ≤ (s[k].toNat : Int) := by omega
        clear hfin hhi hbt
        go_wp2
        go_ret
        exact ⟨ret_bool HF.out.symm, rfl⟩
      · have h1 : ¬ (128 : Int) ≤ (s[k].toNat : Int) := by omega
        have HL2 : Hid (∀ j, j < k + 1 → (s.data.toList.getD j 0).toNat < 128) := by
          intro j hj
          by_cases e : j = k
          · subst e; rw [hbt]; omega
          · exact HL.out j (by omega)
        clear hhi hbt HL
        go_wp2
        go_round
        case rel => exact ⟨k + 1, by omega, by go_num, HL2⟩
        case measure => simp [intOf]; omega
    · have hfin : R = true := by
        rw [← HR.out]
        exact Nm.plain_true fun j hj => HL.out j (by have : s.data.toList.length = s.size := rfl; omega)
      have HF := Lib.hid hfin
      clear hfin HL
      go_wp2
      go_ret
      exact ⟨ret_bool HF.out.symm, rfl⟩

set_option maxRecDepth 20000 in
set_option maxHeartbeats 1000000 in
theorem good_any (r : Nat) (w : World) :
    Calls Tryd.prog 49 #[.int .i32 r] w fun e w' => e = .returned (.bool (Nm.good r)) ∧ w = w' := by
  obtain ⟨R, hR⟩ : ∃ R, Nm.good r = R := ⟨_, rfl⟩
  rw [hR]
  have hcase : (R = false ∧ r < 223) ∨ (R = true ∧ 223 ≤ r ∧ r ≤ 255 ∧ r ≠ 247) ∨ (R = false ∧ r = 247) ∨ (R = false ∧ 256 ≤ r ∧ r ≤ 383 ∧ r % 2 ≠ 1) ∨ (R = true ∧ 256 ≤ r ∧ r < 312 ∧ r % 2 = 1) ∨ (R = false ∧ 312 ≤ r ∧ r ≤ 383 ∧ r % 2 = 1) ∨
      (R = false ∧ 384 ≤ r ∧ r < 945) ∨ (R = true ∧ 945 ≤ r ∧ r ≤ 969) ∨ (R = false ∧ 970 ≤ r ∧ r < 1072) ∨ (R = true ∧ 1072 ≤ r ∧ r ≤ 1119) ∨ (R = false ∧ 1120 ≤ r) := by
    have hsay : ∀ b, (Nm.good r = b) → R = b := fun b h => by rw [← hR, h]
    rcases (show r < 223 ∨ (223 ≤ r ∧ r ≤ 255 ∧ r ≠ 247) ∨ r = 247 ∨ (256 ≤ r ∧ r ≤ 383 ∧ r % 2 ≠ 1) ∨ (256 ≤ r ∧ r < 312 ∧ r % 2 = 1) ∨ (312 ≤ r ∧ r ≤ 383 ∧ r % 2 = 1) ∨ (384 ≤ r ∧ r < 945) ∨ (945 ≤ r ∧ r ≤ 969) ∨ (970 ≤ r ∧ r < 1072) ∨ (1072 ≤ r ∧ r ≤ 1119) ∨ 1120 ≤ r by omega) with h | h | h | h | h | h | h | h | h | h | h
    · exact .inl ⟨hsay _ (by unfold Nm.good; split; omega; split; omega; simp; omega), h⟩
    · exact .inr (.inl ⟨hsay _ (by unfold Nm.good; rw [if_pos h]), h⟩)
    · exact .inr (.inr (.inl ⟨hsay _ (by subst h; rfl), h⟩))
    · exact .inr (.inr (.inr (.inl ⟨hsay _ (by unfold Nm.good; split; omega; split; (simp; omega); simp; omega), h⟩)))
    · exact .inr (.inr (.inr (.inr (.inl ⟨hsay _ (by unfold Nm.good; split; omega; split; (simp; omega); simp; omega), h⟩))))
    · exact .inr (.inr (.inr (.inr (.inr (.inl ⟨hsay _ (by unfold Nm.good; split; omega; split; (simp; omega); simp; omega), h⟩)))))
    · exact .inr (.inr (.inr (.inr (.inr (.inr (.inl ⟨hsay _ (by unfold Nm.good; split; omega; split; omega; simp; omega), h⟩))))))
    · exact .inr (.inr (.inr (.inr (.inr (.inr (.inr (.inl ⟨hsay _ (by unfold Nm.good; split; omega; split; omega; simp; omega), h⟩)))))))
    · exact .inr (.inr (.inr (.inr (.inr (.inr (.inr (.inr (.inl ⟨hsay _ (by unfold Nm.good; split; omega; split; omega; simp; omega), h⟩))))))))
    · exact .inr (.inr (.inr (.inr (.inr (.inr (.inr (.inr (.inr (.inl ⟨hsay _ (by unfold Nm.good; split; omega; split; omega; simp; omega), h⟩)))))))))
    · exact .inr (.inr (.inr (.inr (.inr (.inr (.inr (.inr (.inr (.inr ⟨hsay _ (by unfold Nm.good; split; omega; split; omega; simp; omega), h⟩)))))))))
  clear hR
  have hmod : 0 ≤ (r : Int) % 2 := by omega
  rcases hcase with ⟨h, h1⟩ | ⟨h, h1, h2, h3⟩ | ⟨h, h1⟩ | ⟨h, h1, h2, h3⟩ | ⟨h, h1, h2, h3⟩ | ⟨h, h1, h2, h3⟩ | ⟨h, h1, h2⟩ | ⟨h, h1, h2⟩ | ⟨h, h1, h2⟩ | ⟨h, h1, h2⟩ | ⟨h, h1⟩
  all_goals subst h
  case' inr.inl => have h4 : ((r : Int) != 247) = true := by simp; omega
  case' inr.inr.inl => have h4 : ((r : Int) != 247) = false := by simp; omega
  case' inr.inr.inr.inl => have h4 : ((r : Int) % 2 == 1) = false := by simp; omega
  case' inr.inr.inr.inr.inl => have h4 : ((r : Int) % 2 == 1) = true := by simp; omega
  case' inr.inr.inr.inr.inr.inl => have h4 : ((r : Int) % 2 == 1) = true := by simp; omega
  all_goals
    go_enter Tryd.func49, Tryd.ntmps49
    go_wp2
    go_ret
    exact ⟨ret_bool (by first | rfl | exact decide_eq_true (by omega) | exact decide_eq_false (by omega)), rfl⟩

theorem byteOk_cases (n : Nat) (hn : n < 256) : (Nm.byteOk n = true ∧ ((48 ≤ n ∧ n ≤ 57) ∨ n = 45 ∨ n = 95)) ∨
    (¬ (48 ≤ n ∧ n ≤ 57) ∧ n ≠ 45 ∧ n ≠ 95 ∧ ((Nm.byteOk n = false ∧ n ||| 32 < 97) ∨ (Nm.byteOk n = false ∧ 97 ≤ n ||| 32 ∧ 122 < n ||| 32) ∨ (Nm.byteOk n = true ∧ 97 ≤ n ||| 32 ∧ n ||| 32 ≤ 122 ∧ 65 ≤ n) ∨ (Nm.byteOk n = false ∧ 97 ≤ n ||| 32 ∧ n ||| 32 ≤ 122 ∧ n < 65))) := by
  unfold Nm.byteOk
  by_cases h1 : 48 ≤ n ∧ n ≤ 57
  · left; exact ⟨by simp [h1.1, h1.2], .inl h1⟩
  · by_cases h2 : n = 45
    · left; exact ⟨by simp [h2], .inr (.inl h2)⟩
    · by_cases h3 : n = 95
      · left; exact ⟨by simp [h3], .inr (.inr h3)⟩
      · right
        refine ⟨h1, h2, h3, ?_⟩
        have e1 : (decide (48 ≤ n) && decide (n ≤ 57)) = false := by rw [Bool.and_eq_false_iff]; simp only [decide_eq_false_iff_not]; omega
        have e2 : (n == 45) = false := by simpa using h2
        have e3 : (n == 95) = false := by simpa using h3
        rw [e1, e2, e3]
        generalize n ||| 32 = o
        simp only [Bool.false_or, Bool.and_eq_true, Bool.and_eq_false_iff, decide_eq_true_eq, decide_eq_false_iff_not]
        omega

set_option maxRecDepth 20000 in
set_option maxHeartbeats 2000000 in
theorem right_any (s : ByteArray) (w : World) (hs : s.size ≤ 1000000) :
    Calls Tryd.prog 45 #[.string s] w fun e w' => e = .returned (.bool (Nm.right s.data.toList)) ∧ w = w' := by
  obtain ⟨R, hR⟩ : ∃ R, Nm.right s.data.toList = R := ⟨_, rfl⟩
  rw [hR]
  have HR := Lib.hid hR
  clear hR
  go_enter Tryd.func45, Tryd.ntmps45
  by_cases h0 : s.size = 0
  · have hXe : s.toList.isEmpty = true := by rw [empty_iff, decide_eq_true h0]
    have HF := Lib.hid (show R = false by rw [← HR.out]; exact Nm.right_empty (List.eq_nil_of_length_eq_zero h0))
    clear h0
    go_wp2
    go_ret
    exact ⟨ret_bool HF.out.symm, rfl⟩
  have hXe : s.toList.isEmpty = false := by rw [empty_iff, decide_eq_false h0]
  by_cases h63 : 63 < s.size
  · have h1 : (63 : Int) < (s.size : Int) := by omega
    have HF := Lib.hid (show R = false by rw [← HR.out]; exact Nm.right_long h63)
    clear h63
    go_wp2
    go_ret
    exact ⟨ret_bool HF.out.symm, rfl⟩
  have h1 : ¬ (63 : Int) < (s.size : Int) := by omega
  have hp : 0 < s.size := by omega
  have hb0 : s.data.toList.getD 0 0 = s[0] := by rw [List.getD_eq_getElem?_getD, byte_at s 0 hp]; rfl
  by_cases hh : s[0].toNat = 45
  · have h2 : ((s[0].toNat : Int) == 45) = true := by simp; omega
    have HF := Lib.hid (show R = false by rw [← HR.out]; exact Nm.right_head (by rw [hb0]; exact hh))
    clear hh hb0
    go_wp2
    go_ret
    exact ⟨ret_bool HF.out.symm, rfl⟩
  have h2 : ((s[0].toNat : Int) == 45) = false := by simp; omega
  have hbz : s.data.toList.getD (s.size - 1) 0 = s[s.size - 1] := by rw [List.getD_eq_getElem?_getD, byte_at s (s.size - 1) (by omega)]; rfl
  by_cases hl : s[s.size - 1].toNat = 45
  · have h3 : ((s[s.size - 1].toNat : Int) == 45) = true := by simp; omega
    have HF := Lib.hid (show R = false by rw [← HR.out]; exact Nm.right_last (by show (s.data.toList.getD (s.size - 1) 0).toNat = 45; rw [hbz]; exact hl))
    clear hl hh hb0 hbz
    go_wp2
    go_ret
    exact ⟨ret_bool HF.out.symm, rfl⟩
  have h3 : ((s[s.size - 1].toNat : Int) == 45) = false := by simp; omega
  have hend : (∀ k, k < s.size → Nm.byteOk (s.data.toList.getD k 0).toNat = true) → R = true := by
    intro h
    rw [← HR.out]
    refine Nm.right_true (by intro e; apply h0; show s.data.toList.length = 0; rw [e]; rfl) (by show s.size ≤ 63; omega) (by rw [hb0]; exact hh) (by show (s.data.toList.getD (s.size - 1) 0).toNat ≠ 45; rw [hbz]; exact hl) h
  have HEND := Lib.hid hend
  clear hend hl hh hb0 hbz
  go_wp2
  go_loop [28] (fun i => ∃ k : Nat, k ≤ s.size ∧ i = .int .i64 k ∧ Hid (∀ j, j < k → Nm.byteOk (s.data.toList.getD j 0).toNat = true)) (fun i => s.size - (intOf i).toNat)
  case atStart => exact ⟨0, Nat.zero_le _, rfl, fun j hj => absurd hj (Nat.not_lt_zero _)⟩
  case round =>
    obtain ⟨k, hk, rfl, HL⟩ := hrel
    by_cases hlt : k < s.size
    · have hbt : s.data.toList.getD k 0 = s[k] := by rw [List.getD_eq_getElem?_getD, byte_at s k hlt]; rfl
      have h256 : (s[k].toNat : Int) < 256 := by have := s[k].toNat_lt; omega
      have hor : bits .or .u8 (s[k].toNat : Int) 32 = ((s[k].toNat ||| 32 : Nat) : Int) := u8_or_nat _ 32 (by omega) (by omega)
      have hcs := byteOk_cases s[k].toNat (by omega)
      have hbad : Nm.byteOk s[k].toNat = false → R = false := fun h => by rw [← HR.out]; exact Nm.right_bad hlt (by rw [hbt]; exact h)
      have hok : Nm.byteOk s[k].toNat = true → ∀ j, j < k + 1 → Nm.byteOk (s.data.toList.getD j 0).toNat = true := by
        intro h j hj
        by_cases e : j = k
        · subst e; rw [hbt]; exact h
        · exact HL.out j (by omega)
      have HBAD := Lib.hid hbad
      have HOK := Lib.hid hok
      obtain ⟨o, ho⟩ : ∃ o, s[k].toNat ||| 32 = o := ⟨_, rfl⟩
      rw [ho] at hor hcs
      clear hbad hok hbt ho h2 h3 HL
      rcases hcs with ⟨hb, hc⟩ | ⟨n1, n2, n3, hc⟩
      · have HL2 : Hid (∀ j, j < k + 1 → Nm.byteOk (s.data.toList.getD j 0).toNat = true) := HOK.out hb
        have e2 : (((s[k].toNat : Int) != 45) = false) ∨ (((s[k].toNat : Int) != 45) = true) := by cases ((s[k].toNat : Int) != 45) <;> simp
        rcases hc with ⟨c1, c2⟩ | c1 | c1
        case' inr.inl => have f2 : ((s[k].toNat : Int) != 45) = false := by simp; omega
        case' inr.inr =>
          have f2 : ((s[k].toNat : Int) != 45) = true := by simp; omega
          have f3 : ((s[k].toNat : Int) != 95) = false := by simp; omega
        all_goals
          clear e2
          go_wp2
          go_round
          case rel => exact ⟨k + 1, by omega, by go_num, HL2⟩
          case measure => simp [intOf]; omega
      · have f2 : ((s[k].toNat : Int) != 45) = true := by simp; omega
        have f3 : ((s[k].toNat : Int) != 95) = true := by simp; omega
        have f1 : ((48 : Int) ≤ (s[k].toNat : Int) ∧ ¬ (s[k].toNat : Int) ≤ 57) ∨ ¬ (48 : Int) ≤ (s[k].toNat : Int) := by omega
        have g1 : (o : Int) < 97 ∨ ¬ (o : Int) < 97 := by omega
        rcases f1 with ⟨f1, f4⟩ | f1
        all_goals
          rcases hc with ⟨hb, c1⟩ | ⟨hb, c1, c2⟩ | ⟨hb, c1, c2, c3⟩ | ⟨hb, c1, c2, c3⟩
          · have HF := Lib.hid (HBAD.out hb)
            go_wp2
            go_ret
            exact ⟨ret_bool HF.out.symm, rfl⟩
          · have HF := Lib.hid (HBAD.out hb)
            go_wp2
            go_ret
            exact ⟨ret_bool HF.out.symm, rfl⟩
          · have HL2 : Hid (∀ j, j < k + 1 → Nm.byteOk (s.data.toList.getD j 0).toNat = true) := HOK.out hb
            go_wp2
            all_goals
              go_round
              case rel => exact ⟨k + 1, by omega, by go_num, HL2⟩
              case measure => simp [intOf]; omega
          · have HF := Lib.hid (HBAD.out hb)
            go_wp2 <;> (go_ret; exact ⟨ret_bool HF.out.symm, rfl⟩)
    · have HF := Lib.hid (HEND.out fun j hj => HL.out j (by omega))
      clear HL
      go_wp2
      go_ret
      exact ⟨ret_bool HF.out.symm, rfl⟩
end Go.Proofs.YtffjfggndfcfmaaDoor
