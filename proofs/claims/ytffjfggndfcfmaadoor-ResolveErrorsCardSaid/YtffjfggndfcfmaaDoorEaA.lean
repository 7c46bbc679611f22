/- The walks of name.each (turned by name.ascii) and ToASCII. Printed by mkeach.py. -/
import Derived.Test.YtffjfggndfcfmaaDoorAsW
import Derived.Test.YtffjfggndfcfmaaDoorEa
namespace Go.Proofs.YtffjfggndfcfmaaDoor
open Go.RowKit

set_option maxRecDepth 20000 in
set_option maxHeartbeats 4000000 in
theorem each_asc_any (s : ByteArray) (w : World) (hs : s.size ≤ 1012) (hT : Tabs w) :
    Calls Tryd.prog 28 #[.string s, .func (.func 29) #[] #[]] w fun e w' => e = .returned (.tuple #[Lb.strV (Nm.each Nm.asc s.data.toList).1, .int .i64 ((Nm.each Nm.asc s.data.toList).2 : Nat)]) ∧ Below w.heap.size w w' := by
  obtain ⟨RS, hRS⟩ : ∃ RS, Nm.each Nm.asc s.data.toList = RS := ⟨_, rfl⟩
  rw [hRS]
  obtain ⟨i0, hi, hz0, hz1, hz2⟩ := info_parts str_info
  go_enter Tryd.func28, Tryd.ntmps28
  go_wp2_with fail
  refine (cutSuffix_any s ⟨#[46]⟩ w (by omega)).mono ?_
  rintro e w1 ⟨rfl, rfl⟩
  obtain ⟨T, hT2⟩ : ∃ T, Lib.trimSuffix s.data.toList [46] = T := ⟨_, rfl⟩
  have hTl : T.length ≤ 1012 := by
    have := Nm.trimSuffix_len s.data.toList [46]
    have h2 : s.data.toList.length = s.size := rfl
    rw [hT2] at this; omega
  have hRS2 : Nm.eachL Nm.asc [] (Lb.split T) = RS := by rw [← hRS, ← hT2]; rfl
  rw [show (⟨#[46]⟩ : ByteArray).data.toList = [46] from rfl, hT2]
  obtain ⟨HS, hHS⟩ : ∃ HS, Lib.hasSuffix s.data.toList [46] = HS := ⟨_, rfl⟩
  rw [hHS]
  have hTs : (Lb.str T).size ≤ 1000000 := by rw [Lb.str_size]; omega
  have HTS := Lib.hid hTs
  have HT := Lib.hid hT
  have HRS := Lib.hid hRS2
  clear hRS hRS2 hT2 hHS hTs hT
  go_wp2_with fail
  refine (split_any (Lb.str T) w HTS.out).mono ?_
  rintro e w2 ⟨v, rfl, hown, hb2⟩
  rw [Lb.str_toList] at hown
  have hsa := strsAt_of_own hown
  have hjs : Lb.join (Lb.split T) = T := Lb.join_split T
  have hnl := Lb.split_length_le T
  obtain ⟨xs, hxs⟩ : ∃ xs, Lb.split T = xs := ⟨_, rfl⟩
  have hne : xs ≠ [] := by rw [← hxs]; exact Lb.split_ne_nil T
  rw [hxs] at hsa hjs hnl HRS
  obtain ⟨n, hn⟩ : ∃ n, xs.length = n := ⟨_, rfl⟩
  rcases hsa with ⟨hx, _⟩ | ⟨b, o, c, rfl, hblt, hcell⟩
  · exact absurd hx hne
  rw [hn] at hcell hnl ⊢
  have HN := Lib.hid hn
  have HJ := Lib.hid hjs
  have HCELL := Lib.hid hcell
  have HT2 := Lib.hid (HT.out.below hb2 (Nat.le_refl _))
  have hn2 : n ≤ 1013 := by omega
  have hbb : w.heap.size ≤ w2.heap.size := hb2.size
  clear hcell hn hjs hown hxs hne hnl
  go_wp2_with fail
  go_loopw [6, 19] (fun out i wx => ∃ (k : Nat) (acc : List Lb.Bytes), k ≤ n ∧ acc.length = k ∧ i = .int .i64 k ∧ wx.ownsRow w2.heap.size 9 1 out acc.length (acc.map Lb.strV) ∧ Below w2.heap.size w2 wx ∧
      (Lb.join acc).length ≤ (Lb.join (xs.take k)).length + 252 * k ∧ Hid (Nm.eachL Nm.asc acc (xs.drop k) = RS))
    (fun _ i _ => n - (intOf i).toNat)
  case atStart => exact ⟨0, [], Nat.zero_le _, rfl, rfl, World.ownsRow_nil _ _ _ _, Below.refl _ _, by simp [Lb.join], HRS⟩
  case round =>
    obtain ⟨k, acc, hk, hak, rfl, hown, hbel, hjl, HE⟩ := hrel
    have hbs : w2.heap.size ≤ wr.heap.size := hbel.size
    by_cases hkn : k < n
    · have hkx : k < xs.length := by rw [HN.out]; exact hkn
      have hcell : wr.cell? ⟨b, o + k, none⟩ = some (Lb.strV (xs.getD k [])) := (hbel.cell (p := ⟨b, o + k, none⟩) (by show b < _; omega)).trans (HCELL.out k hkn)
      have hlen := Lb.join_step_len xs k hkx
      have hle := Lb.join_elem_le xs k hkx
      rw [HJ.out] at hle
      have hdrop : xs.drop k = xs.getD k [] :: xs.drop (k + 1) := by
        rw [List.drop_eq_getElem_cons hkx, List.getD_eq_getElem?_getD, List.getElem?_eq_getElem hkx]; rfl
      obtain ⟨p, hp⟩ : ∃ p, xs.getD k [] = p := ⟨_, rfl⟩
      rw [hp] at hcell hlen hle hdrop
      obtain ⟨X, hX⟩ : ∃ X, Lb.str p = X := ⟨_, rfl⟩
      have hXp : X.data.toList = p := by rw [← hX]; rfl
      have hXs : X.size ≤ 1012 := by rw [← hX]; show p.length ≤ 1012; omega
      have hcell2 : wr.cell? ⟨b, o + k, none⟩ = some (.string X) := by rw [← hX]; exact hcell
      have HE2 : Hid (Nm.eachL Nm.asc acc (p :: xs.drop (k + 1)) = RS) := by show _ = _; rw [← hdrop]; exact HE.out
      have hfl := Nm.asc_len p
      have htk := Lb.join_take_le xs k (by omega)
      have HXP := Lib.hid hXp
      have HTX := Lib.hid (HT2.out.below hbel (Nat.le_refl _))
      clear hcell hdrop hp hX hXp HE
      go_wp2_with fail
      refine (asc_any X wr (by omega) HTX.out).mono ?_
      rintro e w3 ⟨rfl, hb3⟩
      rw [HXP.out]
      have hbel3 : Below w2.heap.size w2 w3 := below_chain hbel hb3 (Nat.le_refl _)
      have hown3 := own_later hown hb3
      obtain ⟨t, ht⟩ : ∃ t, Nm.asc p = t := ⟨_, rfl⟩
      have hbad : t.2 ≠ 0 → RS = ([], t.2) := fun h => by rw [← HE2.out, ← ht]; exact Nm.eachL_bad (by rw [ht]; exact h)
      have hon : t.2 = 0 → Nm.eachL Nm.asc (acc ++ [t.1]) (xs.drop (k + 1)) = RS := fun h => by rw [← HE2.out, ← ht]; exact (Nm.eachL_on (by rw [ht]; exact h)).symm
      rw [ht] at hfl ⊢
      obtain ⟨t, c⟩ := t
      simp only at hbad hon hfl ⊢
      have HBAD := Lib.hid hbad
      have HON := Lib.hid hon
      have HB3 := Lib.hid hbel3
      clear ht hbad hon HE2 hbel hown hb3 hbel3
      by_cases hc : c = 0
      · subst hc
        have HON2 := Lib.hid (HON.out rfl)
        have hbs3 : w2.heap.size ≤ w3.heap.size := HB3.out.size
        have hsl := Nm.join_snoc_len acc t
        have hal2 : (acc ++ [t]).length = k + 1 := by simp [hak]
        have hjl2 : (Lb.join (acc ++ [t])).length ≤ (Lb.join (xs.take (k + 1))).length + 252 * (k + 1) := by rw [hsl, hlen, hak]; split <;> omega
        have HJL := Lib.hid hjl2
        have HAL := Lib.hid hal2
        have hal3 : acc.length ≤ 1013 := by omega
        rw [show ((0 : Nat) : Int) = 0 from rfl]
        obtain ⟨Y, hY⟩ : ∃ Y, Lb.str t = Y := ⟨_, rfl⟩
        have HY : Hid (Lb.strV t = .string Y) := by show _ = _; rw [← hY]; rfl
        rw [HY.out]
        clear hsl hjl2 hal2 hlen hle hjl hfl htk hY
        go_wp2_with (at_builtin; refine wpList_append_own _ rfl (.tmp 32) (.tmp 34) 42 rfl w2.heap.size 9 i0 (.string .empty) 1 16 Tryd.underlying42 hi hz0 hz1 hz2 rfl (by decide) _ _ _ rfl (hown3.alloc _) ⟨w3.heap.size, 0, none⟩ 1 1 [.string Y] rfl rfl (cell_one_new _ _ _) (by simp [Value.oneCell']) (by unfold maxLen; omega) (by omega) (by simp; omega) ?_; intro v' wz hown' hgrow _)
        have hb' : Below w2.heap.size w2 wz := (HB3.out.alloc hbs3 _).grown hgrow (by simp; omega) (fun g hg => own_base_le hown3 hg)
        have hown2 : wz.ownsRow w2.heap.size 9 1 v' (acc ++ [t]).length ((acc ++ [t]).map Lb.strV) := by
          rw [List.map_append, List.map_cons, List.map_nil, HY.out, List.length_append]; exact hown'
        have H2 := Lib.hid hown2
        have HB' := Lib.hid hb'
        clear hown' hown2 hgrow hown3 hb'
        go_wp2_with fail
        go_roundw
        case rel => exact ⟨k + 1, acc ++ [t], by omega, HAL.out, by go_num, H2.out, HB'.out, HJL.out, HON2⟩
        case measure => simp [intOf]; omega
      · have HF := Lib.hid (HBAD.out hc)
        have hce : ((c : Int) != 0) = true := by simp; omega
        have hb4 := below_chain hb2 HB3.out (Nat.le_refl _)
        clear hown3
        go_wp2_with fail
        go_ret2
        exact ⟨by rw [HF.out]; rfl, hb4⟩
    · have hfin : RS = (Lb.join acc, 0) := by
        rw [← HE.out, List.drop_of_length_le (by have := HN.out; omega)]; rfl
      have hjt : (Lb.join acc).length ≤ 1000000 := by
        have h1 := Lb.join_take_le xs k (by have := HN.out; omega)
        rw [HJ.out] at h1
        omega
      have hst := strsAt_of_own hown
      have HF := Lib.hid hfin
      have HJT := Lib.hid hjt
      have hb4 := below_chain hb2 hbel (Nat.le_refl _)
      have hal : acc.length ≤ 1000000 := by omega
      clear hfin hjt hjl HE
      go_wp2_with fail
      refine (join_any u6 acc wr hst hal HJT.out).mono ?_
      rintro e w3 ⟨rfl, rfl⟩
      go_wp2_with fail
      go_ret2
      exact ⟨by rw [HF.out]; rfl, hb4⟩

set_option maxRecDepth 20000 in
set_option maxHeartbeats 2000000 in
theorem toASCII_any (s : ByteArray) (w : World) (hT : Tabs w) (hs : s.size ≤ 1000000) :
    Calls Tryd.prog 17 #[.string s] w fun e w' => e = .returned (.tuple #[Lb.strV (Nm.toASCII s.data.toList).1, .int .i64 ((Nm.toASCII s.data.toList).2 : Nat)]) ∧ Below w.heap.size w w' := by
  obtain ⟨RS, hRS⟩ : ∃ RS, Nm.toASCII s.data.toList = RS := ⟨_, rfl⟩
  rw [hRS]
  by_cases hl : 1012 < s.size
  · have HF := Lib.hid (show RS = ([], 2) by rw [← hRS]; unfold Nm.toASCII; rw [if_pos (show 1012 < s.data.toList.length from hl)])
    have h1 : (1012 : Int) < (s.size : Int) := by omega
    clear hRS
    go_enter Tryd.func17, Tryd.ntmps17
    go_wp2_with fail
    go_ret2
    exact ⟨by rw [HF.out]; rfl, Below.refl _ _⟩
  have h1 : ¬ (1012 : Int) < (s.size : Int) := by omega
  have hR2 : (if (Nm.each Nm.asc s.data.toList).2 = 0 ∧ 253 < (Nm.each Nm.asc s.data.toList).1.length then ([], 2) else Nm.each Nm.asc s.data.toList) = RS := by
    rw [← hRS]; unfold Nm.toASCII; rw [if_neg (show ¬ 1012 < s.data.toList.length from hl)]
  have HR := Lib.hid hR2
  clear hRS hR2
  go_enter Tryd.func17, Tryd.ntmps17
  go_wp2_with fail
  refine (each_asc_any s w (by omega) hT).mono ?_
  rintro e w1 ⟨rfl, hb⟩
  obtain ⟨t, ht⟩ : ∃ t, Nm.each Nm.asc s.data.toList = t := ⟨_, rfl⟩
  rw [ht] at HR ⊢
  clear ht
  obtain ⟨t, c⟩ := t
  simp only at HR ⊢
  obtain ⟨X, hX⟩ : ∃ X, Lb.str t = X := ⟨_, rfl⟩
  have hXs : X.size = t.length := by rw [← hX]; rfl
  rw [show Lb.strV t = .string X by rw [← hX]; rfl]
  by_cases hc : c = 0
  · subst hc
    rw [show ((0 : Nat) : Int) = 0 from rfl]
    by_cases hlg : 253 < t.length
    · have HF := Lib.hid (show RS = ([], 2) by rw [← HR.out, if_pos ⟨rfl, hlg⟩])
      have h2 : (253 : Int) < (X.size : Int) := by omega
      clear HR
      go_wp2_with fail
      go_ret2
      exact ⟨by rw [HF.out]; rfl, hb⟩
    · have HF := Lib.hid (show RS = (t, 0) by rw [← HR.out, if_neg (by rintro ⟨_, h⟩; exact hlg h)])
      have h2 : ¬ (253 : Int) < (X.size : Int) := by omega
      clear HR
      go_wp2_with fail
      go_ret2
      exact ⟨by rw [HF.out]; show _ = Ending.returned (.tuple #[.string (Lb.str t), _]); rw [hX]; rfl, hb⟩
  · have HF := Lib.hid (show RS = (t, c) by rw [← HR.out, if_neg (by rintro ⟨h, _⟩; exact hc h)])
    have hce : ((c : Int) == 0) = false := by simp; omega
    clear HR
    go_wp2_with fail
    go_ret2
    exact ⟨by rw [HF.out]; show _ = Ending.returned (.tuple #[.string (Lb.str t), _]); rw [hX]; rfl, hb⟩

end Go.Proofs.YtffjfggndfcfmaaDoor
