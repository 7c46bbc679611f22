/- The walks of name.unicode and name.ascii. -/
import Derived.Test.YtffjfggndfcfmaaDoorAu
import Derived.Test.YtffjfggndfcfmaaDoorNmW
import Derived.Test.YtffjfggndfcfmaaDoorDecW
import Derived.Test.YtffjfggndfcfmaaDoorLabW
import Derived.Lib.OthersKept
import Derived.Laws.Cover4
import Derived.Laws.Runes
namespace Go.Proofs.YtffjfggndfcfmaaDoor
open Go.RowKit

theorem runesBytes_eq (l : List Nat) : ∀ acc : ByteArray, (l.map fun (r : Nat) => (r : Int)).foldl (fun r n => r ++ Utf8.encode n) acc = acc ++ Lb.str (Nm.utf8 l) := by
  induction l with
  | nil => intro acc; show acc = acc ++ Lb.str []; rw [show Lb.str [] = ByteArray.empty from rfl, ByteArray.append_empty]
  | cons r l ih =>
    intro acc
    rw [List.map_cons, List.foldl_cons, ih]
    have e : Lb.str (Nm.utf8 (r :: l)) = Utf8.encode (r : Int) ++ Lb.str (Nm.utf8 l) := by
      unfold Nm.utf8
      rw [List.flatMap_cons, ← Lb.str_append, Lb.str_back]
    rw [e, ByteArray.append_assoc]
/-- A slice of runes of the call's own, turned into a string. -/
theorem conv_runes {w : World} {B : Nat} {v : Value} {l : List Nat} (h : w.ownsRow B 21 1 v l.length (l.map runeV)) : (convert 115 9 v).run Tryd.prog w = .ok (Lb.strV (Nm.utf8 l)) w := by
  rcases h.2 with ⟨rfl, hn⟩ | ⟨g, cap, cur, rfl, _, hh, _⟩
  · have : l = [] := List.eq_nil_of_length_eq_zero hn
    subst this
    rw [run_convert_runes_nil w 115 9 21 _ _ Tryd.underlying115 Tryd.underlying21 Tryd.underlying9]
    rfl
  · rw [run_convert_runes w 115 9 21 ⟨g, 0, none⟩ l.length cap (l.map fun (r : Nat) => (r : Int)) (by simp) Tryd.underlying115 Tryd.underlying21 Tryd.underlying9 (fun j hj => by
      rw [List.length_map] at hj
      rw [show (⟨g, 0, none⟩ : Addr).add j = ⟨g, j, none⟩ by unfold Addr.add; split <;> simp_all]
      rw [h.cellAt j (by omega), List.getElem?_map, List.getElem?_eq_getElem hj, List.getD_eq_getElem?_getD, List.getElem?_map, List.getElem?_eq_getElem hj]; rfl)]
    rw [List.take_of_length_le (by simp)]
    unfold runesBytes
    rw [runesBytes_eq, ByteArray.empty_append]
    rfl
theorem any_snoc (p : Nat → Bool) (l : List Nat) (k : Nat) (h : k < l.length) : (l.take (k + 1)).any p = ((l.take k).any p || p (l.getD k 0)) := by
  rw [take_snoc l k 0 h, List.any_append]; simp
theorem wide_snoc (l : List Nat) (k : Nat) (h : k < l.length) : Nm.wide l (k + 1) = (Nm.wide l k || decide (128 ≤ l.getD k 0)) := any_snoc _ l k h
theorem uni_bad {l : List Nat} {k : Nat} (hk : k < l.length) (h : Nm.okRune (l.getD k 0) = false) : Nm.uniTail l = ([], 3) := by
  have : l.all Nm.okRune = false := by
    rw [List.all_eq_false]; exact ⟨_, getD_mem l k 0 hk, by rw [h]; decide⟩
  unfold Nm.uniTail; rw [this]; rfl
theorem uni_narrow {l : List Nat} (h : l.any (fun r => decide (128 ≤ r)) = false) : Nm.uniTail l = ([], 3) := by
  unfold Nm.uniTail; rw [h, Bool.and_false]; rfl
theorem uni_hy {l : List Nat} (h : Nm.isHy l = true) : Nm.uniTail l = ([], 3) := by
  unfold Nm.uniTail; rw [h, Bool.not_true, Bool.and_false]; rfl
theorem uni_good {l : List Nat} (h1 : ∀ k, k < l.length → Nm.okRune (l.getD k 0) = true) (h2 : l.any (fun r => decide (128 ≤ r)) = true) (h3 : Nm.isHy l = false) : Nm.uniTail l = (Nm.utf8 l, 0) := by
  have : l.all Nm.okRune = true := by
    rw [List.all_eq_true]
    intro c hc
    obtain ⟨k, hk, rfl⟩ := List.mem_iff_getElem.1 hc
    have := h1 k hk
    rwa [List.getD_eq_getElem?_getD, List.getElem?_eq_getElem hk] at this
  unfold Nm.uniTail; rw [this, h2, h3]; rfl

theorem one_any (r : Nat) (w : World) (h : r < 128) :
    Calls Tryd.prog 45 #[.string (((⟨#[97]⟩ : ByteArray) ++ Utf8.encode (r : Int)) ++ ⟨#[97]⟩)] w fun e w' => e = .returned (.bool (Nm.byteOk r)) ∧ w = w' := by
  rw [← Nm.right_one r h]
  refine right_any _ w ?_
  have he : (Utf8.encode (r : Int)).size ≤ 4 := Nm.encode_size _
  rw [ByteArray.size_append, ByteArray.size_append]
  have : (⟨#[97]⟩ : ByteArray).size = 1 := rfl
  omega

set_option maxRecDepth 20000 in
set_option maxHeartbeats 4000000 in
theorem uni_any (s : ByteArray) (w : World) (hs : s.size ≤ 1000000) :
    Calls Tryd.prog 47 #[.string s] w fun e w' => e = .returned (.tuple #[Lb.strV (Nm.uni s.data.toList).1, .int .i64 ((Nm.uni s.data.toList).2 : Nat)]) ∧ Below w.heap.size w w' := by
  obtain ⟨RS, hRS⟩ : ∃ RS, Nm.uni s.data.toList = RS := ⟨_, rfl⟩
  rw [hRS]
  have HRS := Lib.hid hRS
  clear hRS
  go_enter Tryd.func47, Tryd.ntmps47
  go_wp2_with fail
  refine (cutPrefix_any s ⟨#[120, 110, 45, 45]⟩ w).mono ?_
  rintro e w1 ⟨rfl, rfl⟩
  obtain ⟨HP, hHP⟩ : ∃ HP, Lib.hasPrefix s.data.toList Nm.xn = HP := ⟨_, rfl⟩
  rw [show (⟨#[120, 110, 45, 45]⟩ : ByteArray).data.toList = Nm.xn from rfl, hHP]
  have HHP := Lib.hid hHP
  clear hHP
  cases HP with
  | false =>
    have HF := Lib.hid (show RS = (s.data.toList, 0) by rw [← HRS.out]; unfold Nm.uni; rw [HHP.out]; rfl)
    go_wp2_with fail
    go_ret2
    exact ⟨by rw [HF.out]; show _ = Ending.returned (.tuple #[.string (Lb.str s.data.toList), _]); rw [Lb.str_back]; rfl, Below.refl _ _⟩
  | true =>
    have htr : Lib.trimPrefix s.data.toList Nm.xn = s.data.toList.drop 4 := by unfold Lib.trimPrefix; rw [HHP.out]; rfl
    rw [htr]
    have hRS2 : (if (decR (s.data.toList.drop 4)).2 ≠ 0 then ([], (decR (s.data.toList.drop 4)).2) else Nm.uniTail (decR (s.data.toList.drop 4)).1) = RS := by rw [← HRS.out]; unfold Nm.uni; rw [HHP.out]; rfl
    have hx4 : (Lb.str (s.data.toList.drop 4)).size ≤ 1000000 := by rw [Lb.str_size, List.length_drop]; have : s.data.toList.length = s.size := rfl; omega
    have HR2 := Lib.hid hRS2
    have HX4 := Lib.hid hx4
    clear hRS2 hx4 htr HRS HHP
    go_wp2_with fail
    refine (decode_any (Lb.str (s.data.toList.drop 4)) w HX4.out).mono ?_
    rintro e w2 ⟨v, rfl, hown, hbel⟩
    rw [Lb.str_toList] at hown ⊢
    obtain ⟨D, hD⟩ : ∃ D, decR (s.data.toList.drop 4) = D := ⟨_, rfl⟩
    have hD3 : D.2 = 0 ∨ D.2 = 3 := by
      rw [← hD]; unfold decR
      cases Pu.decode (s.data.toList.drop 4) <;> simp
    rw [hD] at hown HR2 ⊢
    obtain ⟨l, c⟩ := D
    clear hD
    simp only at hown hD3 HR2 ⊢
    rcases hD3 with h3 | h3
    rotate_left
    · subst h3
      have HF := Lib.hid (show RS = ([], 3) by rw [← HR2.out]; rfl)
      clear HR2 hown
      go_wp2_with fail
      go_ret2
      exact ⟨by rw [HF.out]; rfl, hbel⟩
    · subst h3
      rw [show ((0 : Nat) : Int) = 0 from rfl]
      have HR3 : Hid (Nm.uniTail l = RS) := by show Nm.uniTail l = RS; rw [← HR2.out]; rfl
      have hconv := conv_runes hown
      have hcells := runesAt_of_own hown
      have hLM : l.length ≤ 9223372036854775807 := by
        obtain ⟨A, c, hv⟩ := own_len hown
        rw [hv] at hown
        have := own_cap hown
        unfold maxLen at this; omega
      have HCONV := Lib.hid hconv
      clear hconv HR2 hown
      rcases hcells with ⟨rfl, A, c, rfl⟩ | ⟨b, o, c, rfl, hbw, hcell⟩
      · have HF := Lib.hid (show RS = ([], 3) by rw [← HR3.out]; rfl)
        go_wp2_with fail
        go_loop [8, 29] (fun wd i => wd = .bool false ∧ i = .int .i64 0) (fun _ _ => 0)
        case atStart => exact ⟨rfl, rfl⟩
        case round =>
          obtain ⟨rfl, rfl⟩ := hrel
          go_wp2_with fail
          go_ret2
          exact ⟨by rw [HF.out]; rfl, hbel⟩
      · obtain ⟨L, hL⟩ : ∃ L, l.length = L := ⟨_, rfl⟩
        rw [hL] at hcell HCONV hLM ⊢
        have HL := Lib.hid hL
        have HCELL := Lib.hid hcell
        clear hL hcell
        go_wp2_with fail
        go_loop [8, 29] (fun wd i => ∃ k : Nat, k ≤ L ∧ i = .int .i64 k ∧ wd = .bool (Nm.wide l k) ∧ Hid (∀ j, j < k → Nm.okRune (l.getD j 0) = true)) (fun _ i => L - (intOf i).toNat)
        case atStart => exact ⟨0, Nat.zero_le _, rfl, rfl, fun j hj => absurd hj (Nat.not_lt_zero _)⟩
        case round =>
          obtain ⟨k, hk, rfl, rfl, HOK⟩ := hrel
          obtain ⟨wb, hwb⟩ : ∃ wb, Nm.wide l k = wb := ⟨_, rfl⟩
          rw [hwb]
          have HW := Lib.hid hwb
          clear hwb
          by_cases hkl : k < L
          · have hcell := HCELL.out k hkl
            have hkl2 : k < l.length := by rw [HL.out]; exact hkl
            have hsn := wide_snoc l k hkl2
            have hbad : Nm.okRune (l.getD k 0) = false → RS = ([], 3) := fun h => by rw [← HR3.out]; exact uni_bad hkl2 h
            have hok : Nm.okRune (l.getD k 0) = true → ∀ j, j < k + 1 → Nm.okRune (l.getD j 0) = true := by
              intro h j hj
              by_cases e : j = k
              · subst e; exact h
              · exact HOK.out j (by omega)
            rw [HW.out] at hsn
            obtain ⟨r, hr⟩ : ∃ r, l.getD k 0 = r := ⟨_, rfl⟩
            rw [hr] at hcell hsn hbad hok
            have HBAD := Lib.hid hbad
            have HOK2 := Lib.hid hok
            have HSN := Lib.hid hsn
            clear hbad hok hsn hr hkl2 HW HOK
            by_cases h128 : 128 ≤ r
            · have h1 : (128 : Int) ≤ (r : Int) := by omega
              have HW2 : Hid (Nm.wide l (k + 1) = true) := by
                show _ = _
                rw [HSN.out, decide_eq_true h128, Bool.or_true]
              have hokr := Nm.ok_high h128
              rw [hokr] at HBAD HOK2
              clear hokr
              go_wp2_with fail
              refine (good_any r w2).mono ?_
              rintro e w3 ⟨rfl, rfl⟩
              obtain ⟨G, hG⟩ : ∃ G, Nm.good r = G := ⟨_, rfl⟩
              rw [hG] at HBAD HOK2 ⊢
              cases G
              · have HF := Lib.hid (HBAD.out rfl)
                go_wp2_with fail
                go_ret2
                exact ⟨by rw [HF.out]; rfl, hbel⟩
              · have HOK3 := Lib.hid (HOK2.out rfl)
                cases wb
                all_goals
                  go_wp2_with fail
                  go_round
                  case rel => exact ⟨k + 1, by omega, by go_num, by rw [HW2.out]; first | done | rw [decide_eq_false (by omega)] | rw [decide_eq_true (by omega)], HOK3⟩
                  case measure => simp [intOf]; omega
            · have h1 : ¬ (128 : Int) ≤ (r : Int) := by omega
              have h2 : (r : Int) < 128 := by omega
              have HW2 : Hid (Nm.wide l (k + 1) = wb) := by
                show _ = _
                rw [HSN.out, decide_eq_false h128, Bool.or_false]
              have hokr := Nm.ok_low (show r < 128 by omega)
              rw [hokr] at HBAD HOK2
              clear hokr
              obtain ⟨E, hE⟩ : ∃ E, Utf8.encode (r : Int) = E := ⟨_, rfl⟩
              have hone := one_any r w2 (by omega)
              rw [hE] at hone
              have HONE := Lib.hid hone
              clear hone
              have hEs : E.size ≤ 4 := by rw [← hE]; exact Nm.encode_size _
              go_wp2_with fail
              refine HONE.out.mono ?_
              rintro e w3 ⟨rfl, rfl⟩
              obtain ⟨G, hG⟩ : ∃ G, Nm.byteOk r = G := ⟨_, rfl⟩
              rw [hG] at HBAD HOK2 ⊢
              cases G
              · have HF := Lib.hid (HBAD.out rfl)
                go_wp2_with fail
                go_ret2
                exact ⟨by rw [HF.out]; rfl, hbel⟩
              · have HOK3 := Lib.hid (HOK2.out rfl)
                cases wb
                all_goals
                  go_wp2_with fail
                  go_round
                  case rel => exact ⟨k + 1, by omega, by go_num, by rw [HW2.out]; first | done | rw [decide_eq_false (by omega)] | rw [decide_eq_true (by omega)], HOK3⟩
                  case measure => simp [intOf]; omega
          · have hall : l.any (fun r => decide (128 ≤ r)) = wb := by
              rw [← HW.out]; unfold Nm.wide; rw [List.take_of_length_le (by have := HL.out; omega)]
            have hoks : ∀ j, j < l.length → Nm.okRune (l.getD j 0) = true := fun j hj => HOK.out j (by have := HL.out; omega)
            cases wb
            · have HF := Lib.hid (show RS = ([], 3) by rw [← HR3.out]; exact uni_narrow hall)
              clear hall hoks HW HOK
              go_wp2_with fail
              go_ret2
              exact ⟨by rw [HF.out]; rfl, hbel⟩
            · have hL0 : 0 < L := by
                rcases Nat.eq_zero_or_pos L with e | e
                · have := HL.out
                  rw [e] at this
                  rw [List.eq_nil_of_length_eq_zero this] at hall; cases hall
                · exact e
              have hc0 := HCELL.out 0 hL0
              have hc1 := HCELL.out (L - 1) (by omega)
              have hgood : Nm.isHy l = false → RS = (Nm.utf8 l, 0) := fun h => by rw [← HR3.out]; exact uni_good hoks hall h
              have hhy : Nm.isHy l = true → RS = ([], 3) := fun h => by rw [← HR3.out]; exact uni_hy h
              have hhe : Nm.isHy l = (l.getD 0 0 == 45 || l.getD (L - 1) 0 == 45) := by unfold Nm.isHy; rw [HL.out]
              rw [hhe] at hgood hhy
              obtain ⟨r0, hr0⟩ : ∃ r, l.getD 0 0 = r := ⟨_, rfl⟩
              obtain ⟨r1, hr1⟩ : ∃ r, l.getD (L - 1) 0 = r := ⟨_, rfl⟩
              rw [hr0, hr1] at hgood hhy
              rw [hr0] at hc0
              rw [hr1] at hc1
              have HG := Lib.hid hgood
              have HH := Lib.hid hhy
              clear hgood hhy hhe hr0 hr1 hall hoks HW HOK
              have hc0' : w2.cell? ⟨b, o, none⟩ = some (.int .i32 (r0 : Int)) := hc0
              have hc1' : w2.cell? ⟨b, o + ((L : Int) - 1).toNat, none⟩ = some (.int .i32 (r1 : Int)) := by rw [show ((L : Int) - 1).toNat = L - 1 by omega]; exact hc1
              by_cases e0 : r0 = 45
              · have f0 : ((r0 : Int) == 45) = true := by simp; omega
                have HF := Lib.hid (HH.out (by simp [e0]))
                go_wp2_with fail
                go_ret2
                exact ⟨by rw [HF.out]; rfl, hbel⟩
              · have f0 : ((r0 : Int) == 45) = false := by simp; omega
                by_cases e1 : r1 = 45
                · have f1 : ((r1 : Int) == 45) = true := by simp; omega
                  have HF := Lib.hid (HH.out (by simp [e1]))
                  go_wp2_with fail
                  go_ret2
                  exact ⟨by rw [HF.out]; rfl, hbel⟩
                · have f1 : ((r1 : Int) == 45) = false := by simp; omega
                  have HF := Lib.hid (HG.out (by simp [e0, e1]))
                  have hconv := HCONV.out
                  go_wp2_with fail
                  go_ret2
                  exact ⟨by rw [HF.out]; rfl, hbel⟩
end Go.Proofs.YtffjfggndfcfmaaDoor
