/- The walk of NamePlain. -/
import Derived.Test.YtlojfbmngippaaaDoorFit
import Derived.Test.YtlojfbmngippaaaDoorNbW
import Derived.Test.YtlojfbmngippaaaDoorNp
namespace Go.Proofs.YtlojfbmngippaaaDoor
open Go.RowKit
set_option linter.unusedVariables false
/-- Each text's size, and one more. -/
def tot : List Lb.Bytes → Nat
  | [] => 0
  | x :: xs => x.length + 1 + tot xs
theorem tot_append (xs ys : List Lb.Bytes) : tot (xs ++ ys) = tot xs + tot ys := by
  induction xs with
  | nil => simp [tot]
  | cons x xs ih => simp only [List.cons_append, tot, ih]; omega
theorem tot_snoc (xs : List Lb.Bytes) (k : Nat) (h : k < xs.length) : tot (xs.take (k + 1)) = tot (xs.take k) + ((xs.getD k []).length + 1) := by
  rw [take_snoc xs k [] h, tot_append]
  simp [tot]
theorem join_tot : ∀ (xs : List Lb.Bytes), xs ≠ [] → (Lb.join xs).length + 1 = tot xs
  | [], h => absurd rfl h
  | [x], _ => by simp [Lb.join, tot]
  | x :: y :: l, _ => by
    have ih := join_tot (y :: l) (by simp)
    simp only [Lb.join, tot, List.length_append, List.length_cons] at ih ⊢
    omega
theorem tot_take_le (xs : List Lb.Bytes) (h : ∀ j, j < xs.length → (xs.getD j []).length ≤ 100) : ∀ k, k ≤ xs.length → tot (xs.take k) ≤ 101 * k
  | 0, _ => by simp [tot]
  | k + 1, hk => by
    have ih := tot_take_le xs h k (by omega)
    have h1 := h k (by omega)
    rw [tot_snoc xs k (by omega)]
    omega
theorem all_snoc (p : Lb.Bytes → Bool) (xs : List Lb.Bytes) (k : Nat) (h : k < xs.length) : (xs.take (k + 1)).all p = ((xs.take k).all p && p (xs.getD k [])) := by
  rw [take_snoc xs k [] h, List.all_append]; simp
/-- What has been seen of the labels up to k. -/
structure Seen (xs : List Lb.Bytes) (k : Nat) : Prop where
  lab : ∀ j, j < k → Nm.PlainLab (xs.getD j [])
  len : ∀ j, j < k → (xs.getD j []).length ≤ 100
theorem Seen.zero (xs : List Lb.Bytes) : Seen xs 0 := ⟨fun j h => absurd h (Nat.not_lt_zero _), fun j h => absurd h (Nat.not_lt_zero _)⟩
theorem Seen.next {xs : List Lb.Bytes} {k : Nat} (h : Seen xs k) (h1 : Nm.PlainLab (xs.getD k [])) (h2 : (xs.getD k []).length ≤ 100) : Seen xs (k + 1) :=
  ⟨fun j hj => by rcases Nat.lt_or_ge j k with h3 | h3; exact h.lab j h3; obtain rfl : j = k := by omega
                  exact h1,
   fun j hj => by rcases Nat.lt_or_ge j k with h3 | h3; exact h.len j h3; obtain rfl : j = k := by omega
                  exact h2⟩
theorem Seen.tot {xs : List Lb.Bytes} {k : Nat} (h : Seen xs k) : ∀ i, i ≤ k → i ≤ xs.length → tot (xs.take i) ≤ 101 * i
  | 0, _, _ => by simp [Go.Proofs.YtlojfbmngippaaaDoor.tot]
  | i + 1, hi, hl => by
    have ih := h.tot i (by omega) (by omega)
    have h1 := h.len i (by omega)
    rw [tot_snoc xs i (by omega)]
    omega
theorem plainLab_of (X : ByteArray) (h1 : ∀ m, m < X.size → (X.data.toList.getD m 0).toNat < 128 ∧ X.data.toList.getD m 0 ≠ 46) (h2 : ¬ (4 ≤ X.data.toList.length ∧ Lb.lower (X.data.toList.take 4) = Nm.xn)) : Nm.PlainLab X.data.toList := by
  refine ⟨Nm.plain_true fun k hk => (h1 k hk).1, ?_, h2⟩
  intro c hc
  obtain ⟨m, hm, rfl⟩ := Nm.getD_of_mem 0 hc
  exact (h1 m hm).2

set_option maxRecDepth 20000 in
set_option maxHeartbeats 8000000 in
theorem namePlain_any (v : Value) (xs : List Lb.Bytes) (pt : Bool) (w : World) (hv : StrsAt w v xs) (hn : xs.length ≤ maxLen) (hx : ∀ x ∈ xs, x.length ≤ maxLen) (hT : Tabs w) :
    Calls Tryd.prog 4 #[v, .bool pt] w fun e w' => e = .returned (.bool true) ∧ Below w.heap.size w w' := by
  unfold maxLen at hn
  rcases hv with ⟨rfl, A, c, rfl⟩ | ⟨b, o, c, rfl, hblt, hcell⟩
  · go_enter Tryd.func4, Tryd.ntmps4
    go_wp2_with fail
    refine (fit_any w hT).mono ?_
    rintro e w1 ⟨rfl, hb1⟩
    go_wp2_with fail
    go_ret
    exact ⟨rfl, hb1⟩
  have HV := Lib.hid (show StrsAt w (.slice (some ⟨b, o, none⟩) xs.length c) xs from .inr ⟨b, o, c, rfl, hblt, hcell⟩)
  have HCELL := Lib.hid hcell
  have HBLT := Lib.hid hblt
  have HX := Lib.hid hx
  obtain ⟨n, hnn⟩ : ∃ n, xs.length = n := ⟨_, rfl⟩
  rw [hnn] at hn HV HCELL ⊢
  have HN := Lib.hid hnn
  clear hcell hblt hx hnn
  by_cases hn0 : n = 0
  · subst hn0
    go_enter Tryd.func4, Tryd.ntmps4
    go_wp2_with fail
    refine (fit_any w hT).mono ?_
    rintro e w1 ⟨rfl, hb1⟩
    go_wp2_with fail
    go_ret
    exact ⟨rfl, hb1⟩
  have hne : ((n : Int) == 0) = false := by simp; omega
  have hn1 : 1 ≤ n := by omega
  clear hn0
  go_enter Tryd.func4, Tryd.ntmps4
  go_wp2_with fail
  refine (fit_any w hT).mono ?_
  rintro e w1 ⟨rfl, hb1⟩
  by_cases hbig : 10 < n
  · have h1 : (10 : Int) < (n : Int) := by omega
    go_wp2_with fail
    go_ret
    exact ⟨rfl, hb1⟩
  have h1 : ¬ (10 : Int) < (n : Int) := by omega
  have hn10 : n ≤ 10 := by omega
  have HT1 := Lib.hid (hT.below hb1 (Nat.le_refl _))
  have hcl1 : ∀ j, j < n → w1.cell? ⟨b, o + j, none⟩ = some (Lb.strV (xs.getD j [])) := fun j hj => (hb1.cell (p := ⟨b, o + j, none⟩) HBLT.out).trans (HCELL.out j hj)
  have HC1 := Lib.hid hcl1
  have HV1 := Lib.hid (HV.out.below hb1 (Nat.le_refl _))
  have HBL1 := Lib.hid (Nat.lt_of_lt_of_le HBLT.out hb1.size)
  have hlastc := hcl1 (n - 1) (by omega)
  obtain ⟨L, hL⟩ : ∃ L, Lb.str (xs.getD (n - 1) []) = L := ⟨_, rfl⟩
  have hlc : w1.cell? ⟨b, o + (n - 1), none⟩ = some (.string L) := by rw [← hL]; exact hlastc
  have hLl : L.data.toList = xs.getD (n - 1) [] := by rw [← hL]; rfl
  have HLL := Lib.hid hLl
  clear hcl1 hlastc hT hL hLl HCELL HBLT HV
  by_cases hl0 : L.size = 0
  · have hLe : L.toList.isEmpty = true := by rw [empty_iff, decide_eq_true hl0]
    clear hl0
    go_wp2_with fail
    go_ret
    exact ⟨rfl, hb1⟩
  have hLe : L.toList.isEmpty = false := by rw [empty_iff, decide_eq_false hl0]
  have HL0 : Hid (xs.getD (n - 1) [] ≠ []) := by
    show _ ≠ _
    rw [← HLL.out]
    intro e
    exact hl0 (by have := congrArg List.length e; simpa using this)
  clear hl0
  go_wp2_with fail
  clear hlc hLe
  go_loopw [34, 5, 6] (fun i ok sz wx => ∃ k : Nat, k ≤ n ∧ i = .int .i64 k ∧ ok = .bool ((xs.take k).all Nm.right) ∧ sz = .int .i64 ((tot (xs.take k) : Int) - 1) ∧ Below w1.heap.size w1 wx ∧ Seen xs k) (fun i _ _ _ => n - (intOf i).toNat)
  case atStart => exact ⟨0, Nat.zero_le _, rfl, rfl, rfl, Below.refl _ _, Seen.zero xs⟩
  case round =>
    obtain ⟨k, hk, rfl, rfl, rfl, hbel, hseen⟩ := hrel
    obtain ⟨wo, rfl⟩ : ∃ wo : World, wo = wr := ⟨_, rfl⟩
    have htot := hseen.tot k (Nat.le_refl _) (by have := HN.out; omega)
    have hseen := Lib.hid hseen
    obtain ⟨t0, ht0⟩ : ∃ t, tot (xs.take k) = t := ⟨_, rfl⟩
    obtain ⟨g, hg⟩ : ∃ g, (xs.take k).all Nm.right = g := ⟨_, rfl⟩
    rw [ht0] at htot ⊢
    rw [hg]
    have HT0 := Lib.hid ht0
    have HG := Lib.hid hg
    clear ht0 hg
    by_cases hlt : k < n
    · have hcell0 : wo.cell? ⟨b, o + k, none⟩ = some (Lb.strV (xs.getD k [])) := (hbel.cell (p := ⟨b, o + k, none⟩) HBL1.out).trans (HC1.out k hlt)
      have hxs : (xs.getD k []).length ≤ maxLen := HX.out _ (getD_mem xs k [] (by have := HN.out; omega))
      obtain ⟨X, hX⟩ : ∃ X, Lb.str (xs.getD k []) = X := ⟨_, rfl⟩
      have hcell : wo.cell? ⟨b, o + k, none⟩ = some (.string X) := by rw [← hX]; exact hcell0
      have hXx : X.data.toList = xs.getD k [] := by rw [← hX]; rfl
      have hXs : X.size ≤ maxLen := by rw [← hX]; exact hxs
      have HXX := Lib.hid hXx
      clear hcell0 hxs hX hXx
      unfold maxLen at hXs
      by_cases h100 : 100 < X.size
      · have h100i : (100 : Int) < (X.size : Int) := by omega
        have hbX := below_chain hb1 hbel (Nat.le_refl _)
        go_wp2_with fail
        go_ret
        exact ⟨rfl, hbX⟩
      have h100i : ¬ (100 : Int) < (X.size : Int) := by omega
      have hX100 : X.size ≤ 100 := by omega
      by_cases h4 : 4 ≤ X.size
      · have h4i : (4 : Int) ≤ (X.size : Int) := by omega
        have hes : (X.extract 0 4).size ≤ 1000000 := by rw [ByteArray.size_extract]; omega
        have hed : (X.extract 0 4).data.toList = X.data.toList.take 4 := by rw [Lib.extract_data]; rfl
        have HES := Lib.hid hes
        have HED := Lib.hid hed
        clear hes hed
        go_wp2_with fail
        with_reducible refine (lower_any _ wo ?_).mono ?_
        · with_reducible exact HES.out
        rintro e w2 ⟨rfl, hb2⟩
        have hbel2 := below_chain hbel hb2 (Nat.le_refl _)
        have HBX := Lib.hid (below_chain hb1 hbel2 (Nat.le_refl _))
        have HBW := Lib.hid hbel2
        rw [HED.out]
        obtain ⟨R, hR⟩ : ∃ R, Lb.str (Lb.lower (X.data.toList.take 4)) = R := ⟨_, rfl⟩
        have hdec : (R.toList == [120, 110, 45, 45]) = decide (Lb.lower (X.data.toList.take 4) = Nm.xn) := by
          rw [← hR, Lib.toList_data, Lb.str_toList, Bool.eq_iff_iff, beq_iff_eq, decide_eq_true_eq]; rfl
        rw [show Lb.strV (Lb.lower (X.data.toList.take 4)) = .string R by rw [← hR]; rfl]
        clear hR hbel hb2 hbel2
        by_cases hx : Lb.lower (X.data.toList.take 4) = Nm.xn
        · rw [decide_eq_true hx] at hdec
          clear hx
          go_wp2_with fail
          go_ret
          exact ⟨rfl, HBX.out⟩
        · rw [decide_eq_false hx] at hdec
          have HNX : Hid (¬ (4 ≤ X.data.toList.length ∧ Lb.lower (X.data.toList.take 4) = Nm.xn)) := fun h => hx h.2
          clear hx
          go_wp2_with fail
          clear hdec
          go_loop [54] (fun j => ∃ m : Nat, m ≤ X.size ∧ j = .int .i64 m ∧ Hid (∀ q, q < m → (X.data.toList.getD q 0).toNat < 128 ∧ X.data.toList.getD q 0 ≠ 46)) (fun j => X.size - (intOf j).toNat)
          case atStart => exact ⟨0, Nat.zero_le _, rfl, fun q hq => absurd hq (Nat.not_lt_zero _)⟩
          case round =>
            obtain ⟨m, hm, rfl, HQ⟩ := hrel
            by_cases hml : m < X.size
            · have hbt : X.data.toList.getD m 0 = X[m] := by rw [List.getD_eq_getElem?_getD, byte_at X m hml]; rfl
              have h256 : (X[m].toNat : Int) < 256 := by have := X[m].toNat_lt; omega
              by_cases h128 : 128 ≤ X[m].toNat
              · have h128i : (128 : Int) ≤ (X[m].toNat : Int) := by omega
                clear h128 hbt
                go_wp2_with fail
                go_ret
                exact ⟨rfl, HBX.out⟩
              · have h128i : ¬ (128 : Int) ≤ (X[m].toNat : Int) := by omega
                by_cases h46 : X[m].toNat = 46
                · have h46i : ((X[m].toNat : Int) == 46) = true := by simp; omega
                  clear h128 hbt h46
                  go_wp2_with fail
                  go_ret
                  exact ⟨rfl, HBX.out⟩
                · have h46i : ((X[m].toNat : Int) == 46) = false := by simp; omega
                  have HQ2 : Hid (∀ q, q < m + 1 → (X.data.toList.getD q 0).toNat < 128 ∧ X.data.toList.getD q 0 ≠ 46) := by
                    intro q hq
                    by_cases e : q = m
                    · subst e; rw [hbt]
                      refine ⟨by omega, fun e => h46 (by rw [e]; rfl)⟩
                    · exact HQ.out q (by omega)
                  clear h128 hbt h46 HQ
                  go_wp2_with fail
                  go_round
                  case rel => exact ⟨m + 1, by omega, by go_num, HQ2⟩
                  case measure => simp [intOf]; omega
            · have hpl : Nm.PlainLab X.data.toList := plainLab_of X (fun q hq => HQ.out q (by omega)) HNX.out
              have HPL := Lib.hid hpl
              clear hpl HQ
              have hks : k < xs.length := by have := HN.out; omega
              have hXx : X.data.toList = xs.getD k [] := HXX.out
              have hsn : Seen xs (k + 1) := hseen.out.next (by rw [← hXx]; exact HPL.out) (by rw [← hXx]; show X.size ≤ 100; omega)
              have HSN := Lib.hid hsn
              have htk : ((tot (xs.take (k + 1)) : Nat) : Int) - 1 = (t0 : Int) - 1 + ((X.size : Int) + 1) := by
                rw [tot_snoc xs k hks, HT0.out, ← hXx]
                show ((t0 + (X.size + 1) : Nat) : Int) - 1 = _
                omega
              have HTK := Lib.hid htk
              have hal : (xs.take (k + 1)).all Nm.right = (g && Nm.right X.data.toList) := by rw [all_snoc Nm.right xs k hks, HG.out, ← hXx]
              have HAL := Lib.hid hal
              clear hks hXx hsn htk hal
              cases g with
              | false =>
                go_wp2_with fail
                go_roundw
                case rel => exact ⟨k + 1, by omega, by go_num, by rw [HAL.out]; rfl, by rw [HTK.out], HBW.out, HSN.out⟩
                case measure => simp [intOf]; omega
              | true =>
                go_wp2_with fail
                refine (right_any X w2 (by omega)).mono ?_
                rintro e w3 ⟨rfl, rfl⟩
                obtain ⟨rr, hrr⟩ : ∃ r, Nm.right X.data.toList = r := ⟨_, rfl⟩
                rw [hrr] at HAL ⊢
                clear hrr
                go_wp2_with fail
                go_roundw
                case rel => exact ⟨k + 1, by omega, by go_num, by rw [HAL.out]; rfl, by rw [HTK.out], HBW.out, HSN.out⟩
                case measure => simp [intOf]; omega
      · have h4i : ¬ (4 : Int) ≤ (X.size : Int) := by omega
        have HNX : Hid (¬ (4 ≤ X.data.toList.length ∧ Lb.lower (X.data.toList.take 4) = Nm.xn)) := fun h => h4 h.1
        have HBX := Lib.hid (below_chain hb1 hbel (Nat.le_refl _))
        have HBW := Lib.hid hbel
        have hdec : True := trivial
        clear hbel
        go_wp2_with fail
        clear hdec
        go_loop [54] (fun j => ∃ m : Nat, m ≤ X.size ∧ j = .int .i64 m ∧ Hid (∀ q, q < m → (X.data.toList.getD q 0).toNat < 128 ∧ X.data.toList.getD q 0 ≠ 46)) (fun j => X.size - (intOf j).toNat)
        case atStart => exact ⟨0, Nat.zero_le _, rfl, fun q hq => absurd hq (Nat.not_lt_zero _)⟩
        case round =>
          obtain ⟨m, hm, rfl, HQ⟩ := hrel
          by_cases hml : m < X.size
          · have hbt : X.data.toList.getD m 0 = X[m] := by rw [List.getD_eq_getElem?_getD, byte_at X m hml]; rfl
            have h256 : (X[m].toNat : Int) < 256 := by have := X[m].toNat_lt; omega
            by_cases h128 : 128 ≤ X[m].toNat
            · have h128i : (128 : Int) ≤ (X[m].toNat : Int) := by omega
              clear h128 hbt
              go_wp2_with fail
              go_ret
              exact ⟨rfl, HBX.out⟩
            · have h128i : ¬ (128 : Int) ≤ (X[m].toNat : Int) := by omega
              by_cases h46 : X[m].toNat = 46
              · have h46i : ((X[m].toNat : Int) == 46) = true := by simp; omega
                clear h128 hbt h46
                go_wp2_with fail
                go_ret
                exact ⟨rfl, HBX.out⟩
              · have h46i : ((X[m].toNat : Int) == 46) = false := by simp; omega
                have HQ2 : Hid (∀ q, q < m + 1 → (X.data.toList.getD q 0).toNat < 128 ∧ X.data.toList.getD q 0 ≠ 46) := by
                  intro q hq
                  by_cases e : q = m
                  · subst e; rw [hbt]
                    refine ⟨by omega, fun e => h46 (by rw [e]; rfl)⟩
                  · exact HQ.out q (by omega)
                clear h128 hbt h46 HQ
                go_wp2_with fail
                go_round
                case rel => exact ⟨m + 1, by omega, by go_num, HQ2⟩
                case measure => simp [intOf]; omega
          · have hpl : Nm.PlainLab X.data.toList := plainLab_of X (fun q hq => HQ.out q (by omega)) HNX.out
            have HPL := Lib.hid hpl
            clear hpl HQ
            have hks : k < xs.length := by have := HN.out; omega
            have hXx : X.data.toList = xs.getD k [] := HXX.out
            have hsn : Seen xs (k + 1) := hseen.out.next (by rw [← hXx]; exact HPL.out) (by rw [← hXx]; show X.size ≤ 100; omega)
            have HSN := Lib.hid hsn
            have htk : ((tot (xs.take (k + 1)) : Nat) : Int) - 1 = (t0 : Int) - 1 + ((X.size : Int) + 1) := by
              rw [tot_snoc xs k hks, HT0.out, ← hXx]
              show ((t0 + (X.size + 1) : Nat) : Int) - 1 = _
              omega
            have HTK := Lib.hid htk
            have hal : (xs.take (k + 1)).all Nm.right = (g && Nm.right X.data.toList) := by rw [all_snoc Nm.right xs k hks, HG.out, ← hXx]
            have HAL := Lib.hid hal
            clear hks hXx hsn htk hal
            cases g with
            | false =>
              go_wp2_with fail
              go_roundw
              case rel => exact ⟨k + 1, by omega, by go_num, by rw [HAL.out]; rfl, by rw [HTK.out], HBW.out, HSN.out⟩
              case measure => simp [intOf]; omega
            | true =>
              go_wp2_with fail
              refine (right_any X wo (by omega)).mono ?_
              rintro e w3 ⟨rfl, rfl⟩
              obtain ⟨rr, hrr⟩ : ∃ r, Nm.right X.data.toList = r := ⟨_, rfl⟩
              rw [hrr] at HAL ⊢
              clear hrr
              go_wp2_with fail
              go_roundw
              case rel => exact ⟨k + 1, by omega, by go_num, by rw [HAL.out]; rfl, by rw [HTK.out], HBW.out, HSN.out⟩
              case measure => simp [intOf]; omega
    · have hbX := below_chain hb1 hbel (Nat.le_refl _)
      have hkn : k = n := by omega
      have hfull : xs.take k = xs := List.take_of_length_le (by have := HN.out; omega)
      have hgl : xs.all Nm.right = g := by rw [← HG.out, hfull]
      have htt : tot xs = t0 := by rw [← HT0.out, hfull]
      have hne2 : xs ≠ [] := by intro e; have := HN.out; rw [e] at this; simp at this; omega
      have hjt := join_tot xs hne2
      rw [htt] at hjt
      have hjl : (Lb.join xs).length ≤ 1009 := by omega
      have hlab : ∀ x ∈ xs, Nm.PlainLab x := by
        intro x hx
        obtain ⟨j, hj, rfl⟩ := Nm.getD_of_mem [] hx
        exact hseen.out.lab j (by have := HN.out; omega)
      have hlast : xs.getD (xs.length - 1) [] ≠ [] := by rw [HN.out]; exact HL0.out
      have hlaw := fun s hs => Nm.namePlain_law (xs := xs) (s := s) hne2 hlast hlab hs (by omega)
      rw [hgl] at hlaw
      have HLAW := Lib.hid hlaw
      have hv3 := HV1.out.below hbel (Nat.le_refl _)
      have HT2 := Lib.hid (HT1.out.below hbel (Nat.le_refl _))
      have HV3 := Lib.hid hv3
      obtain ⟨J, hJ⟩ : ∃ J, Lb.str (Lb.join xs) = J := ⟨_, rfl⟩
      have hJs : J.size + 1 = t0 := by rw [← hJ]; exact hjt
      have hJd : J.data.toList = Lb.join xs := by rw [← hJ]; rfl
      have HJD := Lib.hid hJd
      have HJV : Hid (Lb.strV (Lb.join xs) = .string J) := by show _ = _; rw [← hJ]; rfl
      have HJL := Lib.hid hjl
      have hJs9 : J.size ≤ 1009 := by omega
      clear hfull hgl htt hne2 hjt hjl hlab hlast hlaw hv3 hJ hJd hkn htot
      go_wp2_with fail
      refine (join_any _ xs wo HV3.out (by have := HN.out; omega) (by have := HJL.out; omega)).mono ?_
      rintro e w2 ⟨rfl, rfl⟩
      rw [HJV.out]
      have HLW2 : Hid (∀ T : ByteArray, T.data.toList = Lb.join xs → Lb.strV (Lb.lower T.data.toList) = Lb.strV (Lb.lower (Lb.join xs))) := fun T h => by rw [h]
      cases pt with
      | false =>
        have hres := HLAW.out J.data.toList (.inl HJD.out)
        have HRES := Lib.hid hres
        clear hres
        go_wp2_with fail
        refine (toASCII_any J wo HT2.out (by omega)).mono ?_
        rintro e w3 ⟨rfl, hb3⟩
        have hb4 := below_chain hbX hb3 (Nat.le_refl _)
        obtain ⟨r, hr⟩ : ∃ r, Nm.toASCII J.data.toList = r := ⟨_, rfl⟩
        rw [hr] at HRES ⊢
        clear hr
        obtain ⟨t, c2⟩ := r
        obtain ⟨L1, L2, L3⟩ := HRES.out
        simp only at L1 L2 L3 ⊢
        cases g with
        | false =>
          have h1 := L1 rfl
          subst h1
          rw [show ((1 : Nat) : Int) = 1 from rfl]
          clear L1 L2 L3 HRES
          obtain ⟨T, hT⟩ : ∃ T, Lb.str t = T := ⟨_, rfl⟩
          rw [show Lb.strV t = .string T by rw [← hT]; rfl]
          clear hT
          go_wp2_with fail
          go_ret
          exact ⟨ret_bool (by first | rfl | simp), hb4⟩
        | true =>
          by_cases h253 : 253 < J.size
          · have h2 := L2 rfl (by rw [← HJD.out]; exact h253)
            subst h2
            rw [show ((2 : Nat) : Int) = 2 from rfl]
            have h253i : (253 : Int) < (t0 : Int) - 1 := by omega
            clear L1 L2 L3 HRES
            obtain ⟨T, hT⟩ : ∃ T, Lb.str t = T := ⟨_, rfl⟩
            rw [show Lb.strV t = .string T by rw [← hT]; rfl]
            clear hT
            go_wp2_with fail
            go_ret
            exact ⟨ret_bool (by first | rfl | simp), hb4⟩
          · have h3 := L3 rfl (by rw [← HJD.out]; exact h253)
            injection h3 with h3 h4
            subst h4
            have h253i : ¬ (253 : Int) < (t0 : Int) - 1 := by omega
            rw [show ((0 : Nat) : Int) = 0 from rfl]
            have HV4 := Lib.hid (HV3.out.below hb3 (Nat.le_refl _))
            have HH3 := Lib.hid h3
            clear L1 L2 L3 HRES h3
            obtain ⟨T, hT⟩ : ∃ T, Lb.str t = T := ⟨_, rfl⟩
            rw [show Lb.strV t = .string T by rw [← hT]; rfl]
            have HTT : Hid (Lb.strV (Lb.lower J.data.toList) = .string T) := by show _ = _; rw [HJD.out, ← HH3.out, ← hT]; rfl
            clear hT
            go_wp2_with fail
            refine (join_any _ xs w3 HV4.out (by have := HN.out; omega) (by have := HJL.out; omega)).mono ?_
            rintro e w4 ⟨rfl, rfl⟩
            rw [HJV.out]
            go_wp2_with fail
            refine (lower_any J w3 (by omega)).mono ?_
            rintro e w5 ⟨rfl, hb5⟩
            have hb6 := below_chain hb4 hb5 (Nat.le_refl _)
            rw [HTT.out]
            have hq : (T.toList == T.toList) = true := by simp
            go_wp2_with fail
            go_ret
            exact ⟨ret_bool (by first | rfl | simp), hb6⟩
      | true =>
        have hdt : (J ++ ⟨#[46]⟩).data.toList = J.data.toList ++ [46] := by simp [ByteArray.data_append]
        have hds : (J ++ ⟨#[46]⟩).size ≤ 1000000 := by rw [ByteArray.size_append]; have : (⟨#[46]⟩ : ByteArray).size = 1 := rfl; omega
        have hres := HLAW.out (J.data.toList ++ [46]) (.inr (by rw [HJD.out]))
        have HDT := Lib.hid hdt
        have HDS := Lib.hid hds
        have HRES := Lib.hid hres
        clear hres hdt hds
        go_wp2_with fail
        with_reducible refine (toASCII_any _ wo HT2.out ?_).mono ?_
        · with_reducible exact HDS.out
        rintro e w3 ⟨rfl, hb3⟩
        have hb4 := below_chain hbX hb3 (Nat.le_refl _)
        rw [HDT.out]
        obtain ⟨r, hr⟩ : ∃ r, Nm.toASCII (J.data.toList ++ [46]) = r := ⟨_, rfl⟩
        rw [hr] at HRES ⊢
        clear hr
        obtain ⟨t, c2⟩ := r
        obtain ⟨L1, L2, L3⟩ := HRES.out
        simp only at L1 L2 L3 ⊢
        cases g with
        | false =>
          have h1 := L1 rfl
          subst h1
          rw [show ((1 : Nat) : Int) = 1 from rfl]
          clear L1 L2 L3 HRES
          obtain ⟨T, hT⟩ : ∃ T, Lb.str t = T := ⟨_, rfl⟩
          rw [show Lb.strV t = .string T by rw [← hT]; rfl]
          clear hT
          go_wp2_with fail
          go_ret
          exact ⟨ret_bool (by first | rfl | simp), hb4⟩
        | true =>
          by_cases h253 : 253 < J.size
          · have h2 := L2 rfl (by rw [← HJD.out]; exact h253)
            subst h2
            rw [show ((2 : Nat) : Int) = 2 from rfl]
            have h253i : (253 : Int) < (t0 : Int) - 1 := by omega
            clear L1 L2 L3 HRES
            obtain ⟨T, hT⟩ : ∃ T, Lb.str t = T := ⟨_, rfl⟩
            rw [show Lb.strV t = .string T by rw [← hT]; rfl]
            clear hT
            go_wp2_with fail
            go_ret
            exact ⟨ret_bool (by first | rfl | simp), hb4⟩
          · have h3 := L3 rfl (by rw [← HJD.out]; exact h253)
            injection h3 with h3 h4
            subst h4
            have h253i : ¬ (253 : Int) < (t0 : Int) - 1 := by omega
            rw [show ((0 : Nat) : Int) = 0 from rfl]
            have HV4 := Lib.hid (HV3.out.below hb3 (Nat.le_refl _))
            have HH3 := Lib.hid h3
            clear L1 L2 L3 HRES h3
            obtain ⟨T, hT⟩ : ∃ T, Lb.str t = T := ⟨_, rfl⟩
            rw [show Lb.strV t = .string T by rw [← hT]; rfl]
            have HTT : Hid (Lb.strV (Lb.lower J.data.toList) = .string T) := by show _ = _; rw [HJD.out, ← HH3.out, ← hT]; rfl
            clear hT
            go_wp2_with fail
            refine (join_any _ xs w3 HV4.out (by have := HN.out; omega) (by have := HJL.out; omega)).mono ?_
            rintro e w4 ⟨rfl, rfl⟩
            rw [HJV.out]
            go_wp2_with fail
            refine (lower_any J w3 (by omega)).mono ?_
            rintro e w5 ⟨rfl, hb5⟩
            have hb6 := below_chain hb4 hb5 (Nat.le_refl _)
            rw [HTT.out]
            have hq : (T.toList == T.toList) = true := by simp
            go_wp2_with fail
            go_ret
            exact ⟨ret_bool (by first | rfl | simp), hb6⟩
end Go.Proofs.YtlojfbmngippaaaDoor
