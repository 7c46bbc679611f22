/- The walks of CandDots and CandLong. -/
import Derived.Test.YtlojfbmngippaaaDoorCnW
import Derived.Test.YtlojfbmngippaaaDoorCdl
import Derived.Laws.Bits128
namespace Go.Proofs.YtlojfbmngippaaaDoor
open Go.RowKit
set_option linter.unusedVariables false
theorem i64_and3 (n : Int) : bits .and .i64 n 3 = n % 4 := by
  have h3 : (BitVec.ofInt 64 3).toNat = 2 ^ 2 - 1 := by decide
  have key : (BitVec.ofInt 64 n &&& BitVec.ofInt 64 3).toNat = (n % ((2 ^ 64 : Nat) : Int)).toNat % 2 ^ 2 := by
    rw [BitVec.toNat_and, BitVec.toNat_ofInt, h3, Nat.and_two_pow_sub_one_eq_mod]
  show IntKind.i64.wrap ((BitVec.ofInt 64 n &&& BitVec.ofInt 64 3).toNat : Nat) = n % 4
  rw [key, IntKind.wrap_i64]
  omega
theorem i64_and63 (n : Int) : bits .and .i64 n 63 = n % 64 := by
  have h3 : (BitVec.ofInt 64 63).toNat = 2 ^ 6 - 1 := by decide
  have key : (BitVec.ofInt 64 n &&& BitVec.ofInt 64 63).toNat = (n % ((2 ^ 64 : Nat) : Int)).toNat % 2 ^ 6 := by
    rw [BitVec.toNat_and, BitVec.toNat_ofInt, h3, Nat.and_two_pow_sub_one_eq_mod]
  show IntKind.i64.wrap ((BitVec.ofInt 64 n &&& BitVec.ofInt 64 63).toNat : Nat) = n % 64
  rw [key, IntKind.wrap_i64]
  omega
theorem two_str (w : World) (t : TypeId) (s u : Lb.Bytes) : StrsAt (w.alloc (.cells #[Lb.strV s, Lb.strV u] t)) (.slice (some ⟨w.heap.size, 0, none⟩) 2 2) [s, u] := by
  refine .inr ⟨w.heap.size, 0, 2, rfl, by simp, ?_⟩
  intro j hj
  have : j = 0 ∨ j = 1 := by simp at hj; omega
  rcases this with rfl | rfl
  · rw [World.cell?_alloc_at _ _ _ _ rfl]; rfl
  · rw [World.cell?_alloc_at _ _ _ _ rfl]; rfl
theorem dLong_str : (⟨#[48, 49, 50, 51, 52, 53, 54, 55, 56, 57, 46, 48, 49, 50, 51, 52, 53, 54, 55, 56, 57, 46, 48, 49, 50, 51, 52, 53, 54, 55, 56, 57]⟩ : ByteArray) = Lb.str Cd.dLong := rfl

set_option maxRecDepth 20000 in
set_option maxHeartbeats 8000000 in
theorem candLong_any (n : Int) (hn : -9223372036854775808 ≤ n ∧ n ≤ 9223372036854775807) (w : World) (hT : Tabs w) :
    Calls Tryd.prog 14 #[.int .i64 n] w fun e w' => e = .returned (.bool true) ∧ Below w.heap.size w w' := by
  obtain ⟨k0, hk0⟩ : ∃ k : Nat, n % 64 = (k : Int) := ⟨(n % 64).toNat, by omega⟩
  have hkb : k0 < 64 := by omega
  have hA : bits .and .i64 n 63 = (k0 : Int) := by rw [i64_and63, hk0]
  have hchk := Cd.chkLong_at k0 hkb
  obtain ⟨N, hN⟩ : ∃ N : Nat, k0 + 180 = N := ⟨_, rfl⟩
  rw [hN] at hchk
  have hlen := Cd.sL_len N (by omega)
  unfold Cd.chkLong at hchk
  simp only [Bool.and_eq_true, beq_iff_eq] at hchk
  obtain ⟨⟨g1, g2⟩, g3⟩ := hchk
  have hkl : N ≤ 10 * Cd.kL N := by unfold Cd.kL; omega
  have hkl2 : 10 * (Cd.kL N) < N + 10 := by unfold Cd.kL; omega
  have hN2 : (k0 : Int) + 180 = (N : Int) := by omega
  have hNb : 180 ≤ N ∧ N ≤ 243 := by omega
  obtain ⟨hNb1, hNb2⟩ := hNb
  obtain ⟨K, hK⟩ : ∃ K, Cd.kL N = K := ⟨_, rfl⟩
  rw [hK] at hkl hkl2
  have G1 := Lib.hid g1
  have G2 := Lib.hid g2
  have G3 := Lib.hid g3
  have HLEN := Lib.hid hlen
  have HK := Lib.hid hK
  have HT := Lib.hid hT
  clear hT g1 g2 g3 hlen hN hK hn hk0
  go_enter Tryd.func14, Tryd.ntmps14
  go_wp2_with fail
  refine (fit12_any w HT.out).mono ?_
  rintro e w1 ⟨rfl, hb1⟩
  go_wp2_with fail
  clear hA hN2
  go_loop [3] (fun q => ∃ d : Nat, d ≤ K ∧ q = .string (Lb.str (Cd.pats d))) (fun q => match q with | .string s => 300 - s.size | _ => 0)
  case atStart => exact ⟨0, Nat.zero_le _, rfl⟩
  case round =>
    obtain ⟨d, hd, rfl⟩ := hrel
    have hds : (Lb.str (Cd.pats d)).size = 10 * d := Cd.pats_len d
    have hst : Lb.str (Cd.pats d) ++ ⟨#[97, 98, 99, 100, 101, 102, 103, 104, 105, 46]⟩ = Lb.str (Cd.pats (d + 1)) := by
      show _ = Lb.str (Cd.pats d ++ Cd.pat)
      rw [← Lb.str_append]; rfl
    obtain ⟨Q, hQ⟩ : ∃ Q, Lb.str (Cd.pats d) = Q := ⟨_, rfl⟩
    rw [hQ] at hds hst ⊢
    have HQ := Lib.hid hQ
    have HST := Lib.hid hst
    have HDS := Lib.hid hds
    have hQs : Q.size ≤ 300 := by omega
    clear hQ hst hds
    by_cases hlt : Q.size < N
    · have hdK : d + 1 ≤ K := by have := HDS.out; omega
      go_wp2_with fail
      go_round
      case rel => exact ⟨d + 1, hdK, by rw [HST.out]⟩
      case measure =>
        show 300 - (Q ++ ⟨#[97, 98, 99, 100, 101, 102, 103, 104, 105, 46]⟩ : ByteArray).size < 300 - Q.size
        rw [ByteArray.size_append]
        have : (⟨#[97, 98, 99, 100, 101, 102, 103, 104, 105, 46]⟩ : ByteArray).size = 10 := rfl
        omega
    · have hdk : d = K := by have := HDS.out; omega
      have hQd : Q.data.toList = Cd.pats (Cd.kL N) := by rw [← HQ.out, hdk, HK.out]; rfl
      have hqN : N ≤ Q.size := by omega
      obtain ⟨S1, hS1⟩ : ∃ S1, Q.extract 0 N = S1 := ⟨_, rfl⟩
      have hS1d : S1.data.toList = (Cd.pats (Cd.kL N)).take N := by rw [← hS1, Lib.extract_data, hQd]; rfl
      have hS1s : S1.size = N := by rw [← hS1, ByteArray.size_extract]; omega
      have hltN : N - 1 < S1.size := by omega
      have hgt : S1.data.toList.getD (N - 1) 0 = S1[N - 1]'hltN := by rw [List.getD_eq_getElem?_getD, byte_at S1 (N - 1) (by omega)]; rfl
      have HS1D := Lib.hid hS1d
      have hS1le : N ≤ S1.size := by omega
      have hS1le2 : S1.size ≤ N := by omega
      clear hdk hQd hS1d hS1s hd hlt
      by_cases h46 : (S1[N - 1]'hltN).toNat = 46
      · have h46i : (((S1[N - 1]'hltN).toNat : Int) == 46) = true := by simp; omega
        have hfin : ((S1.extract 0 (N - 1)) ++ ⟨#[120]⟩ : ByteArray).data.toList = Cd.sL N := by
          unfold Cd.sL
          have hb : ((Cd.pats (Cd.kL N)).take N).getD (N - 1) 0 = 46 := by
            rw [← HS1D.out, hgt]; exact UInt8.toNat_inj.1 (by rw [h46]; rfl)
          rw [if_pos hb, ByteArray.data_append, Array.toList_append, Lib.extract_data, HS1D.out]; rfl
        obtain ⟨S2, hS2⟩ : ∃ S2, S1.extract 0 (N - 1) = S2 := ⟨_, rfl⟩
        have hS2s : S2.size ≤ 300 := by rw [← hS2, ByteArray.size_extract]; omega
        rw [hS2] at hfin
        obtain ⟨S, hS⟩ : ∃ S, S2 ++ ⟨#[120]⟩ = S := ⟨_, rfl⟩
        have hSs : S.size ≤ 400 := by rw [← hS, ByteArray.size_append]; have : (⟨#[120]⟩ : ByteArray).size = 1 := rfl; omega
        rw [hS] at hfin
        have HFIN := Lib.hid hfin
        clear hfin h46 hgt
        go_wp2_with fail
        clear hS hS2 hS1 h46i
        have HT2 : Hid (∀ o : Obj, Tabs (w1.alloc o)) := fun o => HT.out.below (hb1.alloc hb1.size o) (Nat.le_refl _)
        refine (list_any _ _ 99 0 0 [Cd.dLong, [121]] S _ (HT2.out _) (by unfold maxLen; omega) (two_str w1 _ Cd.dLong [121]) (by decide) (by decide)).mono ?_
        rintro e w2 ⟨⟨vl, rfl, hst⟩, hb2⟩
        have hbw2 : Below w.heap.size w w2 := (hb1.alloc hb1.size _).trans (hb2.mono (by have := hb1.size; simp; omega))
        rw [HFIN.out] at hst ⊢
        obtain ⟨R, hR⟩ : ∃ R, Cd.list 99 [Cd.dLong, [121]] (Cd.sL N) = R := ⟨_, rfl⟩
        rw [hR] at hst G1 G2 G3 ⊢
        clear hR hb2
        obtain ⟨l, c⟩ := R
        obtain rfl : c = 0 := G1.out
        rw [show (((l, 0) : List Lb.Bytes × Nat).2 : Int) = 0 from rfl]
        have hW1 : 1 ≤ Cd.wantL N := by unfold Cd.wantL; omega
        obtain ⟨b2, o2, c2, rfl, hbl2, hcell2⟩ := hst.cellAt (by intro e; have := G2.out; have e2 : l = [] := e; rw [e2] at this; simp at this; omega)
        have hll : l.length = Cd.wantL N := G2.out
        have hlast : w2.cell? ⟨b2, o2 + (Cd.wantL N - 1), none⟩ = some (.string S) := by
          rw [hcell2 (Cd.wantL N - 1) (by show _ < l.length; omega)]
          show some (Lb.strV (l.getD _ [])) = _
          rw [G3.out, ← HFIN.out]
          show some (Value.string (Lb.str S.data.toList)) = _
          rw [Lb.str_back]
        rw [show ((l, 0) : List Lb.Bytes × Nat).1.length = Cd.wantL N from hll]
        clear hst hcell2 hbl2 hll G1 G2 G3
        have hq : (S.toList == S.toList) = true := by simp
        by_cases h253 : N + 33 ≤ 253
        · have hi1 : (N : Int) + 1 + 32 ≤ 253 := by omega
          have hi2 : (N : Int) + 2 ≤ 253 := by omega
          have hw3 : Cd.wantL N = 3 := by unfold Cd.wantL; rw [if_pos (by omega), if_pos (by omega)]
          rw [hw3] at hlast ⊢
          clear hw3 hW1
          go_wp2_with fail
          go_ret
          exact ⟨ret_bool (by first | rfl | simp), hbw2⟩
        · have hi1 : ¬ (N : Int) + 1 + 32 ≤ 253 := by omega
          have hi2 : (N : Int) + 2 ≤ 253 := by omega
          have hw3 : Cd.wantL N = 2 := by unfold Cd.wantL; rw [if_neg (by omega), if_pos (by omega)]
          rw [hw3] at hlast ⊢
          clear hw3 hW1
          go_wp2_with fail
          go_ret
          exact ⟨ret_bool (by first | rfl | simp), hbw2⟩
      · have h46i : (((S1[N - 1]'hltN).toNat : Int) == 46) = false := by simp; omega
        obtain ⟨S, hSS⟩ : ∃ S, S = S1 := ⟨_, rfl⟩
        have hfin : S1.data.toList = Cd.sL N := by
          unfold Cd.sL
          have hb : ¬ ((Cd.pats (Cd.kL N)).take N).getD (N - 1) 0 = 46 := by
            rw [← HS1D.out, hgt]; intro e; exact h46 (by rw [e]; rfl)
          rw [if_neg hb, HS1D.out]
        subst hSS
        have HFIN := Lib.hid hfin
        have hSs : S.size ≤ 400 := by omega
        clear hfin h46 hgt
        go_wp2_with fail
        clear hS1 h46i
        have HT2 : Hid (∀ o : Obj, Tabs (w1.alloc o)) := fun o => HT.out.below (hb1.alloc hb1.size o) (Nat.le_refl _)
        refine (list_any _ _ 99 0 0 [Cd.dLong, [121]] S _ (HT2.out _) (by unfold maxLen; omega) (two_str w1 _ Cd.dLong [121]) (by decide) (by decide)).mono ?_
        rintro e w2 ⟨⟨vl, rfl, hst⟩, hb2⟩
        have hbw2 : Below w.heap.size w w2 := (hb1.alloc hb1.size _).trans (hb2.mono (by have := hb1.size; simp; omega))
        rw [HFIN.out] at hst ⊢
        obtain ⟨R, hR⟩ : ∃ R, Cd.list 99 [Cd.dLong, [121]] (Cd.sL N) = R := ⟨_, rfl⟩
        rw [hR] at hst G1 G2 G3 ⊢
        clear hR hb2
        obtain ⟨l, c⟩ := R
        obtain rfl : c = 0 := G1.out
        rw [show (((l, 0) : List Lb.Bytes × Nat).2 : Int) = 0 from rfl]
        have hW1 : 1 ≤ Cd.wantL N := by unfold Cd.wantL; omega
        obtain ⟨b2, o2, c2, rfl, hbl2, hcell2⟩ := hst.cellAt (by intro e; have := G2.out; have e2 : l = [] := e; rw [e2] at this; simp at this; omega)
        have hll : l.length = Cd.wantL N := G2.out
        have hlast : w2.cell? ⟨b2, o2 + (Cd.wantL N - 1), none⟩ = some (.string S) := by
          rw [hcell2 (Cd.wantL N - 1) (by show _ < l.length; omega)]
          show some (Lb.strV (l.getD _ [])) = _
          rw [G3.out, ← HFIN.out]
          show some (Value.string (Lb.str S.data.toList)) = _
          rw [Lb.str_back]
        rw [show ((l, 0) : List Lb.Bytes × Nat).1.length = Cd.wantL N from hll]
        clear hst hcell2 hbl2 hll G1 G2 G3
        have hq : (S.toList == S.toList) = true := by simp
        by_cases h253 : N + 33 ≤ 253
        · have hi1 : (N : Int) + 1 + 32 ≤ 253 := by omega
          have hi2 : (N : Int) + 2 ≤ 253 := by omega
          have hw3 : Cd.wantL N = 3 := by unfold Cd.wantL; rw [if_pos (by omega), if_pos (by omega)]
          rw [hw3] at hlast ⊢
          clear hw3 hW1
          go_wp2_with fail
          go_ret
          exact ⟨ret_bool (by first | rfl | simp), hbw2⟩
        · have hi1 : ¬ (N : Int) + 1 + 32 ≤ 253 := by omega
          have hi2 : (N : Int) + 2 ≤ 253 := by omega
          have hw3 : Cd.wantL N = 2 := by unfold Cd.wantL; rw [if_neg (by omega), if_pos (by omega)]
          rw [hw3] at hlast ⊢
          clear hw3 hW1
          go_wp2_with fail
          go_ret
          exact ⟨ret_bool (by first | rfl | simp), hbw2⟩

end Go.Proofs.YtlojfbmngippaaaDoor
