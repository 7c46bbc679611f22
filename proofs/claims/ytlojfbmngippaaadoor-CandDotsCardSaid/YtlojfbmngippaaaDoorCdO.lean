/- The walk of CandDots. -/
import Derived.Test.YtlojfbmngippaaaDoorCdD
namespace Go.Proofs.YtlojfbmngippaaaDoor
open Go.RowKit
set_option linter.unusedVariables false
theorem aK_len : ∀ n, (Cd.aK n).length = 2 * n + 1
  | 0 => rfl
  | n + 1 => by rw [Cd.aK, List.length_append, aK_len n]; rfl
theorem sK_len : ∀ m, (Cd.sK m).length = m
  | 0 => rfl
  | m + 1 => by rw [Cd.sK, List.length_append, sK_len m]; rfl
theorem sK_small : ∀ m, ∀ x ∈ Cd.sK m, x.length ≤ 253
  | 0 => by intro x hx; cases hx
  | m + 1 => by
    intro x hx
    rw [Cd.sK] at hx
    rcases List.mem_append.1 hx with hx | hx
    · exact sK_small m x hx
    · simp only [List.mem_singleton] at hx; rw [hx]; simp

theorem cell_one_new2 (w : World) (o : Obj) (x : Value) (t : TypeId) : ∀ j u, [x][j]? = some u → ((w.alloc o).alloc (.cells #[x] t)).cell? ((⟨w.heap.size + 1, 0, none⟩ : Addr).add j) = some u := by
  have h := cell_one_new (w.alloc o) x t
  have hz : (w.alloc o).heap.size = w.heap.size + 1 := by simp
  rw [hz] at h
  exact h
/-- The cells of a Conf, written out. -/
def confCells (v : Value) (d : Int) : Array Value := #[.slice none 0 0, v, .int .i64 d, .int .i64 0, .int .i64 0]
/-- Behind an append to what the field of a struct holds. -/
theorem field_facts {w wz : World} {C L c0 : Nat} {d : Int} {v v' u : Value} {A0 : Option Addr} {xs : List Value} {o o' : Obj} (hB : w.heap[C]? = some (.cells #[.slice none 0 0, v, .int .i64 d, .int .i64 0, .int .i64 0] 39 (0, 0))) (hown : w.ownsRow (C + 1) 9 1 (.slice A0 L c0) L xs)
    (hown' : wz.ownsRow (C + 1) 9 1 v' (L + 1) (xs ++ [u])) (hgrow : ((w.alloc o).alloc o').grownBy wz (Value.ownBlock (.slice A0 L c0))) :
    (∃ A5 c5, v' = .slice A5 (L + 1) c5) ∧ (wz.cell? ⟨C, 1, none⟩ = some v ∧ wz.frozen? ⟨C, 1, none⟩ = false) ∧ Hid ((wz.setCell ⟨C, 1, none⟩ v').heap[C]? = some (.cells #[.slice none 0 0, v', .int .i64 d, .int .i64 0, .int .i64 0] 39 (0, 0)) ∧
      (wz.setCell ⟨C, 1, none⟩ v').ownsRow (C + 1) 9 1 v' (L + 1) (xs ++ [u]) ∧ Below C w (wz.setCell ⟨C, 1, none⟩ v')) := by
  have hBlt := lt_of_block hB
  have h0 : Below (C + 1) w ((w.alloc o).alloc o') := ((((Below.refl w.heap.size w).alloc (Nat.le_refl _) o).alloc (by simp) o').mono (by omega))
  have hbz : Below (C + 1) w wz := h0.grown hgrow (by simp; omega) (fun g hg => own_base_le hown hg)
  have hBz := (hbz.block C (by omega)).trans hB
  have hlt := lt_of_block hBz
  refine ⟨own_len hown', ⟨by rw [cell_of_row wz C 1 _ _ _ hBz]; rfl, by unfold World.frozen?; rw [hBz]; rfl⟩, ?_, ownsRow_setCell_other hown' (fun e => absurd (own_base_le hown' e) (Nat.not_succ_le_self C)) v', (hbz.mono (Nat.le_succ C)).setCell (by simp) _⟩
  have h' : wz.heap[C] = .cells #[.slice none 0 0, v, .int .i64 d, .int .i64 0, .int .i64 0] 39 (0, 0) := by simpa [Array.getElem?_eq_getElem hlt] using hBz
  show (wz.heap.modify C _)[C]? = _
  rw [Array.getElem?_eq_getElem (by simpa using hlt), Array.getElem_modify_self, h']
  rfl

set_option maxRecDepth 20000 in
set_option maxHeartbeats 8000000 in
theorem candDots_any (n d m : Int) (hn : -9223372036854775808 ≤ n ∧ n ≤ 9223372036854775807) (hd : -9223372036854775808 ≤ d ∧ d ≤ 9223372036854775807) (hm : -9223372036854775808 ≤ m ∧ m ≤ 9223372036854775807) (w : World) (hT : Tabs w) :
    Calls Tryd.prog 13 #[.int .i64 n, .int .i64 d, .int .i64 m] w fun e w' => e = .returned (.bool true) ∧ Below w.heap.size w w' := by
  obtain ⟨i0, hi, hz0, hz1, hz2⟩ := info_parts str_info
  obtain ⟨n0, hn0⟩ : ∃ k : Nat, n % 4 = (k : Int) := ⟨(n % 4).toNat, by omega⟩
  obtain ⟨d0, hd0⟩ : ∃ k : Nat, d % 4 = (k : Int) := ⟨(d % 4).toNat, by omega⟩
  obtain ⟨m0, hm0⟩ : ∃ k : Nat, m % 4 = (k : Int) := ⟨(m % 4).toNat, by omega⟩
  have hnb : n0 < 4 := by omega
  have hdb : d0 < 4 := by omega
  have hmb : m0 < 4 := by omega
  have hA : bits .and .i64 n 3 = (n0 : Int) := by rw [i64_and3, hn0]
  have hB : bits .and .i64 d 3 = (d0 : Int) := by rw [i64_and3, hd0]
  have hC : bits .and .i64 m 3 = (m0 : Int) := by rw [i64_and3, hm0]
  have hchk := Lib.hid (Cd.chkDots_at n0 d0 m0 hnb hdb hmb)
  have HT := Lib.hid hT
  clear hT hn hd hm hn0 hd0 hm0
  go_enter Tryd.func13, Tryd.ntmps13
  go_wp2_with fail
  refine (fit12_any w HT.out).mono ?_
  rintro e w1 ⟨rfl, hb1⟩
  go_wp2_with fail
  clear hA hB hC
  go_loop [7, 23] (fun s i => ∃ k : Nat, k ≤ n0 ∧ i = .int .i64 k ∧ s = .string (Lb.str (Cd.aK k))) (fun _ i => n0 - (intOf i).toNat)
  case atStart => exact ⟨0, Nat.zero_le _, rfl, rfl⟩
  case round =>
    obtain ⟨k, hk, rfl, rfl⟩ := hrel
    have hs : Lb.str (Cd.aK k) ++ ⟨#[46, 97]⟩ = Lb.str (Cd.aK (k + 1)) := by
      show _ = Lb.str (Cd.aK k ++ [46, 97])
      rw [← Lb.str_append]; rfl
    have hz : (Lb.str (Cd.aK k)).size = 2 * k + 1 := aK_len k
    have HS := Lib.hid hs
    obtain ⟨S, hS⟩ : ∃ S, Lb.str (Cd.aK k) = S := ⟨_, rfl⟩
    rw [hS] at hz HS ⊢
    have hSs : S.size ≤ 100 := by omega
    have HSS := Lib.hid hS
    clear hs hS hz
    by_cases hlt : k < n0
    · go_wp2_with fail
      go_round
      case rel => exact ⟨k + 1, by omega, by go_num, by rw [← HS.out]⟩
      case measure => simp [intOf]; omega
    · have hkn : k = n0 := by omega
      have HSD : Hid (S.data.toList = Cd.aK n0) := by show _ = _; rw [← HSS.out, hkn]; rfl
      clear hkn HS HSS
      obtain ⟨C, hCC⟩ : ∃ C, w1.heap.size = C := ⟨_, rfl⟩
      go_wp2_with fail
      have hC1 : (w1.alloc (.cells #[.slice none 0 0, .slice none 0 0, .int .i64 d0, .int .i64 0, .int .i64 0] 39)).heap[C]? = some (.cells #[.slice none 0 0, .slice none 0 0, .int .i64 d0, .int .i64 0, .int .i64 0] 39 (0, 0)) := by rw [← hCC]; exact heap_alloc_new w1 _
      have hbC : Below w.heap.size w (w1.alloc (.cells #[.slice none 0 0, .slice none 0 0, .int .i64 d0, .int .i64 0, .int .i64 0] 39)) := hb1.alloc hb1.size _
      have hwC : w.heap.size ≤ C := by rw [← hCC]; exact hb1.size
      obtain ⟨WC, hWC⟩ : ∃ WC, w1.alloc (.cells #[.slice none 0 0, .slice none 0 0, .int .i64 d0, .int .i64 0, .int .i64 0] 39) = WC := ⟨_, rfl⟩
      rw [hWC] at hC1 hbC ⊢
      have HC1 := Lib.hid hC1
      clear hWC hCC hC1
      go_loopw [31] (fun i wx => ∃ (k : Nat) (v : Value), k ≤ m0 ∧ i = .int .i64 k ∧ wx.heap[C]? = some (.cells #[.slice none 0 0, v, .int .i64 d0, .int .i64 0, .int .i64 0] 39 (0, 0)) ∧ wx.ownsRow (C + 1) 9 1 v (Cd.sK k).length ((Cd.sK k).map Lb.strV) ∧ Below C WC wx) (fun i _ => m0 - (intOf i).toNat)
      case atStart => exact ⟨0, _, Nat.zero_le _, rfl, HC1.out, World.ownsRow_nil _ _ _ _, Below.refl _ _⟩
      case round =>
        obtain ⟨k, v, hk, rfl, hB, hown, hbel⟩ := hrel
        have hbw : Below w.heap.size w wr := hbC.trans (hbel.mono hwC)
        have hsz : C < wr.heap.size := lt_of_block hB
        have hskl := sK_len k
        obtain ⟨A0, c0, hv⟩ := own_len hown
        rw [hskl] at hown hv
        have hcell : wr.cell? ⟨C, 1, none⟩ = some v := by rw [cell_of_row wr C 1 _ _ _ hB]; rfl
        have HB := Lib.hid hB
        clear hB hskl
        by_cases hlt : k < m0
        · have HV := Lib.hid hv
          rw [hv] at hcell hown
          obtain ⟨BK, hBK⟩ : ∃ BK, Lb.str [UInt8.ofNat (48 + k)] = BK := ⟨_, rfl⟩
          have hBKs : BK.size ≤ 1 := by rw [← hBK]; exact Nat.le_refl _
          obtain ⟨XX, hXX⟩ : ∃ XX, (⟨#[115]⟩ : ByteArray) ++ BK = XX := ⟨_, rfl⟩
          have HXX : Hid (Value.string XX = Lb.strV [115, UInt8.ofNat (48 + k)]) := by
            show _ = _
            rw [← hXX, ← hBK]
            show Value.string (Lb.str [115] ++ Lb.str [UInt8.ofNat (48 + k)]) = _
            rw [Lb.str_append]; rfl
          have hconv : (convert 32 9 (.slice (some ⟨wr.heap.size, 0, none⟩) 1 1)).run Tryd.prog (wr.alloc (.cells #[.int .u8 (48 + (k : Int))] 5)) = .ok (.string BK) (wr.alloc (.cells #[.int .u8 (48 + (k : Int))] 5)) := by
            rw [← hBK]
            refine run_convert_bytes_back (P := Tryd.prog) (wr.alloc (.cells #[.int .u8 (48 + (k : Int))] 5)) 32 9 5 ⟨wr.heap.size, 0, none⟩ 1 [UInt8.ofNat (48 + k)] Tryd.underlying32 Tryd.underlying5 Tryd.underlying9 ?_
            intro j hj
            have : j = 0 := by simp at hj; omega
            subst this
            have hu : (UInt8.ofNat (48 + k)).toNat = 48 + k := by rw [UInt8.toNat_ofNat']; omega
            show (wr.alloc (.cells #[.int .u8 (48 + (k : Int))] 5)).cell? ⟨wr.heap.size, 0, none⟩ = some (.int .u8 ((UInt8.ofNat (48 + k)).toNat : Int))
            rw [hu, World.cell?_alloc_at _ _ _ _ rfl]
            show some (Value.int .u8 (48 + (k : Int))) = some (Value.int .u8 (((48 + k : Nat)) : Int))
            rw [show (((48 + k : Nat)) : Int) = 48 + (k : Int) by omega]
          clear hv hBK
          go_wp2_with (at_builtin; refine wpList_append_own _ rfl (.tmp 35) (.tmp 42) 27 rfl (C + 1) 9 i0 (.string .empty) 1 16 Tryd.underlying27 hi hz0 hz1 hz2 rfl (by decide) _ _ _ rfl ((hown.alloc _).alloc _) ⟨wr.heap.size + 1, 0, none⟩ 1 1 [.string XX] rfl rfl (cell_one_new2 wr _ _ _) (by simp [Value.oneCell']) (by unfold maxLen; omega) (by omega) (by simp; omega) ?_; intro v' wz hown' hgrow _; obtain ⟨⟨A5, c5, hv5⟩, hfz, HFA⟩ := field_facts (u := .string XX) HB.out hown hown' hgrow; subst hv5; clear hown' hgrow hown)
          go_roundw
          case rel =>
            refine ⟨k + 1, _, by omega, by go_num, HFA.out.1, ?_, hbel.trans HFA.out.2.2⟩
            have h := HFA.out.2.1
            rw [HXX.out] at h
            rw [sK_len, Cd.sK, List.map_append]
            exact h
          case measure => simp [intOf]; omega
        · have hkm : k = m0 := by omega
          have hst : StrsAt wr v (Cd.sK m0) := by
            rw [← hkm]
            refine strsAt_of_own (base := C + 1) (e := 9) ?_
            rw [sK_len]; exact hown
          have hlen := sK_len m0
          have HST := Lib.hid hst
          have HSN : Hid ((Cd.sK m0).length ≤ 900) := by show _ ≤ _; omega
          have HSM := Lib.hid (sK_small m0)
          have HTr := Lib.hid (HT.out.below hbw (Nat.le_refl _))
          have q0 : wr.cell? ⟨C, 0, none⟩ = some (.slice none 0 0) := by rw [cell_of_row wr C 0 _ _ _ HB.out]; rfl
          have q2 : wr.cell? ⟨C, 2, none⟩ = some (.int .i64 d0) := by rw [cell_of_row wr C 2 _ _ _ HB.out]; rfl
          have q3 : wr.cell? ⟨C, 3, none⟩ = some (.int .i64 0) := by rw [cell_of_row wr C 3 _ _ _ HB.out]; rfl
          have q4 : wr.cell? ⟨C, 4, none⟩ = some (.int .i64 0) := by rw [cell_of_row wr C 4 _ _ _ HB.out]; rfl
          have g := hchk.out
          unfold Cd.chkDots at g
          simp only [Bool.and_eq_true, beq_iff_eq] at g
          obtain ⟨⟨⟨⟨g1, g2⟩, g3⟩, g4⟩, g5⟩ := g
          have HG1 := Lib.hid g1
          have HG2 := Lib.hid g2
          have HG3 := Lib.hid g3
          have HG4 := Lib.hid g4
          have HG5 := Lib.hid g5
          have hlt2 : ¬ k < m0 := by omega
          have HKM := Lib.hid hkm
          clear g1 g2 g3 g4 g5 hlen hst hown hv hkm hlt
          go_wp2_with fail
          with_reducible refine (list_any _ _ _ _ _ (Cd.sK m0) S wr HTr.out ?_ HST.out HSN.out HSM.out).mono ?_
          · unfold maxLen; omega
          rintro e w2 ⟨⟨vl, rfl, hst1⟩, hb2⟩
          rw [HSD.out] at hst1 ⊢
          have hbw2 := below_chain hbw hb2 (Nat.le_refl _)
          obtain ⟨R1, hR1⟩ : ∃ R, Cd.list (d0 : Int) (Cd.sK m0) (Cd.aK n0) = R := ⟨_, rfl⟩
          rw [hR1] at hst1 HG1 HG4 HG5 ⊢
          clear hR1
          obtain ⟨l, cc⟩ := R1
          obtain rfl : cc = 0 := HG1.out
          rw [show (((l, 0) : List Lb.Bytes × Nat).2 : Int) = 0 from rfl]
          have hll : l.length = m0 + 1 := HG4.out
          obtain ⟨b1, o1, c1, rfl, hbl1, hcell1⟩ := hst1.cellAt (by intro e; have e2 : l = [] := e; rw [e2] at hll; simp at hll)
          rw [show ((l, 0) : List Lb.Bytes × Nat).1.length = m0 + 1 from hll]
          have hcl1 : ∀ j, j < m0 + 1 → w2.cell? ⟨b1, o1 + j, none⟩ = some (Lb.strV (l.getD j [])) := fun j hj => hcell1 j (by show j < l.length; omega)
          have HCL1 := Lib.hid hcl1
          have HBL1 := Lib.hid hbl1
          have HT2 := Lib.hid (HTr.out.below hb2 (Nat.le_refl _))
          have HST2 := Lib.hid (HST.out.below hb2 (Nat.le_refl _))
          have q0' := (hb2.cell (p := ⟨C, 0, none⟩) hsz).trans q0
          have q1' := (hb2.cell (p := ⟨C, 1, none⟩) hsz).trans hcell
          have q2' := (hb2.cell (p := ⟨C, 2, none⟩) hsz).trans q2
          have q3' := (hb2.cell (p := ⟨C, 3, none⟩) hsz).trans q3
          have q4' := (hb2.cell (p := ⟨C, 4, none⟩) hsz).trans q4
          obtain ⟨SD, hSD⟩ : ∃ SD, S ++ ⟨#[46]⟩ = SD := ⟨_, rfl⟩
          have HSDD : Hid (SD.data.toList = Cd.aK n0 ++ [46]) := by show _ = _; rw [← hSD, ByteArray.data_append, Array.toList_append, HSD.out]
          have HSDS : Hid (SD.size ≤ maxLen) := by show _ ≤ _; rw [← hSD, ByteArray.size_append]; have : (⟨#[46]⟩ : ByteArray).size = 1 := rfl; unfold maxLen; omega
          clear q0 q2 q3 q4 hcell hcl1 hcell1 hbl1 hst1 hll HG1 HG4
          go_wp2_with fail
          clear hSD
          with_reducible refine (list_any _ _ _ _ _ (Cd.sK m0) SD w2 HT2.out HSDS.out HST2.out HSN.out HSM.out).mono ?_
          rintro e w3 ⟨⟨vm, rfl, hst3⟩, hb3⟩
          rw [HSDD.out] at hst3 ⊢
          have hbw3 := below_chain hbw2 hb3 (Nat.le_refl _)
          obtain ⟨R2, hR2⟩ : ∃ R, Cd.list (d0 : Int) (Cd.sK m0) (Cd.aK n0 ++ [46]) = R := ⟨_, rfl⟩
          rw [hR2] at hst3 HG2 HG3 ⊢
          clear hR2
          obtain ⟨l2, cc2⟩ := R2
          obtain rfl : cc2 = 0 := HG2.out
          obtain rfl : l2 = [Cd.aK n0] := HG3.out
          rw [show ((([Cd.aK n0], 0) : List Lb.Bytes × Nat).2 : Int) = 0 from rfl]
          obtain ⟨b2, o2, c2, rfl, hbl2, hcell2⟩ := hst3.cellAt (by simp)
          rw [show (([Cd.aK n0], 0) : List Lb.Bytes × Nat).1.length = 1 from rfl]
          have hSV : Lb.strV (Cd.aK n0) = .string S := by
            rw [← HSD.out]
            show Value.string (Lb.str S.data.toList) = _
            rw [Lb.str_back]
          have hm0 : w3.cell? ⟨b2, o2, none⟩ = some (.string S) := by
            have h := hcell2 0 (by simp)
            rw [Nat.add_zero] at h
            rw [h, ← hSV]; rfl
          have HCL3 : Hid (∀ j, j < m0 + 1 → w3.cell? ⟨b1, o1 + j, none⟩ = some (Lb.strV (l.getD j []))) := fun j hj => (hb3.cell (p := ⟨b1, o1 + j, none⟩) HBL1.out).trans (HCL1.out j hj)
          have HSV := Lib.hid hSV
          have hq : (S.toList == S.toList) = true := by simp
          have hqn : (S.toList != S.toList) = false := by simp
          have hlast : Lb.strV (Cd.aK n0 ++ [46, 115, 48]) = .string (S ++ ⟨#[46, 115, 48]⟩) := by
            rw [← HSD.out]
            show Value.string (Lb.str (S.data.toList ++ [46, 115, 48])) = _
            rw [← Lb.str_append, Lb.str_back]; rfl
          have HLAST := Lib.hid hlast
          have h5 := HG5.out
          clear hst3 hbl2 hcell2 q0' q1' q2' q3' q4' HG2 HG3 HG5 hSV hlast
          by_cases hdn : d0 ≤ n0
          · rw [if_pos hdn] at h5
            simp only [Bool.and_eq_true, Bool.or_eq_true, beq_iff_eq] at h5
            obtain ⟨h6, h7⟩ := h5
            have hl0 := HCL3.out 0 (by omega)
            rw [h6, HSV.out, Nat.add_zero] at hl0
            have hdi : (d0 : Int) ≤ (n0 : Int) := by omega
            by_cases hmz : m0 = 0
            · have hmi : ((m0 : Int) == 0) = true := by simp; omega
              clear h6 h7 hmz
              go_wp2_with fail
              go_ret
              exact ⟨ret_bool (by first | rfl | simp), hbw3⟩
            · have hmi : ((m0 : Int) == 0) = false := by simp; omega
              have h8 : l.getD 1 [] = Cd.aK n0 ++ [46, 115, 48] := h7.resolve_left hmz
              have hl1 := HCL3.out 1 (by omega)
              rw [h8, HLAST.out] at hl1
              have hm1 : 1 ≤ m0 := by omega
              obtain ⟨SE, hSE⟩ : ∃ SE, S ++ ⟨#[46, 115, 48]⟩ = SE := ⟨_, rfl⟩
              rw [hSE] at hl1
              have hqe : (SE.toList == SE.toList) = true := by simp
              clear h6 h7 h8 hmz
              go_wp2_with fail
              go_ret
              exact ⟨ret_bool (by first | rfl | simp), hbw3⟩
          · rw [if_neg hdn] at h5
            simp only [Bool.and_eq_true, Bool.or_eq_true, beq_iff_eq] at h5
            obtain ⟨h6, h7⟩ := h5
            have hl0 := HCL3.out m0 (by omega)
            rw [h6, HSV.out] at hl0
            have hdi : ¬ (d0 : Int) ≤ (n0 : Int) := by omega
            by_cases hmz : m0 = 0
            · have hmi : ((m0 : Int) == 0) = true := by simp; omega
              clear h6 h7 hmz
              go_wp2_with fail
              go_ret
              exact ⟨ret_bool (by first | rfl | simp), hbw3⟩
            · have hmi : ((m0 : Int) == 0) = false := by simp; omega
              have h8 : l.getD 0 [] = Cd.aK n0 ++ [46, 115, 48] := h7.resolve_left hmz
              have hl1 := HCL3.out 0 (by omega)
              rw [h8, HLAST.out, Nat.add_zero] at hl1
              have hm1 : 1 ≤ m0 := by omega
              obtain ⟨SE, hSE⟩ : ∃ SE, S ++ ⟨#[46, 115, 48]⟩ = SE := ⟨_, rfl⟩
              rw [hSE] at hl1
              have hqe : (SE.toList == SE.toList) = true := by simp
              clear h6 h7 h8 hmz
              go_wp2_with fail
              go_ret
              exact ⟨ret_bool (by first | rfl | simp), hbw3⟩
end Go.Proofs.YtlojfbmngippaaaDoor
