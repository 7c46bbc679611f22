/- The walk of puny.Encode: what it answers is Pu.encode. -/
import Derived.Test.YtffjfggndfcfmaaDoorEnc
namespace Go.Proofs.YtffjfggndfcfmaaDoor
open Go.RowKit

theorem basic_back_one (r : Nat) (h : r < 128) : ((UInt8.ofNat r).toNat : Int) = (r : Int) := by rw [UInt8.toNat_ofNat']; omega
theorem u8_wrap (r : Nat) (h : r < 128) : IntKind.u8.wrap (r : Int) = (r : Int) := by simp [IntKind.wrap, IntKind.bits]; omega
/-- The bytes of a row of the call's own, as text. -/
theorem conv_bytes {w : World} {B : Nat} {v : Value} {t : Lb.Bytes} (h : w.ownsRow B 5 1 v t.length (t.map byteV)) : (convert 54 9 v).run Tryd.prog w = .ok (Lb.strV t) w := by
  rcases h.2 with ⟨rfl, hn⟩ | ⟨g, cap, cur, rfl, _, hh, _⟩
  · have : t = [] := List.eq_nil_of_length_eq_zero hn
    subst this
    rw [run_convert_bytes_string w 54 9 5 none 0 0 Tryd.underlying54 Tryd.underlying5 Tryd.underlying9]
    rfl
  · exact run_convert_bytes_back (P := Tryd.prog) w 54 9 5 ⟨g, 0, none⟩ cap t Tryd.underlying54 Tryd.underlying5 Tryd.underlying9 (fun j hj => by
      rw [show (⟨g, 0, none⟩ : Addr).add j = ⟨g, j, none⟩ by unfold Addr.add; split <;> simp_all]
      rw [h.cellAt j (by omega), List.getElem?_map, List.getElem?_eq_getElem hj]; rfl)

set_option maxRecDepth 20000 in
set_option maxHeartbeats 4000000 in
theorem encode_any (v : Value) (l : List Nat) (w : World) (hv : RunesAt w v l) (hl : l.length ≤ 2000) (hr : ∀ r ∈ l, r ≤ 1114111) :
    Calls Tryd.prog 50 #[v] w fun e w' => e = .returned (.tuple #[Lb.strV (encR l).1, .int .i64 ((encR l).2 : Nat)]) ∧ Below w.heap.size w w' := by
  obtain ⟨i0, hi, hz0, hz1, hz2⟩ := info_parts byte_info
  have HV := Lib.hid hv
  have HR := Lib.hid hr
  have hRR : Hid (EncHead l (Pu.basic l).length (l.length + 1) 128 { out := Pu.head l, delta := 0, bias := 72, h := (Pu.basic l).length } (Pu.encode l)) := encHead_start l
  have hb0 : (Pu.basic l).length ≤ 2000 := Nat.le_trans (basic_len_le l) hl
  obtain ⟨RS, hRS⟩ : ∃ RS, encR l = RS := ⟨_, rfl⟩
  have HRS : Hid (encO (Pu.encode l) = RS) := hRS
  rw [hRS]
  obtain ⟨L, hL⟩ : ∃ L, l.length = L := ⟨_, rfl⟩
  have HL := Lib.hid hL
  obtain ⟨R, hR⟩ : ∃ R, Pu.encode l = R := ⟨_, rfl⟩
  rw [hR] at hRR HRS
  rw [hL] at hl
  obtain ⟨A, c, hvv⟩ : ∃ A c, v = .slice A L c := by
    rcases hv with ⟨h, A, c, rfl⟩ | ⟨b, o, c, rfl, _⟩
    · exact ⟨A, c, by rw [← hL, h]; rfl⟩
    · exact ⟨some ⟨b, o, none⟩, c, by rw [← hL]⟩
  subst hvv
  have HCELL : Hid (∀ j, j < L → ∃ b o, A = some ⟨b, o, none⟩ ∧ b < w.heap.size ∧ w.cell? ⟨b, o + j, none⟩ = some (.int .i32 ((l.getD j 0 : Nat) : Int))) := by
    intro j hj
    rcases hv with ⟨h, _⟩ | ⟨b, o, c', he, hb, hc⟩
    · rw [h] at hL; simp at hL; omega
    · injection he with hA _ _
      exact ⟨b, o, hA, hb, hc j (by omega)⟩
  clear hv hr hRS hL hR HV
  go_enter Tryd.func50, Tryd.ntmps50
  go_wp2
  go_loopw [4, 19] (fun out i wr => ∃ (k : Nat) (t : Lb.Bytes), k ≤ L ∧ i = .int .i64 k ∧ Hid (t = Pu.basic (l.take k)) ∧ t.length ≤ k ∧ wr.ownsRow w.heap.size 5 1 out t.length (t.map byteV) ∧ Below w.heap.size w wr)
    (fun _ i _ => L - (intOf i).toNat)
  case atStart => exact ⟨0, [], Nat.zero_le _, rfl, rfl, Nat.le_refl _, World.ownsRow_nil _ _ _ _, Below.refl _ _⟩
  case round =>
    obtain ⟨k, t, hk, rfl, HT, htk, hown, hbel⟩ := hrel
    have hbs : w.heap.size ≤ wr.heap.size := hbel.size
    by_cases hlt : k < L
    · obtain ⟨b, o, rfl, hbw, hcell⟩ := HCELL.out k hlt
      have hcell2 : wr.cell? ⟨b, o + k, none⟩ = some (.int .i32 ((l.getD k 0 : Nat) : Int)) := (hbel.cell (p := ⟨b, o + k, none⟩) hbw).trans hcell
      have hstep := basic_snoc l k (by have := HL.out; omega)
      have hrm := HR.out _ (getD_mem l k 0 (by have := HL.out; omega))
      clear hcell
      obtain ⟨r, hrr⟩ : ∃ r, l.getD k 0 = r := ⟨_, rfl⟩
      rw [hrr] at hcell2 hstep hrm
      rw [← HT.out] at hstep
      have HSTEP := Lib.hid hstep
      clear hstep hrr
      by_cases h128 : r < 128
      · have h1 : (r : Int) < 128 := by omega
        have h1w := u8_wrap r h128
        have HT2 : Hid (t ++ [UInt8.ofNat r] = Pu.basic (l.take (k + 1))) := by have := HSTEP.out; rw [if_pos h128] at this; exact this.symm
        have hbv : byteV (UInt8.ofNat r) = .int .u8 (r : Int) := by unfold byteV; rw [basic_back_one r h128]
        have HBV := Lib.hid hbv
        clear HSTEP h128 hbv
        go_wp2_with (at_builtin; refine wpList_append_own _ rfl (.tmp 25) (.tmp 28) 54 rfl w.heap.size 5 i0 (.int .u8 0) 1 1 Tryd.underlying54 hi hz0 hz1 hz2 rfl (by decide) _ _ _ rfl (hown.alloc _) ⟨wr.heap.size, 0, none⟩ 1 1 [.int .u8 (r : Int)] rfl rfl (cell_one_new _ _ _) (by simp [Value.oneCell']) (by unfold maxLen; omega) (by omega) (by simp; omega) ?_; intro v' w1 hown' hgrow _)
        have hb' : Below w.heap.size w w1 := (hbel.alloc hbs _).grown hgrow (by simp; omega) (fun g hg => own_base_le hown hg)
        have hown2 : w1.ownsRow w.heap.size 5 1 v' (t ++ [UInt8.ofNat r]).length ((t ++ [UInt8.ofNat r]).map byteV) := by
          rw [List.length_append, List.map_append, List.map_cons, List.map_nil, HBV.out]; exact hown'
        have H2 := Lib.hid hown2
        clear hown' hown2 hgrow hown
        go_wp2
        go_roundw
        case rel => exact ⟨k + 1, _, by omega, by go_num, HT2, by simp; omega, H2.out, hb'⟩
        case measure => simp [intOf]; omega
      · have h1 : ¬ (r : Int) < 128 := by omega
        have HT2 : Hid (t = Pu.basic (l.take (k + 1))) := by have := HSTEP.out; rw [if_neg h128, List.append_nil] at this; exact this.symm
        clear HSTEP h128
        go_wp2
        go_roundw
        case rel => exact ⟨k + 1, t, by omega, by go_num, HT2, by omega, hown, hbel⟩
        case measure => simp [intOf]; omega
    · have ht : t = Pu.basic l := by rw [HT.out, List.take_of_length_le (by have := HL.out; omega)]
      subst ht
      clear HT htk
      obtain ⟨P, hP⟩ : ∃ P, (Pu.basic l).length = P := ⟨_, rfl⟩
      have HP := Lib.hid hP
      rw [hP] at hRR hb0 hown
      have hrest : Hid (∃ (vo : Value) (wo : World), wo.ownsRow w.heap.size 5 1 vo (Pu.head l).length ((Pu.head l).map byteV)) → True := fun _ => trivial
      clear hrest
      have hhl : (Pu.head l).length ≤ P + 1 := by unfold Pu.head; split <;> simp <;> omega
      by_cases hP0 : P = 0
      case' pos =>
        have hPz : ¬ (0 : Int) < (P : Int) := by omega
        have hhd : Pu.head l = Pu.basic l := by
          have : Pu.basic l = [] := List.eq_nil_of_length_eq_zero (by have := HP.out; omega)
          unfold Pu.head; rw [if_pos this, this]
        have hown2 : wr.ownsRow w.heap.size 5 1 u4 (Pu.head l).length ((Pu.head l).map byteV) := by rw [hhd, HP.out]; exact hown
        obtain ⟨vo, hvo⟩ : ∃ vo, u4 = vo := ⟨_, rfl⟩
        obtain ⟨A', c', hvv⟩ := own_len hown
        subst hvv
        have H2 := Lib.hid hown2
        have hbo := hbel
        clear hhd hown2 hown hP hP0 hvo hbel
        go_wp2
      case' neg =>
        have hPz : (0 : Int) < (P : Int) := by omega
        have hhd : Pu.head l = Pu.basic l ++ [45] := by
          have : Pu.basic l ≠ [] := by intro e; rw [e] at hP; simp at hP; omega
          unfold Pu.head; rw [if_neg this]
        have HHD := Lib.hid hhd
        have how := hown
        obtain ⟨A', c', hvv⟩ := own_len hown
        subst hvv
        clear hhd hP hP0 hown
        go_wp2_with (at_builtin; refine wpList_append_own _ rfl (.tmp 36) (.tmp 37) 54 rfl w.heap.size 5 i0 (.int .u8 0) 1 1 Tryd.underlying54 hi hz0 hz1 hz2 rfl (by decide) _ _ _ rfl (how.alloc _) ⟨wr.heap.size, 0, none⟩ 1 1 [.int .u8 45] rfl rfl (cell_one_new _ _ _) (by simp [Value.oneCell']) (by unfold maxLen; omega) (by omega) (by simp; omega) ?_; intro vo w1 hown' hgrow _)
        have hbo : Below w.heap.size w w1 := (hbel.alloc hbs _).grown hgrow (by simp; omega) (fun g hg => own_base_le how hg)
        have H2 : Hid (w1.ownsRow w.heap.size 5 1 vo (Pu.head l).length ((Pu.head l).map byteV)) := by
          show w1.ownsRow _ _ _ _ _ _
          rw [HHD.out, List.length_append, List.map_append, HP.out]; exact hown'
        clear hown' hgrow how hbel
        go_wp2
      all_goals
        have hstart : Hid (EncHead l P (l.length + 1) 128 ⟨Pu.head l, 0, 72, P⟩ R) := hRR
        clear hRR
        go_loopw [4, 7, 9, 10, 11] (fun out h n d b wx => ∃ (f nn : Nat) (so : Lb.Bytes) (sd sb sh : Nat), h = .int .i64 sh ∧ n = .int .i32 nn ∧ d = .int .i64 sd ∧ b = .int .i64 sb ∧ wx.ownsRow w.heap.size 5 1 out so.length (so.map byteV) ∧
            Below w.heap.size w wx ∧ sh ≤ L ∧ nn ≤ 1114112 ∧ sd ≤ nn * 2001 ∧ sb ≤ 324 ∧ so.length ≤ 2001 + 64 * sh ∧ P ≤ sh ∧ Hid (EncHead l P f nn ⟨so, sd, sb, sh⟩ R))
          (fun _ h _ _ _ _ => L - (intOf h).toNat)
        case atStart => exact ⟨l.length + 1, 128, Pu.head l, 0, 72, P, rfl, rfl, rfl, rfl, H2.out, hbo, (by have := basic_len_le l; have := HP.out; have := HL.out; omega), by omega, by omega, by omega, by omega, Nat.le_refl _, hstart⟩
        case round =>
          clear H2 hbo hstart
          obtain ⟨f, nn, so, sd, sb, sh, rfl, rfl, rfl, rfl, hown, hbel2, hsh, hnn, hsd, hsb, hso, hPs, HE⟩ := hrel
          obtain ⟨wo, rfl⟩ : ∃ wo : World, wo = wr := ⟨_, rfl⟩
          have hbs2 : w.heap.size ≤ wo.heap.size := hbel2.size
          by_cases hlt2 : sh < L
          · have hlt3 : sh < l.length := by have := HL.out; omega
            by_cases hlong : 63 < so.length
            · have hRn : R = none := encHead_long HE.out hlt3 hlong
              have hfin : RS = ([], 2) := by rw [← HRS.out, hRn]; rfl
              have HF := Lib.hid hfin
              obtain ⟨A2, c2, hv2⟩ := own_len hown
              subst hv2
              clear hRn hfin hown
              go_wp2
              go_ret2
              exact ⟨by rw [HF.out]; rfl, hbel2⟩
            · obtain ⟨hge, hmle, hdm, g, hnext⟩ := encHead_next HE.out HR.out hlt3 hlong hsd (by have := HL.out; omega)
              dsimp only at hdm hnext
              have HMIN : Hid (Pu.minGe nn l = l.foldl (fun m r => if nn ≤ r ∧ r < m then r else m) 1114112) := rfl
              obtain ⟨m, hm⟩ : ∃ m, Pu.minGe nn l = m := ⟨_, rfl⟩
              rw [hm] at hge hmle hdm hnext HMIN
              have HNEXT := Lib.hid hnext
              obtain ⟨A2, c2, hv2⟩ := own_len hown
              subst hv2
              clear hnext hm HE
              go_wp2
              go_loop [12, 48] (fun m i => ∃ (k x : Nat), k ≤ L ∧ i = .int .i64 k ∧ m = .int .i32 x ∧ x ≤ 1114112 ∧ Hid ((l.take k).foldl (fun m r => if nn ≤ r ∧ r < m then r else m) 1114112 = x)) (fun _ i => L - (intOf i).toNat)
              case atStart => exact ⟨0, 1114112, Nat.zero_le _, rfl, rfl, Nat.le_refl _, rfl⟩
              case round =>
                obtain ⟨j, x, hj, rfl, rfl, hx, HX⟩ := hrel
                by_cases hjl : j < L
                · obtain ⟨b, o, rfl, hbw, hcell⟩ := HCELL.out j hjl
                  have hcell2 : wo.cell? ⟨b, o + j, none⟩ = some (.int .i32 ((l.getD j 0 : Nat) : Int)) := (hbel2.cell (p := ⟨b, o + j, none⟩) hbw).trans hcell
                  have hstep := fold_snoc (fun m r => if nn ≤ r ∧ r < m then r else m) 1114112 l j 0 (by have := HL.out; omega)
                  have hrm := HR.out _ (getD_mem l j 0 (by have := HL.out; omega))
                  clear hcell
                  obtain ⟨r, hrr⟩ : ∃ r, l.getD j 0 = r := ⟨_, rfl⟩
                  rw [hrr] at hcell2 hstep hrm
                  rw [HX.out] at hstep
                  have HSTEP := Lib.hid hstep
                  clear hstep hrr HX
                  by_cases hc : nn ≤ r ∧ r < x
                  · have h1 : (nn : Int) ≤ (r : Int) := by omega
                    have h2 : (r : Int) < (x : Int) := by omega
                    have HX2 : Hid ((l.take (j + 1)).foldl (fun m r => if nn ≤ r ∧ r < m then r else m) 1114112 = r) := by have := HSTEP.out; simp only [if_pos hc] at this; exact this
                    clear HSTEP hc
                    go_wp2
                    go_round
                    case rel => exact ⟨j + 1, r, by omega, by go_num, rfl, by omega, HX2⟩
                    case measure => simp [intOf]; omega
                  · have HX2 : Hid ((l.take (j + 1)).foldl (fun m r => if nn ≤ r ∧ r < m then r else m) 1114112 = x) := by have := HSTEP.out; simp only [if_neg hc] at this; exact this
                    clear HSTEP
                    rcases (show (r : Int) < (nn : Int) ∨ ((nn : Int) ≤ (r : Int) ∧ (x : Int) ≤ (r : Int)) by omega) with h1 | ⟨h1, h2⟩
                    all_goals
                      clear hc
                      go_wp2
                      go_round
                      case rel => exact ⟨j + 1, x, by omega, by go_num, rfl, hx, HX2⟩
                      case measure => simp [intOf]; omega
                · have hxm : x = m := by
                    rw [HMIN.out, ← HX.out, List.take_of_length_le (by have := HL.out; omega)]
                  subst hxm
                  have hmul0 : 0 ≤ ((x : Int) - (nn : Int)) * ((sh : Int) + 1) := Int.mul_nonneg (by omega) (by omega)
                  have hmulc : (((x - nn) * (sh + 1) : Nat) : Int) = ((x : Int) - (nn : Int)) * ((sh : Int) + 1) := by
                    rw [Int.natCast_mul]
                    have e1 : ((x - nn : Nat) : Int) = (x : Int) - nn := by omega
                    have e2 : ((sh + 1 : Nat) : Int) = (sh : Int) + 1 := by omega
                    rw [e1, e2]
                  have hmulb : (sd : Int) + ((x : Int) - (nn : Int)) * ((sh : Int) + 1) ≤ (x : Int) * 2001 := by rw [← hmulc]; omega
                  have HMULC := Lib.hid hmulc
                  obtain ⟨d1, hd1⟩ : ∃ d1, sd + (x - nn) * (sh + 1) = d1 := ⟨_, rfl⟩
                  rw [hd1] at hdm
                  have HD1 := Lib.hid hd1
                  have HD2 := Lib.hid hd1
                  clear hmulc HX hd1
                  go_wp2
                  go_loopw [4, 7, 10, 11, 74] (fun out h d b i wx => ∃ (k : Nat) (to : Lb.Bytes) (td tb th : Nat), k ≤ L ∧ i = .int .i64 k ∧ h = .int .i64 th ∧ d = .int .i64 td ∧ b = .int .i64 tb ∧ wx.ownsRow w.heap.size 5 1 out to.length (to.map byteV) ∧
                      Below w.heap.size w wx ∧ th ≤ sh + k ∧ sh ≤ th ∧ td ≤ x * 2001 + k ∧ tb ≤ 324 ∧ to.length ≤ 2001 + 64 * th ∧ Hid ((l.take k).foldl (Pu.stepR x P) ⟨so, d1, sb, sh⟩ = ⟨to, td, tb, th⟩))
                    (fun _ _ _ _ i _ => L - (intOf i).toNat)
                  case atStart => exact ⟨0, so, d1, sb, sh, Nat.zero_le _, rfl, rfl, by rw [← HD1.out]; congr 1; rw [← HMULC.out]; omega, rfl, hown, hbel2, by omega, Nat.le_refl _, by omega, hsb, hso, rfl⟩
                  case round =>
                    clear hbel2 hso hsb hsd hown HD1 HMULC hmul0 hmulb
                    obtain ⟨j2, to, td, tb, th, hj2, rfl, rfl, rfl, rfl, hown, hbel3, hth, hsh2, htd, htb, hto, HF⟩ := hrel
                    have hbs3 : w.heap.size ≤ wr.heap.size := hbel3.size
                    by_cases hjl2 : j2 < L
                    · obtain ⟨b, o, rfl, hbw, hcell⟩ := HCELL.out j2 hjl2
                      have hcell2 : wr.cell? ⟨b, o + j2, none⟩ = some (.int .i32 ((l.getD j2 0 : Nat) : Int)) := (hbel3.cell (p := ⟨b, o + j2, none⟩) hbw).trans hcell
                      have hstep := fold_snoc (Pu.stepR x P) ⟨so, d1, sb, sh⟩ l j2 0 (by have := HL.out; omega)
                      have hrm := HR.out _ (getD_mem l j2 0 (by have := HL.out; omega))
                      clear hcell
                      obtain ⟨r, hrr⟩ : ∃ r, l.getD j2 0 = r := ⟨_, rfl⟩
                      rw [hrr] at hcell2 hstep hrm
                      rw [HF.out] at hstep
                      have HSTEP := Lib.hid hstep
                      clear hstep hrr HF
                      by_cases hrx : r = x
                      · have h1 : ¬ (r : Int) < (x : Int) := by omega
                        have h2 : ((r : Int) != (x : Int)) = false := by simp; omega
                        have htl : to.length ≤ 1000000 := by omega
                        by_cases hp : th = P
                        all_goals
                          obtain ⟨pb, hpb⟩ : ∃ pb, ((th : Int) == (P : Int)) = pb := ⟨_, rfl⟩
                          have hpn : (th == P) = pb := by rw [← hpb, Bool.eq_iff_iff]; simp only [beq_iff_eq]; omega
                          have HF2 : Hid ((l.take (j2 + 1)).foldl (Pu.stepR x P) ⟨so, d1, sb, sh⟩ = ⟨to ++ Pu.number 64 td 36 tb, 0, Pu.adapt td (th + 1) pb, th + 1⟩) := by
                            have := HSTEP.out
                            rw [show Pu.stepR x P ⟨to, td, tb, th⟩ r = ⟨to ++ Pu.number 64 td 36 tb, 0, Pu.adapt td (th + 1) (th == P), th + 1⟩ by unfold Pu.stepR; rw [if_pos hrx], hpn] at this
                            exact this
                          have had := adapt_small td (th + 1) pb (by omega)
                          have HPB := Lib.hid hpb
                          clear HSTEP hrx hp hpn hpb
                          go_wp2_with fail
                          refine (number_any w.heap.size u4 to td tb wr hown hbs3 htl (by omega) (by omega)).mono ?_
                          rintro e w2 ⟨v2, rfl, hown2, hb2⟩
                          have hbel4 := hbel3.trans hb2
                          have hto2 : (to ++ Pu.number 64 td 36 tb).length ≤ 2001 + 64 * (th + 1) := by
                            have := number_length_le 64 td 36 tb
                            rw [List.length_append]; omega
                          have H2 := Lib.hid hown2
                          have HT2 := Lib.hid hto2
                          clear hown2 hto2 hb2 hown
                          go_wp2_with fail
                          rw [HPB.out]
                          refine (adapt_any (td : Int) ((th : Int) + 1) pb w2 (by omega) (by omega) (by omega) (by omega)).mono ?_
                          rintro e w3 ⟨rfl, rfl⟩
                          rw [show ((th : Int) + 1).toNat = th + 1 by omega, Int.toNat_natCast]
                          go_wp2
                          go_roundw
                          case rel => exact ⟨j2 + 1, _, 0, Pu.adapt td (th + 1) pb, th + 1, by omega, by go_num, by go_num, rfl, rfl, H2.out, hbel4, by omega, by omega, by omega, had, HT2.out, HF2⟩
                          case measure => simp [intOf]; omega
                      · have h2 : ((r : Int) != (x : Int)) = true := by simp; omega
                        by_cases hlt4 : r < x
                        · have h1 : (r : Int) < (x : Int) := by omega
                          have HF2 : Hid ((l.take (j2 + 1)).foldl (Pu.stepR x P) ⟨so, d1, sb, sh⟩ = ⟨to, td + 1, tb, th⟩) := by
                            have := HSTEP.out
                            rw [show Pu.stepR x P ⟨to, td, tb, th⟩ r = ⟨to, td + 1, tb, th⟩ by unfold Pu.stepR; rw [if_neg hrx, if_pos hlt4]] at this
                            exact this
                          clear HSTEP hrx hlt4
                          go_wp2
                          go_roundw
                          case rel => exact ⟨j2 + 1, to, td + 1, tb, th, by omega, by go_num, rfl, by go_num, rfl, hown, hbel3, by omega, hsh2, by omega, htb, hto, HF2⟩
                          case measure => simp [intOf]; omega
                        · have h1 : ¬ (r : Int) < (x : Int) := by omega
                          have HF2 : Hid ((l.take (j2 + 1)).foldl (Pu.stepR x P) ⟨so, d1, sb, sh⟩ = ⟨to, td, tb, th⟩) := by
                            have := HSTEP.out
                            rw [show Pu.stepR x P ⟨to, td, tb, th⟩ r = ⟨to, td, tb, th⟩ by unfold Pu.stepR; rw [if_neg hrx, if_neg hlt4]] at this
                            exact this
                          clear HSTEP hrx hlt4
                          go_wp2
                          go_roundw
                          case rel => exact ⟨j2 + 1, to, td, tb, th, by omega, by go_num, rfl, rfl, rfl, hown, hbel3, by omega, hsh2, by omega, htb, hto, HF2⟩
                          case measure => simp [intOf]; omega
                    · have hfin : l.foldl (Pu.stepR x P) ⟨so, sd + (x - nn) * (sh + 1), sb, sh⟩ = ⟨to, td, tb, th⟩ := by
                        have := HF.out
                        rw [List.take_of_length_le (by have := HL.out; omega)] at this
                        rw [HD2.out]; exact this
                      have HE2 := Lib.hid (HNEXT.out _ hfin).1
                      have hmore : sh < th := (HNEXT.out _ hfin).2
                      have hthL : th ≤ L := by
                        have h1 := HE2.out.2.1
                        have h2 := List.length_filter_le (fun y => decide (y < x + 1)) l
                        have h3 := HL.out
                        change th = _ at h1
                        omega
                      clear hfin HF HNEXT
                      go_wp2
                      go_roundw
                      case rel => exact ⟨g, x + 1, to, td + 1, tb, th, rfl, by go_num, by go_num, rfl, hown, hbel3, hthL, by omega, by omega, htb, hto, by omega, HE2⟩
                      case measure => simp [intOf]; omega
          · have hend := encHead_end HE.out (by show ¬ sh < l.length; have := HL.out; omega)
            change R = if 63 < so.length then none else some so at hend
            by_cases hlong : 63 < so.length
            · have hfin : RS = ([], 2) := by rw [← HRS.out, hend, if_pos hlong]; rfl
              have HF := Lib.hid hfin
              obtain ⟨A2, c2, hv2⟩ := own_len hown
              subst hv2
              clear hend hfin hown HE
              go_wp2
              go_ret2
              exact ⟨by rw [HF.out]; rfl, hbel2⟩
            · have hfin : RS = (so, 0) := by rw [← HRS.out, hend, if_neg hlong]; rfl
              have HF := Lib.hid hfin
              have hconv := conv_bytes hown
              obtain ⟨A2, c2, hv2⟩ := own_len hown
              subst hv2
              clear hend hfin hown HE
              go_wp2
              go_ret2
              exact ⟨by rw [HF.out]; rfl, hbel2⟩
end Go.Proofs.YtffjfggndfcfmaaDoor
