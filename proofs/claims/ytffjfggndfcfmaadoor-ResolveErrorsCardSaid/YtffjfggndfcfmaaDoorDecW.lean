/- The walk of puny.Decode: what it answers is Pu.decode. -/
import Derived.Test.YtffjfggndfcfmaaDoorSh
import Derived.Test.YtffjfggndfcfmaaDoorEncW
import Derived.Test.YtffjfggndfcfmaaDoorIns
namespace Go.Proofs.YtffjfggndfcfmaaDoor
open Go.RowKit

theorem rune_info : (Tryd.prog.info? 21).map (fun i => (i.zero, i.size, i.bytes)) = some (some (.int .i32 0), 1, 4) := by kernel_rfl

set_option maxRecDepth 100000 in
set_option maxHeartbeats 4000000 in
theorem decode_any (s : ByteArray) (w : World) (hs : s.size ≤ 1000000) :
    Calls Tryd.prog 61 #[.string s] w fun e w' => ∃ v, e = .returned (.tuple #[v, .int .i64 ((decR s.data.toList).2 : Nat)]) ∧ w'.ownsRow w.heap.size 21 1 v (decR s.data.toList).1.length ((decR s.data.toList).1.map runeV) ∧ Below w.heap.size w w' := by
  obtain ⟨i0, hi, hz0, hz1, hz2⟩ := info_parts rune_info
  obtain ⟨RS, hRS⟩ : ∃ RS, decR s.data.toList = RS := ⟨_, rfl⟩
  rw [hRS]
  by_cases hlong : 63 < s.size
  · have hfin : RS = ([], 3) := by rw [← hRS]; exact decode_long hlong
    have HF := Lib.hid hfin
    clear hfin hRS
    go_enter Tryd.func61, Tryd.ntmps61
    go_wp2
    go_ret2
    exact ⟨_, by rw [HF.out]; rfl, by rw [HF.out]; exact World.ownsRow_nil _ _ _ _, Below.refl _ _⟩
  · have hb := lastAt_bd s.data.toList
    have HZ : Hid (decR s.data.toList = RS) := hRS
    obtain ⟨Z, hZ⟩ : ∃ Z, Pu.lastAt s.data.toList = Z := ⟨_, rfl⟩
    rw [hZ] at hb
    have hb2 : Z < s.size := hb.2
    have hb1 : -1 ≤ Z := hb.1
    have HZE := Lib.hid hZ
    have h63 : s.size ≤ 63 := by omega
    clear hb hZ hRS hlong
    go_enter Tryd.func61, Tryd.ntmps61
    go_wp2_with fail
    refine (lastIndex_any s w hs).mono ?_
    rintro e w1 ⟨rfl, rfl⟩
    rw [HZE.out]
    by_cases hneg : Z < 0
    case' pos =>
      have hpre : ∀ k, k < (Pu.lastAt s.data.toList).toNat → (s.data.toList.getD k 0).toNat < 128 := by
        intro k hk; rw [HZE.out] at hk; omega
      have hdl := decode_low (by show ¬ 63 < s.size; omega) hpre
      rw [HZE.out, show Z.toNat = 0 by omega, show (Z + 1).toNat = 0 by omega] at hdl
      have hZ1 : Z = -1 := by omega
      obtain ⟨pre, hpr⟩ : ∃ pre : List Nat, pre = [] := ⟨_, rfl⟩
      obtain ⟨X0, hX0⟩ : ∃ X0 : ByteArray, X0 = s := ⟨_, rfl⟩
      have HX0 : Hid (X0 = s) := hX0
      have HR0 : Hid (decO (decTail s.data.toList X0.data.toList pre) = RS) := by
        show decO _ = RS
        rw [← HZ.out, hdl, hX0, hpr]; rfl
      have hx0 : pre.length + X0.size ≤ 63 := by rw [hpr, hX0]; simp; omega
      have HPRE : Hid (∀ r ∈ pre, r ≤ 1114111) := by intro r hr; rw [hpr] at hr; cases hr
      have HASC : Hid ((∀ c ∈ X0.data.toList, c.toNat < 128) → ∀ c ∈ s.data.toList, c.toNat < 128) := by rw [hX0]; exact fun h => h
      have HOWN : Hid (w.ownsRow w.heap.size 21 1 (.slice none 0 0) pre.length (pre.map runeV)) := by rw [hpr]; exact World.ownsRow_nil _ _ _ _
      have HBEL : Hid (Below w.heap.size w w) := Below.refl _ _
      subst hZ1
      clear hpre hdl HZE HZ hpr hX0
      go_wp2
      refine wp_loop_rounds 1 ?_
      rw [rounds_succ]
      go_wp2
    case' neg =>
      obtain ⟨AT, hAT⟩ : ∃ AT : Nat, Z = AT := ⟨Z.toNat, by omega⟩
      subst hAT
      go_wp2
      go_loopw [4, 26] (fun out i wr => ∃ k : Nat, k ≤ AT ∧ i = .int .i64 k ∧ Hid (∀ j, j < k → (s.data.toList.getD j 0).toNat < 128) ∧ wr.ownsRow w.heap.size 21 1 out k ((s.data.toList.take k).map fun c => runeV c.toNat) ∧ Below w.heap.size w wr)
        (fun _ i _ => AT - (intOf i).toNat)
      case atStart => exact ⟨0, Nat.zero_le _, rfl, fun j hj => absurd hj (Nat.not_lt_zero _), World.ownsRow_nil _ _ _ _, Below.refl _ _⟩
      case' round =>
        obtain ⟨k, hk, rfl, HLOW, hown, hbel⟩ := hrel
        have hbs : w.heap.size ≤ wr.heap.size := hbel.size
        by_cases hlt : k < AT
        case pos =>
          have hlt2 : k < s.size := by omega
          have hbt : s.data.toList.getD k 0 = s[k] := by rw [List.getD_eq_getElem?_getD, byte_at s k hlt2]; rfl
          have h256 : (s[k].toNat : Int) < 256 := by have := s[k].toNat_lt; omega
          by_cases hhi : 128 ≤ s[k].toNat
          · have hfin : RS = ([], 3) := by
              rw [← HZ.out]
              exact decode_high (k := k) (by show ¬ 63 < s.size; omega) (by rw [HZE.out]; omega) (by rw [hbt]; exact hhi)
            have HF := Lib.hid hfin
            have h1 : (128 : Int) ≤ (s[k].toNat : Int) := by omega
            clear hfin hhi hbt hown
            go_wp2
            go_ret2
            exact ⟨_, by rw [HF.out]; rfl, by rw [HF.out]; exact World.ownsRow_nil _ _ _ _, hbel⟩
          · have h1 : ¬ (128 : Int) ≤ (s[k].toNat : Int) := by omega
            have HLOW2 : Hid (∀ j, j < k + 1 → (s.data.toList.getD j 0).toNat < 128) := by
              intro j hj
              by_cases e : j = k
              · subst e; rw [hbt]; omega
              · exact HLOW.out j (by omega)
            have hsn := take_snoc s.data.toList k 0 hlt2
            rw [hbt] at hsn
            have HSN := Lib.hid hsn
            clear hhi hbt hsn HLOW
            go_wp2_with (at_builtin; refine wpList_append_own _ rfl (.tmp 33) (.tmp 38) 115 rfl w.heap.size 21 i0 (.int .i32 0) 1 4 Tryd.underlying115 hi hz0 hz1 hz2 rfl (by decide) _ _ _ rfl (hown.alloc _) ⟨wr.heap.size, 0, none⟩ 1 1 [.int .i32 (s[k].toNat : Int)] rfl rfl (cell_one_new _ _ _) (by simp [Value.oneCell']) (by unfold maxLen; omega) (by omega) (by simp; omega) ?_; intro v' w1 hown' hgrow _)
            have hb' : Below w.heap.size w w1 := (hbel.alloc hbs _).grown hgrow (by simp; omega) (fun g hg => own_base_le hown hg)
            have hown2 : w1.ownsRow w.heap.size 21 1 v' (k + 1) ((s.data.toList.take (k + 1)).map fun c => runeV c.toNat) := by
              rw [HSN.out, List.map_append]; exact hown'
            have H2 := Lib.hid hown2
            clear hown' hown2 hgrow hown
            go_wp2
            go_roundw
            case rel => exact ⟨k + 1, by omega, by go_num, HLOW2, H2.out, hb'⟩
            case measure => simp [intOf]; omega
        have hkA : k = AT := by omega
        subst hkA
        have hdl := decode_low (by show ¬ 63 < s.size; omega) (fun j hj => HLOW.out j (by rw [HZE.out] at hj; omega))
        rw [HZE.out, show ((k : Nat) : Int).toNat = k by omega, show (((k : Nat) : Int) + 1).toNat = k + 1 by omega] at hdl
        obtain ⟨pre, hpr⟩ : ∃ pre : List Nat, pre = (s.data.toList.take k).map UInt8.toNat := ⟨_, rfl⟩
        obtain ⟨X0, hX0⟩ : ∃ X0 : ByteArray, X0 = s.extract (k + 1) s.size := ⟨_, rfl⟩
        have HX0 : Hid (X0 = s.extract (k + 1) s.size) := hX0
        have HR0 : Hid (decO (decTail s.data.toList X0.data.toList pre) = RS) := by
          show decO _ = RS
          rw [hX0, hpr, Lib.extract_data, ← HZ.out, hdl, List.take_of_length_le (by simp)]
        have hx0 : pre.length + X0.size ≤ 63 := by rw [hpr, hX0]; simp; omega
        have HPRE : Hid (∀ r ∈ pre, r ≤ 1114111) := by
          intro r hr
          rw [hpr] at hr
          obtain ⟨c, _, rfl⟩ := List.mem_map.1 hr
          have := c.toNat_lt; omega
        have HASC : Hid ((∀ c ∈ X0.data.toList, c.toNat < 128) → ∀ c ∈ s.data.toList, c.toNat < 128) := by
          rw [hX0]
          intro h c hc
          obtain ⟨j, hj, rfl⟩ := List.mem_iff_getElem.1 hc
          rcases Nat.lt_trichotomy j k with h1 | h1 | h1
          · have := HLOW.out j h1
            rw [List.getD_eq_getElem?_getD, List.getElem?_eq_getElem hj] at this; exact this
          · have := lastAt_is s.data.toList k HZE.out
            rw [List.getElem?_eq_getElem (by omega)] at this
            injection this with this
            subst h1
            rw [this]; decide
          · apply h
            rw [Lib.extract_data, List.take_of_length_le (by simp)]
            exact List.mem_iff_getElem.2 ⟨j - (k + 1), by rw [List.length_drop]; omega, by rw [List.getElem_drop]; congr 1; omega⟩
        have HOWN : Hid (wr.ownsRow w.heap.size 21 1 u4 pre.length (pre.map runeV)) := by
          show wr.ownsRow _ _ _ _ _ _
          rw [hpr, List.length_map, List.length_take, List.map_map, show min k s.data.toList.length = k by (have : s.data.toList.length = s.size := rfl); omega]
          exact hown
        have HBEL : Hid (Below w.heap.size w wr) := hbel
        clear hdl HZE HZ HLOW hown hbel hpr hX0
        go_wp2
    all_goals
      have hpl : pre.length ≤ 63 := by omega
      have hxl : X0.size ≤ 63 := by omega
      obtain ⟨DL, hDL⟩ : ∃ DL, Pu.decLoop (X0.data.toList.length + 1) X0.data.toList 128 0 72 pre = DL := ⟨_, rfl⟩
      have HDL : Hid (Pu.decLoop (X0.size + 1) X0.data.toList 128 0 72 pre = DL) := hDL
      have HRS : Hid (decO (decFin s.data.toList DL) = RS) := by
        show decO _ = RS
        rw [← HR0.out, ← hDL]; rfl
      have HAS : Hid (∀ ol, DL = some ol → ∀ c ∈ s.data.toList, c.toNat < 128) := by
        intro ol ho
        rw [← hDL] at ho
        exact HASC.out (decLoop_ascii _ _ _ _ _ _ _ ho)
      have hnone : Hid (DL = none → RS = ([], 3)) := fun h => by rw [← HRS.out, h]; rfl
      clear hDL HR0 HASC
      go_loopw [4, 7, 8, 9, 10] (fun out n i b r wx => ∃ (f nn ii bb : Nat) (ol : List Nat) (X : ByteArray), n = .int .i64 nn ∧ i = .int .i64 ii ∧ b = .int .i64 bb ∧ r = .string X ∧ wx.ownsRow w.heap.size 21 1 out ol.length (ol.map runeV) ∧ Below w.heap.size w wx ∧
          ol.length + X.size ≤ 63 ∧ ii ≤ ol.length ∧ nn ≤ 1114111 ∧ bb ≤ 324 ∧ X.size < f ∧ Hid (∀ r ∈ ol, r ≤ 1114111) ∧ Hid (Pu.decLoop f X.data.toList nn ii bb ol = DL))
        (fun _ _ _ _ r _ => strLen r)
      case atStart => exact ⟨X0.size + 1, 128, 0, 72, pre, X0, rfl, rfl, rfl, by rw [HX0.out], HOWN.out, HBEL.out, hx0, by omega, by omega, by omega, by omega, HPRE, HDL⟩
      case round =>
        clear HOWN HBEL HPRE HDL hx0 hpl hxl
        obtain ⟨f, nn, ii, bb, ol, X, rfl, rfl, rfl, rfl, hown, hbel, hlen, hii, hnn, hbb, hf, HOL, HD⟩ := hrel
        obtain ⟨wo, rfl⟩ : ∃ wo : World, wo = wr := ⟨_, rfl⟩
        have hbs : w.heap.size ≤ wo.heap.size := hbel.size
        by_cases hX : X.size = 0
        · have hXe : X.toList.isEmpty = true := by rw [empty_iff, decide_eq_true hX]
          have hXn : X.data.toList = [] := List.eq_nil_of_length_eq_zero hX
          have hdl := decLoop_end HD.out hf hXn
          have hra := runesAt_of_own hown
          have HDLE := Lib.hid hdl
          have HOWN := Lib.hid hown
          clear hdl hXn hX HD hown
          go_wp2_with fail
          refine (encode_any u4 ol wo hra (by omega) HOL.out).mono ?_
          rintro e w2 ⟨rfl, hb2⟩
          have hb3 := below_chain hbel hb2 (Nat.le_refl _)
          cases hen : Pu.encode ol with
          | none =>
            have her : encR ol = ([], 2) := by unfold encR; rw [hen]
            have hfin : RS = ([], 3) := by rw [← HRS.out, HDLE.out]; unfold decFin; simp only [hen]; rfl
            have HF := Lib.hid hfin
            rw [her]
            clear hfin her hen hra
            go_wp2_with fail
            go_ret2
            exact ⟨_, by rw [HF.out]; rfl, by rw [HF.out]; exact World.ownsRow_nil _ _ _ _, hb3⟩
          | some t =>
            have her : encR ol = (t, 0) := by unfold encR; rw [hen]
            obtain ⟨ds, hform, hdig, _⟩ := Pu.encode_form ol t hen
            have htasc : ∀ c ∈ (Lb.str t).data.toList, c.toNat < 128 := by
              intro c hc
              rw [Lb.str_toList, hform] at hc
              rcases List.mem_append.1 hc with hc | hc
              · unfold Pu.head at hc
                split at hc
                · cases hc
                · rcases List.mem_append.1 hc with hc | hc
                  · exact Pu.basic_small ol c hc
                  · simp at hc; subst hc; decide
              · have := hdig c hc; unfold Pu.IsDig at this; omega
            have htl := (Pu.encode_length ol t hen).2
            have hsasc := HAS.out ol HDLE.out
            have hfv : RS = decO (if Lib.equalFold t s.data.toList then some ol else none) := by rw [← HRS.out, HDLE.out]; unfold decFin; simp only [hen]
            obtain ⟨EF, hEF⟩ : ∃ EF, Lib.equalFold t s.data.toList = EF := ⟨_, rfl⟩
            rw [hEF] at hfv
            have HFV := Lib.hid hfv
            have HEF := Lib.hid hEF
            have HTA := Lib.hid htasc
            have HSA := Lib.hid hsasc
            rw [her]
            have hown3 : w2.ownsRow w.heap.size 21 1 u4 ol.length (ol.map runeV) := own_later HOWN.out hb2
            have HO3 := Lib.hid hown3
            clear hfv her hen hform hdig htasc hsasc hEF hra hown3
            go_wp2_with fail
            refine (equalFold_any (Lb.str t) s w2 (by rw [Lb.str_size]; omega) HTA.out HSA.out).mono ?_
            rintro e w3 ⟨rfl, rfl⟩
            rw [Lb.str_toList, HEF.out]
            cases EF
            · go_wp2_with fail
              go_ret2
              exact ⟨_, by rw [HFV.out]; rfl, by rw [HFV.out]; exact World.ownsRow_nil _ _ _ _, hb3⟩
            · go_wp2_with fail
              go_ret2
              exact ⟨_, by rw [HFV.out]; rfl, by rw [HFV.out]; exact HO3.out, hb3⟩
        · have hXe : X.toList.isEmpty = false := by rw [empty_iff, decide_eq_false hX]
          have hXn : X.data.toList ≠ [] := by intro e; apply hX; show X.data.toList.length = 0; rw [e]; rfl
          obtain ⟨PR, hPR⟩ : ∃ PR, Pu.parse X.data.toList ii 1 36 bb = PR := ⟨_, rfl⟩
          have HPR := Lib.hid hPR
          have HXN := Lib.hid hXn
          clear hPR hXn
          go_wp2_with fail
          go_loop [8, 10, 12, 13] (fun i r ww k => ∃ (x wv kk : Nat) (Y : ByteArray), i = .int .i64 x ∧ r = .string Y ∧ ww = .int .i64 wv ∧ k = .int .i64 kk ∧ x ≤ 2600000000 ∧ wv ≤ 2600000000 ∧ kk + 36 * Y.size ≤ 2340 ∧ Y.size ≤ X.size ∧ ii ≤ x ∧ Hid (Pu.parse Y.data.toList x wv kk bb = PR))
            (fun _ r _ _ => strLen r)
          case atStart => exact ⟨ii, 1, 36, X, rfl, rfl, rfl, rfl, by omega, by omega, by omega, Nat.le_refl _, Nat.le_refl _, HPR⟩
          case round =>
            clear hXe
            obtain ⟨x, wv, kk, Y, rfl, rfl, rfl, rfl, hx, hwv, hkk, hYX, hix, HP⟩ := hrel
            by_cases hY : Y.size = 0
            · have hYe : Y.toList.isEmpty = true := by rw [empty_iff, decide_eq_true hY]
              have hfin := hnone.out (decLoop_bad HD.out HXN.out (by rw [HPR.out]; exact parse_nil HP.out hY))
              have HF := Lib.hid hfin
              clear hfin hown
              go_wp2_with fail
              go_ret2
              exact ⟨_, by rw [HF.out]; rfl, by rw [HF.out]; exact World.ownsRow_nil _ _ _ _, hbel⟩
            · have hYe : Y.toList.isEmpty = false := by rw [empty_iff, decide_eq_false hY]
              have hY0 : 0 < Y.size := by omega
              have hvl := value_le Y[0]
              have hfbad := fun h => hnone.out (decLoop_bad HD.out HXN.out (by rw [HPR.out]; exact parse_bad HP.out hY0 h))
              have hstop := fun t (h1 : ¬ (Pu.value Y[0] = 36 ∨ Pu.M < x ∨ Pu.M < wv)) (h2 : Pu.threshold kk bb = t) h3 => parse_stop HP.out hY0 h1 h2 h3
              have hon := fun t (h1 : ¬ (Pu.value Y[0] = 36 ∨ Pu.M < x ∨ Pu.M < wv)) (h2 : Pu.threshold kk bb = t) h3 => parse_on HP.out hY0 h1 h2 h3
              have HB := Lib.hid hfbad
              have HS := Lib.hid hstop
              have HO := Lib.hid hon
              clear hfbad hstop hon hY
              go_wp2_with fail
              refine (value_any Y[0] wo).mono ?_
              rintro e w2 ⟨rfl, rfl⟩
              obtain ⟨d, hd⟩ : ∃ d, Pu.value Y[0] = d := ⟨_, rfl⟩
              rw [hd] at hvl HB HS HO ⊢
              have hM : Pu.M = 71303104 := rfl
              rw [hM] at HB HS HO
              clear hd hM
              have hYx : (Y.extract 1 Y.size).size = Y.size - 1 := by simp
              have HYX := Lib.hid hYx
              clear hYx
              have hYp : Y.size = (Y.extract 1 Y.size).size + 1 := by rw [HYX.out]; omega
              have HYP := Lib.hid hYp
              clear hYp
              by_cases hbad : d = 36 ∨ 71303104 < x ∨ 71303104 < wv
              · have HF := Lib.hid (HB.out hbad)
                rcases (show ((d : Int) == 36) = true ∨ (((d : Int) == 36) = false ∧ (71303104 : Int) < (x : Int)) ∨ (((d : Int) == 36) = false ∧ ¬ (71303104 : Int) < (x : Int) ∧ (71303104 : Int) < (wv : Int)) by
                  by_cases h1 : d = 36
                  · left; simp [h1]
                  · right
                    have h2 : ((d : Int) == 36) = false := by simp; omega
                    by_cases h3 : 71303104 < x
                    · exact .inl ⟨h2, by omega⟩
                    · exact .inr ⟨h2, by omega, by omega⟩) with h1 | ⟨h1, h2⟩ | ⟨h1, h2, h3⟩
                all_goals
                  clear hbad hown
                  go_wp2_with fail
                  go_ret2
                  exact ⟨_, by rw [HF.out]; rfl, by rw [HF.out]; exact World.ownsRow_nil _ _ _ _, hbel⟩
              · have h1 : ((d : Int) == 36) = false := by simp; omega
                have h2 : ¬ (71303104 : Int) < (x : Int) := by omega
                have h3 : ¬ (71303104 : Int) < (wv : Int) := by omega
                have hxM : x ≤ 71303104 := by omega
                have hwM : wv ≤ 71303104 := by omega
                have hd35 : d ≤ 35 := by omega
                have hdw : d * wv ≤ 35 * 71303104 := Nat.mul_le_mul hd35 hwM
                obtain ⟨x2, hx2⟩ : ∃ x2, x + d * wv = x2 := ⟨_, rfl⟩
                have hx2i : (x : Int) + (d : Int) * (wv : Int) = (x2 : Int) := by rw [← hx2, Int.natCast_add, Int.natCast_mul]
                have hx2b : x2 ≤ 2600000000 := by omega
                have hp0 : 0 ≤ (d : Int) * (wv : Int) := Int.mul_nonneg (by omega) (by omega)
                have hp1 : (d : Int) * (wv : Int) ≤ 2495608640 := by rw [← Int.natCast_mul]; omega
                have hS2 := fun t h4 h5 => HS.out t hbad h4 h5
                have hO2 := fun t h4 h5 => HO.out t hbad h4 h5
                rw [hx2] at hS2 hO2
                have HS2 := Lib.hid hS2
                have HO2 := Lib.hid hO2
                have HX2 := Lib.hid hx2i
                have hge2 : x ≤ x2 := by omega
                clear hS2 hO2 hx2i hx2 hbad HB HS HO hdw
                go_wp2_with fail
                refine (threshold_any (kk : Int) (bb : Int) wo (by omega) (by omega) (by omega) (by omega)).mono ?_
                rintro e w2 ⟨rfl, rfl⟩
                simp only [Int.toNat_natCast]
                have htb := Pu.threshold_bd kk bb
                obtain ⟨t, ht⟩ : ∃ t, Pu.threshold kk bb = t := ⟨_, rfl⟩
                rw [ht] at htb ⊢
                have HT := Lib.hid ht
                clear ht
                by_cases hdt : d < t
                · have hdt' : (d : Int) < (t : Int) := by omega
                  have hpr := HS2.out t HT.out hdt
                  rw [← HPR.out] at hpr
                  have HPRS := Lib.hid hpr
                  obtain ⟨A4, c4, hv4⟩ := own_len hown
                  subst hv4
                  clear hpr hdt HS2 HO2
                  obtain ⟨L, hL⟩ : ∃ L, ol.length = L := ⟨_, rfl⟩
                  have HL := Lib.hid hL
                  rw [hL] at hown hlen hii ⊢
                  obtain ⟨Q, hQ⟩ : ∃ Q, x2 / (L + 1) = Q := ⟨_, rfl⟩
                  obtain ⟨R, hR⟩ : ∃ R, x2 % (L + 1) = R := ⟨_, rfl⟩
                  have hQi : (x2 : Int) / ((L : Int) + 1) = (Q : Int) := by rw [← hQ, Int.natCast_ediv, Int.natCast_add]; rfl
                  have hRi : (x2 : Int) % ((L : Int) + 1) = (R : Int) := by rw [← hR, Int.natCast_emod, Int.natCast_add]; rfl
                  have hQx : Q ≤ x2 := by rw [← hQ]; exact Nat.div_le_self _ _
                  have hRL : R ≤ L := by have := Nat.mod_lt x2 (show 0 < L + 1 by omega); omega
                  have hQ0 : 0 ≤ (x2 : Int) / ((L : Int) + 1) := by rw [hQi]; omega
                  have hQ1 : (x2 : Int) / ((L : Int) + 1) ≤ 2600000000 := by rw [hQi]; omega
                  have hR0 : 0 ≤ (x2 : Int) % ((L : Int) + 1) := by rw [hRi]; omega
                  have hR1 : (x2 : Int) % ((L : Int) + 1) ≤ (L : Int) := by rw [hRi]; omega
                  have HQ := Lib.hid hQ
                  have HR := Lib.hid hR
                  have HQI := Lib.hid hQi
                  have HRI := Lib.hid hRi
                  obtain ⟨pb, hpb⟩ : ∃ pb, ((ii : Int) == 0) = pb := ⟨_, rfl⟩
                  have hpn : (ii == 0) = pb := by rw [← hpb, Bool.eq_iff_iff]; simp only [beq_iff_eq]; omega
                  have HPB := Lib.hid hpb
                  have HPN := Lib.hid hpn
                  have had := adapt_small (x2 - ii) (L + 1) pb (by omega)
                  clear hL hQ hR hQi hRi hpb hpn
                  go_wp2_with fail
                  rw [HPB.out, HX2.out]
                  refine (adapt_any ((x2 : Int) - (ii : Int)) ((L : Int) + 1) pb wo (by omega) (by omega) (by omega) (by omega)).mono ?_
                  rintro e w3 ⟨rfl, rfl⟩
                  rw [show ((L : Int) + 1).toNat = L + 1 by omega, show ((x2 : Int) - (ii : Int)).toNat = x2 - ii by omega]
                  obtain ⟨AD, hAD⟩ : ∃ AD, Pu.adapt (x2 - ii) (L + 1) pb = AD := ⟨_, rfl⟩
                  rw [hAD] at had ⊢
                  have HAD := Lib.hid hAD
                  clear hAD
                  by_cases hout : 1114111 < nn + Q ∨ (55296 ≤ nn + Q ∧ nn + Q ≤ 57343)
                  · have hfin := hnone.out (decLoop_out HD.out HXN.out HPRS.out (by rw [HL.out, HQ.out]; exact hout))
                    have HF := Lib.hid hfin
                    rcases (show (1114111 : Int) < (nn : Int) + (x2 : Int) / ((L : Int) + 1) ∨ (¬ (1114111 : Int) < (nn : Int) + (x2 : Int) / ((L : Int) + 1) ∧ (55296 : Int) ≤ (nn : Int) + (x2 : Int) / ((L : Int) + 1) ∧ (nn : Int) + (x2 : Int) / ((L : Int) + 1) ≤ 57343) by
                      rw [HQI.out]; omega) with h4 | ⟨h4, h5, h6⟩
                    all_goals
                      clear hfin hout hown
                      go_wp2_with fail
                      go_ret2
                      exact ⟨_, by rw [HF.out]; rfl, by rw [HF.out]; exact World.ownsRow_nil _ _ _ _, hbel⟩
                  · obtain ⟨g, hg, hdn⟩ := decLoop_on HD.out hf HXN.out HPRS.out (by rw [HL.out, HQ.out]; exact hout)
                    rw [HL.out, HQ.out, HR.out, HPN.out, HAD.out] at hdn
                    have HDN := Lib.hid hdn
                    have hN1 : nn + Q ≤ 1114111 := by omega
                    rcases (show (¬ (1114111 : Int) < (nn : Int) + (x2 : Int) / ((L : Int) + 1) ∧ ¬ (55296 : Int) ≤ (nn : Int) + (x2 : Int) / ((L : Int) + 1)) ∨ (¬ (1114111 : Int) < (nn : Int) + (x2 : Int) / ((L : Int) + 1) ∧ (55296 : Int) ≤ (nn : Int) + (x2 : Int) / ((L : Int) + 1) ∧ ¬ (nn : Int) + (x2 : Int) / ((L : Int) + 1) ≤ 57343) by
                      rw [HQI.out]; omega) with ⟨h4, h5⟩ | ⟨h4, h5, h6⟩
                    all_goals
                      clear hdn hout
                      dsimp only
                      iterate 200 (first | go_values | go_skip | go_guarded | go_step | go_upon | go_back | skip)
                      rw [HRI.out, HQI.out]
                      have hcap := own_cap hown
                      have hRc : R ≤ c4 := by omega
                      have hcut := cut_head hown
                      have hcell1 : ∀ u ∈ ol.map runeV, u.oneCell' = true := by intro u hu; obtain ⟨r, _, rfl⟩ := List.mem_map.1 hu; rfl
                      have hwr : IntKind.i32.wrap ((nn : Int) + (Q : Int)) = (nn : Int) + (Q : Int) := IntWalk.i32_in _ (by omega)
                      let vals : Value × Value × Value → Nat → Value := fun x i => cond (i == 5) x.1 (cond (i == 9) x.2.1 (cond (i == 10) x.2.2 (cond (i == 11) x.2.2 ([.slice A4 L c4, .int .i64 (R : Int), .slice A4 R c4, .int .i64 ((nn : Int) + (Q : Int)), .int .i32 ((nn : Int) + (Q : Int)), undef, .slice A4 L c4, .int .i64 (R : Int), .slice (if c4 = R then A4 else A4.map (·.add R)) (L - R) (c4 - R)].getD i undef))))
                      refine wp_region_inv (by kernel_rfl) vals (fun x listed wx => InsMem w.heap.size w 21 (.slice A4 L c4) L R (ol.map runeV) (.int .i32 ((nn : Int) + (Q : Int))) x listed wx ∧ LastOf 11 listed) (undef, undef, undef) (by kernel_rfl) (by kernel_rfl) (by kernel_rfl) ?_ ?_ ?_
                      · exact ⟨insMem_start hbel hbs hown _ _, LastOf.start _ _⟩
                      · refine ⟨?_, ?_, ?_, ?_, ?_, ?_, ?_, ?_, ?_, ?_, ?_, ?_, trivial⟩
                        · intro x listed a wx K hI hM hix hl hdep hK
                          have s4 : a.tmps[4]?.getD undef = (.slice A4 L c4) := hI.oldBut 11 (by kernel_rfl) (hM.2.not (show 0 < 11 by decide) hl)
                          refine wpOp_step rfl (fun K' hK' => ?_)
                          go_simp
                          exact hK' _ _ (hK x wx (fun _ _ => rfl) ⟨insMem_other (by decide) hM.1 hix, hM.2.step hix (by decide)⟩)
                        · intro x listed a wx K hI hM hix hl hdep hK
                          have s8 : a.tmps[8]?.getD undef = (.int .i64 (R : Int)) := hI.oldBut 11 (by kernel_rfl) (hM.2.not (show 1 < 11 by decide) hl)
                          refine wpOp_step rfl (fun K' hK' => ?_)
                          go_simp
                          exact hK' _ _ (hK x wx (fun _ _ => rfl) ⟨insMem_other (by decide) hM.1 hix, hM.2.step hix (by decide)⟩)
                        · intro x listed a wx K hI hM hix hl hdep hK
                          have d0 := hdep ⟨0, .data⟩ (by simp) rfl
                          have s110 : a.tmps[110]?.getD undef = (.slice A4 L c4) := hI.slot (i := 0) rfl d0 rfl
                          have d1 := hdep ⟨1, .data⟩ (by simp) rfl
                          have s111 : a.tmps[111]?.getD undef = (.int .i64 (R : Int)) := hI.slot (i := 1) rfl d1 rfl
                          refine wpOp_step rfl (fun K' hK' => ?_)
                          go_simp
                          exact hK' _ _ (hK x wx (fun _ _ => rfl) ⟨insMem_other (by decide) hM.1 hix, hM.2.step hix (by decide)⟩)
                        · intro x listed a wx K hI hM hix hl hdep hK
                          have s7 : a.tmps[7]?.getD undef = (.int .i64 ((nn : Int) + (Q : Int))) := hI.oldBut 11 (by kernel_rfl) (hM.2.not (show 3 < 11 by decide) hl)
                          refine wpOp_step rfl (fun K' hK' => ?_)
                          go_simp
                          exact hK' _ _ (hK x wx (fun _ _ => rfl) ⟨insMem_other (by decide) hM.1 hix, hM.2.step hix (by decide)⟩)
                        · intro x listed a wx K hI hM hix hl hdep hK
                          have d3 := hdep ⟨3, .data⟩ (by simp) rfl
                          have s113 : a.tmps[113]?.getD undef = (.int .i64 ((nn : Int) + (Q : Int))) := hI.slot (i := 3) rfl d3 rfl
                          refine wpOp_step rfl (fun K' hK' => ?_)
                          go_simp
                          exact hK' _ _ (hK x wx (fun _ _ => rfl) ⟨insMem_other (by decide) hM.1 hix, hM.2.step hix (by decide)⟩)
                        · intro x listed a wx K hI hM hix hl hdep hK
                          have d4 := hdep ⟨4, .data⟩ (by simp) rfl
                          have s114 : a.tmps[114]?.getD undef = (.int .i32 ((nn : Int) + (Q : Int))) := hI.slot (i := 4) rfl d4 rfl
                          refine wpOp_step rfl (fun K' hK' => ?_)
                          go_simp
                          exact hK' _ _ (hK (.slice (some ⟨wx.heap.size, 0, none⟩) 1 1, x.2) _ (fun j hj => by
                            have n5 : (j == 5) = false := by simpa using (show j ≠ 5 by rintro rfl; rw [hl] at hj; cases hj)
                            show cond (j == 5) _ _ = cond (j == 5) _ _
                            rw [n5]; rfl) ⟨insMem_5 hM.1 hix hl, hM.2.step hix (by decide)⟩)
                        · intro x listed a wx K hI hM hix hl hdep hK
                          have s4 : a.tmps[4]?.getD undef = (.slice A4 L c4) := hI.oldBut 11 (by kernel_rfl) (hM.2.not (show 6 < 11 by decide) hl)
                          refine wpOp_step rfl (fun K' hK' => ?_)
                          go_simp
                          exact hK' _ _ (hK x wx (fun _ _ => rfl) ⟨insMem_other (by decide) hM.1 hix, hM.2.step hix (by decide)⟩)
                        · intro x listed a wx K hI hM hix hl hdep hK
                          have s8 : a.tmps[8]?.getD undef = (.int .i64 (R : Int)) := hI.oldBut 11 (by kernel_rfl) (hM.2.not (show 7 < 11 by decide) hl)
                          refine wpOp_step rfl (fun K' hK' => ?_)
                          go_simp
                          exact hK' _ _ (hK x wx (fun _ _ => rfl) ⟨insMem_other (by decide) hM.1 hix, hM.2.step hix (by decide)⟩)
                        · intro x listed a wx K hI hM hix hl hdep hK
                          have d6 := hdep ⟨6, .data⟩ (by simp) rfl
                          have s116 : a.tmps[116]?.getD undef = (.slice A4 L c4) := hI.slot (i := 6) rfl d6 rfl
                          have d7 := hdep ⟨7, .data⟩ (by simp) rfl
                          have s117 : a.tmps[117]?.getD undef = (.int .i64 (R : Int)) := hI.slot (i := 7) rfl d7 rfl
                          refine wpOp_step rfl (fun K' hK' => ?_)
                          go_simp
                          exact hK' _ _ (hK x wx (fun _ _ => rfl) ⟨insMem_other (by decide) hM.1 hix, hM.2.step hix (by decide)⟩)
                        · intro x listed a wx K hI hM hix hl hdep hK
                          have d5 := hdep ⟨5, .data⟩ (by simp) rfl
                          have s115 : a.tmps[115]?.getD undef = (x.1) := hI.slot (i := 5) rfl d5 rfl
                          have d8 := hdep ⟨8, .data⟩ (by simp) rfl
                          have s118 : a.tmps[118]?.getD undef = (.slice (if c4 = R then A4 else A4.map (·.add R)) (L - R) (c4 - R)) := hI.slot (i := 8) rfl d8 rfl
                          obtain ⟨v', w', hr, hI'⟩ := insMem_9 (P := Tryd.prog) 115 115 21 i0 (.int .i32 0) 4 rfl hi hz0 hz1 hz2 rfl hM.1 hix hl d5 hRL rfl hcell1 (by omega) (by decide)
                          refine step_append rfl rfl rfl (by rw [s115, s118]; exact hr) ?_
                          exact (hK (x.1, v', x.2.2) w' (fun j hj => by
                            have n9 : (j == 9) = false := by simpa using (show j ≠ 9 by rintro rfl; rw [hl] at hj; cases hj)
                            show cond (j == 5) _ (cond (j == 9) _ _) = cond (j == 5) _ (cond (j == 9) _ _)
                            rw [n9]; rfl) ⟨hI', hM.2.step hix (by decide)⟩)
                        · intro x listed a wx K hI hM hix hl hdep hK
                          have d2 := hdep ⟨2, .data⟩ (by simp) rfl
                          have s112 : a.tmps[112]?.getD undef = (.slice A4 R c4) := hI.slot (i := 2) rfl d2 rfl
                          have d9 := hdep ⟨9, .data⟩ (by simp) rfl
                          have s119 : a.tmps[119]?.getD undef = (x.2.1) := hI.slot (i := 9) rfl d9 rfl
                          obtain ⟨v', w', hr, hI'⟩ := insMem_10 (P := Tryd.prog) 115 115 21 i0 (.int .i32 0) 4 rfl hi hz0 hz1 hz2 rfl hM.1 hix hl d9 hRL rfl hcell1 (by omega) (by decide)
                          refine step_append rfl rfl rfl (by rw [s112, s119]; exact hr) ?_
                          exact (hK (x.1, x.2.1, v') w' (fun j hj => by
                            have n10 : (j == 10) = false := by simpa using (show j ≠ 10 by rintro rfl; rw [hl] at hj; cases hj)
                            have n11 : (j == 11) = false := by simpa using (show j ≠ 11 by rintro rfl; rw [hM.2.not (show 10 < 11 by decide) hl] at hj; cases hj)
                            show cond (j == 5) _ (cond (j == 9) _ (cond (j == 10) _ (cond (j == 11) _ _))) = cond (j == 5) _ (cond (j == 9) _ (cond (j == 10) _ (cond (j == 11) _ _)))
                            rw [n10, n11]; rfl) ⟨hI', hM.2.step hix (by decide)⟩)
                        · intro x listed a wx K hI hM hix hl hdep hK
                          have d10 := hdep ⟨10, .data⟩ (by simp) rfl
                          have s120 : a.tmps[120]?.getD undef = (x.2.2) := hI.slot (i := 10) rfl d10 rfl
                          refine wpOp_step rfl (fun K' hK' => ?_)
                          go_simp
                          exact hK' _ _ (hK x wx (fun _ _ => rfl) ⟨insMem_other (by decide) hM.1 hix, LastOf.last (by intro j hj; exact hdep ⟨j, .phase⟩ (by have : j = 0 ∨ j = 1 ∨ j = 2 ∨ j = 3 ∨ j = 4 ∨ j = 5 ∨ j = 6 ∨ j = 7 ∨ j = 8 ∨ j = 9 ∨ j = 10 := (by omega); rcases this with h | h | h | h | h | h | h | h | h | h | h <;> subst h <;> simp) rfl) hix⟩)
                      · intro x a wx listed hI hall hM
                        have ha := hI.frame hall (by kernel_rfl) (by kernel_rfl)
                        obtain ⟨hb5, ho5⟩ := insMem_end hM.1 (hall 10 (by decide))
                        clear hI hall hM
                        subst ha
                        simp only [putAll, Act.put, List.setIfInBounds_toArray, List.set_cons_zero, List.set_cons_succ]
                        have hv4 : vals x (0 + 1 + 1 + 1 + 1 + 1 + 1 + 1 + 1 + 1 + 1 + 1) = x.2.2 := rfl
                        rw [hv4]
                        obtain ⟨nl, hnl⟩ : ∃ nl, ol.take R ++ (nn + Q) :: ol.drop R = nl := ⟨_, rfl⟩
                        have hnll : nl.length = L + 1 := by
                          have := HL.out
                          rw [← hnl, List.length_append, List.length_take, List.length_cons, List.length_drop]; omega
                        have hnew : wx.ownsRow w.heap.size 21 1 x.2.2 nl.length (nl.map runeV) := by
                          rw [hnll, ← hnl, List.map_append, List.map_cons, List.map_take, List.map_drop, show runeV (nn + Q) = .int .i32 ((nn : Int) + (Q : Int)) by unfold runeV; rw [Int.natCast_add], show L + 1 = R + (1 + (L - R)) by omega]
                          exact ho5
                        have HOL2 : Hid (∀ r ∈ nl, r ≤ 1114111) := by
                          intro r hr
                          rw [← hnl] at hr
                          rcases List.mem_append.1 hr with hr | hr
                          · exact HOL.out r (List.mem_of_mem_take hr)
                          · rcases List.mem_cons.1 hr with rfl | hr
                            · exact hN1
                            · exact HOL.out r (List.mem_of_mem_drop hr)
                        have hg2 : (Y.extract 1 Y.size).size < g := hg
                        have HDN2 : Hid (Pu.decLoop g (Y.extract 1 Y.size).data.toList (nn + Q) (R + 1) AD nl = DL) := by
                          show Pu.decLoop _ _ _ _ _ _ = _
                          rw [← hnl]; exact HDN.out
                        generalize x.2.2 = V at hnew ⊢
                        have HNEW := Lib.hid hnew
                        clear ho5 hnew hnl hv4 hg HDN hcut hcell1 hcap hown
                        go_wp2
                        go_roundw
                        case rel => exact ⟨g, nn + Q, R + 1, AD, nl, Y.extract 1 Y.size, by go_num, by go_num, rfl, rfl, HNEW.out, hb5, by rw [hnll, HYX.out]; omega, by omega, hN1, had, hg2, HOL2, HDN2⟩
                        case measure =>
                          show (Y.extract 1 Y.size).size < X.size
                          have := HYX.out; omega
                · have hdt' : ¬ (d : Int) < (t : Int) := by omega
                  have HPN := Lib.hid (HO2.out t HT.out hdt)
                  have hwt : wv * (36 - t) ≤ 71303104 * 35 := Nat.mul_le_mul hwM (by omega)
                  have hwi : (wv : Int) * (36 - (t : Int)) = ((wv * (36 - t) : Nat) : Int) := by
                    rw [Int.natCast_mul]; congr 1; omega
                  have hw0 : 0 ≤ (wv : Int) * (36 - (t : Int)) := by rw [hwi]; omega
                  have hw1 : (wv : Int) * (36 - (t : Int)) ≤ 2495608640 := by rw [hwi]; omega
                  have HWI := Lib.hid hwi
                  have hwb : wv * (36 - t) ≤ 2600000000 := by omega
                  clear hwi hdt HS2 HO2 hwt
                  go_wp2_with fail
                  go_round
                  case rel => exact ⟨x2, wv * (36 - t), kk + 36, Y.extract 1 Y.size, by rw [HX2.out], rfl, by rw [HWI.out], by go_num, hx2b, hwb, by have := HYX.out; omega, by have := HYX.out; omega, by omega, HPN⟩
                  case measure =>
                    show (Y.extract 1 Y.size).size < Y.size
                    have := HYP.out; omega
end Go.Proofs.YtffjfggndfcfmaaDoor
