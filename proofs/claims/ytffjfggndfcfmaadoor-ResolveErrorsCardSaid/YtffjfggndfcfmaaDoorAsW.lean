/- The walk of name.ascii. -/
import Derived.Test.YtffjfggndfcfmaaDoorAuW
namespace Go.Proofs.YtffjfggndfcfmaaDoor
open Go.RowKit

theorem Tabs.below {w w' : World} (h : Tabs w) {B : Nat} (hb : Below B w w') (hB : w.heap.size ≤ B) : Tabs w' := Utf8Tabs_below h (hb.mono hB)
/-- A row of the call's own stays while a string's iterator moves on. -/
theorem own_iterAt {w : World} {B e n : Nat} {v : Value} {xs : List Value} (h : w.ownsRow B e 1 v n xs) {k : Nat} {s : ByteArray} {pos : Nat} (hk : w.heap[k]? = some (.stringIter s pos)) (pos' : Nat) : (w.iterAt k s pos').ownsRow B e 1 v n xs := by
  refine ⟨h.1, ?_⟩
  rcases h.2 with hn | ⟨g, cap, cur, rfl, hb, hg, rest⟩
  · exact .inl hn
  · refine .inr ⟨g, cap, cur, rfl, hb, ?_, rest⟩
    rw [Lib.iterAt_other w k g s pos' (by rintro rfl; rw [hk] at hg; cases hg)]
    exact hg
theorem own_not_iter {w : World} {B e n : Nat} {v : Value} {xs : List Value} (h : w.ownsRow B e 1 v n xs) {k : Nat} {s : ByteArray} {pos : Nat} (hk : w.heap[k]? = some (.stringIter s pos)) : some k ≠ v.ownBlock := by
  rcases h.2 with ⟨rfl, _⟩ | ⟨g, cap, cur, rfl, hb, hg, rest⟩
  · simp [Value.ownBlock]
  · intro e
    have : k = g := by simpa [Value.ownBlock] using e
    subst this
    rw [hk] at hg; cases hg
theorem iterPos_of {w : World} {k : Nat} {s : ByteArray} {pos : Nat} (hk : w.heap[k]? = some (.stringIter s pos)) : w.iterPos k = pos := by unfold World.iterPos; rw [hk]

set_option maxRecDepth 20000 in
set_option maxHeartbeats 4000000 in
theorem asc_any (s : ByteArray) (w : World) (hs : s.size ≤ 2000) (hT : Tabs w) :
    Calls Tryd.prog 29 #[.string s] w fun e w' => e = .returned (.tuple #[Lb.strV (Nm.asc s.data.toList).1, .int .i64 ((Nm.asc s.data.toList).2 : Nat)]) ∧ Below w.heap.size w w' := by
  obtain ⟨RS, hRS⟩ : ∃ RS, Nm.asc s.data.toList = RS := ⟨_, rfl⟩
  rw [hRS]
  obtain ⟨i0, hi, hz0, hz1, hz2⟩ := info_parts rune_info
  go_enter Tryd.func29, Tryd.ntmps29
  go_wp2_with fail
  refine (lower_any s w (by omega)).mono ?_
  rintro e w1 ⟨rfl, hb1⟩
  obtain ⟨T, hT2⟩ : ∃ T, Lb.lower s.data.toList = T := ⟨_, rfl⟩
  have hTl : T.length ≤ 2000 := by rw [← hT2]; unfold Lb.lower; rw [List.length_map]; exact hs
  have hRS2 : Nm.ascLow T = RS := by rw [← hRS, ← hT2]; rfl
  rw [hT2]
  obtain ⟨X, hX⟩ : ∃ X, Lb.str T = X := ⟨_, rfl⟩
  have hXT : X.data.toList = T := by rw [← hX]; rfl
  have hXs : X.size ≤ 2000 := by rw [← hX]; exact hTl
  rw [show Lb.strV T = .string X by rw [← hX]; rfl]
  have HX := Lib.hid hX
  have HXT := Lib.hid hXT
  have HRS := Lib.hid hRS2
  have HT1 := Lib.hid (hT.below hb1 (Nat.le_refl _))
  clear hRS hRS2 hT2 hX hXT hT hTl
  go_wp2_with fail
  refine (plain_any X w1 (by omega)).mono ?_
  rintro e w2 ⟨rfl, rfl⟩
  obtain ⟨PL, hPL⟩ : ∃ PL, Nm.plain T = PL := ⟨_, rfl⟩
  rw [HXT.out, hPL]
  have HPL := Lib.hid hPL
  clear hPL
  cases PL with
  | true =>
    go_wp2_with fail
    refine (right_any X w1 (by omega)).mono ?_
    rintro e w2 ⟨rfl, rfl⟩
    obtain ⟨RT, hRT⟩ : ∃ RT, Nm.right T = RT := ⟨_, rfl⟩
    rw [HXT.out, hRT]
    have HRT := Lib.hid hRT
    clear hRT
    cases RT with
    | false =>
      have HF := Lib.hid (show RS = ([], 1) by rw [← HRS.out]; unfold Nm.ascLow; rw [HPL.out, HRT.out]; rfl)
      go_wp2_with fail
      go_ret2
      exact ⟨by rw [HF.out]; rfl, hb1⟩
    | true =>
      go_wp2_with fail
      refine (hasPrefix_any X ⟨#[120, 110, 45, 45]⟩ w1).mono ?_
      rintro e w2 ⟨rfl, rfl⟩
      obtain ⟨HP, hHP⟩ : ∃ HP, Lib.hasPrefix T Nm.xn = HP := ⟨_, rfl⟩
      rw [HXT.out, show (⟨#[120, 110, 45, 45]⟩ : ByteArray).data.toList = Nm.xn from rfl, hHP]
      have HHP := Lib.hid hHP
      clear hHP
      cases HP with
      | false =>
        have HF := Lib.hid (show RS = (T, 0) by rw [← HRS.out]; unfold Nm.ascLow; rw [HPL.out, HRT.out, HHP.out]; rfl)
        go_wp2_with fail
        go_ret2
        exact ⟨by rw [HF.out]; show _ = Ending.returned (.tuple #[.string (Lb.str T), _]); rw [HX.out]; rfl, hb1⟩
      | true =>
        have HF := Lib.hid (show RS = (T, (Nm.uni T).2) by rw [← HRS.out]; unfold Nm.ascLow; rw [HPL.out, HRT.out, HHP.out]; rfl)
        go_wp2_with fail
        refine (uni_any X w1 (by omega)).mono ?_
        rintro e w2 ⟨rfl, hb2⟩
        rw [HXT.out]
        have hb3 := below_chain hb1 hb2 (Nat.le_refl _)
        obtain ⟨ue, hue⟩ : ∃ ue, (Nm.uni T).2 = ue := ⟨_, rfl⟩
        rw [hue] at HF ⊢
        go_wp2_with fail
        go_ret2
        exact ⟨by rw [HF.out]; show _ = Ending.returned (.tuple #[.string (Lb.str T), _]); rw [HX.out]; rfl, hb3⟩
  | false =>
    go_wp2_with fail
    refine (valid_any X w1 (by omega) HT1.out).mono ?_
    rintro e w2 ⟨rfl, hb2⟩
    have hb3 := below_chain hb1 hb2 (Nat.le_refl _)
    obtain ⟨VD, hVD⟩ : ∃ VD, Lib.validD T = VD := ⟨_, rfl⟩
    rw [HXT.out, hVD]
    have HVD := Lib.hid hVD
    clear hVD
    cases VD with
    | false =>
      have HF := Lib.hid (show RS = ([], 1) by rw [← HRS.out]; unfold Nm.ascLow; rw [HPL.out, HVD.out]; rfl)
      go_wp2_with fail
      go_ret2
      exact ⟨by rw [HF.out]; rfl, hb3⟩
    | true =>
      have HL0 : Hid (Nm.ascLoop [] (Nm.runesF X (X.size + 1) 0) = RS) := by
        show Nm.ascLoop _ _ = _
        rw [← HRS.out]; unfold Nm.ascLow; rw [HPL.out, HVD.out, HX.out, ← HXT.out]; rfl
      have hX0 : 0 < X.size := by
        rcases Nat.eq_zero_or_pos X.size with e | e
        · have : T = [] := by rw [← HXT.out]; exact List.eq_nil_of_length_eq_zero e
          have := HPL.out
          rw [‹T = []›] at this; cases this
        · exact e
      have hb4 : Below w.heap.size w (w2.iter X 0) := hb3.alloc hb3.size _
      have hit : (w2.iter X 0).heap[w2.heap.size]? = some (.stringIter X 0) := World.iter_heap _ _ _
      have hbs : w.heap.size ≤ w2.heap.size := hb3.size
      have HB4 := Lib.hid hb4
      have HIT := Lib.hid hit
      clear hb4 hit
      go_wp2_with fail
      obtain ⟨kb, hkb⟩ : ∃ kb, w2.heap.size = kb := ⟨_, rfl⟩
      obtain ⟨wi, hwi⟩ : ∃ wi, w2.iter X 0 = wi := ⟨_, rfl⟩
      rw [hkb, hwi]
      rw [hkb, hwi] at HIT
      rw [hwi] at HB4
      rw [hkb] at hbs
      clear hkb hwi hb1 hb2 hb3
      go_loopw [6] (fun out wx => ∃ (f pos : Nat) (l : List Nat), wx.heap[kb]? = some (.stringIter X pos) ∧ wx.ownsRow w.heap.size 21 1 out l.length (l.map runeV) ∧ Below w.heap.size w wx ∧ l.length + (X.size - pos) ≤ X.size ∧ X.size - pos < f ∧ (l.length = 0 → pos = 0) ∧
          Hid (∀ r ∈ l, r ≤ 1114111) ∧ Hid (Nm.ascLoop l (Nm.runesF X f pos) = RS))
        (fun _ wx => X.size - wx.iterPos kb)
      case atStart => exact ⟨X.size + 1, 0, [], HIT.out, World.ownsRow_nil _ _ _ _, HB4.out, by simp, by omega, fun _ => rfl, (fun r hr => by cases hr), HL0⟩
      case round =>
        clear HL0 HB4 HIT
        obtain ⟨f, pos, l, hit, hown, hbel, hlen, hf, hl0, HOL, HLP⟩ := hrel
        have hbw : w.heap.size ≤ wr.heap.size := hbel.size
        by_cases hpos : pos < X.size
        · have hnext := fun ty => Lib.run_next_any_at (P := Tryd.prog) wr kb X pos ty hit hpos
          obtain ⟨g, hg, hrf⟩ := Nm.runesF_on hf hpos
          have hd1 := Nm.decode_pos X pos hpos
          have hown1 := own_iterAt hown hit (pos + (Utf8.decode X pos).2)
          have hit1 := Lib.iterAt_heap wr kb X pos (pos + (Utf8.decode X pos).2) hit
          have hbel1 := Lib.below_iterAt hbel hbs X (pos + (Utf8.decode X pos).2)
          obtain ⟨r, hr⟩ : ∃ r, (Utf8.decode X pos).1 = r := ⟨_, rfl⟩
          obtain ⟨d, hd⟩ : ∃ d, (Utf8.decode X pos).2 = d := ⟨_, rfl⟩
          rw [hr, hd] at hnext hrf
          rw [hd] at hg hd1 hown1 hit1 hbel1
          obtain ⟨wj, hwj⟩ : ∃ wj, wr.iterAt kb X (pos + d) = wj := ⟨_, rfl⟩
          rw [hwj] at hnext hown1 hit1 hbel1
          have hmu : wr.iterPos kb = pos := iterPos_of hit
          have HMU := Lib.hid hmu
          have HLP2 : Hid (Nm.ascLoop l (r :: Nm.runesF X g (pos + d)) = RS) := by show _ = _; rw [← hrf]; exact HLP.out
          have HOWN1 := Lib.hid hown1
          have HIT1 := Lib.hid hit1
          have HBEL1 := Lib.hid hbel1
          clear hrf hr hd hwj hmu HLP hown hit hbel hown1 hit1 hbel1 hf
          have hbad : Nm.okRune r = false → RS = ([], 1) := fun h => by rw [← HLP2.out]; exact Nm.ascLoop_bad h
          have hon : Nm.okRune r = true → Nm.ascLoop (l ++ [r]) (Nm.runesF X g (pos + d)) = RS := fun h => by rw [← HLP2.out]; exact (Nm.ascLoop_on h).symm
          have hle : Nm.okRune r = true → r ≤ 1114111 := fun h => by have := Nm.ok_le h; omega
          have HBAD := Lib.hid hbad
          have HON := Lib.hid hon
          have HLE0 := Lib.hid hle
          clear hbad hon hle HLP2
          by_cases h128 : 128 ≤ r
          · have h1 : (128 : Int) ≤ (r : Int) := by omega
            rw [Nm.ok_high h128] at HBAD HON HLE0
            go_wp2_with fail
            refine (good_any r wj).mono ?_
            rintro e w3 ⟨rfl, rfl⟩
            obtain ⟨G, hG⟩ : ∃ G, Nm.good r = G := ⟨_, rfl⟩
            rw [hG] at HBAD HON HLE0 ⊢
            clear hG
            cases G
            · have HF := Lib.hid (HBAD.out rfl)
              go_wp2_with fail
              go_ret2
              exact ⟨by rw [HF.out]; rfl, HBEL1.out⟩
            · have HON2 := Lib.hid (HON.out rfl)
              have HLE := Lib.hid (HLE0.out rfl)
              go_wp2_with (at_builtin; refine wpList_append_own _ rfl (.tmp 55) (.tmp 57) 115 rfl w.heap.size 21 i0 (.int .i32 0) 1 4 Tryd.underlying115 hi hz0 hz1 hz2 rfl (by decide) _ _ _ rfl (HOWN1.out.alloc _) ⟨wj.heap.size, 0, none⟩ 1 1 [.int .i32 (r : Int)] rfl rfl (cell_one_new _ _ _) (by simp [Value.oneCell']) (by unfold maxLen; omega) (by omega) (by have := HBEL1.out.size; simp; omega) ?_; intro v' wz hown' hgrow _)
              have hz : Below w.heap.size w wz := (HBEL1.out.alloc HBEL1.out.size _).grown hgrow (by have := HBEL1.out.size; simp; omega) (fun g hg => own_base_le HOWN1.out hg)
              have hkl : kb < wj.heap.size := (Array.getElem?_eq_some_iff.1 HIT1.out).1
              have hitz : wz.heap[kb]? = some (.stringIter X (pos + d)) := by
                rw [hgrow.block kb (by simp; omega) (own_not_iter HOWN1.out HIT1.out), heap_alloc_old _ _ hkl]
                exact HIT1.out
              have hownz : wz.ownsRow w.heap.size 21 1 v' (l ++ [r]).length ((l ++ [r]).map runeV) := by
                rw [List.map_append, List.length_append]; exact hown'
              have HOL2 : Hid (∀ x ∈ l ++ [r], x ≤ 1114111) := by
                intro x hx
                rcases List.mem_append.1 hx with hx | hx
                · exact HOL.out x hx
                · rw [List.mem_singleton] at hx; rw [hx]; exact HLE.out
              have hl2 : (l ++ [r]).length = l.length + 1 := by simp
              have HL2 := Lib.hid hl2
              have HZ := Lib.hid hz
              have HITZ := Lib.hid hitz
              have HOWNZ := Lib.hid hownz
              clear hz hitz hownz hown' hgrow hl2
              go_wp2_with fail
              go_roundw
              case rel => exact ⟨g, pos + d, l ++ [r], HITZ.out, HOWNZ.out, HZ.out, by rw [HL2.out]; omega, hg, (fun h => by rw [HL2.out] at h; omega), HOL2, HON2⟩
              case measure =>
                rw [iterPos_of HITZ.out, HMU.out]; omega
          · have h1 : ¬ (128 : Int) ≤ (r : Int) := by omega
            have h2 : (r : Int) < 128 := by omega
            rw [Nm.ok_low (show r < 128 by omega)] at HBAD HON HLE0
            obtain ⟨E, hE⟩ : ∃ E, Utf8.encode (r : Int) = E := ⟨_, rfl⟩
            have hone := one_any r wj (by omega)
            rw [hE] at hone
            have HONE := Lib.hid hone
            clear hone
            have hEs : E.size ≤ 4 := by rw [← hE]; exact Nm.encode_size _
            go_wp2_with fail
            refine HONE.out.mono ?_
            rintro e w3 ⟨rfl, rfl⟩
            obtain ⟨G, hG⟩ : ∃ G, Nm.byteOk r = G := ⟨_, rfl⟩
            rw [hG] at HBAD HON HLE0 ⊢
            clear hG hE
            cases G
            · have HF := Lib.hid (HBAD.out rfl)
              go_wp2_with fail
              go_ret2
              exact ⟨by rw [HF.out]; rfl, HBEL1.out⟩
            · have HON2 := Lib.hid (HON.out rfl)
              have HLE := Lib.hid (HLE0.out rfl)
              go_wp2_with (at_builtin; refine wpList_append_own _ rfl (.tmp 55) (.tmp 57) 115 rfl w.heap.size 21 i0 (.int .i32 0) 1 4 Tryd.underlying115 hi hz0 hz1 hz2 rfl (by decide) _ _ _ rfl (HOWN1.out.alloc _) ⟨wj.heap.size, 0, none⟩ 1 1 [.int .i32 (r : Int)] rfl rfl (cell_one_new _ _ _) (by simp [Value.oneCell']) (by unfold maxLen; omega) (by omega) (by have := HBEL1.out.size; simp; omega) ?_; intro v' wz hown' hgrow _)
              have hz : Below w.heap.size w wz := (HBEL1.out.alloc HBEL1.out.size _).grown hgrow (by have := HBEL1.out.size; simp; omega) (fun g hg => own_base_le HOWN1.out hg)
              have hkl : kb < wj.heap.size := (Array.getElem?_eq_some_iff.1 HIT1.out).1
              have hitz : wz.heap[kb]? = some (.stringIter X (pos + d)) := by
                rw [hgrow.block kb (by simp; omega) (own_not_iter HOWN1.out HIT1.out), heap_alloc_old _ _ hkl]
                exact HIT1.out
              have hownz : wz.ownsRow w.heap.size 21 1 v' (l ++ [r]).length ((l ++ [r]).map runeV) := by
                rw [List.map_append, List.length_append]; exact hown'
              have HOL2 : Hid (∀ x ∈ l ++ [r], x ≤ 1114111) := by
                intro x hx
                rcases List.mem_append.1 hx with hx | hx
                · exact HOL.out x hx
                · rw [List.mem_singleton] at hx; rw [hx]; exact HLE.out
              have hl2 : (l ++ [r]).length = l.length + 1 := by simp
              have HL2 := Lib.hid hl2
              have HZ := Lib.hid hz
              have HITZ := Lib.hid hitz
              have HOWNZ := Lib.hid hownz
              clear hz hitz hownz hown' hgrow hl2
              go_wp2_with fail
              go_roundw
              case rel => exact ⟨g, pos + d, l ++ [r], HITZ.out, HOWNZ.out, HZ.out, by rw [HL2.out]; omega, hg, (fun h => by rw [HL2.out] at h; omega), HOL2, HON2⟩
              case measure =>
                rw [iterPos_of HITZ.out, HMU.out]; omega
        · have hnext := fun ty => Lib.run_next_end_at (P := Tryd.prog) wr kb X pos ty hit hpos
          have hl1 : 0 < l.length := by
            rcases Nat.eq_zero_or_pos l.length with e | e
            · have := hl0 e; omega
            · exact e
          have hfin : Nm.ascTail l = RS := by rw [← HLP.out, Nm.runesF_end hpos, Nm.ascLoop_end]
          have hra := runesAt_of_own hown
          have HRA := Lib.hid hra
          have HFIN := Lib.hid hfin
          rcases hra with ⟨rfl, _⟩ | ⟨b, o, c, rfl, hbw2, hcell⟩
          · simp at hl1
          obtain ⟨L, hL⟩ : ∃ L, l.length = L := ⟨_, rfl⟩
          have hc0 := hcell 0 hl1
          have hc1 := hcell (l.length - 1) (by omega)
          have hhe : Nm.isHy l = (l.getD 0 0 == 45 || l.getD (L - 1) 0 == 45) := by unfold Nm.isHy; rw [hL]
          rw [hL] at hc1 hlen hl1 HRA ⊢
          obtain ⟨r0, hr0⟩ : ∃ r, l.getD 0 0 = r := ⟨_, rfl⟩
          obtain ⟨r1, hr1⟩ : ∃ r, l.getD (L - 1) 0 = r := ⟨_, rfl⟩
          rw [hr0, hr1] at hhe
          rw [hr0] at hc0
          rw [hr1] at hc1
          have hc0' : wr.cell? ⟨b, o, none⟩ = some (.int .i32 (r0 : Int)) := hc0
          have hc1' : wr.cell? ⟨b, o + ((L : Int) - 1).toNat, none⟩ = some (.int .i32 (r1 : Int)) := by rw [show ((L : Int) - 1).toNat = L - 1 by omega]; exact hc1
          have HHE := Lib.hid hhe
          have HL := Lib.hid hL
          have hL2 : L ≤ 2000 := by omega
          clear hfin hcell hhe hr0 hr1 hL hown HLP hf
          by_cases e0 : r0 = 45
          · have f0 : ((r0 : Int) == 45) = true := by simp; omega
            have HF := Lib.hid (show RS = ([], 1) by rw [← HFIN.out]; unfold Nm.ascTail; rw [HHE.out, if_pos (by simp [e0])])
            go_wp2_with fail
            go_ret2
            exact ⟨by rw [HF.out]; rfl, hbel⟩
          have f0 : ((r0 : Int) == 45) = false := by simp; omega
          by_cases e1 : r1 = 45
          · have f1 : ((r1 : Int) == 45) = true := by simp; omega
            have HF := Lib.hid (show RS = ([], 1) by rw [← HFIN.out]; unfold Nm.ascTail; rw [HHE.out, if_pos (by simp [e1])])
            go_wp2_with fail
            go_ret2
            exact ⟨by rw [HF.out]; rfl, hbel⟩
          have f1 : ((r1 : Int) == 45) = false := by simp; omega
          have hfin2 : RS = if (encR l).2 ≠ 0 then ([], (encR l).2) else if 63 < (encR l).1.length + 4 then ([], 2) else (Nm.xn ++ (encR l).1, 0) := by
            rw [← HFIN.out]; unfold Nm.ascTail; rw [HHE.out, if_neg (by simp [e0, e1])]
          have HFIN2 := Lib.hid hfin2
          clear hfin2
          go_wp2_with fail
          refine (encode_any _ l wr HRA.out (by rw [HL.out]; exact hL2) HOL.out).mono ?_
          rintro e w4 ⟨rfl, hb5⟩
          have hb6 := below_chain hbel hb5 (Nat.le_refl _)
          cases hen : Pu.encode l with
          | none =>
            have her : encR l = ([], 2) := by unfold encR; rw [hen]
            rw [her] at HFIN2 ⊢
            have HF := Lib.hid (show RS = ([], 2) from HFIN2.out)
            go_wp2_with fail
            go_ret2
            exact ⟨by rw [HF.out]; rfl, hb6⟩
          | some t =>
            have her : encR l = (t, 0) := by unfold encR; rw [hen]
            have htl := (Pu.encode_length l t hen).2
            rw [her] at HFIN2 ⊢
            obtain ⟨E, hE⟩ : ∃ E, Lb.str t = E := ⟨_, rfl⟩
            have hEs : E.size = t.length := by rw [← hE]; rfl
            have hxs : (⟨#[120, 110, 45, 45]⟩ : ByteArray).size = 4 := rfl
            have hcat : (⟨#[120, 110, 45, 45]⟩ : ByteArray) ++ E = Lb.str (Nm.xn ++ t) := by rw [← hE, ← Lb.str_append]; rfl
            rw [show Lb.strV (t, 0).1 = .string E by rw [← hE]; rfl, show (((t, 0) : Lb.Bytes × Nat).2 : Int) = 0 from rfl]
            have HCAT := Lib.hid hcat
            clear hcat hE her hen
            by_cases hlong : 63 < t.length + 4
            · have HF := Lib.hid (show RS = ([], 2) by rw [HFIN2.out]; simp only [ne_eq, not_true_eq_false, if_false]; rw [if_pos hlong])
              clear HFIN2
              have h63 : (63 : Int) < (((⟨#[120, 110, 45, 45]⟩ : ByteArray) ++ E).size : Int) := by rw [ByteArray.size_append]; omega
              go_wp2_with fail
              go_ret2
              exact ⟨by rw [HF.out]; rfl, hb6⟩
            · have HF := Lib.hid (show RS = (Nm.xn ++ t, 0) by rw [HFIN2.out]; simp only [ne_eq, not_true_eq_false, if_false]; rw [if_neg hlong])
              clear HFIN2
              have h63 : ¬ (63 : Int) < (((⟨#[120, 110, 45, 45]⟩ : ByteArray) ++ E).size : Int) := by rw [ByteArray.size_append]; omega
              go_wp2_with fail
              go_ret2
              exact ⟨by rw [HF.out]; show _ = Ending.returned (.tuple #[.string (Lb.str (Nm.xn ++ t)), _]); rw [← HCAT.out]; rfl, hb6⟩
end Go.Proofs.YtffjfggndfcfmaaDoor
