/- The walk of cand.List. -/
import Derived.Test.YtlojfbmngippaaaDoorCdA
import Derived.Outline
namespace Go.Proofs.YtlojfbmngippaaaDoor
open Go.RowKit
set_option linter.unusedVariables false
/-- The cells of a Conf that lies in a block. -/
structure ConfAt (w : World) (b : Nat) (search : Value) (dots : Int) : Prop where
  s : w.cell? ⟨b, 1, none⟩ = some search
  d : w.cell? ⟨b, 2, none⟩ = some (.int .i64 dots)
theorem ConfAt.below {w w' : World} {b : Nat} {search : Value} {dots : Int} (h : ConfAt w b search dots) {B : Nat} (hb : Below B w w') (hB : b < B) : ConfAt w' b search dots :=
  ⟨(hb.cell (p := ⟨b, 1, none⟩) hB).trans h.s, (hb.cell (p := ⟨b, 2, none⟩) hB).trans h.d⟩
/-- What lies in out once k search domains have been added. -/
def outK (early : Bool) (xs : List Lb.Bytes) (n : Lb.Bytes) (k : Nat) : List Lb.Bytes := ((if early then [n] else []) ++ ((xs.take k).map fun d => n ++ 46 :: d)).foldl Cd.addL []
theorem outK_len (early : Bool) (xs : List Lb.Bytes) (n : Lb.Bytes) (k : Nat) : (outK early xs n k).length ≤ xs.length + 1 := by
  have := Cd.foldl_len ((if early then [n] else []) ++ ((xs.take k).map fun d => n ++ 46 :: d)) []
  unfold outK
  have h2 : (if early = true then [n] else []).length ≤ 1 := by cases early <;> simp
  have h3 : (xs.take k).length ≤ xs.length := List.length_take_le' _ _
  simp only [List.length_append, List.length_map, List.length_nil] at this
  omega
theorem outK_snoc (early : Bool) (xs : List Lb.Bytes) (n : Lb.Bytes) (k : Nat) (h : k < xs.length) : outK early xs n (k + 1) = Cd.addL (outK early xs n k) (n ++ 46 :: xs.getD k []) := by
  unfold outK
  rw [take_snoc xs k [] h, List.map_append, ← List.append_assoc, List.foldl_append]; rfl
theorem outK_end (early : Bool) (xs : List Lb.Bytes) (n : Lb.Bytes) : Cd.addL (outK early xs n xs.length) n = Cd.cands early xs n := by
  unfold outK Cd.cands Cd.all
  rw [List.take_length, List.foldl_append (l := _ ++ _)]; rfl
theorem outK_zero_true (xs : List Lb.Bytes) (n : Lb.Bytes) : outK true xs n 0 = Cd.addL [] n := by simp [outK]
theorem outK_zero_false (xs : List Lb.Bytes) (n : Lb.Bytes) : outK false xs n 0 = [] := by simp [outK]

set_option maxRecDepth 20000 in
theorem toASCII_all (s : ByteArray) (w : World) (hT : Tabs w) (hs : s.size ≤ maxLen) :
    Calls Tryd.prog 16 #[.string s] w fun e w' => e = .returned (.tuple #[Lb.strV (Nm.toASCII s.data.toList).1, .int .i64 ((Nm.toASCII s.data.toList).2 : Nat)]) ∧ Below w.heap.size w w' := by
  by_cases hl : 1012 < s.size
  · unfold maxLen at hs
    obtain ⟨RS, hRS⟩ : ∃ RS, Nm.toASCII s.data.toList = RS := ⟨_, rfl⟩
    rw [hRS]
    have HF := Lib.hid (show RS = ([], 2) by rw [← hRS]; unfold Nm.toASCII; rw [if_pos (show 1012 < s.data.toList.length from hl)])
    have h1 : (1012 : Int) < (s.size : Int) := by omega
    clear hRS
    go_enter Tryd.func16, Tryd.ntmps16
    go_wp2_with fail
    go_ret2
    exact ⟨by rw [HF.out]; rfl, Below.refl _ _⟩
  · exact toASCII_any s w hT (by omega)
theorem hasSuffix_any (s p : ByteArray) (w : World) (hs : s.size ≤ 1000000) :
    Calls Tryd.prog 31 #[.string s, .string p] w fun e w' => e = .returned (.bool (Lib.hasSuffix s.data.toList p.data.toList)) ∧ w = w' :=
  (Tryd.strings_HasSuffix s p w (by omega)).mono fun _ _ h => ⟨h.1, h.2.symm⟩

set_option maxRecDepth 20000 in
set_option maxHeartbeats 8000000 in
theorem list_any (sv search : Value) (dots tmo att : Int) (xs : List Lb.Bytes) (s : ByteArray) (w : World) (hT : Tabs w) (hs : s.size ≤ maxLen) (hS : StrsAt w search xs) (hn : xs.length ≤ 900) (hx : ∀ x ∈ xs, x.length ≤ 253) :
    Calls Tryd.prog 26 #[.agg #[sv, search, .int .i64 dots, .int .i64 tmo, .int .i64 att], .string s] w fun e w' =>
      (∃ v, e = .returned (.tuple #[v, .int .i64 ((Cd.list dots xs s.data.toList).2 : Nat)]) ∧ StrsAt w' v (Cd.list dots xs s.data.toList).1) ∧ Below w.heap.size w w' := by
  have hmf : ∀ (fn : Fn) (first cap : Array Value) (w : World), (Instr.makeFunc fn first cap).run Tryd.prog w = .ok (.func fn first cap) w := fun _ _ _ _ => rfl
  obtain ⟨RS, hRS⟩ : ∃ RS, Cd.list dots xs s.data.toList = RS := ⟨_, rfl⟩
  rw [hRS]
  have HRS := Lib.hid hRS
  have HS := Lib.hid hS
  have HX := Lib.hid hx
  have HT := Lib.hid hT
  have hS2 := Lib.hid hs
  have HB0 : Hid (∀ o : Obj, Below w.heap.size w (w.alloc o)) := fun o => (Below.refl _ _).alloc (Nat.le_refl _) _
  clear hRS hS hx hT hs
  go_enter Tryd.func26, Tryd.ntmps26
  go_wp2_with fail
  with_reducible refine (toASCII_all s _ (HT.out.below (HB0.out _) (Nat.le_refl _)) hS2.out).mono ?_
  rintro e w1 ⟨rfl, hb1⟩
  have hbel1 : Below w.heap.size w w1 := (HB0.out _).trans (hb1.mono (by simp))
  have hcf : ConfAt w1 w.heap.size search dots := ⟨(hb1.cell (p := ⟨w.heap.size, 1, none⟩) (by simp)).trans (by rw [World.cell?_alloc_at _ _ _ _ rfl]; rfl), (hb1.cell (p := ⟨w.heap.size, 2, none⟩) (by simp)).trans (by rw [World.cell?_alloc_at _ _ _ _ rfl]; rfl)⟩
  have hw1 : w.heap.size < w1.heap.size := by have := hb1.size; simp at this; omega
  obtain ⟨r, hr⟩ : ∃ r, Nm.toASCII s.data.toList = r := ⟨_, rfl⟩
  have hRS2 : (if r.2 ≠ 0 then ([], r.2) else if Lib.hasSuffix s.data.toList [46] then ([r.1], 0) else (Cd.cands (decide (dots ≤ (r.1.count 46 : Nat))) xs r.1, 0)) = RS := by rw [← hr]; exact HRS.out
  have hn253 : r.2 = 0 → r.1.length ≤ 253 ∧ s.size ≤ 1012 := by
    intro h
    obtain ⟨h1, _, h3⟩ := Nm.toASCII_back (s := s.data.toList) (t := r.1) (by rw [hr]; exact Prod.ext rfl h)
    exact ⟨h3, h1⟩
  rw [hr]
  clear hr
  obtain ⟨n, c⟩ := r
  simp only at hRS2 hn253 ⊢
  have HR2 := Lib.hid hRS2
  have HC := Lib.hid hcf
  clear hRS2 hcf hb1 HRS
  obtain ⟨N, hN⟩ : ∃ N, Lb.str n = N := ⟨_, rfl⟩
  have HN : Hid (N.data.toList = n) := by show _ = _; rw [← hN]; rfl
  have HNN := Lib.hid hN
  have hNs : N.size = n.length := by rw [← hN]; rfl
  rw [show Lb.strV n = .string N by rw [← hN]; rfl]
  clear hN
  by_cases hc : c = 0
  · subst hc
    obtain ⟨hn2, hs2⟩ := hn253 rfl
    have hNs2 : N.size ≤ 253 := by omega
    have HNS : Hid (N.size ≤ 1000000) := by show _ ≤ _; omega
    clear hn253 hNs hn2
    rw [show ((0 : Nat) : Int) = 0 from rfl]
    have hR3 : (if Lib.hasSuffix s.data.toList [46] then ([n], 0) else (Cd.cands (decide (dots ≤ (n.count 46 : Nat))) xs n, 0)) = RS := by have h := HR2.out; rw [if_neg (by simp)] at h; exact h
    have hsuf := hasSuffix_any s ⟨#[46]⟩ w1 (by omega)
    rw [show (⟨#[46]⟩ : ByteArray).data.toList = [46] from rfl] at hsuf
    obtain ⟨sf, hsf⟩ : ∃ sf, Lib.hasSuffix s.data.toList [46] = sf := ⟨_, rfl⟩
    rw [hsf] at hR3 hsuf
    have HSUF := Lib.hid hsuf
    clear hsuf hsf HR2
    cases sf with
    | true =>
      have HF : Hid (RS = ([n], 0)) := hR3.symm
      clear hR3
      go_wp2_with fail
      refine HSUF.out.mono ?_
      rintro e w2 ⟨rfl, rfl⟩
      go_wp2_with fail
      go_ret2
      exact ⟨⟨_, by rw [HF.out]; rfl, by rw [HF.out]; exact one_str w1 _ n N HNN.out.symm⟩, hbel1.alloc hbel1.size _⟩
    | false =>
      have hR4 : Hid (RS = (Cd.cands (decide (dots ≤ (n.count 46 : Nat))) xs n, 0)) := hR3.symm
      have hdots : ∀ W, Calls Tryd.prog 23 #[.string N] W fun e w' => e = .returned (.int .i64 (n.count 46 : Nat)) ∧ w' = W := fun W => (dots_any N W (by omega)).mono fun _ _ h => ⟨by rw [← HN.out]; exact h.1, h.2.symm⟩
      obtain ⟨q, hq⟩ : ∃ q, n.count 46 = q := ⟨_, rfl⟩
      rw [hq] at hR4 hdots
      have HD := Lib.hid hdots
      obtain ⟨B, hBB⟩ : ∃ B, w1.heap.size = B := ⟨_, rfl⟩
      have hBw3 : w.heap.size < B := by omega
      have hBw : w.heap.size ≤ B := by omega
      have hblk : Hid (∀ a, ((w1.alloc (.cells #[.slice none 0 0] 27)).drewN a).heap[B]? = some (.cells #[.slice none 0 0] 27 (0, 0))) := fun a => by rw [← hBB]; exact heap_alloc_new w1 _
      have hcd2 : Hid (∀ a, ConfAt ((w1.alloc (.cells #[.slice none 0 0] 27)).drewN a) w.heap.size search dots) := fun a => HC.out.below (below_drewN2 ((Below.refl w1.heap.size w1).alloc (Nat.le_refl _) _) a) (by omega)
      have hcdd : (w1.alloc (.cells #[.slice none 0 0] 27)).cell? ⟨w.heap.size, 2, none⟩ = some (.int .i64 dots) := (hcd2.out 0).d
      have hbw2 : Hid (∀ a, Below w.heap.size w ((w1.alloc (.cells #[.slice none 0 0] 27)).drewN a)) := fun a => below_drewN2 (hbel1.alloc hbel1.size _) a
      have HBB := Lib.hid hBB
      clear hR3 hdots hq hBB
      go_wp2_with fail
      refine HSUF.out.mono ?_
      rintro e w2 ⟨rfl, rfl⟩
      go_wp2_with fail
      go_quiet ((go_at_call 23; exact Calls.quiet_of_same (HD.out _)))
      obtain ⟨WL, hWL⟩ : ∃ WL, (w1.alloc (.cells #[.slice none 0 0] 27)).drewN nq = WL := ⟨_, rfl⟩
      have hb2 := hblk.out nq
      have hc2 := hcd2.out nq
      have hw2 := hbw2.out nq
      rw [hWL] at hb2 hc2 hw2 ⊢
      rw [HBB.out]
      have HB2 := Lib.hid hb2
      have HW2 := Lib.hid hw2
      have HC2 := Lib.hid hc2
      have hBL : B < WL.heap.size := lt_of_block hb2
      clear hWL hblk hcd2 hbw2 hb2 hc2 hw2 hcdd
      by_cases he : dots ≤ (q : Int)
      · have HF : Hid (RS = (Cd.cands true xs n, 0)) := by show _ = _; rw [hR4.out, decide_eq_true he]
        clear hR4
        go_wp2_with fail
        with_reducible refine (add_any _ _ N B (.slice none 0 0) [] _ ?_ ?_ ?_ ?_ ?_).mono ?_
        · with_reducible exact HNS.out
        · simp
        · exact cell_one_new WL _ _ 0 _ rfl
        · exact (((Below.refl WL.heap.size WL).alloc (Nat.le_refl _) _).block B hBL).trans HB2.out
        · exact World.ownsRow_nil _ _ _ _
        rintro e w3 ⟨rfl, ⟨v3, hB3, hown3⟩, hb3⟩
        rw [HN.out, ← outK_zero_true xs n] at hown3
        have hbx : Below B WL w3 := ((Below.refl B WL).alloc (by omega) _).trans hb3
        have HBL := Lib.hid hB3
        have HOWL := Lib.hid hown3
        have HBW := Lib.hid (HW2.out.trans (hbx.mono hBw))
        have HCF := Lib.hid (HC2.out.below hbx hBw3)
        clear hB3 hown3 hb3 hbx he
        obtain ⟨Aw, cw, hsl⟩ := HS.out.sliceAt
        have hcs := HCF.out.s
        rw [hsl] at hcs
        have HSL := Lib.hid hsl
        obtain ⟨nx, hnx⟩ : ∃ n, xs.length = n := ⟨_, rfl⟩
        rw [hnx] at hn hcs
        have HNX := Lib.hid hnx
        clear hsl hnx
        go_wp2_with fail
        clear hcs
        go_loopw [39] (fun i wx => ∃ (k : Nat) (v : Value), k ≤ nx ∧ i = .int .i64 k ∧ wx.heap[B]? = some (.cells #[v] 27 (0, 0)) ∧ wx.ownsRow (B + 1) 9 1 v (outK true xs n k).length ((outK true xs n k).map Lb.strV) ∧ Below B w3 wx) (fun i _ => nx - (intOf i).toNat)
        case atStart => exact ⟨0, _, Nat.zero_le _, rfl, HBL.out, HOWL.out, Below.refl _ _⟩
        case round =>
          obtain ⟨k, v, hk, rfl, hB, hown, hbel⟩ := hrel
          have hbw : Below w.heap.size w wr := HBW.out.trans (hbel.mono hBw)
          have hol := outK_len true xs n k
          have hsz : B < wr.heap.size := lt_of_block hB
          by_cases hlt : k < nx
          · obtain ⟨b, o, c', hv, hbl, hcell⟩ := HS.out.cellAt (by intro e; have := HNX.out; rw [e] at this; simp at this; omega)
            rw [HSL.out] at hv
            injection hv with hA hA2 hA3
            clear hA2 hA3
            subst hA
            have hcd : wr.cell? ⟨b, o + k, none⟩ = some (Lb.strV (xs.getD k [])) := (hbw.cell (p := ⟨b, o + k, none⟩) hbl).trans (hcell k (by have := HNX.out; omega))
            have hds : (xs.getD k []).length ≤ 253 := HX.out _ (getD_mem xs k [] (by have := HNX.out; omega))
            have hsn := outK_snoc true xs n k (by have := HNX.out; omega)
            obtain ⟨D, hD⟩ : ∃ D, Lb.str (xs.getD k []) = D := ⟨_, rfl⟩
            have hcD : wr.cell? ⟨b, o + k, none⟩ = some (.string D) := by rw [← hD]; exact hcd
            have hDs : D.size ≤ 253 := by rw [← hD]; exact hds
            have hXd : ((N ++ ⟨#[46]⟩) ++ D).data.toList = n ++ 46 :: xs.getD k [] := by rw [← HN.out, ← hD]; simp [ByteArray.data_append, Lb.str]
            have hXs : ((N ++ ⟨#[46]⟩) ++ D).size ≤ 1000000 := by rw [ByteArray.size_append, ByteArray.size_append]; have : (⟨#[46]⟩ : ByteArray).size = 1 := rfl; omega
            obtain ⟨XX, hXX⟩ : ∃ XX, ((N ++ ⟨#[46]⟩) ++ D) = XX := ⟨_, rfl⟩
            rw [hXX] at hXd hXs
            have HSN := Lib.hid hsn
            have HXD := Lib.hid hXd
            have HXS := Lib.hid hXs
            have HB := Lib.hid hB
            have HOWN := Lib.hid hown
            have HHB := Lib.hid hbel
            have HOL := Lib.hid hol
            clear hcell hcd hds hsn hD hXd hXs hB hown hbel hol
            go_wp2_with fail
            clear hXX
            with_reducible refine (add_any _ _ XX B v (outK true xs n k) _ ?_ ?_ ?_ ?_ ?_).mono ?_
            · with_reducible exact HXS.out
            · have := HOL.out; have := HNX.out; omega
            · exact cell_one_new wr _ _ 0 _ rfl
            · exact (((Below.refl wr.heap.size wr).alloc (Nat.le_refl _) _).block B hsz).trans HB.out
            · exact HOWN.out.alloc _
            rintro e w5 ⟨rfl, ⟨v5, hB5, hown5⟩, hb5⟩
            rw [HXD.out, ← HSN.out] at hown5
            have hbel5 : Below B w3 w5 := (HHB.out.alloc (by omega) _).trans hb5
            have HB5 := Lib.hid hB5
            have HOWN5 := Lib.hid hown5
            have HBEL5 := Lib.hid hbel5
            clear hB5 hown5 hbel5 hb5
            go_wp2_with fail
            go_roundw
            case rel => exact ⟨k + 1, v5, by omega, by go_num, HB5.out, HOWN5.out, HBEL5.out⟩
            case measure => simp [intOf]; omega
          · have hkn : k = xs.length := by have := HNX.out; omega
            have hend := outK_end true xs n
            rw [← hkn] at hend
            have HEND := Lib.hid hend
            have HB := Lib.hid hB
            have HOWN := Lib.hid hown
            have HHB := Lib.hid hbel
            have HOL := Lib.hid hol
            clear hkn hend hB hown hbel hol
            go_wp2_with fail
            with_reducible refine (add_any _ _ N B v (outK true xs n k) _ ?_ ?_ ?_ ?_ ?_).mono ?_
            · with_reducible exact HNS.out
            · have := HOL.out; have := HNX.out; omega
            · exact cell_one_new wr _ _ 0 _ rfl
            · exact (((Below.refl wr.heap.size wr).alloc (Nat.le_refl _) _).block B hsz).trans HB.out
            · exact HOWN.out.alloc _
            rintro e w5 ⟨rfl, ⟨v5, hB5, hown5⟩, hb5⟩
            rw [HN.out, HEND.out] at hown5
            have hbel5 : Below B w3 w5 := (HHB.out.alloc (by omega) _).trans hb5
            have hbw5 : Below w.heap.size w w5 := HBW.out.trans (hbel5.mono hBw)
            have hc5 := cell_of_one hB5
            have HOWN5 := Lib.hid hown5
            clear hB5 hown5 hbel5 hb5
            go_wp2_with fail
            go_ret2
            exact ⟨⟨_, by rw [HF.out]; rfl, by rw [HF.out]; exact strsAt_of_own HOWN5.out⟩, hbw5⟩
      · have HF : Hid (RS = (Cd.cands false xs n, 0)) := by show _ = _; rw [hR4.out, decide_eq_false he]
        have HBL := Lib.hid HB2.out
        have HOWL : Hid (WL.ownsRow (B + 1) 9 1 (.slice none 0 0) (outK false xs n 0).length ((outK false xs n 0).map Lb.strV)) := by
          rw [outK_zero_false]; exact World.ownsRow_nil _ _ _ _
        have HBW := Lib.hid HW2.out
        have HCF := Lib.hid HC2.out
        clear hR4
        obtain ⟨Aw, cw, hsl⟩ := HS.out.sliceAt
        have hcs := HCF.out.s
        rw [hsl] at hcs
        have HSL := Lib.hid hsl
        obtain ⟨nx, hnx⟩ : ∃ n, xs.length = n := ⟨_, rfl⟩
        rw [hnx] at hn hcs
        have HNX := Lib.hid hnx
        clear hsl hnx
        go_wp2_with fail
        clear hcs
        go_loopw [39] (fun i wx => ∃ (k : Nat) (v : Value), k ≤ nx ∧ i = .int .i64 k ∧ wx.heap[B]? = some (.cells #[v] 27 (0, 0)) ∧ wx.ownsRow (B + 1) 9 1 v (outK false xs n k).length ((outK false xs n k).map Lb.strV) ∧ Below B WL wx) (fun i _ => nx - (intOf i).toNat)
        case atStart => exact ⟨0, _, Nat.zero_le _, rfl, HBL.out, HOWL.out, Below.refl _ _⟩
        case round =>
          obtain ⟨k, v, hk, rfl, hB, hown, hbel⟩ := hrel
          have hbw : Below w.heap.size w wr := HBW.out.trans (hbel.mono hBw)
          have hol := outK_len false xs n k
          have hsz : B < wr.heap.size := lt_of_block hB
          by_cases hlt : k < nx
          · obtain ⟨b, o, c', hv, hbl, hcell⟩ := HS.out.cellAt (by intro e; have := HNX.out; rw [e] at this; simp at this; omega)
            rw [HSL.out] at hv
            injection hv with hA hA2 hA3
            clear hA2 hA3
            subst hA
            have hcd : wr.cell? ⟨b, o + k, none⟩ = some (Lb.strV (xs.getD k [])) := (hbw.cell (p := ⟨b, o + k, none⟩) hbl).trans (hcell k (by have := HNX.out; omega))
            have hds : (xs.getD k []).length ≤ 253 := HX.out _ (getD_mem xs k [] (by have := HNX.out; omega))
            have hsn := outK_snoc false xs n k (by have := HNX.out; omega)
            obtain ⟨D, hD⟩ : ∃ D, Lb.str (xs.getD k []) = D := ⟨_, rfl⟩
            have hcD : wr.cell? ⟨b, o + k, none⟩ = some (.string D) := by rw [← hD]; exact hcd
            have hDs : D.size ≤ 253 := by rw [← hD]; exact hds
            have hXd : ((N ++ ⟨#[46]⟩) ++ D).data.toList = n ++ 46 :: xs.getD k [] := by rw [← HN.out, ← hD]; simp [ByteArray.data_append, Lb.str]
            have hXs : ((N ++ ⟨#[46]⟩) ++ D).size ≤ 1000000 := by rw [ByteArray.size_append, ByteArray.size_append]; have : (⟨#[46]⟩ : ByteArray).size = 1 := rfl; omega
            obtain ⟨XX, hXX⟩ : ∃ XX, ((N ++ ⟨#[46]⟩) ++ D) = XX := ⟨_, rfl⟩
            rw [hXX] at hXd hXs
            have HSN := Lib.hid hsn
            have HXD := Lib.hid hXd
            have HXS := Lib.hid hXs
            have HB := Lib.hid hB
            have HOWN := Lib.hid hown
            have HHB := Lib.hid hbel
            have HOL := Lib.hid hol
            clear hcell hcd hds hsn hD hXd hXs hB hown hbel hol
            go_wp2_with fail
            clear hXX
            with_reducible refine (add_any _ _ XX B v (outK false xs n k) _ ?_ ?_ ?_ ?_ ?_).mono ?_
            · with_reducible exact HXS.out
            · have := HOL.out; have := HNX.out; omega
            · exact cell_one_new wr _ _ 0 _ rfl
            · exact (((Below.refl wr.heap.size wr).alloc (Nat.le_refl _) _).block B hsz).trans HB.out
            · exact HOWN.out.alloc _
            rintro e w5 ⟨rfl, ⟨v5, hB5, hown5⟩, hb5⟩
            rw [HXD.out, ← HSN.out] at hown5
            have hbel5 : Below B WL w5 := (HHB.out.alloc (by omega) _).trans hb5
            have HB5 := Lib.hid hB5
            have HOWN5 := Lib.hid hown5
            have HBEL5 := Lib.hid hbel5
            clear hB5 hown5 hbel5 hb5
            go_wp2_with fail
            go_roundw
            case rel => exact ⟨k + 1, v5, by omega, by go_num, HB5.out, HOWN5.out, HBEL5.out⟩
            case measure => simp [intOf]; omega
          · have hkn : k = xs.length := by have := HNX.out; omega
            have hend := outK_end false xs n
            rw [← hkn] at hend
            have HEND := Lib.hid hend
            have HB := Lib.hid hB
            have HOWN := Lib.hid hown
            have HHB := Lib.hid hbel
            have HOL := Lib.hid hol
            clear hkn hend hB hown hbel hol
            go_wp2_with fail
            with_reducible refine (add_any _ _ N B v (outK false xs n k) _ ?_ ?_ ?_ ?_ ?_).mono ?_
            · with_reducible exact HNS.out
            · have := HOL.out; have := HNX.out; omega
            · exact cell_one_new wr _ _ 0 _ rfl
            · exact (((Below.refl wr.heap.size wr).alloc (Nat.le_refl _) _).block B hsz).trans HB.out
            · exact HOWN.out.alloc _
            rintro e w5 ⟨rfl, ⟨v5, hB5, hown5⟩, hb5⟩
            rw [HN.out, HEND.out] at hown5
            have hbel5 : Below B WL w5 := (HHB.out.alloc (by omega) _).trans hb5
            have hbw5 : Below w.heap.size w w5 := HBW.out.trans (hbel5.mono hBw)
            have hc5 := cell_of_one hB5
            have HOWN5 := Lib.hid hown5
            clear hB5 hown5 hbel5 hb5
            go_wp2_with fail
            go_ret2
            exact ⟨⟨_, by rw [HF.out]; rfl, by rw [HF.out]; exact strsAt_of_own HOWN5.out⟩, hbw5⟩
  · have HF : Hid (RS = ([], c)) := by show _ = _; rw [← HR2.out, if_pos hc]
    have hce : ((c : Int) != 0) = true := by simp; omega
    clear HR2 hn253 hNs
    go_wp2_with fail
    go_ret2
    exact ⟨⟨_, by rw [HF.out]; rfl, by rw [HF.out]; exact .inl ⟨rfl, none, 0, rfl⟩⟩, hbel1⟩
end Go.Proofs.YtlojfbmngippaaaDoor
