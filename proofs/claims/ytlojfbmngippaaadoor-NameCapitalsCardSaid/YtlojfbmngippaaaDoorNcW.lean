/- The walk of NameCapitals. -/
import Derived.Test.YtlojfbmngippaaaDoorFit
import Derived.Test.YtlojfbmngippaaaDoorNc
namespace Go.Proofs.YtlojfbmngippaaaDoor
open Go.RowKit
set_option linter.unusedVariables false
def upTo (s : Lb.Bytes) (k : Nat) : Lb.Bytes := (s.take k).map Nm.upB ++ s.drop k
theorem upTo_length (s : Lb.Bytes) (k : Nat) : (upTo s k).length = s.length := by
  unfold upTo; simp; omega
theorem upTo_get (s : Lb.Bytes) (k : Nat) (h : k < s.length) : (upTo s k).getD k 0 = s.getD k 0 := by
  unfold upTo
  simp only [List.getD_eq_getElem?_getD]
  rw [List.getElem?_append_right (by simp; omega)]
  simp only [List.length_map, List.length_take, List.getElem?_drop]
  congr 2
  omega
theorem upTo_step (s : Lb.Bytes) (k : Nat) (h : k < s.length) : upTo s (k + 1) = (upTo s k).set k (Nm.upB (s.getD k 0)) := by
  unfold upTo
  apply List.ext_getElem?
  intro i
  have hm : min k s.length = k := by omega
  have hm1 : min (k + 1) s.length = k + 1 := by omega
  rw [List.getElem?_set]
  by_cases hi : k = i
  · subst hi
    rw [if_pos rfl, if_pos (by simp; omega), List.getElem?_append_left (by simp; omega)]
    simp [List.getD_eq_getElem?_getD, List.getElem?_eq_getElem h]
  · rw [if_neg hi]
    rcases Nat.lt_or_ge i k with hlt | hge
    · rw [List.getElem?_append_left (by simp; omega), List.getElem?_append_left (by simp; omega)]
      simp [hlt, show i < k + 1 by omega]
    · rw [List.getElem?_append_right (by simp; omega), List.getElem?_append_right (by simp; omega)]
      simp only [List.length_map, List.length_take, List.getElem?_drop, hm, hm1]
      congr 1
      omega
theorem upTo_same (s : Lb.Bytes) (k : Nat) (h : k < s.length) (hc : Nm.upB (s.getD k 0) = s.getD k 0) : upTo s (k + 1) = upTo s k := by
  rw [upTo_step s k h, hc, ← upTo_get s k h]
  apply List.ext_getElem?
  intro i
  rw [List.getElem?_set]
  split
  · rename_i e; subst e
    have : k < (upTo s k).length := by rw [upTo_length]; exact h
    simp [List.getD_eq_getElem?_getD, this]
  · rfl
theorem upTo_end (s : Lb.Bytes) (k : Nat) (h : s.length ≤ k) : upTo s k = s.map Nm.upB := by
  unfold upTo List.map Nm.upB
  rw [List.take_of_length_le h, List.drop_eq_nil_of_le h, List.append_nil]
theorem upTo_zero (s : Lb.Bytes) : upTo s 0 = s := by simp [upTo]

theorem suf_empty {s : Lb.Bytes} (h : s = []) : Lib.hasSuffix s [46] = false := by subst h; rfl
theorem suf_last {s : Lb.Bytes} (h : (s.getD (s.length - 1) 0).toNat ≠ 46) : Lib.hasSuffix s [46] = false := by
  cases hh : Lib.hasSuffix s [46] with
  | false => rfl
  | true =>
    exfalso
    unfold Lib.hasSuffix at hh
    obtain ⟨t, rfl⟩ := List.isSuffixOf_iff_suffix.1 hh
    apply h
    rw [List.length_append, List.getD_eq_getElem?_getD, List.getElem?_append_right (by simp)]
    simp

set_option maxRecDepth 20000 in
set_option maxHeartbeats 16000000 in
theorem nameCapitals_empty (s : ByteArray) (hz0 : s.size = 0) (w : World) (hT : Tabs w) :
    Calls Tryd.prog 6 #[.string s] w fun e w' => e = .returned (.bool true) ∧ Below w.heap.size w w' := by
  have hs : s.size ≤ 900 := by omega
  have HZ := Lib.hid hz0
  have hXe : s.toList.isEmpty = true := by rw [empty_iff, decide_eq_true hz0]
  clear hz0
  go_enter Tryd.func6, Tryd.ntmps6
  go_wp2_with fail
  refine (fit_any w hT).mono ?_
  rintro e w1 ⟨rfl, hb1⟩
  have h1 : ¬ (900 : Int) < (s.size : Int) := by omega
  have hsuf : Lib.hasSuffix s.data.toList [46] = false := suf_empty (List.eq_nil_of_length_eq_zero HZ.out)
  obtain ⟨LA, LB⟩ := Nm.nameCapitals_law (s := s.data.toList) (by show s.size ≤ 900; omega) hsuf
  have HLA := Lib.hid LA
  have HLB := Lib.hid LB
  have HT1 := Lib.hid (hT.below hb1 (Nat.le_refl _))
  obtain ⟨cap, hcap⟩ : ∃ cap, grownCap w1 s.size 0 5 = cap := ⟨_, rfl⟩
  have hge : s.size ≤ cap := by rw [← hcap]; exact grownCap_ge w1 s.size 0 5
  have hconv := run_bytes_of_string (P := Tryd.prog) w1 9 32 5 s Tryd.underlying9 Tryd.underlying32 Tryd.underlying5
  rw [hcap] at hconv
  obtain ⟨W1, hW1⟩ : ∃ W1, w1.drew.alloc (.cells (bytesRow s cap) 5 ((bytesRow s cap).size, (bytesRow s cap).size + 1)) = W1 := ⟨_, rfl⟩
  rw [hW1] at hconv
  have hblk : BytesBlk W1 w1.heap.size (upTo s.data.toList 0) (bytesRow s cap).size := by
    rw [upTo_zero]
    refine ⟨bytesRow s cap, by rw [← hW1]; exact heap_alloc_new w1.drew _, by simp [bytesRow], ?_⟩
    intro j hj
    have hj' : j < s.data.size := by simpa using hj
    rw [bytesRow_at s cap j hj']
    simp [List.getD_eq_getElem?_getD, Array.getElem?_eq_getElem hj']
  have hbel : Below w1.heap.size w1 W1 := by rw [← hW1]; exact ((Below.refl _ _).drew).alloc (Nat.le_refl _) _
  clear hcap hW1 LA LB hT hsuf
  generalize (bytesRow s cap).size = M at hblk
  go_wp2_with fail
  clear hconv
  go_loopw [33] (fun i wr => ∃ k : Nat, k ≤ s.size ∧ i = .int .i64 k ∧ BytesBlk wr w1.heap.size (upTo s.data.toList k) M ∧ Below w1.heap.size w1 wr) (fun i _ => s.size - (intOf i).toNat)
  case atStart => exact ⟨0, Nat.zero_le _, rfl, hblk, hbel⟩
  case round =>
    clear hblk hbel
    obtain ⟨k, hk, rfl, hblk, hbel⟩ := hrel
    have hlen : (upTo s.data.toList k).length = s.size := upTo_length _ _
    have hlt : ¬ k < s.size := by have := HZ.out; omega
    have hend := upTo_end s.data.toList k (by show s.size ≤ k; have := HZ.out; omega)
    have hbk := fun (wx : World) (hbx : Below wr.heap.size wr wx) => run_convert_bytes_back (P := Tryd.prog) wx 32 9 5 ⟨w1.heap.size, 0, none⟩ cap (upTo s.data.toList k) Tryd.underlying32 Tryd.underlying5 Tryd.underlying9 (fun j hj => by
      have h := hblk.cell j hj
      rw [List.getD_eq_getElem?_getD, List.getElem?_eq_getElem hj] at h
      rw [show (⟨w1.heap.size, 0, none⟩ : Addr).add j = ⟨w1.heap.size, j, none⟩ by unfold Addr.add; split <;> simp_all]
      exact (hbx.cell (p := ⟨w1.heap.size, j, none⟩) (World.block_lt_of_cell? wr _ h)).trans h)
    rw [hlen, hend] at hbk
    have HBK := Lib.hid hbk
    have HTr := Lib.hid (HT1.out.below hbel (Nat.le_refl _))
    have hb2 := below_chain hb1 hbel (Nat.le_refl _)
    clear hend hlen hblk hbk
    go_wp2_with fail
    refine (toASCII_any s wr HTr.out (by omega)).mono ?_
    rintro e w2 ⟨rfl, hb3⟩
    have hb4 := below_chain hb2 hb3 (Nat.le_refl _)
    have hcv := HBK.out w2 hb3
    have HT2 := Lib.hid (HTr.out.below hb3 (Nat.le_refl _))
    obtain ⟨r, hr⟩ : ∃ r, Nm.toASCII s.data.toList = r := ⟨_, rfl⟩
    rw [hr] at HLA HLB ⊢
    obtain ⟨U, hU⟩ : ∃ U, Lb.str (s.data.toList.map Nm.upB) = U := ⟨_, rfl⟩
    have hUd : U.data.toList = s.data.toList.map Nm.upB := by rw [← hU]; rfl
    have hUs : U.size ≤ 900 := by rw [← hU]; show (s.data.toList.map Nm.upB).length ≤ 900; rw [List.length_map]; show s.size ≤ 900; omega
    have hcv2 : (convert 32 9 (.slice (some ⟨w1.heap.size, 0, none⟩) s.size cap)).run Tryd.prog w2 = .ok (.string U) w2 := by rw [← hU]; exact hcv
    have HUD := Lib.hid hUd
    clear hcv hU hUd hr
    go_wp2_with fail
    refine (toASCII_any U w2 HT2.out (by omega)).mono ?_
    rintro e w3 ⟨rfl, hb5⟩
    rw [HUD.out, HLA.out]
    clear hcv2
    have hb6 := below_chain hb4 hb5 (Nat.le_refl _)
    have HT3 := Lib.hid (HT2.out.below hb5 (Nat.le_refl _))
    have hs900 : s.size ≤ 900 := by omega
    have hdt : (s ++ ⟨#[46]⟩).data.toList = s.data.toList ++ [46] := by simp [ByteArray.data_append]
    have hds : (s ++ ⟨#[46]⟩).size ≤ 1000000 := by rw [ByteArray.size_append]; have : (⟨#[46]⟩ : ByteArray).size = 1 := rfl; omega
    have HDT := Lib.hid hdt
    have HDS := Lib.hid hds
    clear hdt hds
    go_wp2_with fail
    with_reducible refine (toASCII_any _ w3 HT3.out ?_).mono ?_
    · with_reducible exact HDS.out
    rintro e w4 ⟨rfl, hb7⟩
    rw [HDT.out, HLB.out]
    have hb8 := below_chain hb6 hb7 (Nat.le_refl _)
    obtain ⟨t, c⟩ := r
    obtain ⟨Z, hZ⟩ : ∃ Z, Lb.str t = Z := ⟨_, rfl⟩
    rw [show Lb.strV (t, c).1 = .string Z by rw [← hZ]; rfl, show (((t, c) : Lb.Bytes × Nat).2 : Int) = (c : Int) from rfl]
    have hq1 : (Z.toList == Z.toList) = true := by simp
    have hq2 : ((c : Int) == (c : Int)) = true := by simp
    clear hZ
    go_wp2_with fail
    go_ret
    exact ⟨ret_bool (by first | rfl | simp), hb8⟩

set_option maxRecDepth 20000 in
set_option maxHeartbeats 16000000 in
theorem nameCapitals_some (s : ByteArray) (hs : s.size ≤ maxLen) (hz0 : 0 < s.size) (w : World) (hT : Tabs w) :
    Calls Tryd.prog 6 #[.string s] w fun e w' => e = .returned (.bool true) ∧ Below w.heap.size w w' := by
  unfold maxLen at hs
  go_enter Tryd.func6, Tryd.ntmps6
  go_wp2_with fail
  refine (fit_any w hT).mono ?_
  rintro e w1 ⟨rfl, hb1⟩
  by_cases h900 : 900 < s.size
  · have h1 : (900 : Int) < (s.size : Int) := by omega
    go_wp2_with fail
    go_ret
    exact ⟨rfl, hb1⟩
  have h1 : ¬ (900 : Int) < (s.size : Int) := by omega
  by_cases hdot : ∃ h : 0 < s.size, s[s.size - 1].toNat = 46
  · obtain ⟨hp, hd⟩ := hdot
    have hXe : s.toList.isEmpty = false := by rw [empty_iff, decide_eq_false (by omega)]
    have h2 : ((s[s.size - 1].toNat : Int) == 46) = true := by simp; omega
    go_wp2_with fail
    go_ret
    exact ⟨rfl, hb1⟩
  have hsuf : Lib.hasSuffix s.data.toList [46] = false := by
    rcases Nat.eq_zero_or_pos s.size with e | e
    · exact suf_empty (List.eq_nil_of_length_eq_zero e)
    · refine suf_last ?_
      show (s.data.toList.getD (s.size - 1) 0).toNat ≠ 46
      have hbz : s.data.toList.getD (s.size - 1) 0 = s[s.size - 1] := by rw [List.getD_eq_getElem?_getD, byte_at s (s.size - 1) (by omega)]; rfl
      rw [hbz]; exact fun h => hdot ⟨e, h⟩
  obtain ⟨LA, LB⟩ := Nm.nameCapitals_law (s := s.data.toList) (by show s.size ≤ 900; omega) hsuf
  have HLA := Lib.hid LA
  have HLB := Lib.hid LB
  have HT1 := Lib.hid (hT.below hb1 (Nat.le_refl _))
  obtain ⟨cap, hcap⟩ : ∃ cap, grownCap w1 s.size 0 5 = cap := ⟨_, rfl⟩
  have hge : s.size ≤ cap := by rw [← hcap]; exact grownCap_ge w1 s.size 0 5
  have hconv := run_bytes_of_string (P := Tryd.prog) w1 9 32 5 s Tryd.underlying9 Tryd.underlying32 Tryd.underlying5
  rw [hcap] at hconv
  obtain ⟨W1, hW1⟩ : ∃ W1, w1.drew.alloc (.cells (bytesRow s cap) 5 ((bytesRow s cap).size, (bytesRow s cap).size + 1)) = W1 := ⟨_, rfl⟩
  rw [hW1] at hconv
  have hblk : BytesBlk W1 w1.heap.size (upTo s.data.toList 0) (bytesRow s cap).size := by
    rw [upTo_zero]
    refine ⟨bytesRow s cap, by rw [← hW1]; exact heap_alloc_new w1.drew _, by simp [bytesRow], ?_⟩
    intro j hj
    have hj' : j < s.data.size := by simpa using hj
    rw [bytesRow_at s cap j hj']
    simp [List.getD_eq_getElem?_getD, Array.getElem?_eq_getElem hj']
  have hbel : Below w1.heap.size w1 W1 := by rw [← hW1]; exact ((Below.refl _ _).drew).alloc (Nat.le_refl _) _
  clear hcap hW1 LA LB hT hsuf
  generalize (bytesRow s cap).size = M at hblk
  have HEMP : Hid (∀ h : 0 < s.size, s[s.size - 1].toNat ≠ 46) := fun h e => hdot ⟨h, e⟩
  clear hdot
  have hXe : s.toList.isEmpty = false := by rw [empty_iff, decide_eq_false (by omega)]
  have h2 : ((s[s.size - 1].toNat : Int) == 46) = false := by have := HEMP.out hz0; simp; omega
  go_wp2_with fail
  clear hconv
  go_loopw [33] (fun i wr => ∃ k : Nat, k ≤ s.size ∧ i = .int .i64 k ∧ BytesBlk wr w1.heap.size (upTo s.data.toList k) M ∧ Below w1.heap.size w1 wr) (fun i _ => s.size - (intOf i).toNat)
  case atStart => exact ⟨0, Nat.zero_le _, rfl, hblk, hbel⟩
  case round =>
    clear hblk hbel
    obtain ⟨k, hk, rfl, hblk, hbel⟩ := hrel
    have hlen : (upTo s.data.toList k).length = s.size := upTo_length _ _
    by_cases hlt : k < s.size
    · have hcell := hblk.cell k (by omega)
      rw [upTo_get _ _ (by exact hlt)] at hcell
      have hfree := hblk.free k (by omega)
      have hc256 := getD_lt s.data.toList k
      have HS := Lib.hid (upTo_step s.data.toList k hlt)
      have HK := Lib.hid (upTo_same s.data.toList k hlt)
      obtain ⟨c, hc⟩ : ∃ c, s.data.toList.getD k 0 = c := ⟨_, rfl⟩
      rw [hc] at hcell hc256 HS HK
      have hset := fun x => hblk.set k (by omega) x
      have HSET := Lib.hid hset
      have HB := Lib.hid hblk
      clear hset hblk hlen hc
      by_cases hup : 97 ≤ c.toNat ∧ c.toNat ≤ 122
      · have hlow : Nm.upB c = c - 32 := by unfold Nm.upB; rw [if_pos hup]
        have hnum : ((c - 32 : UInt8).toNat : Int) = (c.toNat : Int) - 32 := by
          have h32 : (32 : UInt8).toNat = 32 := rfl
          rw [UInt8.toNat_sub_of_le _ _ (by rw [UInt8.le_iff_toNat_le]; omega)]; omega
        have HL := Lib.hid hlow
        have HN := Lib.hid hnum
        have h3 : (97 : Int) ≤ (c.toNat : Int) := by omega
        have h4 : (c.toNat : Int) ≤ 122 := by omega
        clear hlow hnum hup
        go_wp2_with fail
        go_roundw
        case rel =>
          refine ⟨k + 1, by omega, by go_num, ?_, hbel.setCell (by simp) _⟩
          have := HSET.out (c - 32)
          rw [HN.out] at this
          rw [HS.out, HL.out]
          exact this
        case measure => simp [intOf]; omega
      · have hlow : Nm.upB c = c := by unfold Nm.upB; rw [if_neg hup]
        have HL := Lib.hid hlow
        have h3 : (c.toNat : Int) < 97 ∨ 122 < (c.toNat : Int) := by omega
        clear hlow hup
        rcases h3 with h3 | h3
        · go_wp2_with fail
          go_roundw
          case rel => exact ⟨k + 1, by omega, by go_num, by rw [HK.out HL.out]; exact HB.out, hbel⟩
          case measure => simp [intOf]; omega
        · have h4 : (97 : Int) ≤ (c.toNat : Int) := by omega
          go_wp2_with fail
          go_roundw
          case rel => exact ⟨k + 1, by omega, by go_num, by rw [HK.out HL.out]; exact HB.out, hbel⟩
          case measure => simp [intOf]; omega
    · have hend := upTo_end s.data.toList k (by show s.size ≤ k; omega)
      have hbk := fun (wx : World) (hbx : Below wr.heap.size wr wx) => run_convert_bytes_back (P := Tryd.prog) wx 32 9 5 ⟨w1.heap.size, 0, none⟩ cap (upTo s.data.toList k) Tryd.underlying32 Tryd.underlying5 Tryd.underlying9 (fun j hj => by
        have h := hblk.cell j hj
        rw [List.getD_eq_getElem?_getD, List.getElem?_eq_getElem hj] at h
        rw [show (⟨w1.heap.size, 0, none⟩ : Addr).add j = ⟨w1.heap.size, j, none⟩ by unfold Addr.add; split <;> simp_all]
        exact (hbx.cell (p := ⟨w1.heap.size, j, none⟩) (World.block_lt_of_cell? wr _ h)).trans h)
      rw [hlen, hend] at hbk
      have HBK := Lib.hid hbk
      have HTr := Lib.hid (HT1.out.below hbel (Nat.le_refl _))
      have hb2 := below_chain hb1 hbel (Nat.le_refl _)
      clear hend hlen hblk hbk
      go_wp2_with fail
      refine (toASCII_any s wr HTr.out (by omega)).mono ?_
      rintro e w2 ⟨rfl, hb3⟩
      have hb4 := below_chain hb2 hb3 (Nat.le_refl _)
      have hcv := HBK.out w2 hb3
      have HT2 := Lib.hid (HTr.out.below hb3 (Nat.le_refl _))
      obtain ⟨r, hr⟩ : ∃ r, Nm.toASCII s.data.toList = r := ⟨_, rfl⟩
      rw [hr] at HLA HLB ⊢
      obtain ⟨U, hU⟩ : ∃ U, Lb.str (s.data.toList.map Nm.upB) = U := ⟨_, rfl⟩
      have hUd : U.data.toList = s.data.toList.map Nm.upB := by rw [← hU]; rfl
      have hUs : U.size ≤ 900 := by rw [← hU]; show (s.data.toList.map Nm.upB).length ≤ 900; rw [List.length_map]; show s.size ≤ 900; omega
      have hcv2 : (convert 32 9 (.slice (some ⟨w1.heap.size, 0, none⟩) s.size cap)).run Tryd.prog w2 = .ok (.string U) w2 := by rw [← hU]; exact hcv
      have HUD := Lib.hid hUd
      clear hcv hU hUd hr
      go_wp2_with fail
      refine (toASCII_any U w2 HT2.out (by omega)).mono ?_
      rintro e w3 ⟨rfl, hb5⟩
      rw [HUD.out, HLA.out]
      clear hcv2
      have hb6 := below_chain hb4 hb5 (Nat.le_refl _)
      have HT3 := Lib.hid (HT2.out.below hb5 (Nat.le_refl _))
      have hs900 : s.size ≤ 900 := by omega
      have hdt : (s ++ ⟨#[46]⟩).data.toList = s.data.toList ++ [46] := by simp [ByteArray.data_append]
      have hds : (s ++ ⟨#[46]⟩).size ≤ 1000000 := by rw [ByteArray.size_append]; have : (⟨#[46]⟩ : ByteArray).size = 1 := rfl; omega
      have HDT := Lib.hid hdt
      have HDS := Lib.hid hds
      clear hdt hds
      go_wp2_with fail
      with_reducible refine (toASCII_any _ w3 HT3.out ?_).mono ?_
      · with_reducible exact HDS.out
      rintro e w4 ⟨rfl, hb7⟩
      rw [HDT.out, HLB.out]
      have hb8 := below_chain hb6 hb7 (Nat.le_refl _)
      obtain ⟨t, c⟩ := r
      obtain ⟨Z, hZ⟩ : ∃ Z, Lb.str t = Z := ⟨_, rfl⟩
      rw [show Lb.strV (t, c).1 = .string Z by rw [← hZ]; rfl, show (((t, c) : Lb.Bytes × Nat).2 : Int) = (c : Int) from rfl]
      have hq1 : (Z.toList == Z.toList) = true := by simp
      have hq2 : ((c : Int) == (c : Int)) = true := by simp
      clear hZ
      go_wp2_with fail
      go_ret
      exact ⟨ret_bool (by first | rfl | simp), hb8⟩

theorem nameCapitals_any (s : ByteArray) (hs : s.size ≤ maxLen) (w : World) (hT : Tabs w) :
    Calls Tryd.prog 6 #[.string s] w fun e w' => e = .returned (.bool true) ∧ Below w.heap.size w w' := by
  rcases Nat.eq_zero_or_pos s.size with e | e
  · exact nameCapitals_empty s e w hT
  · exact nameCapitals_some s hs e w hT
end Go.Proofs.YtlojfbmngippaaaDoor
