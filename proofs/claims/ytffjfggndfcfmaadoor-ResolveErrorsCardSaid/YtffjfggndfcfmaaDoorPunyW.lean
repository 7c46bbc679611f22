/- The walks of package puny's small functions: threshold, value, digit, adapt, number. -/
import Derived.Test.YtffjfggndfcfmaaDoorPuny
import Derived.Test.YtffjfggndfcfmaaDoorKit
import Derived.Test.YtffjfggndfcfmaaDoorProg
namespace Go.Proofs.YtffjfggndfcfmaaDoor
open Go.RowKit

theorem threshold_int (k b : Int) (hk : 0 ≤ k) (hb : 0 ≤ b) : min (max (k - b) 1) 26 = ((Pu.threshold k.toNat b.toNat : Nat) : Int) := by
  unfold Pu.threshold; omega
set_option maxHeartbeats 400000 in
theorem threshold_any (k b : Int) (w : World) (hk : 0 ≤ k) (hk2 : k ≤ 1000000) (hb : 0 ≤ b) (hb2 : b ≤ 1000000) :
    Calls Tryd.prog 74 #[.int .i64 k, .int .i64 b] w fun e w' => e = .returned (.int .i64 (Pu.threshold k.toNat b.toNat : Nat)) ∧ w = w' := by
  have H := Lib.hid (threshold_int k b hk hb)
  rcases (show k - b < 1 ∨ (1 ≤ k - b ∧ k - b ≤ 26) ∨ 26 < k - b by omega) with h | ⟨h1, h2⟩ | h
  all_goals
    go_enter Tryd.func74, Tryd.ntmps74
    go_wp2
    all_goals first
      | (go_ret; exact ⟨ret_int (by have := H.out; omega), rfl⟩)
      | (exfalso; split at * <;> omega)

theorem value_cases (c : UInt8) : (97 ≤ c.toNat ∧ c.toNat ≤ 122 ∧ Pu.value c = c.toNat - 97) ∨ (65 ≤ c.toNat ∧ c.toNat ≤ 90 ∧ Pu.value c = c.toNat - 65) ∨ (48 ≤ c.toNat ∧ c.toNat ≤ 57 ∧ Pu.value c = c.toNat - 48 + 26) ∨
    ((c.toNat < 48 ∨ (57 < c.toNat ∧ c.toNat < 65) ∨ (90 < c.toNat ∧ c.toNat < 97) ∨ 122 < c.toNat) ∧ Pu.value c = 36) := by
  unfold Pu.value
  repeat' split
  all_goals omega
set_option maxRecDepth 20000 in
set_option maxHeartbeats 400000 in
theorem value_any (c : UInt8) (w : World) :
    Calls Tryd.prog 73 #[.int .u8 (c.toNat : Int)] w fun e w' => e = .returned (.int .i64 (Pu.value c : Nat)) ∧ w = w' := by
  have h256 : (c.toNat : Int) < 256 := by have := c.toNat_lt; omega
  have HV := value_cases c
  generalize Pu.value c = V at HV ⊢
  generalize c.toNat = n at HV h256 ⊢
  rcases HV with ⟨h1, h2, h3⟩ | ⟨h1, h2, h3⟩ | ⟨h1, h2, h3⟩ | ⟨h1, h3⟩
  · have H := Lib.hid h3; clear h3
    have g1 : (97 : Int) ≤ n := by omega
    have g2 : (n : Int) ≤ 122 := by omega
    go_enter Tryd.func73, Tryd.ntmps73
    go_wp2
    go_ret
    exact ⟨ret_int (by have := H.out; omega), rfl⟩
  · have H := Lib.hid h3; clear h3
    have g1 : (65 : Int) ≤ n := by omega
    have g2 : (n : Int) ≤ 90 := by omega
    have g3 : (n : Int) < 97 := by omega
    go_enter Tryd.func73, Tryd.ntmps73
    go_wp2
    go_ret
    exact ⟨ret_int (by have := H.out; omega), rfl⟩
  · have H := Lib.hid h3; clear h3
    have g1 : (48 : Int) ≤ n := by omega
    have g2 : (n : Int) ≤ 57 := by omega
    have g3 : (n : Int) < 65 := by omega
    have g4 : (n : Int) < 97 := by omega
    go_enter Tryd.func73, Tryd.ntmps73
    go_wp2
    go_ret
    exact ⟨ret_int (by have := H.out; omega), rfl⟩
  · have H := Lib.hid h3; clear h3
    rcases h1 with h | ⟨h, h'⟩ | ⟨h, h'⟩ | h
    all_goals
      go_enter Tryd.func73, Tryd.ntmps73
      go_wp2
      go_ret
      exact ⟨ret_int (by have := H.out; omega), rfl⟩

set_option maxHeartbeats 400000 in
theorem digit_any (d : Int) (w : World) (h0 : 0 ≤ d) (h1 : d < 36) :
    Calls Tryd.prog 76 #[.int .i64 d] w fun e w' => e = .returned (.int .u8 ((Pu.digit d.toNat).toNat : Nat)) ∧ w = w' := by
  have H := Lib.hid (Pu.digit_toNat d.toNat (by omega))
  by_cases h : d < 26
  · go_enter Tryd.func76, Tryd.ntmps76
    go_wp2
    go_ret
    refine ⟨ret_int ?_, rfl⟩
    have := H.out
    rw [this, if_pos (by omega)]
    omega
  · go_enter Tryd.func76, Tryd.ntmps76
    go_wp2
    go_ret
    refine ⟨ret_int ?_, rfl⟩
    have := H.out
    rw [this, if_neg (by omega)]
    omega

/-- Behind the loop. -/
def adaptEnd (r : Nat × Nat) : Nat := r.2 + 36 * r.1 / (r.1 + 38)
theorem pow8 : 455 * 35 ^ 8 = 1024603302734375 := by decide
theorem div_step {x g : Nat} (h : x ≤ 455 * 35 ^ (g + 1)) : x / 35 ≤ 455 * 35 ^ g := by
  have e : 35 ^ (g + 1) = 35 ^ g * 35 := rfl
  have : x ≤ (455 * 35 ^ g) * 35 := by rw [e, ← Nat.mul_assoc] at h; exact h
  omega
theorem adapt_eq (delta n : Nat) (start : Bool) (hd : delta ≤ 1099511627776) :
    Pu.adapt delta n start = adaptEnd (Pu.adaptLoop 8 ((if start = true then delta / 700 else delta / 2) + (if start = true then delta / 700 else delta / 2) / n) 0) := by
  unfold Pu.adapt
  have h0 : (if start = true then delta / 700 else delta / 2) ≤ 1099511627776 := by split <;> omega
  generalize (if start = true then delta / 700 else delta / 2) = d0 at h0 ⊢
  have h1 := Nat.div_le_self d0 n
  have hm := Pu.adaptLoop_more 8 56 (d0 + d0 / n) 0 (by rw [pow8]; omega)
  show adaptEnd (Pu.adaptLoop (8 + 56) (d0 + d0 / n) 0) = _
  rw [hm]
theorem adapt_d_false (delta n : Int) (h0 : 0 ≤ delta) (h2 : 1 ≤ n) : ((delta.toNat / 2 + delta.toNat / 2 / n.toNat : Nat) : Int) = delta / 2 + delta / 2 / n := by
  obtain ⟨D, rfl⟩ := Int.eq_ofNat_of_zero_le h0
  obtain ⟨N, rfl⟩ := Int.eq_ofNat_of_zero_le (show 0 ≤ n by omega)
  rw [Int.toNat_natCast, Int.toNat_natCast, Int.natCast_add, Int.natCast_ediv, Int.natCast_ediv]
  rfl
set_option maxRecDepth 20000 in
set_option maxHeartbeats 400000 in
theorem adapt_false (delta n : Int) (w : World) (h0 : 0 ≤ delta) (h1 : delta ≤ 1099511627776) (h2 : 1 ≤ n) (h3 : n ≤ 1000000) :
    Calls Tryd.prog 64 #[.int .i64 delta, .int .i64 n, .bool false] w fun e w' => e = .returned (.int .i64 (Pu.adapt delta.toNat n.toNat false : Nat)) ∧ w = w' := by
  rw [adapt_eq delta.toNat n.toNat false (by omega)]
  have hd : (if false = true then delta.toNat / 700 else delta.toNat / 2) = delta.toNat / 2 := by rfl
  rw [hd]
  have HD1 := Lib.hid (adapt_d_false delta n h0 h2)
  have a1 : delta / 2 + delta / 2 / n ≤ 1099511627776 := by
    have : delta / 2 / n ≤ delta / 2 := Int.ediv_le_self n (by omega)
    omega
  have p1 : 0 ≤ delta / 2 / n := Int.ediv_nonneg (by omega) (by omega)
  obtain ⟨d1, hd1⟩ : ∃ d1, delta.toNat / 2 + delta.toNat / 2 / n.toNat = d1 := ⟨_, rfl⟩
  rw [hd1] at HD1 ⊢
  have hd4 : d1 ≤ 1024603302734375 := by have := HD1.out; omega
  have HD2 : Hid (d1 ≤ 455 * 35 ^ 8) := by show d1 ≤ 455 * 35 ^ 8; rw [pow8]; exact hd4
  obtain ⟨R, hR⟩ : ∃ R, adaptEnd (Pu.adaptLoop 8 d1 0) = R := ⟨_, rfl⟩
  rw [hR]
  have HR := Lib.hid hR
  clear hd1 hd hR
  go_enter Tryd.func64, Tryd.ntmps64
  go_wp2
  go_loop [0, 7] (fun d k => ∃ (f x y : Nat), d = .int .i64 x ∧ k = .int .i64 y ∧ x ≤ 1024603302734375 ∧ y + 36 * f ≤ 288 ∧ Hid (x ≤ 455 * 35 ^ f) ∧ Hid (adaptEnd (Pu.adaptLoop f x y) = R)) (fun d _ => (intOf d).toNat)
  case atStart => exact ⟨8, d1, 0, by rw [HD1.out], rfl, hd4, by omega, HD2, HR⟩
  case round =>
    clear HR HD2 hd4 HD1 a1 p1
    obtain ⟨f, x, y, rfl, rfl, hx, hy, HX, HR⟩ := hrel
    by_cases hlt : 455 < x
    · obtain ⟨g, rfl⟩ : ∃ g, f = g + 1 := by
        cases f with
        | zero => have := HX.out; simp at this; omega
        | succ g => exact ⟨g, rfl⟩
      have HX' : Hid (x / 35 ≤ 455 * 35 ^ g) := div_step HX.out
      have HR' : Hid (adaptEnd (Pu.adaptLoop g (x / 35) (y + 36)) = R) := by
        have := HR.out
        unfold Pu.adaptLoop at this
        rw [if_pos hlt] at this
        exact this
      have hl : (455 : Int) < (x : Int) := by omega
      clear HX HR
      go_wp2
      go_round
      case rel => exact ⟨g, x / 35, y + 36, by go_num, by go_num, by omega, by omega, HX', HR'⟩
      case measure => simp [intOf]; omega
    · have HR' : Hid (adaptEnd (x, y) = R) := by
        have := HR.out
        cases f with
        | zero => exact this
        | succ g =>
          unfold Pu.adaptLoop at this
          rw [if_neg hlt] at this
          exact this
      have hq : 0 ≤ 36 * (x : Int) / ((x : Int) + 38) := Int.ediv_nonneg (by omega) (by omega)
      have hq2 : 36 * (x : Int) / ((x : Int) + 38) ≤ 36 * (x : Int) := Int.ediv_le_self _ (by omega)
      go_wp2
      go_ret
      refine ⟨ret_int ?_, rfl⟩
      rw [← HR'.out]
      unfold adaptEnd
      push_cast
      rfl

theorem adapt_d_true (delta n : Int) (h0 : 0 ≤ delta) (h2 : 1 ≤ n) : ((delta.toNat / 700 + delta.toNat / 700 / n.toNat : Nat) : Int) = delta / 700 + delta / 700 / n := by
  obtain ⟨D, rfl⟩ := Int.eq_ofNat_of_zero_le h0
  obtain ⟨N, rfl⟩ := Int.eq_ofNat_of_zero_le (show 0 ≤ n by omega)
  rw [Int.toNat_natCast, Int.toNat_natCast, Int.natCast_add, Int.natCast_ediv, Int.natCast_ediv]
  rfl
set_option maxRecDepth 20000 in
set_option maxHeartbeats 400000 in
theorem adapt_true (delta n : Int) (w : World) (h0 : 0 ≤ delta) (h1 : delta ≤ 1099511627776) (h2 : 1 ≤ n) (h3 : n ≤ 1000000) :
    Calls Tryd.prog 64 #[.int .i64 delta, .int .i64 n, .bool true] w fun e w' => e = .returned (.int .i64 (Pu.adapt delta.toNat n.toNat true : Nat)) ∧ w = w' := by
  rw [adapt_eq delta.toNat n.toNat true (by omega)]
  have hd : (if true = true then delta.toNat / 700 else delta.toNat / 2) = delta.toNat / 700 := by rfl
  rw [hd]
  have HD1 := Lib.hid (adapt_d_true delta n h0 h2)
  have a1 : delta / 700 + delta / 700 / n ≤ 1099511627776 := by
    have : delta / 700 / n ≤ delta / 700 := Int.ediv_le_self n (by omega)
    omega
  have p1 : 0 ≤ delta / 700 / n := Int.ediv_nonneg (by omega) (by omega)
  obtain ⟨d1, hd1⟩ : ∃ d1, delta.toNat / 700 + delta.toNat / 700 / n.toNat = d1 := ⟨_, rfl⟩
  rw [hd1] at HD1 ⊢
  have hd4 : d1 ≤ 1024603302734375 := by have := HD1.out; omega
  have HD2 : Hid (d1 ≤ 455 * 35 ^ 8) := by show d1 ≤ 455 * 35 ^ 8; rw [pow8]; exact hd4
  obtain ⟨R, hR⟩ : ∃ R, adaptEnd (Pu.adaptLoop 8 d1 0) = R := ⟨_, rfl⟩
  rw [hR]
  have HR := Lib.hid hR
  clear hd1 hd hR
  go_enter Tryd.func64, Tryd.ntmps64
  go_wp2
  go_loop [0, 7] (fun d k => ∃ (f x y : Nat), d = .int .i64 x ∧ k = .int .i64 y ∧ x ≤ 1024603302734375 ∧ y + 36 * f ≤ 288 ∧ Hid (x ≤ 455 * 35 ^ f) ∧ Hid (adaptEnd (Pu.adaptLoop f x y) = R)) (fun d _ => (intOf d).toNat)
  case atStart => exact ⟨8, d1, 0, by rw [HD1.out], rfl, hd4, by omega, HD2, HR⟩
  case round =>
    clear HR HD2 hd4 HD1 a1 p1
    obtain ⟨f, x, y, rfl, rfl, hx, hy, HX, HR⟩ := hrel
    by_cases hlt : 455 < x
    · obtain ⟨g, rfl⟩ : ∃ g, f = g + 1 := by
        cases f with
        | zero => have := HX.out; simp at this; omega
        | succ g => exact ⟨g, rfl⟩
      have HX' : Hid (x / 35 ≤ 455 * 35 ^ g) := div_step HX.out
      have HR' : Hid (adaptEnd (Pu.adaptLoop g (x / 35) (y + 36)) = R) := by
        have := HR.out
        unfold Pu.adaptLoop at this
        rw [if_pos hlt] at this
        exact this
      have hl : (455 : Int) < (x : Int) := by omega
      clear HX HR
      go_wp2
      go_round
      case rel => exact ⟨g, x / 35, y + 36, by go_num, by go_num, by omega, by omega, HX', HR'⟩
      case measure => simp [intOf]; omega
    · have HR' : Hid (adaptEnd (x, y) = R) := by
        have := HR.out
        cases f with
        | zero => exact this
        | succ g =>
          unfold Pu.adaptLoop at this
          rw [if_neg hlt] at this
          exact this
      have hq : 0 ≤ 36 * (x : Int) / ((x : Int) + 38) := Int.ediv_nonneg (by omega) (by omega)
      have hq2 : 36 * (x : Int) / ((x : Int) + 38) ≤ 36 * (x : Int) := Int.ediv_le_self _ (by omega)
      go_wp2
      go_ret
      refine ⟨ret_int ?_, rfl⟩
      rw [← HR'.out]
      unfold adaptEnd
      push_cast
      rfl

theorem adapt_any (delta n : Int) (start : Bool) (w : World) (h0 : 0 ≤ delta) (h1 : delta ≤ 1099511627776) (h2 : 1 ≤ n) (h3 : n ≤ 1000000) :
    Calls Tryd.prog 64 #[.int .i64 delta, .int .i64 n, .bool start] w fun e w' => e = .returned (.int .i64 (Pu.adapt delta.toNat n.toNat start : Nat)) ∧ w = w' := by
  cases start
  · exact adapt_false delta n w h0 h1 h2 h3
  · exact adapt_true delta n w h0 h1 h2 h3

def byteV (c : UInt8) : Value := .int .u8 (c.toNat : Int)
theorem byte_info : (Tryd.prog.info? 5).map (fun i => (i.zero, i.size, i.bytes)) = some (some (.int .u8 0), 1, 1) := by kernel_rfl
theorem number_length_le : ∀ (f q k bias : Nat), (Pu.number f q k bias).length ≤ f
  | 0, _, _, _ => by simp [Pu.number]
  | f + 1, q, k, bias => by
    unfold Pu.number
    split
    · simp
    · simp only [List.length_cons]
      have := number_length_le f ((q - Pu.threshold k bias) / (36 - Pu.threshold k bias)) (k + 36) bias
      omega
theorem number_end {f x y b t : Nat} (ht : Pu.threshold y b = t) (h : x < t) : Pu.number (f + 1) x y b = [Pu.digit x] := by
  unfold Pu.number; rw [if_pos (by omega)]
theorem number_on {f x y b t : Nat} (ht : Pu.threshold y b = t) (h : t ≤ x) : Pu.number (f + 1) x y b = Pu.digit (t + (x - t) % (36 - t)) :: Pu.number f ((x - t) / (36 - t)) (y + 36) b := by
  conv => lhs; unfold Pu.number
  rw [if_neg (by omega), ht]
theorem pow_step {x t g : Nat} (ht : t ≤ 26) (h : x < 10 ^ (g + 1)) : (x - t) / (36 - t) < 10 ^ g := by
  rw [Nat.div_lt_iff_lt_mul (by omega)]
  have e3 : 10 ^ (g + 1) = 10 ^ g * 10 := rfl
  have h3 : 10 ^ g * 10 ≤ 10 ^ g * (36 - t) := Nat.mul_le_mul_left _ (by omega)
  omega

set_option maxRecDepth 20000 in
set_option maxHeartbeats 1000000 in
theorem number_any (B : Nat) (v : Value) (l : Lb.Bytes) (q b : Nat) (w : World) (hown : w.ownsRow B 5 1 v l.length (l.map byteV)) (hB : B ≤ w.heap.size) (hl : l.length ≤ 1000000) (hq : q ≤ 1099511627776) (hb : b ≤ 100000) :
    Calls Tryd.prog 63 #[v, .int .i64 q, .int .i64 b] w fun e w' => ∃ v', e = .returned v' ∧ w'.ownsRow B 5 1 v' (l ++ Pu.number 64 q 36 b).length ((l ++ Pu.number 64 q 36 b).map byteV) ∧ Below B w w' := by
  obtain ⟨i0, hi, hz0, hz1, hz2⟩ := info_parts byte_info
  have hT : (l ++ Pu.number 64 q 36 b).length ≤ 1000064 := by
    have := number_length_le 64 q 36 b
    rw [List.length_append]; omega
  obtain ⟨T, hTe⟩ : ∃ T, l ++ Pu.number 64 q 36 b = T := ⟨_, rfl⟩
  have HE : Hid (l ++ Pu.number (63 + 1) q 36 b = T) := hTe
  have HP : Hid (q < 10 ^ 63) := by
    show q < 10 ^ 63
    have e : (1099511627776 : Nat) < 10 ^ 63 := by decide
    omega
  rw [hTe] at hT ⊢
  clear hTe
  go_enter Tryd.func63, Tryd.ntmps63
  go_wp2
  go_loopw [0, 1, 7] (fun v x y wr => ∃ (f q' k' : Nat) (l' : Lb.Bytes), x = .int .i64 q' ∧ y = .int .i64 k' ∧ wr.ownsRow B 5 1 v l'.length (l'.map byteV) ∧ Below B w wr ∧ k' + 36 * f ≤ 2304 ∧ q' ≤ 1099511627776 ∧ l'.length ≤ 1000064 ∧ Hid (l' ++ Pu.number (f + 1) q' k' b = T) ∧ Hid (q' < 10 ^ f))
    (fun _ x _ _ => (intOf x).toNat)
  case atStart => exact ⟨63, q, 36, l, rfl, rfl, hown, Below.refl _ _, by omega, hq, by omega, HE, HP⟩
  case round =>
    clear HE HP hown hq hl
    obtain ⟨f, x, y, l', rfl, rfl, hown, hbel, hk, hq, hl, HE, HP⟩ := hrel
    have hbs : B ≤ wr.heap.size := Nat.le_trans hB hbel.size
    go_wp2_with fail
    refine (threshold_any (y : Int) (b : Int) wr (by omega) (by omega) (by omega) (by omega)).mono ?_
    rintro e w1 ⟨rfl, rfl⟩
    simp only [Int.toNat_natCast]
    have htb := Pu.threshold_bd y b
    obtain ⟨t, ht⟩ : ∃ t, Pu.threshold y b = t := ⟨_, rfl⟩
    rw [ht] at htb ⊢
    have HT := Lib.hid ht
    clear ht
    by_cases hlt : x < t
    · have hlt' : (x : Int) < (t : Int) := by omega
      have HE2 : Hid (l' ++ [Pu.digit x] = T) := by have := HE.out; rw [number_end HT.out hlt] at this; exact this
      clear HE HP HT hlt
      go_wp2_with fail
      refine (digit_any (x : Int) wr (by omega) (by omega)).mono ?_
      rintro e w1 ⟨rfl, rfl⟩
      simp only [Int.toNat_natCast]
      go_wp2_with (at_builtin; refine wpList_append_own _ rfl (.tmp 17) (.tmp 20) 54 rfl B 5 i0 (.int .u8 0) 1 1 Tryd.underlying54 hi hz0 hz1 hz2 rfl (by decide) _ _ _ rfl (hown.alloc _) ⟨wr.heap.size, 0, none⟩ 1 1 [.int .u8 ((Pu.digit x).toNat : Int)] rfl rfl (cell_one_new _ _ _) (by simp [Value.oneCell']) (by unfold maxLen; omega) (by omega) (by simp; omega) ?_; intro v' w1 hown' hgrow _)
      go_ret
      refine ⟨v', rfl, ?_, (hbel.alloc hbs _).grown hgrow (by simp; omega) (fun g hg => own_base_le hown hg)⟩
      rw [← HE2.out, List.length_append, List.map_append]
      exact hown'
    · have hge : (t : Int) ≤ (x : Int) := by omega
      obtain ⟨g, rfl⟩ : ∃ g, f = g + 1 := by
        cases f with
        | zero => have := HP.out; simp at this; omega
        | succ g => exact ⟨g, rfl⟩
      have HP2 : Hid ((x - t) / (36 - t) < 10 ^ g) := pow_step htb.2 HP.out
      obtain ⟨d, hd⟩ : ∃ d, Pu.digit (t + (x - t) % (36 - t)) = d := ⟨_, rfl⟩
      obtain ⟨x', hx'⟩ : ∃ x', (x - t) / (36 - t) = x' := ⟨_, rfl⟩
      have hxi : ((x : Int) - t) / (36 - t) = (x' : Int) := by
        rw [← hx']
        have e1 : ((x - t : Nat) : Int) = (x : Int) - t := by omega
        have e2 : ((36 - t : Nat) : Int) = 36 - (t : Int) := by omega
        rw [Int.natCast_ediv, e1, e2]
      have hxm : ((x : Int) - t) % (36 - t) = ((x - t) % (36 - t) : Nat) := by
        have e1 : ((x - t : Nat) : Int) = (x : Int) - t := by omega
        have e2 : ((36 - t : Nat) : Int) = 36 - (t : Int) := by omega
        rw [Int.natCast_emod, e1, e2]
      have hml : (x - t) % (36 - t) < 36 - t := Nat.mod_lt _ (by omega)
      have hdm : ((x : Int) - t) % (36 - t) ≤ 35 - t := by rw [hxm]; omega
      have hdm0 : 0 ≤ ((x : Int) - t) % (36 - t) := by rw [hxm]; omega
      have hxx : x' ≤ x - t := by rw [← hx']; exact Nat.div_le_self _ _
      have HE2 : Hid ((l' ++ [d]) ++ Pu.number (g + 1) x' (y + 36) b = T) := by
        have := HE.out
        rw [number_on HT.out (by omega), hd, hx'] at this
        show _ = _
        rw [← this]; simp
      rw [hx'] at HP2
      have HXI := Lib.hid hxi
      have HXM := Lib.hid hxm
      have HD := Lib.hid hd
      clear HE HP HT hlt hxi hxm hd hx' hml
      go_wp2_with fail
      refine (digit_any ((t : Int) + ((x : Int) - t) % (36 - t)) wr (by omega) (by omega)).mono ?_
      rintro e w1 ⟨rfl, rfl⟩
      have hdd : Pu.digit ((t : Int) + ((x : Int) - t) % (36 - t)).toNat = d := by
        rw [← HD.out, HXM.out]; congr 1
      rw [hdd]
      clear hdd
      go_wp2_with (at_builtin; refine wpList_append_own _ rfl (.tmp 22) (.tmp 32) 54 rfl B 5 i0 (.int .u8 0) 1 1 Tryd.underlying54 hi hz0 hz1 hz2 rfl (by decide) _ _ _ rfl (hown.alloc _) ⟨wr.heap.size, 0, none⟩ 1 1 [.int .u8 (d.toNat : Int)] rfl rfl (cell_one_new _ _ _) (by simp [Value.oneCell']) (by unfold maxLen; omega) (by omega) (by simp; omega) ?_; intro v' w1 hown' hgrow _)
      have hb' : Below B w w1 := (hbel.alloc hbs _).grown hgrow (by simp; omega) (fun g hg => own_base_le hown hg)
      have hown2 : w1.ownsRow B 5 1 v' (l' ++ [d]).length ((l' ++ [d]).map byteV) := by rw [List.length_append, List.map_append]; exact hown'
      have H2 := Lib.hid hown2
      have hl2 : (l' ++ [d]).length ≤ 1000064 := by
        have := congrArg List.length HE2.out
        rw [List.length_append] at this
        omega
      have HL2 := Lib.hid hl2
      clear hown' hown2 hgrow hown hl2
      go_wp2
      go_roundw
      case rel => exact ⟨g, x', y + 36, l' ++ [d], by rw [HXI.out], by go_num, H2.out, hb', by omega, by omega, HL2.out, HE2, HP2⟩
      case measure => simp only [intOf, HXI.out]; omega
end Go.Proofs.YtffjfggndfcfmaaDoor
