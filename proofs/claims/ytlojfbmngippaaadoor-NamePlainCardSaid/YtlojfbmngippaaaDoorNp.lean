/- NamePlain and NameRunes in plain Lean. No program. -/
import Derived.Test.YtlojfbmngippaaaDoorNt
namespace Go.Proofs.YtlojfbmngippaaaDoor
namespace Nm

/-! ### a name of ASCII -/
theorem lowerB_byteOk (c : UInt8) : byteOk (Lb.lowerB c).toNat = byteOk c.toNat ∧ ((Lb.lowerB c).toNat = 45 ↔ c.toNat = 45) := by
  have key : ∀ n : Nat, 65 ≤ n → n ≤ 90 → byteOk (n + 32) = byteOk n := by
    intro n h1 h2
    exact (show ∀ n : Nat, n < 91 → 65 ≤ n → byteOk (n + 32) = byteOk n by decide) n (by omega) h1
  unfold Lb.lowerB
  split
  · rename_i h
    have h32 : (32 : UInt8).toNat = 32 := rfl
    have e : (c + 32).toNat = c.toNat + 32 := by rw [UInt8.toNat_add, h32]; omega
    rw [e]
    exact ⟨key _ h.1 h.2, by omega⟩
  · exact ⟨rfl, Iff.rfl⟩
theorem lower_getD (p : Lb.Bytes) (k : Nat) : (Lb.lower p).getD k 0 = Lb.lowerB (p.getD k 0) := by
  unfold Lb.lower
  simp only [List.getD_eq_getElem?_getD, List.getElem?_map]
  cases p[k]? with
  | none => rfl
  | some c => rfl
theorem right_lower (p : Lb.Bytes) : right (Lb.lower p) = right p := by
  have hl : (Lb.lower p).length = p.length := by unfold Lb.lower; rw [List.length_map]
  have h0 : (Lb.lower p ≠ []) = (p ≠ []) := by unfold Lb.lower; simp
  have h1 : ((Lb.lower p).all fun c => byteOk c.toNat) = p.all fun c => byteOk c.toNat := by
    unfold Lb.lower
    rw [List.all_map]
    congr 1
    funext c
    exact (lowerB_byteOk c).1
  have h45 : ∀ k, (((Lb.lower p).getD k 0).toNat != 45) = ((p.getD k 0).toNat != 45) := by
    intro k
    rw [lower_getD, Bool.eq_iff_iff, bne_iff_ne, bne_iff_ne]
    exact not_congr (lowerB_byteOk _).2
  unfold right
  rw [hl, h1, h45, h45]
  simp only [h0]
theorem plain_lower {p : Lb.Bytes} (h : plain p = true) : plain (Lb.lower p) = true := by
  unfold plain at h ⊢
  rw [List.all_eq_true] at h ⊢
  intro c hc
  unfold Lb.lower at hc
  obtain ⟨d, hd, rfl⟩ := List.mem_map.1 hc
  have := h d hd
  have h2 : d.toNat < 128 := by simpa using this
  unfold Lb.lowerB
  split
  · have h32 : (32 : UInt8).toNat = 32 := rfl
    have e : (d + 32).toNat = d.toNat + 32 := by rw [UInt8.toNat_add, h32]; omega
    rw [e]; simp; omega
  · exact this
/-- What NamePlain asks of a label: ASCII, no point; small, it is no Punycode. -/
def PlainLab (p : Lb.Bytes) : Prop := plain p = true ∧ (∀ c ∈ p, c ≠ 46) ∧ ¬ (4 ≤ p.length ∧ Lb.lower (p.take 4) = xn)
theorem asc_plain {p : Lb.Bytes} (h : PlainLab p) : asc p = if right p then (Lb.lower p, 0) else ([], 1) := by
  obtain ⟨h1, _, h3⟩ := h
  unfold asc ascLow
  rw [plain_lower h1, if_pos rfl, right_lower]
  have hx : Lib.hasPrefix (Lb.lower p) xn = false := by
    cases hh : Lib.hasPrefix (Lb.lower p) xn with
    | false => rfl
    | true =>
      exfalso
      unfold Lib.hasPrefix at hh
      obtain ⟨r, hr⟩ := List.isPrefixOf_iff_prefix.1 hh
      have hxl : xn.length = 4 := rfl
      have hl : (Lb.lower p).length = p.length := by unfold Lb.lower; rw [List.length_map]
      have h4 := congrArg List.length hr
      rw [List.length_append, hxl, hl] at h4
      refine h3 ⟨by omega, ?_⟩
      have h5 := congrArg (List.take 4) hr
      rw [List.take_left' hxl] at h5
      rw [h5]
      unfold Lb.lower
      rw [List.map_take]
  rw [hx]
  cases right p <;> rfl
theorem join_last_dot {xs : List Lb.Bytes} (hne : xs ≠ []) (hd : ∀ x ∈ xs, ∀ c ∈ x, c ≠ 46) (hl : xs.getD (xs.length - 1) [] ≠ []) : Lib.hasSuffix (Lb.join xs) [46] = false := by
  cases hh : Lib.hasSuffix (Lb.join xs) [46] with
  | false => rfl
  | true =>
    exfalso
    unfold Lib.hasSuffix at hh
    obtain ⟨t, ht⟩ := List.isSuffixOf_iff_suffix.1 hh
    obtain ⟨ys, x, rfl⟩ : ∃ ys x, xs = ys ++ [x] := by
      rcases List.eq_nil_or_concat xs with e0 | ⟨a, b, e0⟩
      · exact absurd e0 hne
      · exact ⟨a, b, by rw [e0, List.concat_eq_append]⟩
    have hx : x ≠ [] := by simpa using hl
    obtain ⟨zs, z, rfl⟩ : ∃ zs z, x = zs ++ [z] := by
      rcases List.eq_nil_or_concat x with e0 | ⟨a, b, e0⟩
      · exact absurd e0 hx
      · exact ⟨a, b, by rw [e0, List.concat_eq_append]⟩
    have hz : z ≠ 46 := hd (zs ++ [z]) (by simp) z (by simp)
    have hlast : ∃ u, Lb.join (ys ++ [zs ++ [z]]) = u ++ [z] := by
      by_cases hy : ys = []
      · subst hy; exact ⟨zs, rfl⟩
      · rw [Lb.join_snoc _ _ hy]; exact ⟨Lb.join ys ++ 46 :: zs, by simp⟩
    obtain ⟨u, hu⟩ := hlast
    rw [hu] at ht
    have := (List.append_inj' ht rfl).2
    injection this with e
    exact hz e.symm
theorem join_map_lower : ∀ xs : List Lb.Bytes, Lb.join (xs.map Lb.lower) = Lb.lower (Lb.join xs)
  | [] => rfl
  | [_] => rfl
  | x :: y :: l => by
    have ih := join_map_lower (y :: l)
    simp only [List.map_cons] at ih ⊢
    simp only [Lb.join, ih]
    unfold Lb.lower
    rw [List.map_append, List.map_cons]; rfl
theorem eachL_first {f : Lb.Bytes → Lb.Bytes × Nat} {e : Nat} (he : e ≠ 0) : ∀ (ps acc : List Lb.Bytes), (∀ p ∈ ps, (f p).2 = 0 ∨ (f p).2 = e) → (∃ p ∈ ps, (f p).2 ≠ 0) → (eachL f acc ps).2 = e
  | [], _, _, h => by obtain ⟨p, hp, _⟩ := h; cases hp
  | p :: ps, acc, hall, hex => by
    rcases hall p (by simp) with h | h
    · rw [eachL_on h]
      refine eachL_first he ps _ (fun q hq => hall q (by simp [hq])) ?_
      obtain ⟨q, hq, hq2⟩ := hex
      rcases List.mem_cons.1 hq with rfl | hq
      · exact absurd h hq2
      · exact ⟨q, hq, hq2⟩
    · rw [eachL_bad (by rw [h]; exact he)]; exact h
theorem namePlain_law {xs : List Lb.Bytes} {s : Lb.Bytes} (hne : xs ≠ []) (hl : xs.getD (xs.length - 1) [] ≠ []) (hp : ∀ x ∈ xs, PlainLab x) (hs : s = Lb.join xs ∨ s = Lb.join xs ++ [46]) (hlen : (Lb.join xs).length ≤ 1011) :
    (xs.all right = false → (toASCII s).2 = 1) ∧ (xs.all right = true → 253 < (Lb.join xs).length → (toASCII s).2 = 2) ∧
    (xs.all right = true → ¬ 253 < (Lb.join xs).length → toASCII s = (Lb.lower (Lb.join xs), 0)) := by
  have hd : ∀ x ∈ xs, ∀ c ∈ x, c ≠ 46 := fun x hx => (hp x hx).2.1
  have hls : s.length ≤ 1012 := by
    rcases hs with rfl | rfl
    · omega
    · rw [List.length_append]; simp only [List.length_cons, List.length_nil]; omega
  have hE : each asc s = eachL asc [] xs := by
    unfold each
    have : Lib.trimSuffix s [46] = Lb.join xs := by
      rcases hs with rfl | rfl
      · exact trim_of (join_last_dot hne hd hl)
      · exact trim_end _
    rw [this, Lb.split_join xs hne hd]
  have hA : ∀ x ∈ xs, asc x = if right x then (Lb.lower x, 0) else ([], 1) := fun x hx => asc_plain (hp x hx)
  rw [toASCII_small hls, hE]
  refine ⟨fun h => ?_, fun h h2 => ?_, fun h h2 => ?_⟩
  · obtain ⟨x, hx, hx2⟩ := List.all_eq_false.1 h
    have hc : (eachL asc [] xs).2 = 1 := by
      refine eachL_first (by decide) xs [] (fun p hp => ?_) ⟨x, hx, by rw [hA x hx, if_neg hx2]; decide⟩
      rw [hA p hp]
      split
      · exact .inl rfl
      · exact .inr rfl
    rw [if_neg (by rintro ⟨h3, _⟩; rw [hc] at h3; cases h3)]
    exact hc
  · rw [List.all_eq_true] at h
    rw [eachL_all xs [] (fun x hx => by rw [hA x hx, if_pos (h x hx)]), List.nil_append, List.map_congr_left (g := Lb.lower) (fun x hx => by rw [hA x hx, if_pos (h x hx)]), join_map_lower]
    rw [if_pos ⟨rfl, by show 253 < (Lb.lower (Lb.join xs)).length; unfold Lb.lower; rw [List.length_map]; exact h2⟩]
  · rw [List.all_eq_true] at h
    rw [eachL_all xs [] (fun x hx => by rw [hA x hx, if_pos (h x hx)]), List.nil_append, List.map_congr_left (g := Lb.lower) (fun x hx => by rw [hA x hx, if_pos (h x hx)]), join_map_lower]
    rw [if_neg (by rintro ⟨_, h3⟩; refine h2 ?_; have : (Lb.lower (Lb.join xs)).length = (Lb.join xs).length := by { unfold Lb.lower; rw [List.length_map] }; simp only at h3; omega)]

/-! ### one rune behind an a -/
def encFits (r : Nat) : Bool := match Pu.encode [97, r] with
  | some e => decide (e.length + 4 ≤ 63)
  | none => false
theorem encFits_all : ((List.range 1120).all fun r => !(decide (128 ≤ r) && good r) || encFits r) = true := by kernel_rfl
theorem encB3 (r : Nat) (c2 : ¬ r < 2048) (c3 : r < 65536) (hv : r < 55296 ∨ 57344 ≤ r) : (Utf8.encode (r : Int)).data.toList = [UInt8.ofNat (224 + r / 4096), UInt8.ofNat (128 + r / 64 % 64), UInt8.ofNat (128 + r % 64)] := by
  have v : Utf8.valid (r : Int) = true := by simp [Utf8.valid]; omega
  have c1 : ¬ r < 128 := by omega
  simp [Utf8.encode, v, c1, c2, c3]
theorem encB4 (r : Nat) (c3 : ¬ r < 65536) (c4 : r ≤ 1114111) : (Utf8.encode (r : Int)).data.toList = [UInt8.ofNat (240 + r / 262144), UInt8.ofNat (128 + r / 4096 % 64), UInt8.ofNat (128 + r / 64 % 64), UInt8.ofNat (128 + r % 64)] := by
  have v : Utf8.valid (r : Int) = true := by simp [Utf8.valid]; omega
  have c1 : ¬ r < 128 := by omega
  have c2 : ¬ r < 2048 := by omega
  simp [Utf8.encode, v, c1, c2, c3]
theorem b_toNat {n : Nat} (h : n < 256) : (UInt8.ofNat n).toNat = n := by rw [UInt8.toNat_ofNat']; omega
/-- What a rune beyond ASCII is written as: two bytes or more, none of ASCII; read, it is that rune. -/
theorem encB (r : Nat) (h : 128 ≤ r) (hv : r ≤ 1114111) (hs : ¬ (55296 ≤ r ∧ r ≤ 57343)) :
    ∃ b t, (Utf8.encode (r : Int)).data.toList = b :: t ∧ (∀ c ∈ b :: t, 128 ≤ c.toNat) ∧ Lib.decodeL (b :: t) = (r, t.length + 1) ∧ t.length ≤ 3 ∧ 1 ≤ t.length := by
  by_cases h2 : r < 2048
  · refine ⟨_, _, encB2 r (by omega) h2, ?_, decodeL_two r [] (by omega) h2, by simp, by simp⟩
    intro c hc
    simp only [List.mem_cons, List.not_mem_nil, or_false] at hc
    rcases hc with rfl | rfl
    · rw [hd_toNat h2]; omega
    · rw [tl_toNat]; omega
  · by_cases h3 : r < 65536
    · have hr : r < 55296 ∨ 57344 ≤ r := by omega
      have e1 : (UInt8.ofNat (224 + r / 4096)).toNat = 224 + r / 4096 := b_toNat (by omega)
      have e2 : (UInt8.ofNat (128 + r / 64 % 64)).toNat = 128 + r / 64 % 64 := b_toNat (by omega)
      have e3 := tl_toNat r
      refine ⟨_, _, encB3 r h2 h3 hr, ?_, ?_, by simp, by simp⟩
      · intro c hc
        simp only [List.mem_cons, List.not_mem_nil, or_false] at hc
        rcases hc with rfl | rfl | rfl
        · rw [e1]; omega
        · rw [e2]; omega
        · rw [e3]; omega
      · rw [Lib.decodeL_N]
        simp only [List.getD_cons_zero, List.getD_cons_succ, e1, e2, e3, List.length_cons, List.length_nil]
        unfold Lib.decodeN
        rw [if_neg (by omega), if_neg (by omega), if_pos ⟨by omega, ⟨by omega, by omega⟩, by omega, by omega⟩, if_pos (by omega)]
        exact Prod.ext (by show _ = _; omega) rfl
    · have e1 : (UInt8.ofNat (240 + r / 262144)).toNat = 240 + r / 262144 := b_toNat (by omega)
      have e2 : (UInt8.ofNat (128 + r / 4096 % 64)).toNat = 128 + r / 4096 % 64 := b_toNat (by omega)
      have e3 : (UInt8.ofNat (128 + r / 64 % 64)).toNat = 128 + r / 64 % 64 := b_toNat (by omega)
      have e4 := tl_toNat r
      refine ⟨_, _, encB4 r h3 hv, ?_, ?_, by simp, by simp⟩
      · intro c hc
        simp only [List.mem_cons, List.not_mem_nil, or_false] at hc
        rcases hc with rfl | rfl | rfl | rfl
        · rw [e1]; omega
        · rw [e2]; omega
        · rw [e3]; omega
        · rw [e4]; omega
      · rw [Lib.decodeL_N]
        simp only [List.getD_cons_zero, List.getD_cons_succ, e1, e2, e3, e4, List.length_cons, List.length_nil]
        unfold Lib.decodeN
        rw [if_neg (by omega), if_neg (by omega), if_neg (by omega), if_pos ⟨by omega, ⟨by omega, by omega⟩, ⟨by omega, by omega⟩, by omega, by omega⟩, if_pos (by omega)]
        exact Prod.ext (by show _ = _; omega) rfl
theorem nameRunes_law (r : Nat) (h : 128 ≤ r) (hv : r ≤ 1114111) (hs : ¬ (55296 ≤ r ∧ r ≤ 57343)) :
    (toASCII (97 :: (Utf8.encode (r : Int)).data.toList)).2 = if good r then 0 else 1 := by
  obtain ⟨b, t, he, hhi, hdec, hlen, hlen1⟩ := encB r h hv hs
  rw [he]
  obtain ⟨S, hS⟩ : ∃ S : Lb.Bytes, 97 :: b :: t = S := ⟨_, rfl⟩
  have hmem : ∀ c ∈ S, c ≠ 46 ∧ Lb.lowerB c = c := by
    intro c hc
    rw [← hS] at hc
    rcases List.mem_cons.1 hc with rfl | hc
    · exact ⟨by decide, by decide⟩
    · have := hhi c hc
      refine ⟨?_, lowerB_same (by unfold cap; omega)⟩
      rintro rfl
      exact absurd this (by decide)
  have hSl : S.length ≤ 6 := by rw [← hS]; simp only [List.length_cons]; omega
  have hlow : Lb.lower S = S := (List.map_congr_left fun c hc => (hmem c hc).2).trans (List.map_id' S)
  have hno : ∀ c ∈ S, c ≠ 46 := fun c hc => (hmem c hc).1
  have hpl : plain S = false := by
    rw [← hS]
    unfold plain
    have : decide (b.toNat < 128) = false := decide_eq_false (by have := hhi b (by simp); omega)
    rw [List.all_cons, List.all_cons, this]; simp
  have hrun : runesL (S.length + 1) S = [97, r] := by
    rw [← hS]
    have hd1 : Lib.decodeL (97 :: b :: t) = (97, 1) := decodeL_low 97 (b :: t) (by decide)
    have : (97 :: b :: t).length + 1 = ((t.length + 1) + 1) + 1 := by simp
    rw [this]
    show (if 97 :: b :: t = [] then [] else (Lib.decodeL (97 :: b :: t)).1 :: runesL (t.length + 1 + 1) ((97 :: b :: t).drop (Lib.decodeL (97 :: b :: t)).2)) = _
    rw [if_neg (List.cons_ne_nil _ _), hd1]
    show 97 :: (if b :: t = [] then [] else (Lib.decodeL (b :: t)).1 :: runesL (t.length + 1) ((b :: t).drop (Lib.decodeL (b :: t)).2)) = _
    rw [if_neg (List.cons_ne_nil _ _), hdec]
    have : (b :: t).drop (t.length + 1) = [] := List.drop_eq_nil_of_le (by simp)
    show 97 :: r :: runesL (t.length + 1) ((b :: t).drop (t.length + 1)) = _
    rw [this, runesL_nil]
  have hval : Lib.validD S = true := by
    rw [← hS, Lib.validD_cons _ _ (by decide), Lib.validD_step _ (List.cons_ne_nil _ _), hdec, if_neg (by rintro ⟨_, h⟩; simp only at h; omega)]
    have : (b :: t).drop (t.length + 1) = [] := List.drop_eq_nil_of_le (by simp)
    show Lib.validD ((b :: t).drop (t.length + 1)) = true
    rw [this]; rfl
  have hasc : (asc S).2 = if good r then 0 else 1 := by
    unfold asc ascLow
    rw [hlow, hpl, if_neg (by decide), hval, if_pos rfl, runesF_str, hrun]
    unfold ascLoop
    have h97 : okRune 97 = true := by decide
    rw [List.all_cons, List.all_cons, List.all_nil, h97, ok_high h, Bool.true_and, Bool.and_true]
    cases hg : good r with
    | false => rfl
    | true =>
      rw [if_pos rfl, List.nil_append]
      have hle := good_le hg
      have hf := List.all_eq_true.1 encFits_all r (List.mem_range.2 (by omega))
      rw [decide_eq_true h, hg] at hf
      simp only [Bool.true_and, Bool.not_true, Bool.false_or] at hf
      unfold encFits at hf
      unfold ascTail
      have hhy : isHy [97, r] = false := by
        unfold isHy
        simp; omega
      rw [hhy, if_neg (by decide)]
      cases hen : Pu.encode [97, r] with
      | none => rw [hen] at hf; cases hf
      | some e =>
        rw [hen] at hf
        have hf2 : e.length + 4 ≤ 63 := by simpa using hf
        rw [encR_of hen, if_neg (by simp), if_neg (by show ¬ 63 < e.length + 4; omega)]
        rfl
  have hE : each asc S = eachL asc [] [S] := by
    unfold each
    have hj : Lib.hasSuffix S [46] = false := join_last_dot (xs := [S]) (by simp) (by simpa using hno) (by simp; rw [← hS]; simp)
    rw [trim_of hj, Lb.split_one S hno]
  have hlen2 := asc_len S
  rw [hS, toASCII_small (by omega), hE]
  cases hg : good r with
  | false =>
    rw [hg, if_neg (by decide)] at hasc
    rw [eachL_bad (by rw [hasc]; decide), hasc]; rfl
  | true =>
    rw [hg, if_pos rfl] at hasc
    obtain ⟨x, hx⟩ := lab_ok (p := S) (t := (asc S).1) (Prod.ext rfl hasc)
    have := (right_parts hx.rightT).2.1
    have hE2 : eachL asc [] [S] = ((asc S).1, 0) := by rw [eachL_on hasc]; rfl
    rw [hE2, if_neg (by rintro ⟨_, h3⟩; simp only at h3; omega)]; rfl
end Nm
end Go.Proofs.YtlojfbmngippaaaDoor
