/- The law of a label: what goes out is read, and goes out again, as it was. Plain Lean, no program. -/
import Derived.Test.YtlojfbmngippaaaDoorEa
namespace Go.Proofs.YtlojfbmngippaaaDoor
namespace Nm

/-! ### runes as UTF-8 -/
theorem encB1 (r : Nat) (h : r < 128) : (Utf8.encode (r : Int)).data.toList = [UInt8.ofNat r] := by
  have v : Utf8.valid (r : Int) = true := by simp [Utf8.valid]; omega
  simp [Utf8.encode, v, h]
theorem encB2 (r : Nat) (h : ¬ r < 128) (h2 : r < 2048) : (Utf8.encode (r : Int)).data.toList = [UInt8.ofNat (192 + r / 64), UInt8.ofNat (128 + r % 64)] := by
  have v : Utf8.valid (r : Int) = true := by simp [Utf8.valid]; omega
  simp [Utf8.encode, v, h, h2]
theorem utf8_cons (r : Nat) (l : List Nat) : utf8 (r :: l) = (Utf8.encode (r : Int)).data.toList ++ utf8 l := by
  simp only [utf8, List.flatMap_cons]
theorem utf8_low (r : Nat) (l : List Nat) (h : r < 128) : utf8 (r :: l) = UInt8.ofNat r :: utf8 l := by
  rw [utf8_cons, encB1 r h]; rfl
theorem utf8_two (r : Nat) (l : List Nat) (h : ¬ r < 128) (h2 : r < 2048) : utf8 (r :: l) = UInt8.ofNat (192 + r / 64) :: UInt8.ofNat (128 + r % 64) :: utf8 l := by
  rw [utf8_cons, encB2 r h h2]; rfl
theorem low_toNat {r : Nat} (h : r < 128) : (UInt8.ofNat r).toNat = r := by rw [UInt8.toNat_ofNat']; omega
theorem hd_toNat {r : Nat} (h2 : r < 2048) : (UInt8.ofNat (192 + r / 64)).toNat = 192 + r / 64 := by rw [UInt8.toNat_ofNat']; omega
theorem tl_toNat (r : Nat) : (UInt8.ofNat (128 + r % 64)).toNat = 128 + r % 64 := by rw [UInt8.toNat_ofNat']; omega
theorem decodeL_low (r : Nat) (t : Lb.Bytes) (h : r < 128) : Lib.decodeL (UInt8.ofNat r :: t) = (r, 1) := by
  rw [Lib.decodeL_N]
  simp only [List.getD_cons_zero, low_toNat h]
  unfold Lib.decodeN; rw [if_pos h]
theorem decodeL_two (r : Nat) (t : Lb.Bytes) (h : ¬ r < 128) (h2 : r < 2048) : Lib.decodeL (UInt8.ofNat (192 + r / 64) :: UInt8.ofNat (128 + r % 64) :: t) = (r, 2) := by
  rw [Lib.decodeL_N]
  simp only [List.getD_cons_zero, List.getD_cons_succ, hd_toNat h2, tl_toNat, List.length_cons]
  unfold Lib.decodeN
  rw [if_neg (by omega), if_pos ⟨by omega, by omega, by omega⟩, if_pos (by omega)]
  exact Prod.ext (by show _ = _; omega) rfl

/-- The runes that a list of bytes spells. -/
def runesL : Nat → Lb.Bytes → List Nat
  | 0, _ => []
  | f + 1, l => if l = [] then [] else (Lib.decodeL l).1 :: runesL f (l.drop (Lib.decodeL l).2)
theorem runesF_L (s : ByteArray) : ∀ f pos, runesF s f pos = runesL f (s.data.toList.drop pos)
  | 0, _ => rfl
  | f + 1, pos => by
    unfold runesF runesL
    have hz : s.size = s.data.toList.length := Lib.size_eq s
    by_cases h : pos < s.size
    · have hne : s.data.toList.drop pos ≠ [] := by
        intro e; have := congrArg List.length e; rw [List.length_drop, List.length_nil] at this; omega
      rw [if_pos h, if_neg hne, Lib.decodeL_drop, runesF_L s f, List.drop_drop]
    · rw [if_neg h, if_pos (List.drop_eq_nil_of_le (by omega))]
theorem runesF_str (s : Lb.Bytes) (f : Nat) : runesF (Lb.str s) f 0 = runesL f s := by rw [runesF_L]; rfl
theorem decodeL_pos (l : Lb.Bytes) : 1 ≤ (Lib.decodeL l).2 := by
  have := Lib.decodeL_width l; omega
theorem runesL_nil (f : Nat) : runesL f [] = [] := by cases f <;> simp [runesL]
theorem runesL_utf8 (l : List Nat) : ∀ (f : Nat), (∀ r ∈ l, r < 2048) → (utf8 l).length < f → runesL f (utf8 l) = l := by
  induction l with
  | nil => intro f _ _; exact runesL_nil f
  | cons r l ih =>
    intro f hl hf
    have h2 := hl r (by simp)
    have ih2 := fun g hg => ih g (fun x hx => hl x (by simp [hx])) hg
    obtain ⟨g, rfl⟩ : ∃ g, f = g + 1 := ⟨f - 1, by omega⟩
    by_cases h : r < 128
    · rw [utf8_low r l h] at hf ⊢
      have e := ih2 g (by simp only [List.length_cons] at hf; omega)
      unfold runesL
      rw [if_neg (List.cons_ne_nil _ _), decodeL_low r _ h]
      show r :: runesL g (utf8 l) = r :: l
      rw [e]
    · rw [utf8_two r l h h2] at hf ⊢
      have e := ih2 g (by simp only [List.length_cons] at hf; omega)
      unfold runesL
      rw [if_neg (List.cons_ne_nil _ _), decodeL_two r _ h h2]
      show r :: runesL g (utf8 l) = r :: l
      rw [e]
theorem validD_utf8 : ∀ (l : List Nat), (∀ r ∈ l, r < 2048) → Lib.validD (utf8 l) = true
  | [], _ => rfl
  | r :: l, hl => by
    have h2 := hl r (by simp)
    have ih := validD_utf8 l (fun x hx => hl x (by simp [hx]))
    by_cases h : r < 128
    · rw [utf8_low r l h, Lib.validD_cons _ _ (by rw [low_toNat h]; exact h), ih]
    · rw [utf8_two r l h h2, Lib.validD_step _ (by simp), decodeL_two r _ h h2, if_neg (by simp only; omega)]
      exact ih
theorem utf8_all (P : UInt8 → Prop) : ∀ (l : List Nat), (∀ r ∈ l, r < 2048) → (∀ r ∈ l, r < 128 → P (UInt8.ofNat r)) → (∀ c : UInt8, 128 ≤ c.toNat → P c) → ∀ c ∈ utf8 l, P c
  | [], _, _, _ => by intro c hc; simp [utf8] at hc
  | r :: l, hl, hlow, hhi => by
    have h2 := hl r (by simp)
    have ih := utf8_all P l (fun x hx => hl x (by simp [hx])) (fun x hx => hlow x (by simp [hx])) hhi
    intro c hc
    by_cases h : r < 128
    · rw [utf8_low r l h] at hc
      rcases List.mem_cons.1 hc with rfl | hc
      · exact hlow r (by simp) h
      · exact ih c hc
    · rw [utf8_two r l h h2] at hc
      rcases List.mem_cons.1 hc with rfl | hc
      · exact hhi _ (by rw [hd_toNat h2]; omega)
      · rcases List.mem_cons.1 hc with rfl | hc
        · exact hhi _ (by rw [tl_toNat]; omega)
        · exact ih c hc
theorem utf8_not_plain : ∀ (l : List Nat), (∀ r ∈ l, r < 2048) → (∃ r ∈ l, 128 ≤ r) → plain (utf8 l) = false
  | [], _, h => by obtain ⟨r, hr, _⟩ := h; cases hr
  | r :: l, hl, hex => by
    have h2 := hl r (by simp)
    by_cases h : r < 128
    · have ih := utf8_not_plain l (fun x hx => hl x (by simp [hx])) (by
        obtain ⟨x, hx, hx2⟩ := hex
        rcases List.mem_cons.1 hx with rfl | hx
        · omega
        · exact ⟨x, hx, hx2⟩)
      rw [utf8_low r l h]
      unfold plain at ih ⊢
      rw [List.all_cons, ih, Bool.and_false]
    · rw [utf8_two r l h h2]
      unfold plain
      rw [List.all_cons, hd_toNat h2, decide_eq_false (by omega), Bool.false_and]
theorem utf8_len2 : ∀ (l : List Nat), (∀ r ∈ l, r < 2048) → (utf8 l).length ≤ 2 * l.length
  | [], _ => by simp [utf8]
  | r :: l, hl => by
    have h2 := hl r (by simp)
    have ih := utf8_len2 l (fun x hx => hl x (by simp [hx]))
    by_cases h : r < 128
    · rw [utf8_low r l h]; simp only [List.length_cons]; omega
    · rw [utf8_two r l h h2]; simp only [List.length_cons]; omega
/-- What is decoded as a rune below 128 is a byte. -/
theorem decodeL_small (c : UInt8) (t : Lb.Bytes) (h : (Lib.decodeL (c :: t)).1 < 128) : c.toNat < 128 ∧ Lib.decodeL (c :: t) = (c.toNat, 1) := by
  rw [Lib.decodeL_N] at h ⊢
  simp only [List.getD_cons_zero] at h ⊢
  have hc : c.toNat < 128 := by
    rcases Nat.lt_or_ge c.toNat 128 with hc | hc
    · exact hc
    · exfalso
      revert h
      unfold Lib.decodeN
      rw [if_neg (by omega)]
      repeat' split
      all_goals (intro h; simp only at h; omega)
  refine ⟨hc, ?_⟩
  unfold Lib.decodeN
  rw [if_pos hc]
theorem runesL_low : ∀ (f : Nat) (s : Lb.Bytes) (r : Nat), r ∈ runesL f s → r < 128 → UInt8.ofNat r ∈ s
  | 0, _, _, h, _ => by simp [runesL] at h
  | f + 1, [], _, h, _ => by simp [runesL] at h
  | f + 1, c :: t, r, h, hr => by
    unfold runesL at h
    rw [if_neg (by simp)] at h
    rcases List.mem_cons.1 h with e | h
    · have hs := decodeL_small c t (by rw [← e]; exact hr)
      have : r = c.toNat := by rw [e, hs.2]
      rw [this]
      simp
    · exact List.mem_of_mem_drop (runesL_low f _ r h hr)
theorem runesL_plain : ∀ (f : Nat) (s : Lb.Bytes), s.length < f → (∀ r ∈ runesL f s, r < 128) → plain s = true
  | 0, _, h, _ => by omega
  | f + 1, [], _, _ => rfl
  | f + 1, c :: t, hf, h => by
    unfold runesL at h
    rw [if_neg (by simp)] at h
    have hs := decodeL_small c t (h _ (by simp))
    rw [hs.2] at h
    have ih := runesL_plain f t (by simp only [List.length_cons] at hf; omega) (fun r hr => h r (by simp only [List.drop_succ_cons, List.drop_zero]; exact List.mem_cons_of_mem _ hr))
    unfold plain at ih ⊢
    rw [List.all_cons, ih, decide_eq_true hs.1, Bool.true_and]

/-! ### capitals -/
def cap (n : Nat) : Prop := 65 ≤ n ∧ n ≤ 90
theorem lowerB_same {c : UInt8} (h : ¬ cap c.toNat) : Lb.lowerB c = c := by unfold Lb.lowerB; unfold cap at h; rw [if_neg h]
theorem lowerB_low (c : UInt8) : ¬ cap (Lb.lowerB c).toNat := by
  unfold Lb.lowerB cap
  split
  · rename_i h
    have h32 : (32 : UInt8).toNat = 32 := rfl
    rw [UInt8.toNat_add, h32]; omega
  · rename_i h; exact h
theorem lower_same {s : Lb.Bytes} (h : ∀ c ∈ s, ¬ cap c.toNat) : Lb.lower s = s := by
  unfold Lb.lower
  exact (List.map_congr_left fun c hc => lowerB_same (h c hc)).trans (List.map_id' s)
theorem lower_low (s : Lb.Bytes) : ∀ c ∈ Lb.lower s, ¬ cap c.toNat := by
  intro c hc
  obtain ⟨d, _, rfl⟩ := List.mem_map.1 hc
  exact lowerB_low d
theorem foldEq_low {c d : UInt8} (hc : ¬ cap c.toNat) (hd : ¬ cap d.toNat) (h : Lib.foldEq c d = true) : c = d := by
  unfold Lib.foldEq at h
  unfold cap at hc hd
  rw [decide_eq_true_eq] at h
  apply UInt8.toNat_inj.1
  omega
theorem equalFold_low : ∀ (s t : Lb.Bytes), (∀ c ∈ s, ¬ cap c.toNat) → (∀ c ∈ t, ¬ cap c.toNat) → Lib.equalFold s t = true → s = t
  | [], [], _, _, _ => rfl
  | [], _ :: _, _, _, h => by simp [Lib.equalFold] at h
  | _ :: _, [], _, _, h => by simp [Lib.equalFold] at h
  | c :: s, d :: t, hs, ht, h => by
    simp only [Lib.equalFold, Bool.and_eq_true] at h
    rw [foldEq_low (hs c (by simp)) (ht d (by simp)) h.1, equalFold_low s t (fun x hx => hs x (by simp [hx])) (fun x hx => ht x (by simp [hx])) h.2]

/-! ### Punycode of runes that may stand -/
theorem decLoop_low : ∀ (f : Nat) (rest : Lb.Bytes) (n i bias : Nat) (out l : List Nat), 128 ≤ n → Pu.decLoop f rest n i bias out = some l → ∀ r ∈ l, r < 128 → r ∈ out
  | 0, _, _, _, _, _, _, _, h => by simp [Pu.decLoop] at h
  | f + 1, rest, n, i, bias, out, l, hn, h => by
    unfold Pu.decLoop at h
    split at h
    · injection h with h; subst h; exact fun r hr _ => hr
    · split at h
      · cases h
      · rename_i j rest' hp
        split at h
        · cases h
        · intro r hr hlow
          have ih := decLoop_low f _ _ _ _ _ l (Nat.le_trans hn (Nat.le_add_right _ _)) h r hr hlow
          rcases List.mem_append.1 ih with ih | ih
          · exact List.mem_of_mem_take ih
          · rcases List.mem_cons.1 ih with e | ih
            · exact absurd (Nat.le_trans hn (Nat.le_add_right _ _)) (Nat.not_le.2 (e ▸ hlow))
            · exact List.mem_of_mem_drop ih
theorem decode_parts {s : Lb.Bytes} {l : List Nat} (h : Pu.decode s = some l) : s.length ≤ 63 ∧ (∃ t, Pu.encode l = some t ∧ Lib.equalFold t s = true) ∧ ∀ r ∈ l, r < 128 → UInt8.ofNat r ∈ s := by
  unfold Pu.decode at h
  split at h
  · cases h
  · split at h
    · cases h
    · split at h
      · cases h
      · rename_i out hd
        split at h
        · cases h
        · rename_i t ht
          split at h
          · rename_i he
            injection h with h
            subst h
            refine ⟨by omega, ⟨t, ht, he⟩, ?_⟩
            intro r hr hlow
            have := decLoop_low _ _ _ _ _ _ _ (by omega) hd r hr hlow
            obtain ⟨c, hc, rfl⟩ := List.mem_map.1 this
            have e : UInt8.ofNat c.toNat = c := by simp
            rw [e]
            exact List.mem_of_mem_take hc
          · cases h
/-- A list of runes that a label may have: letters of some scripts, and others of ASCII, small. -/
structure LOk (l : List Nat) : Prop where
  ok : ∀ r ∈ l, okRune r = true
  high : ∃ r ∈ l, 128 ≤ r
  small : ∀ r ∈ l, ¬ cap r
  hy : isHy l = false
theorem LOk.lt {l : List Nat} (h : LOk l) : ∀ r ∈ l, r < 2048 := fun r hr => by have := ok_le (h.ok r hr); omega
theorem LOk.pu {l : List Nat} (h : LOk l) : ∀ r ∈ l, Pu.okRune r := fun r hr => by have := ok_le (h.ok r hr); unfold Pu.okRune; omega
theorem LOk.no46 {l : List Nat} (h : LOk l) : ∀ c ∈ utf8 l, c ≠ 46 := by
  refine utf8_all (fun c => c ≠ 46) l h.lt ?_ ?_
  · intro r hr h128 e
    have h1 := h.ok r hr
    rw [ok_low h128] at h1
    have h2 : (UInt8.ofNat r).toNat = 46 := by rw [e]; rfl
    rw [low_toNat h128] at h2
    subst h2
    exact absurd h1 (by decide)
  · intro c hc e
    have h46 : (46 : UInt8).toNat = 46 := rfl
    rw [e, h46] at hc
    omega
theorem LOk.lower {l : List Nat} (h : LOk l) : Lb.lower (utf8 l) = utf8 l := by
  refine lower_same (utf8_all (fun c => ¬ cap c.toNat) l h.lt ?_ ?_)
  · intro r hr h128
    rw [low_toNat h128]; exact h.small r hr
  · intro c hc hcap; unfold cap at hcap; omega
theorem LOk.ne {l : List Nat} (h : LOk l) : utf8 l ≠ [] := by
  intro e
  have := utf8_not_plain l h.lt h.high
  rw [e] at this
  cases this
/-- What the Punycode of such runes looks like. -/
theorem LOk.form {l : List Nat} (h : LOk l) {e : Lb.Bytes} (he : Pu.encode l = some e) :
    e ≠ [] ∧ (∀ c ∈ e, byteOk c.toNat = true ∧ c.toNat < 128 ∧ ¬ cap c.toNat) ∧ (e.getD (e.length - 1) 0).toNat ≠ 45 := by
  obtain ⟨ds, h1, h2, h3⟩ := Pu.encode_form l e he
  have hds := h3 h.high (fun r hr => by have := ok_le (h.ok r hr); omega)
  have hdig : ∀ c ∈ ds, byteOk c.toNat = true ∧ c.toNat < 128 ∧ ¬ cap c.toNat := by
    intro c hc
    have hd := h2 c hc
    unfold Pu.IsDig at hd
    refine ⟨?_, by omega, by unfold cap; omega⟩
    rcases hd with hd | hd
    · exact (show ∀ n : Nat, n < 123 → 97 ≤ n → byteOk n = true by decide) c.toNat (by omega) (by omega)
    · exact (show ∀ n : Nat, n < 58 → 48 ≤ n → byteOk n = true by decide) c.toNat (by omega) (by omega)
  have hbas : ∀ c ∈ Pu.basic l, byteOk c.toNat = true ∧ c.toNat < 128 ∧ ¬ cap c.toNat := by
    intro c hc
    unfold Pu.basic at hc
    obtain ⟨r, hr, rfl⟩ := List.mem_map.1 hc
    obtain ⟨hr1, hr2⟩ := List.mem_filter.1 hr
    have h128 : r < 128 := by simpa using hr2
    rw [low_toNat h128]
    have := h.ok r hr1
    rw [ok_low h128] at this
    exact ⟨this, h128, h.small r hr1⟩
  have hhead : ∀ c ∈ Pu.head l, byteOk c.toNat = true ∧ c.toNat < 128 ∧ ¬ cap c.toNat := by
    intro c hc
    unfold Pu.head at hc
    split at hc
    · cases hc
    · rcases List.mem_append.1 hc with hc | hc
      · exact hbas c hc
      · simp only [List.mem_singleton] at hc
        subst hc
        exact ⟨by decide, by decide, by unfold cap; decide⟩
  refine ⟨by rw [h1]; simp [hds], ?_, ?_⟩
  · intro c hc
    rw [h1] at hc
    rcases List.mem_append.1 hc with hc | hc
    · exact hhead c hc
    · exact hdig c hc
  · obtain ⟨ds', d, rfl⟩ : ∃ ds' d, ds = ds' ++ [d] := by
      rcases List.eq_nil_or_concat ds with e0 | ⟨a, b, e0⟩
      · exact absurd e0 hds
      · exact ⟨a, b, by rw [e0, List.concat_eq_append]⟩
    have hd := h2 d (by simp)
    rw [h1, ← List.append_assoc, List.length_append]
    rw [List.getD_eq_getElem?_getD, List.getElem?_append_right (by simp)]
    simp only [List.length_cons, List.length_nil, Nat.zero_add, Nat.add_sub_cancel, Nat.sub_self, List.getElem?_cons_zero, Option.getD_some]
    unfold Pu.IsDig at hd
    omega

/-! ### the law of a label -/
structure LabOk (t x : Lb.Bytes) : Prop where
  ascT : asc t = (t, 0)
  uniT : uni t = (x, 0)
  ascX : asc x = (t, 0)
  rightT : right t = true
  lowT : Lb.lower t = t
  dotX : ∀ c ∈ x, c ≠ 46
  neX : x ≠ []
  lenX : x.length ≤ 2 * t.length
  same : (Lib.hasPrefix t xn = true ∧ x ≠ t) ∨ (Lib.hasPrefix t xn = false ∧ x = t)

theorem right_parts {t : Lb.Bytes} (h : right t = true) : t ≠ [] ∧ t.length ≤ 63 ∧ (∀ c ∈ t, byteOk c.toNat = true) ∧ (t.getD (t.length - 1) 0).toNat ≠ 45 := by
  unfold right at h
  simp only [Bool.and_eq_true, decide_eq_true_eq, bne_iff_ne, List.all_eq_true] at h
  obtain ⟨⟨⟨⟨h1, h2⟩, _⟩, h4⟩, h5⟩ := h
  exact ⟨h1, h2, h5, h4⟩
theorem byteOk_46 : byteOk 46 = false := by decide
theorem right_no46 {t : Lb.Bytes} (h : right t = true) : ∀ c ∈ t, c ≠ 46 := by
  intro c hc e
  have := (right_parts h).2.2.1 c hc
  rw [e] at this
  have h46 : (46 : UInt8).toNat = 46 := rfl
  rw [h46, byteOk_46] at this
  cases this
theorem xn_drop (e : Lb.Bytes) : (xn ++ e).drop 4 = e := List.drop_left' rfl
theorem xn_split {t : Lb.Bytes} (h : Lib.hasPrefix t xn = true) : t = xn ++ t.drop 4 := by
  unfold Lib.hasPrefix at h
  obtain ⟨r, hr⟩ := List.isPrefixOf_iff_prefix.1 h
  rw [← hr, xn_drop]
theorem xn_pre (e : Lb.Bytes) : Lib.hasPrefix (xn ++ e) xn = true := by
  unfold Lib.hasPrefix; rw [List.isPrefixOf_iff_prefix]; exact ⟨e, rfl⟩
theorem xn_ok : ∀ c ∈ xn, byteOk c.toNat = true ∧ c.toNat < 128 ∧ ¬ cap c.toNat := by unfold cap; decide
theorem encR_of {l : List Nat} {e : Lb.Bytes} (h : Pu.encode l = some e) : encR l = (e, 0) := by unfold encR; rw [h]
theorem encR_back {l : List Nat} (h : (encR l).2 = 0) : ∃ e, Pu.encode l = some e ∧ (encR l).1 = e := by
  unfold encR at h ⊢
  cases he : Pu.encode l with
  | none => rw [he] at h; cases h
  | some e => exact ⟨e, rfl, rfl⟩
theorem decR_of {s : Lb.Bytes} {l : List Nat} (h : Pu.decode s = some l) : decR s = (l, 0) := by unfold decR; rw [h]
theorem decR_back {s : Lb.Bytes} (h : (decR s).2 = 0) : ∃ l, Pu.decode s = some l ∧ (decR s).1 = l := by
  unfold decR at h ⊢
  cases he : Pu.decode s with
  | none => rw [he] at h; cases h
  | some e => exact ⟨e, rfl, rfl⟩
theorem uniTail_ok {l : List Nat} (h : LOk l) : uniTail l = (utf8 l, 0) := by
  unfold uniTail
  have h1 : l.all okRune = true := List.all_eq_true.2 h.ok
  have h2 : (l.any fun r => decide (128 ≤ r)) = true := by
    obtain ⟨r, hr, hr2⟩ := h.high
    exact List.any_eq_true.2 ⟨r, hr, by simpa using hr2⟩
  rw [h1, h2, h.hy]; rfl
theorem lab_xn {l : List Nat} (h : LOk l) {e : Lb.Bytes} (he : Pu.encode l = some e) (hlen : e.length + 4 ≤ 63) : LabOk (xn ++ e) (utf8 l) := by
  obtain ⟨hne, hall, hlast⟩ := h.form he
  have hdec := Pu.decode_encode l h.pu e he
  have hallT : ∀ c ∈ xn ++ e, byteOk c.toNat = true ∧ c.toNat < 128 ∧ ¬ cap c.toNat := fun c hc => (List.mem_append.1 hc).elim (xn_ok c) (hall c)
  have hlow : Lb.lower (xn ++ e) = xn ++ e := lower_same fun c hc => (hallT c hc).2.2
  have hpl : plain (xn ++ e) = true := List.all_eq_true.2 fun c hc => by simpa using (hallT c hc).2.1
  have hpos : 0 < e.length := List.length_pos_iff.2 hne
  have hxl : xn.length = 4 := rfl
  have hright : right (xn ++ e) = true := by
    refine right_true (by simp [hne]) (by rw [List.length_append, hxl]; omega) (by show (120 : UInt8).toNat ≠ 45; decide) ?_ ?_
    · rw [List.getD_eq_getElem?_getD, List.length_append, hxl, List.getElem?_append_right (by rw [hxl]; omega), hxl, show 4 + e.length - 1 - 4 = e.length - 1 by omega, ← List.getD_eq_getElem?_getD]
      exact hlast
    · intro k hk
      exact (hallT _ (getD_mem _ k 0 hk)).1
  have huni : uni (xn ++ e) = (utf8 l, 0) := by
    unfold uni
    rw [xn_pre, if_pos rfl, xn_drop, decR_of hdec, if_neg (by simp), uniTail_ok h]
  have hnp := utf8_not_plain l h.lt h.high
  refine ⟨?_, huni, ?_, hright, hlow, h.no46, h.ne, ?_, .inl ⟨xn_pre e, ?_⟩⟩
  · unfold asc ascLow
    rw [hlow, hpl, if_pos rfl, hright, if_pos rfl, xn_pre, if_pos rfl, huni]
  · unfold asc ascLow
    rw [h.lower, hnp, if_neg (by decide), validD_utf8 l h.lt, if_pos rfl, runesF_str, runesL_utf8 l _ h.lt (Nat.lt_succ_self _)]
    unfold ascLoop
    rw [List.all_eq_true.2 h.ok, if_pos rfl, List.nil_append]
    unfold ascTail
    rw [h.hy, if_neg (by decide), encR_of he, if_neg (by simp), if_neg (by show ¬ 63 < e.length + 4; omega)]
  · have h1 := utf8_len2 l h.lt
    have h2 := (Pu.encode_length l e he).1
    rw [List.length_append, hxl]; omega
  · intro e2
    rw [e2, hpl] at hnp
    cases hnp
theorem uni_back {t : Lb.Bytes} (hp : Lib.hasPrefix t xn = true) (h : (uni t).2 = 0) : ∃ l, Pu.decode (t.drop 4) = some l ∧ (∀ r ∈ l, okRune r = true) ∧ (∃ r ∈ l, 128 ≤ r) ∧ isHy l = false := by
  unfold uni at h
  rw [hp, if_pos rfl] at h
  split at h
  · rename_i h2; exact absurd h h2
  · rename_i h2
    obtain ⟨l, hd, e⟩ := decR_back (Decidable.not_not.1 h2)
    rw [e] at h
    unfold uniTail at h
    split at h
    · rename_i h3
      simp only [Bool.and_eq_true, Bool.not_eq_true'] at h3
      obtain ⟨⟨h4, h5⟩, h6⟩ := h3
      obtain ⟨r, hr, hr2⟩ := List.any_eq_true.1 h5
      exact ⟨l, hd, List.all_eq_true.1 h4, ⟨r, hr, by simpa using hr2⟩, h6⟩
    · cases h
theorem lab_ok {p t : Lb.Bytes} (h : asc p = (t, 0)) : ∃ x, LabOk t x := by
  unfold asc at h
  have hcap := lower_low p
  obtain ⟨s, hs⟩ : ∃ s, Lb.lower p = s := ⟨_, rfl⟩
  rw [hs] at h hcap
  unfold ascLow at h
  split at h
  · rename_i hpl
    split at h
    · rename_i hright
      split at h
      · rename_i hxn
        injection h with h1 h2
        subst h1
        obtain ⟨l, hd, hok, hhi, hhy⟩ := uni_back hxn h2
        obtain ⟨hlen, ⟨e, he, hfold⟩, hlow⟩ := decode_parts hd
        have hcapD : ∀ c ∈ s.drop 4, ¬ cap c.toNat := fun c hc => hcap c (List.mem_of_mem_drop hc)
        have hL : LOk l := by
          refine ⟨hok, hhi, ?_, hhy⟩
          intro r hr hc
          have h128 : r < 128 := by unfold cap at hc; omega
          have := hcapD _ (hlow r hr h128)
          rw [low_toNat h128] at this
          exact this hc
        obtain ⟨_, hall, _⟩ := hL.form he
        have hee : e = s.drop 4 := equalFold_low e (s.drop 4) (fun c hc => (hall c hc).2.2) hcapD hfold
        have hsx := xn_split hxn
        rw [← hee] at hsx
        have := lab_xn hL he (by
          have := (right_parts hright).2.1
          rw [hsx, List.length_append] at this
          have hxl : xn.length = 4 := rfl
          omega)
        rw [← hsx] at this
        exact ⟨_, this⟩
      · rename_i hxn
        injection h with h1 h2
        subst h1
        have hx : Lib.hasPrefix s xn = false := by simpa using hxn
        have hlw : Lb.lower s = s := lower_same hcap
        have ha : asc s = (s, 0) := by
          unfold asc ascLow
          rw [hlw, hpl, if_pos rfl, hright, if_pos rfl, hx]; rfl
        have hu : uni s = (s, 0) := by unfold uni; rw [hx]; rfl
        exact ⟨s, ha, hu, ha, hright, hlw, right_no46 hright, (right_parts hright).1, by omega, .inr ⟨hx, rfl⟩⟩
    · injection h with _ h2; cases h2
  · rename_i hpl
    split at h
    · rename_i hv
      rw [runesF_str] at h
      obtain ⟨l, hl⟩ : ∃ l, runesL (s.length + 1) s = l := ⟨_, rfl⟩
      rw [hl] at h
      unfold ascLoop at h
      split at h
      · rename_i hok
        rw [List.nil_append] at h
        unfold ascTail at h
        split at h
        · injection h with _ h2; cases h2
        · rename_i hhy
          split at h
          · rename_i he; injection h with _ h2; exact absurd h2 he
          · rename_i he
            split at h
            · injection h with _ h2; cases h2
            · rename_i hlen
              obtain ⟨e, he1, he2⟩ := encR_back (Decidable.not_not.1 he)
              rw [he2] at hlen h
              injection h with h1 _
              subst h1
              refine ⟨utf8 l, lab_xn ⟨List.all_eq_true.1 hok, ?_, ?_, by simpa using hhy⟩ he1 (by omega)⟩
              · by_cases hex : ∃ r ∈ l, 128 ≤ r
                · exact hex
                · exfalso
                  refine hpl (runesL_plain (s.length + 1) s (Nat.lt_succ_self _) ?_)
                  rw [hl]
                  intro r hr
                  exact Nat.lt_of_not_le fun hc => hex ⟨r, hr, hc⟩
              · intro r hr hc
                have h128 : r < 128 := by unfold cap at hc; omega
                rw [← hl] at hr
                have := hcap _ (runesL_low _ _ _ hr h128)
                rw [low_toNat h128] at this
                exact this hc
      · injection h with _ h2; cases h2
    · injection h with _ h2; cases h2
end Nm
end Go.Proofs.YtlojfbmngippaaaDoor
