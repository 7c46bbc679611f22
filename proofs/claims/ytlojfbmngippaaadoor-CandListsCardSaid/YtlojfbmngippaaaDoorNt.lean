/- The law of a name: what goes out is read, and goes out again, as it was. Plain Lean, no program. -/
import Derived.Test.YtlojfbmngippaaaDoorLt
namespace Go.Proofs.YtlojfbmngippaaaDoor
namespace Nm

/-! ### a name's labels, each turned -/
theorem eachL_all {f : Lb.Bytes → Lb.Bytes × Nat} : ∀ (ps acc : List Lb.Bytes), (∀ p ∈ ps, (f p).2 = 0) → eachL f acc ps = (Lb.join (acc ++ ps.map fun p => (f p).1), 0)
  | [], acc, _ => by simp [eachL]
  | p :: ps, acc, h => by
    rw [eachL_on (h p (by simp)), eachL_all ps _ (fun q hq => h q (by simp [hq])), List.append_assoc]; rfl
theorem eachL_ok {f : Lb.Bytes → Lb.Bytes × Nat} : ∀ (ps acc : List Lb.Bytes), (eachL f acc ps).2 = 0 → ∀ p ∈ ps, (f p).2 = 0
  | [], _, _ => by intro p hp; cases hp
  | p :: ps, acc, h => by
    by_cases h0 : (f p).2 = 0
    · rw [eachL_on h0] at h
      intro q hq
      rcases List.mem_cons.1 hq with rfl | hq
      · exact h0
      · exact eachL_ok ps _ h q hq
    · rw [eachL_bad h0] at h; exact absurd h h0
theorem eachL_nil {f : Lb.Bytes → Lb.Bytes × Nat} : ∀ (ps acc : List Lb.Bytes), (eachL f acc ps).2 ≠ 0 → (eachL f acc ps).1 = [] ∧ ∃ p ∈ ps, (f p).2 = (eachL f acc ps).2
  | [], _, h => absurd rfl h
  | p :: ps, acc, h => by
    by_cases h0 : (f p).2 = 0
    · rw [eachL_on h0] at h ⊢
      obtain ⟨h1, q, hq, h2⟩ := eachL_nil ps _ h
      exact ⟨h1, q, List.mem_cons_of_mem _ hq, h2⟩
    · rw [eachL_bad h0]; exact ⟨rfl, p, by simp, rfl⟩
/-- Rows that go out: no points, none empty. -/
def Labs (xs : List Lb.Bytes) : Prop := xs ≠ [] ∧ ∀ x ∈ xs, x ≠ [] ∧ ∀ c ∈ x, c ≠ 46
theorem join_ne_dot {xs : List Lb.Bytes} (h : Labs xs) : Lib.hasSuffix (Lb.join xs) [46] = false := by
  cases hh : Lib.hasSuffix (Lb.join xs) [46] with
  | false => rfl
  | true =>
    exfalso
    unfold Lib.hasSuffix at hh
    obtain ⟨t, ht⟩ := List.isSuffixOf_iff_suffix.1 hh
    obtain ⟨ys, x, rfl⟩ : ∃ ys x, xs = ys ++ [x] := by
      rcases List.eq_nil_or_concat xs with e0 | ⟨a, b, e0⟩
      · exact absurd e0 h.1
      · exact ⟨a, b, by rw [e0, List.concat_eq_append]⟩
    obtain ⟨hx, hd⟩ := h.2 x (by simp)
    obtain ⟨zs, z, rfl⟩ : ∃ zs z, x = zs ++ [z] := by
      rcases List.eq_nil_or_concat x with e0 | ⟨a, b, e0⟩
      · exact absurd e0 hx
      · exact ⟨a, b, by rw [e0, List.concat_eq_append]⟩
    have hz : z ≠ 46 := hd z (by simp)
    have hlast : ∃ u, Lb.join (ys ++ [zs ++ [z]]) = u ++ [z] := by
      by_cases hy : ys = []
      · subst hy; exact ⟨zs, rfl⟩
      · rw [Lb.join_snoc _ _ hy]; exact ⟨Lb.join ys ++ 46 :: zs, by simp⟩
    obtain ⟨u, hu⟩ := hlast
    rw [hu] at ht
    have := (List.append_inj' ht rfl).2
    injection this with e
    exact hz e.symm
theorem trim_of {s : Lb.Bytes} (h : Lib.hasSuffix s [46] = false) : Lib.trimSuffix s [46] = s := by unfold Lib.trimSuffix; rw [h]; rfl
theorem trim_join {xs : List Lb.Bytes} (h : Labs xs) : Lib.trimSuffix (Lb.join xs) [46] = Lb.join xs := trim_of (join_ne_dot h)
theorem split_labs {xs : List Lb.Bytes} (h : Labs xs) : Lb.split (Lb.join xs) = xs := Lb.split_join xs h.1 fun x hx => (h.2 x hx).2
theorem each_join (f : Lb.Bytes → Lb.Bytes × Nat) {xs : List Lb.Bytes} (h : Labs xs) : each f (Lb.join xs) = eachL f [] xs := by
  unfold each; rw [trim_join h, split_labs h]
theorem join_len_le : ∀ (xs ys : List Lb.Bytes), xs.length = ys.length → (∀ j, j < xs.length → (xs.getD j []).length ≤ 2 * (ys.getD j []).length) → (Lb.join xs).length ≤ 2 * (Lb.join ys).length
  | [], _, _, _ => by simp [Lb.join]
  | [x], [y], _, h => by have := h 0 (by simp); simpa [Lb.join] using this
  | [_], [], e, _ => by cases e
  | [_], _ :: _ :: _, e, _ => by cases e
  | _ :: _ :: _, [], e, _ => by cases e
  | _ :: _ :: _, [_], e, _ => by cases e
  | x :: x2 :: xs, y :: y2 :: ys, e, h => by
    have h0 := h 0 (by simp)
    have ih := join_len_le (x2 :: xs) (y2 :: ys) (by simpa using e) (fun j hj => by have := h (j + 1) (by simpa using hj); simpa using this)
    simp only [List.getD_cons_zero] at h0
    simp only [Lb.join, List.length_append, List.length_cons] at ih ⊢
    omega
/-- The labels of a name that goes out, and those of what is read of it. -/
structure Pairs (ts xs : List Lb.Bytes) : Prop where
  len : xs.length = ts.length
  lab : ∀ j, j < ts.length → LabOk (ts.getD j []) (xs.getD j [])
theorem Pairs.nil : Pairs [] [] := ⟨rfl, fun j hj => absurd hj (Nat.not_lt_zero _)⟩
theorem Pairs.cons {t x : Lb.Bytes} {ts xs : List Lb.Bytes} (h : LabOk t x) (hp : Pairs ts xs) : Pairs (t :: ts) (x :: xs) := by
  refine ⟨by simp [hp.len], fun j hj => ?_⟩
  cases j with
  | zero => exact h
  | succ j => exact hp.lab j (by simpa using hj)
theorem pairs_of : ∀ (ps : List Lb.Bytes), (∀ p ∈ ps, (asc p).2 = 0) → ∃ xs, Pairs (ps.map fun p => (asc p).1) xs
  | [], _ => ⟨[], Pairs.nil⟩
  | p :: ps, h => by
    obtain ⟨xs, hx⟩ := pairs_of ps fun q hq => h q (by simp [hq])
    obtain ⟨x, hl⟩ := lab_ok (p := p) (t := (asc p).1) (Prod.ext rfl (h p (by simp)))
    exact ⟨x :: xs, Pairs.cons hl hx⟩
theorem getD_of_mem {α : Type} {l : List α} {a : α} (d : α) (h : a ∈ l) : ∃ j, j < l.length ∧ l.getD j d = a := by
  obtain ⟨j, hj, rfl⟩ := List.mem_iff_getElem.1 h
  exact ⟨j, hj, by rw [List.getD_eq_getElem?_getD, List.getElem?_eq_getElem hj]; rfl⟩
theorem Pairs.mem {ts xs : List Lb.Bytes} (h : Pairs ts xs) {t : Lb.Bytes} (ht : t ∈ ts) : ∃ x, LabOk t x := by
  obtain ⟨j, hj, rfl⟩ := getD_of_mem [] ht
  exact ⟨_, h.lab j hj⟩
theorem Pairs.memX {ts xs : List Lb.Bytes} (h : Pairs ts xs) {x : Lb.Bytes} (hx : x ∈ xs) : ∃ t, LabOk t x := by
  obtain ⟨j, hj, rfl⟩ := getD_of_mem [] hx
  exact ⟨_, h.lab j (by rw [← h.len]; exact hj)⟩
theorem Pairs.labsT {ts xs : List Lb.Bytes} (h : Pairs ts xs) (hne : ts ≠ []) : Labs ts :=
  ⟨hne, fun t ht => by obtain ⟨x, hl⟩ := h.mem ht; exact ⟨(right_parts hl.rightT).1, right_no46 hl.rightT⟩⟩
theorem Pairs.labsX {ts xs : List Lb.Bytes} (h : Pairs ts xs) (hne : ts ≠ []) : Labs xs :=
  ⟨by intro e; have := h.len; rw [e] at this; exact hne (List.eq_nil_of_length_eq_zero this.symm), fun x hx => by obtain ⟨t, hl⟩ := h.memX hx; exact ⟨hl.neX, hl.dotX⟩⟩
theorem map_getD_eq {f : Lb.Bytes → Lb.Bytes} : ∀ (us bs : List Lb.Bytes), us.length = bs.length → (∀ j, j < us.length → f (us.getD j []) = bs.getD j []) → us.map f = bs
  | [], [], _, _ => rfl
  | [], _ :: _, e, _ => by cases e
  | _ :: _, [], e, _ => by cases e
  | a :: us, b :: bs, e, h => by
    have h0 := h 0 (by simp)
    simp only [List.getD_cons_zero] at h0
    rw [List.map_cons, h0, map_getD_eq us bs (by simpa using e) (fun j hj => by have := h (j + 1) (by simpa using hj); simpa using this)]
theorem Pairs.eachT {ts xs : List Lb.Bytes} (h : Pairs ts xs) (hne : ts ≠ []) : each asc (Lb.join ts) = (Lb.join ts, 0) := by
  rw [each_join asc (h.labsT hne), eachL_all ts [] (fun t ht => by obtain ⟨x, hl⟩ := h.mem ht; rw [hl.ascT]), List.nil_append,
    map_getD_eq (f := fun p => (asc p).1) ts ts rfl (fun j hj => by show (asc _).1 = _; rw [(h.lab j hj).ascT])]
theorem Pairs.eachU {ts xs : List Lb.Bytes} (h : Pairs ts xs) (hne : ts ≠ []) : each uni (Lb.join ts) = (Lb.join xs, 0) := by
  rw [each_join uni (h.labsT hne), eachL_all ts [] (fun t ht => by obtain ⟨x, hl⟩ := h.mem ht; rw [hl.uniT]), List.nil_append,
    map_getD_eq (f := fun p => (uni p).1) ts xs h.len.symm (fun j hj => by show (uni _).1 = _; rw [(h.lab j hj).uniT])]
theorem Pairs.eachX {ts xs : List Lb.Bytes} (h : Pairs ts xs) (hne : ts ≠ []) : each asc (Lb.join xs) = (Lb.join ts, 0) := by
  rw [each_join asc (h.labsX hne), eachL_all xs [] (fun x hx => by obtain ⟨t, hl⟩ := h.memX hx; rw [hl.ascX]), List.nil_append,
    map_getD_eq (f := fun p => (asc p).1) xs ts h.len (fun j hj => by show (asc _).1 = _; rw [(h.lab j (by rw [← h.len]; exact hj)).ascX])]
theorem Pairs.lenX {ts xs : List Lb.Bytes} (h : Pairs ts xs) : (Lb.join xs).length ≤ 2 * (Lb.join ts).length :=
  join_len_le xs ts h.len fun j hj => (h.lab j (by rw [← h.len]; exact hj)).lenX

theorem toASCII_of {s t : Lb.Bytes} (h1 : s.length ≤ 1012) (h2 : each asc s = (t, 0)) (h3 : t.length ≤ 253) : toASCII s = (t, 0) := by
  unfold toASCII
  rw [if_neg (by omega), h2, if_neg (by rintro ⟨_, h⟩; simp only at h; omega)]
theorem toASCII_back {s t : Lb.Bytes} (h : toASCII s = (t, 0)) : s.length ≤ 1012 ∧ each asc s = (t, 0) ∧ t.length ≤ 253 := by
  unfold toASCII at h
  split at h
  · injection h with _ h; cases h
  · split at h
    · injection h with _ h; cases h
    · rename_i h1 h2
      rw [h] at h2
      exact ⟨by omega, h, by have : ¬ 253 < t.length := fun h3 => h2 ⟨rfl, h3⟩; omega⟩
/-- THE LAW OF A NAME: what goes out is labels that may be; it is read, and goes out again. -/
theorem name_ok {s t : Lb.Bytes} (h : toASCII s = (t, 0)) : ∃ ts xs, ts ≠ [] ∧ Pairs ts xs ∧ t = Lb.join ts ∧ t.length ≤ 253 := by
  obtain ⟨_, h2, h3⟩ := toASCII_back h
  unfold each at h2
  obtain ⟨ps, hps⟩ : ∃ ps, Lb.split (Lib.trimSuffix s [46]) = ps := ⟨_, rfl⟩
  have hne : ps ≠ [] := by rw [← hps]; exact Lb.split_ne_nil _
  rw [hps] at h2
  have hok := eachL_ok ps [] (by rw [h2])
  rw [eachL_all ps [] hok, List.nil_append] at h2
  injection h2 with h2 _
  obtain ⟨xs, hx⟩ := pairs_of ps hok
  exact ⟨_, xs, by simpa using hne, hx, h2.symm, h3⟩
theorem Pairs.toT {ts xs : List Lb.Bytes} (h : Pairs ts xs) (hne : ts ≠ []) (hl : (Lb.join ts).length ≤ 253) : toASCII (Lb.join ts) = (Lb.join ts, 0) :=
  toASCII_of (by omega) (h.eachT hne) hl
theorem Pairs.toX {ts xs : List Lb.Bytes} (h : Pairs ts xs) (hne : ts ≠ []) (hl : (Lb.join ts).length ≤ 253) : toASCII (Lb.join xs) = (Lb.join ts, 0) :=
  toASCII_of (by have := h.lenX; omega) (h.eachX hne) hl
theorem Pairs.toU {ts xs : List Lb.Bytes} (h : Pairs ts xs) (hne : ts ≠ []) (hl : (Lb.join ts).length ≤ 253) : toUnicode (Lb.join ts) = (Lb.join xs, 0) := by
  unfold toUnicode
  rw [h.toT hne hl, if_neg (by simp), h.eachU hne]

/-! ### errors -/
theorem uni_err (s : Lb.Bytes) : (uni s).2 = 0 ∨ (uni s).2 = 3 := by
  unfold uni
  split
  · split
    · right; show (decR _).2 = 3; rename_i h
      unfold decR at h ⊢
      cases hd : Pu.decode (s.drop 4) with
      | none => rfl
      | some l => rw [hd] at h; exact absurd rfl h
    · unfold uniTail
      split
      · exact .inl rfl
      · exact .inr rfl
  · exact .inl rfl
theorem asc_err (s : Lb.Bytes) : (asc s).2 = 0 ∨ (asc s).2 = 1 ∨ (asc s).2 = 2 ∨ (asc s).2 = 3 := by
  unfold asc ascLow
  split
  · split
    · split
      · rcases uni_err (Lb.lower s) with h | h
        · exact .inl h
        · exact .inr (.inr (.inr h))
      · exact .inl rfl
    · exact .inr (.inl rfl)
  · split
    · unfold ascLoop
      split
      · unfold ascTail
        split
        · exact .inr (.inl rfl)
        · split
          · rename_i h
            right; right; left
            show (encR _).2 = 2
            unfold encR at h ⊢
            cases he : Pu.encode ([] ++ runesF (Lb.str (Lb.lower s)) ((Lb.lower s).length + 1) 0) with
            | none => rfl
            | some l => rw [he] at h; exact absurd rfl h
          · split
            · exact .inr (.inr (.inl rfl))
            · exact .inl rfl
      · exact .inr (.inl rfl)
    · exact .inr (.inl rfl)
theorem toASCII_err {s : Lb.Bytes} (h : (toASCII s).2 ≠ 0) : (toASCII s).1 = [] ∧ ((toASCII s).2 = 1 ∨ (toASCII s).2 = 3 ∨ (toASCII s).2 = 2) := by
  unfold toASCII at h ⊢
  split
  · exact ⟨rfl, .inr (.inr rfl)⟩
  · rename_i h1
    rw [if_neg h1] at h
    split
    · exact ⟨rfl, .inr (.inr rfl)⟩
    · rename_i h2
      rw [if_neg h2] at h
      unfold each at h ⊢
      obtain ⟨h3, p, hp, h4⟩ := eachL_nil _ _ h
      refine ⟨h3, ?_⟩
      rw [← h4] at h ⊢
      rcases asc_err p with e | e | e | e
      · exact absurd e h
      · exact .inl e
      · exact .inr (.inr e)
      · exact .inr (.inl e)

/-! ### the laws -/
theorem nameBack_law {s t : Lb.Bytes} (h : toASCII s = (t, 0)) : ∃ u, toUnicode t = (u, 0) ∧ toASCII u = (t, 0) ∧ toASCII t = (t, 0) ∧ u.length ≤ 506 := by
  obtain ⟨ts, xs, hne, hp, rfl, hl⟩ := name_ok h
  exact ⟨_, hp.toU hne hl, hp.toX hne hl, hp.toT hne hl, by have := hp.lenX; omega⟩
theorem join_lower : ∀ ts : List Lb.Bytes, (∀ t ∈ ts, Lb.lower t = t) → Lb.lower (Lb.join ts) = Lb.join ts
  | [], _ => rfl
  | [t], h => h t (by simp)
  | t :: t2 :: ts, h => by
    have ih := join_lower (t2 :: ts) fun x hx => h x (by simp only [List.mem_cons] at hx ⊢; exact .inr hx)
    have h0 := h t (by simp)
    unfold Lb.lower at ih h0 ⊢
    simp only [Lb.join, List.map_append, List.map_cons] at ih ⊢
    rw [h0, ih]; rfl
theorem nameRight_law {s t : Lb.Bytes} (h : toASCII s = (t, 0)) : (∀ x ∈ Lb.split t, right x = true) ∧ t.length ≤ 253 ∧ Lb.lower t = t ∧ t.count 46 + 1 = Lb.count t := by
  obtain ⟨ts, xs, hne, hp, rfl, hl⟩ := name_ok h
  have hs := split_labs (hp.labsT hne)
  refine ⟨?_, hl, join_lower ts fun t ht => by obtain ⟨x, hx⟩ := hp.mem ht; exact hx.lowT, ?_⟩
  · rw [hs]
    intro t ht
    obtain ⟨x, hx⟩ := hp.mem ht
    exact hx.rightT
  · unfold Lb.count
    rw [if_neg, Lb.split_count]
    intro e
    have := join_ne_dot (hp.labsT hne)
    rw [e] at this
    cases this
theorem xn_four {t : Lb.Bytes} (hr : right t = true) (hx : Lib.hasPrefix t xn = true) : 4 < t.length := by
  have h1 := xn_split hx
  have hxl : xn.length = 4 := rfl
  have h2 := congrArg List.length h1
  rw [List.length_append, hxl] at h2
  have h3 := (right_parts hr).2.2.2
  rcases Nat.lt_or_ge 4 t.length with h | h
  · exact h
  · exfalso
    have h4 : t.drop 4 = [] := List.drop_eq_nil_of_le (by omega)
    rw [h4] at h1
    rw [h1] at h3
    exact h3 rfl
theorem toUnicode_ok {s : Lb.Bytes} : (toUnicode s).2 = 0 ↔ toASCII s = (s, 0) := by
  constructor
  · intro h
    unfold toUnicode at h
    split at h
    · cases h
    · rename_i h2
      exact Prod.ext (Decidable.not_not.1 fun hc => h2 (.inr hc)) (Decidable.not_not.1 fun hc => h2 (.inl hc))
  · intro h
    obtain ⟨ts, xs, hne, hp, rfl, hl⟩ := name_ok h
    rw [hp.toU hne hl]
theorem toUnicode_err {s : Lb.Bytes} (h : (toUnicode s).2 ≠ 0) : (toUnicode s).1 = [] := by
  unfold toUnicode at h ⊢
  split
  · rfl
  · rename_i h2
    rw [if_neg h2] at h
    exact (eachL_nil _ _ h).1
/-- What is read of a name: as many labels; each is another one just if it is Punycode. -/
theorem nameReads_law {s : Lb.Bytes} (h : (toUnicode s).2 = 0) :
    ∃ ts xs, Lb.split s = ts ∧ Lb.split (toUnicode s).1 = xs ∧ ts.length = xs.length ∧ (toUnicode s).1.length ≤ 506 ∧
      ∀ j, j < ts.length → (4 < (ts.getD j []).length ∧ Lib.hasPrefix (ts.getD j []) xn = true ∧ ts.getD j [] ≠ xs.getD j []) ∨ ((Lib.hasPrefix (ts.getD j []) xn = false) ∧ ts.getD j [] = xs.getD j []) := by
  obtain ⟨ts, xs, hne, hp, rfl, hl⟩ := name_ok (toUnicode_ok.1 h)
  refine ⟨ts, xs, split_labs (hp.labsT hne), ?_, hp.len.symm, ?_, ?_⟩
  · rw [hp.toU hne hl]; exact split_labs (hp.labsX hne)
  · rw [hp.toU hne hl]; have := hp.lenX; show (Lb.join xs).length ≤ _; omega
  · intro j hj
    have hl := hp.lab j hj
    rcases hl.same with ⟨h1, h2⟩ | ⟨h1, h2⟩
    · exact .inl ⟨xn_four hl.rightT h1, h1, fun e => h2 e.symm⟩
    · exact .inr ⟨h1, h2.symm⟩

/-! ### parts -/
theorem split_app (a b : Lb.Bytes) : Lb.split (a ++ 46 :: b) = Lb.split a ++ Lb.split b := by
  induction a with
  | nil => simp [Lb.split]
  | cons c a ih =>
    by_cases hc : c = 46
    · simp only [List.cons_append, Lb.split, hc, if_true, ih]
    · simp only [List.cons_append, Lb.split, hc, if_false, ih]
      cases hs : Lb.split a with
      | nil => exact absurd hs (Lb.split_ne_nil a)
      | cons x xs => simp
theorem join_app : ∀ (us bs : List Lb.Bytes), us ≠ [] → bs ≠ [] → Lb.join (us ++ bs) = Lb.join us ++ 46 :: Lb.join bs
  | [], _, h, _ => absurd rfl h
  | [a], bs, _, hb => by
    cases bs with
    | nil => exact absurd rfl hb
    | cons b bs => rfl
  | a :: a2 :: us, bs, _, hb => by
    have ih := join_app (a2 :: us) bs (by simp) hb
    simp only [List.cons_append] at ih ⊢
    simp only [Lb.join, ih, List.append_assoc, List.cons_append]
theorem eachL_app {f : Lb.Bytes → Lb.Bytes × Nat} : ∀ (ps qs acc : List Lb.Bytes), eachL f acc (ps ++ qs) = if (eachL f acc ps).2 ≠ 0 then ([], (eachL f acc ps).2) else eachL f (acc ++ ps.map fun p => (f p).1) qs
  | [], qs, acc => by simp [eachL]
  | p :: ps, qs, acc => by
    by_cases h : (f p).2 = 0
    · rw [List.cons_append, eachL_on h, eachL_on h, eachL_app ps qs, List.map_cons, List.append_assoc]; rfl
    · rw [List.cons_append, eachL_bad h, eachL_bad h, if_pos h]
theorem eachL_code {f : Lb.Bytes → Lb.Bytes × Nat} : ∀ (ps acc acc2 : List Lb.Bytes), (eachL f acc ps).2 = (eachL f acc2 ps).2
  | [], _, _ => rfl
  | p :: ps, acc, acc2 => by
    by_cases h : (f p).2 = 0
    · rw [eachL_on h, eachL_on h]; exact eachL_code ps _ _
    · rw [eachL_bad h, eachL_bad h]
theorem hasSuffix_app {a b : Lb.Bytes} (hb : b ≠ []) (h : Lib.hasSuffix b [46] = false) : Lib.hasSuffix (a ++ 46 :: b) [46] = false := by
  cases hh : Lib.hasSuffix (a ++ 46 :: b) [46] with
  | false => rfl
  | true =>
    exfalso
    unfold Lib.hasSuffix at hh h
    obtain ⟨t, ht⟩ := List.isSuffixOf_iff_suffix.1 hh
    obtain ⟨zs, z, rfl⟩ : ∃ zs z, b = zs ++ [z] := by
      rcases List.eq_nil_or_concat b with e0 | ⟨x, y, e0⟩
      · exact absurd e0 hb
      · exact ⟨x, y, by rw [e0, List.concat_eq_append]⟩
    rw [show a ++ 46 :: (zs ++ [z]) = (a ++ 46 :: zs) ++ [z] by simp] at ht
    have := (List.append_inj' ht rfl).2
    injection this with e
    subst e
    have : List.isSuffixOf [46] (zs ++ [46]) = true := List.isSuffixOf_iff_suffix.2 ⟨zs, rfl⟩
    rw [this] at h
    cases h
/-- A name of two parts, the last one not empty. -/
theorem each_app (f : Lb.Bytes → Lb.Bytes × Nat) {a b : Lb.Bytes} (ha : Lib.hasSuffix a [46] = false) (hb0 : b ≠ []) (hb : Lib.hasSuffix b [46] = false) :
    each f (a ++ 46 :: b) = if (each f a).2 ≠ 0 then ([], (each f a).2) else if (each f b).2 ≠ 0 then ([], (each f b).2) else ((each f a).1 ++ 46 :: (each f b).1, 0) := by
  unfold each
  rw [trim_of (hasSuffix_app hb0 hb), trim_of ha, trim_of hb, split_app, eachL_app]
  split
  · rfl
  · rename_i h1
    have h1 := Decidable.not_not.1 h1
    have hA := eachL_all _ [] (eachL_ok _ _ h1)
    rw [hA]
    split
    · rename_i h2
      have hc := eachL_code (f := f) (Lb.split b) ([] ++ (Lb.split a).map fun p => (f p).1) []
      rw [← hc] at h2 ⊢
      obtain ⟨e, _⟩ := eachL_nil _ _ h2
      exact Prod.ext e rfl
    · rename_i h2
      have h2 := eachL_ok _ _ (Decidable.not_not.1 h2)
      rw [eachL_all _ _ h2, eachL_all _ [] h2, List.nil_append, List.nil_append, join_app _ _ (by simpa using Lb.split_ne_nil a) (by simpa using Lb.split_ne_nil b)]
theorem trim_end (a : Lb.Bytes) : Lib.trimSuffix (a ++ [46]) [46] = a := by
  unfold Lib.trimSuffix
  rw [if_pos (by unfold Lib.hasSuffix; exact List.isSuffixOf_iff_suffix.2 ⟨a, rfl⟩)]
  simp
theorem toASCII_small {s : Lb.Bytes} (h : s.length ≤ 1012) : toASCII s = if (each asc s).2 = 0 ∧ 253 < (each asc s).1.length then ([], 2) else each asc s := by
  unfold toASCII; rw [if_neg (by omega)]
theorem toASCII_code {s : Lb.Bytes} (h : s.length ≤ 1012) (h2 : (toASCII s).2 ≠ 2) : (each asc s).2 = (toASCII s).2 ∧ ((toASCII s).2 = 0 → each asc s = toASCII s ∧ (each asc s).1.length ≤ 253) := by
  rw [toASCII_small h] at h2 ⊢
  split
  · rename_i h3; rw [if_pos h3] at h2; exact absurd rfl h2
  · rename_i h3
    refine ⟨rfl, fun h0 => ⟨rfl, ?_⟩⟩
    rcases Nat.lt_or_ge 253 (each asc s).1.length with h4 | h4
    · exact absurd ⟨h0, h4⟩ h3
    · exact h4
theorem nameParts_law {a b : Lb.Bytes} (hl : a.length + b.length ≤ 400) (ha : Lib.hasSuffix a [46] = false) (hb : Lib.hasSuffix b [46] = false) :
    ((toASCII a).2 ≠ 0 → (toASCII a).2 ≠ 2 → (toASCII (a ++ 46 :: b)).2 = (toASCII a).2) ∧
    ((toASCII a).2 = 0 → b ≠ [] → (toASCII b).2 ≠ 2 → (toASCII b).2 ≠ 0 → (toASCII (a ++ 46 :: b)).2 = (toASCII b).2) ∧
    ((toASCII a).2 = 0 → b ≠ [] → (toASCII b).2 = 0 → (253 < (toASCII a).1.length + 1 + (toASCII b).1.length → (toASCII (a ++ 46 :: b)).2 = 2) ∧
      (¬ 253 < (toASCII a).1.length + 1 + (toASCII b).1.length → toASCII (a ++ 46 :: b) = ((toASCII a).1 ++ 46 :: (toASCII b).1, 0))) := by
  have hA : a.length ≤ 1012 := by omega
  have hB : b.length ≤ 1012 := by omega
  have hC : (a ++ 46 :: b).length ≤ 1012 := by rw [List.length_append, List.length_cons]; omega
  refine ⟨fun h1 h2 => ?_, fun h1 h0 h2 h3 => ?_, fun h1 h0 h2 => ?_⟩
  · obtain ⟨e1, _⟩ := toASCII_code hA h2
    have hE : (each asc (a ++ 46 :: b)).2 = (each asc a).2 := by
      by_cases h0 : b = []
      · subst h0
        unfold each
        rw [trim_end, trim_of ha]
      · rw [each_app asc ha h0 hb, if_pos (by rw [e1]; exact h1)]
    rw [toASCII_small hC, hE, e1, if_neg (by rintro ⟨h, _⟩; exact h1 h), hE, e1]
  · obtain ⟨e1, _⟩ := toASCII_code hA (by rw [h1]; decide)
    obtain ⟨e2, _⟩ := toASCII_code hB h2
    have hE : each asc (a ++ 46 :: b) = ([], (toASCII b).2) := by
      rw [each_app asc ha h0 hb, if_neg (by rw [e1, h1]; simp), if_pos (by rw [e2]; exact h3), e2]
    rw [toASCII_small hC, hE, if_neg (by rintro ⟨h, _⟩; exact h3 h)]
  · obtain ⟨_, e1⟩ := toASCII_code hA (by rw [h1]; decide)
    obtain ⟨_, e2⟩ := toASCII_code hB (by rw [h2]; decide)
    obtain ⟨e1, _⟩ := e1 h1
    obtain ⟨e2, _⟩ := e2 h2
    have hE : each asc (a ++ 46 :: b) = ((toASCII a).1 ++ 46 :: (toASCII b).1, 0) := by
      rw [each_app asc ha h0 hb, if_neg (by rw [e1, h1]; simp), if_neg (by rw [e2, h2]; simp), e1, e2]
    rw [toASCII_small hC, hE]
    refine ⟨fun h => ?_, fun h => ?_⟩
    · rw [if_pos ⟨rfl, by simp only [List.length_append, List.length_cons]; omega⟩]
    · rw [if_neg (by rintro ⟨_, h3⟩; simp only [List.length_append, List.length_cons] at h3; omega)]
end Nm
end Go.Proofs.YtlojfbmngippaaaDoor
