/- Labels in plain Lean: what the Go functions of package label compute. No program, no memory. -/
import Derived.RowKit
namespace Go.Proofs.YtffjfggndfcfmaaDoor.Lb
abbrev Bytes := List UInt8

def split : Bytes → List Bytes
  | [] => [[]]
  | c :: t => if c = 46 then [] :: split t else match split t with
    | [] => [[c]]
    | x :: xs => (c :: x) :: xs
def join : List Bytes → Bytes
  | [] => []
  | [x] => x
  | x :: y :: l => x ++ 46 :: join (y :: l)
def lowerB (c : UInt8) : UInt8 := if 65 ≤ c.toNat ∧ c.toNat ≤ 90 then c + 32 else c
def lower (s : Bytes) : Bytes := s.map lowerB
def str (s : Bytes) : ByteArray := ⟨s.toArray⟩
def strV (s : Bytes) : Value := .string (str s)

theorem str_toList (s : Bytes) : (str s).data.toList = s := rfl
theorem str_size (s : Bytes) : (str s).size = s.length := rfl
theorem str_back (s : ByteArray) : str s.data.toList = s := by cases s; simp [str]

theorem split_ne_nil (s : Bytes) : split s ≠ [] := by
  cases s with
  | nil => simp [split]
  | cons c t =>
    unfold split
    split
    · simp
    · split <;> simp
theorem split_dot (a t : Bytes) (h : ∀ c ∈ a, c ≠ 46) : split (a ++ 46 :: t) = a :: split t := by
  induction a with
  | nil => simp [split]
  | cons c a ih =>
    have h1 := ih (fun d hd => h d (by simp [hd]))
    have h2 := h c (by simp)
    simp only [List.cons_append, split, if_neg h2, h1]
theorem split_one (a : Bytes) (h : ∀ c ∈ a, c ≠ 46) : split a = [a] := by
  induction a with
  | nil => simp [split]
  | cons c a ih =>
    have h1 := ih (fun d hd => h d (by simp [hd]))
    have h2 := h c (by simp)
    simp only [split, if_neg h2, h1]
theorem split_length_le (s : Bytes) : (split s).length ≤ s.length + 1 := by
  induction s with
  | nil => simp [split]
  | cons c t ih =>
    unfold split
    split
    · simp; omega
    · split
      · simp
      · rename_i x xs hx
        rw [hx] at ih
        simp at ih ⊢; omega
/-- What has been cut off so far, and the rest, make the whole. -/
def SplitAt (s : Bytes) (xs : List Bytes) (frm i : Nat) : Prop :=
  frm ≤ i ∧ (if i ≤ s.length then xs ++ split (s.drop frm) = split s ∧ ∀ j, frm ≤ j → j < i → s[j]? ≠ some 46 else xs = split s)
theorem splitAt_start (s : Bytes) : SplitAt s [] 0 0 := ⟨Nat.le_refl _, by simp⟩
theorem splitAt_len {s : Bytes} {xs : List Bytes} {frm i : Nat} (h : SplitAt s xs frm i) : xs.length ≤ s.length + 1 := by
  obtain ⟨_, h⟩ := h
  split at h
  · have := congrArg List.length h.1
    have h2 := split_length_le s
    simp at this; omega
  · rw [h]; exact split_length_le s
theorem splitAt_piece {s : Bytes} {frm i : Nat} (hf : frm ≤ i) (hi : i ≤ s.length) (h : ∀ j, frm ≤ j → j < i → s[j]? ≠ some 46) : ∀ c ∈ (s.drop frm).take (i - frm), c ≠ 46 := by
  intro c hc hcd
  subst hcd
  obtain ⟨j, hj, e⟩ := List.mem_iff_getElem.1 hc
  simp only [List.length_take, List.length_drop] at hj
  refine h (frm + j) (by omega) (by omega) ?_
  simp only [List.getElem_take, List.getElem_drop] at e
  rw [List.getElem?_eq_getElem (by omega), e]
theorem splitAt_cut {s : Bytes} {xs : List Bytes} {frm i : Nat} (h : SplitAt s xs frm i) (hi : i ≤ s.length) (hc : i = s.length ∨ s[i]? = some 46) :
    SplitAt s (xs ++ [(s.drop frm).take (i - frm)]) (i + 1) (i + 1) := by
  obtain ⟨hf, h⟩ := h
  rw [if_pos hi] at h
  obtain ⟨h1, h2⟩ := h
  have hp := splitAt_piece hf hi h2
  refine ⟨Nat.le_refl _, ?_⟩
  by_cases he : i = s.length
  · rw [if_neg (by omega)]
    have e : (s.drop frm).take (i - frm) = s.drop frm := List.take_of_length_le (by simp; omega)
    rw [e] at hp ⊢
    rw [← h1, split_one _ hp]
  · have hlt : i < s.length := by omega
    have hdot : s[i]? = some 46 := by rcases hc with hc | hc; exact absurd hc he; exact hc
    rw [if_pos (by omega)]
    refine ⟨?_, fun j a b => by omega⟩
    have e : s.drop frm = (s.drop frm).take (i - frm) ++ 46 :: s.drop (i + 1) := by
      have e1 : (s.drop frm).drop (i - frm) = s.drop i := by rw [List.drop_drop]; congr 1; omega
      have e2 : s.drop i = 46 :: s.drop (i + 1) := by
        rw [List.drop_eq_getElem_cons hlt]
        congr 1
        rw [List.getElem?_eq_getElem hlt] at hdot
        injection hdot
      conv => lhs; rw [← List.take_append_drop (i - frm) (s.drop frm), e1, e2]
    rw [e, split_dot _ _ hp] at h1
    rw [← h1]
    simp
theorem splitAt_on {s : Bytes} {xs : List Bytes} {frm i : Nat} (h : SplitAt s xs frm i) (hi : i < s.length) (hc : s[i]? ≠ some 46) : SplitAt s xs frm (i + 1) := by
  obtain ⟨hf, h⟩ := h
  rw [if_pos (by omega)] at h
  refine ⟨by omega, ?_⟩
  rw [if_pos (by omega)]
  refine ⟨h.1, fun j a b => ?_⟩
  by_cases e : j = i
  · subst e; exact hc
  · exact h.2 j a (by omega)
theorem splitAt_end {s : Bytes} {xs : List Bytes} {frm i : Nat} (h : SplitAt s xs frm i) (hi : i = s.length + 1) : xs = split s := by
  obtain ⟨_, h⟩ := h
  rw [if_neg (by omega)] at h
  exact h

/-! ### joining -/
theorem join_snoc (l : List Bytes) (x : Bytes) (h : l ≠ []) : join (l ++ [x]) = join l ++ 46 :: x := by
  induction l with
  | nil => exact absurd rfl h
  | cons a l ih =>
    cases l with
    | nil => simp [join]
    | cons b l =>
      have := ih (by simp)
      simp only [List.cons_append] at this ⊢
      simp only [join, this, List.append_assoc, List.cons_append]
theorem join_step (xs : List Bytes) (k : Nat) (h : k < xs.length) : join (xs.take (k + 1)) = (if k = 0 then [] else join (xs.take k) ++ [46]) ++ xs.getD k [] := by
  rw [List.take_succ_eq_append_getElem h]
  by_cases hk : k = 0
  · subst hk; simp [join, List.getD_eq_getElem?_getD, List.getElem?_eq_getElem h]
  · rw [join_snoc _ _ (by
      intro e
      have e2 := congrArg List.length e
      rw [List.length_take, List.length_nil] at e2
      omega), if_neg hk]
    simp [List.getD_eq_getElem?_getD, List.getElem?_eq_getElem h]
theorem join_step_len (xs : List Bytes) (k : Nat) (h : k < xs.length) : (join (xs.take (k + 1))).length = (join (xs.take k)).length + (if k = 0 then 0 else 1) + (xs.getD k []).length := by
  rw [join_step xs k h]
  by_cases hk : k = 0
  · subst hk; simp [join]
  · simp [hk]; omega
theorem join_take_le (xs : List Bytes) : ∀ k, k ≤ xs.length → (join (xs.take k)).length ≤ (join xs).length := by
  have key : ∀ d k, k + d = xs.length → (join (xs.take k)).length ≤ (join xs).length := by
    intro d
    induction d with
    | zero => intro k hk; rw [List.take_of_length_le (by omega)]; exact Nat.le_refl _
    | succ d ih =>
      intro k hk
      have h1 := ih (k + 1) (by omega)
      have h2 := join_step_len xs k (by omega)
      omega
  intro k hk
  exact key (xs.length - k) k (by omega)
theorem join_elem_le (xs : List Bytes) (k : Nat) (h : k < xs.length) : (join (xs.take k)).length + (xs.getD k []).length + (if k = 0 then 0 else 1) ≤ (join xs).length := by
  have h1 := join_take_le xs (k + 1) (by omega)
  have h2 := join_step_len xs k h
  omega
theorem str_append (a b : Bytes) : str a ++ str b = str (a ++ b) := by
  apply ByteArray.ext; simp [str]
theorem join_split (s : Bytes) : join (split s) = s := by
  induction s with
  | nil => rfl
  | cons c t ih =>
    unfold split
    split
    · rename_i h
      subst h
      cases hs : split t with
      | nil => exact absurd hs (split_ne_nil t)
      | cons x xs => rw [hs] at ih; simp [join, ih]
    · cases hs : split t with
      | nil => exact absurd hs (split_ne_nil t)
      | cons x xs =>
        rw [hs] at ih
        cases xs with
        | nil => simpa [join] using ih
        | cons y l => simpa [join] using ih
theorem split_no_dot (s : Bytes) : ∀ x ∈ split s, ∀ c ∈ x, c ≠ 46 := by
  induction s with
  | nil => simp [split]
  | cons c t ih =>
    unfold split
    split
    · intro x hx d hd
      rcases List.mem_cons.1 hx with rfl | hx
      · cases hd
      · exact ih x hx d hd
    · rename_i hc
      cases hs : split t with
      | nil => intro x hx d hd; simp at hx; subst hx; simp at hd; subst hd; exact hc
      | cons y ys =>
        rw [hs] at ih
        intro x hx d hd
        rcases List.mem_cons.1 hx with rfl | hx
        · rcases List.mem_cons.1 hd with rfl | hd
          · exact hc
          · exact ih y (by simp) d hd
        · exact ih x (by simp [hx]) d hd
theorem split_join (xs : List Bytes) (hne : xs ≠ []) (h : ∀ x ∈ xs, ∀ c ∈ x, c ≠ 46) : split (join xs) = xs := by
  induction xs with
  | nil => exact absurd rfl hne
  | cons x xs ih =>
    cases xs with
    | nil => exact split_one x (h x (by simp))
    | cons y l =>
      have := ih (by simp) (fun z hz => h z (by simp [hz]))
      simp only [join]
      rw [split_dot x _ (h x (by simp)), this]
theorem split_count (s : Bytes) : (split s).length = s.count 46 + 1 := by
  induction s with
  | nil => simp [split]
  | cons c t ih =>
    unfold split
    split
    · rename_i h; subst h; simp [ih]
    · rename_i h
      cases hs : split t with
      | nil => exact absurd hs (split_ne_nil t)
      | cons y ys => rw [hs] at ih; simp at ih ⊢; rw [List.count_cons_of_ne (by simpa using h)]; omega

/-! ### under, count -/
def isSuf (n d : List Bytes) : Bool := decide (d.length ≤ n.length) && (n.drop (n.length - d.length) == d)
def under (n d : Bytes) : Bool := d == [46] || isSuf (split (lower n)) (split (lower d))
def count (s : Bytes) : Nat := if s = [46] then 0 else (split s).length
end Go.Proofs.YtffjfggndfcfmaaDoor.Lb
