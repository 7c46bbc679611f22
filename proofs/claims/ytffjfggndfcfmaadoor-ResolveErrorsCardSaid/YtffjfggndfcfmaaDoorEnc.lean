/- The walk of puny.Encode. -/
import Derived.Test.YtffjfggndfcfmaaDoorPunyW
namespace Go.Proofs.YtffjfggndfcfmaaDoor
open Go.RowKit

def encR (l : List Nat) : Lb.Bytes × Nat := match Pu.encode l with | some t => (t, 0) | none => ([], 2)
def encO (r : Option Lb.Bytes) : Lb.Bytes × Nat := match r with | some t => (t, 0) | none => ([], 2)
theorem basic_snoc (l : List Nat) (k : Nat) (h : k < l.length) : Pu.basic (l.take (k + 1)) = Pu.basic (l.take k) ++ if l.getD k 0 < 128 then [UInt8.ofNat (l.getD k 0)] else [] := by
  rw [take_snoc l k 0 h]
  unfold Pu.basic
  rw [List.filter_append, List.map_append]
  congr 1
  by_cases h2 : l.getD k 0 < 128
  · simp only [List.filter_cons, decide_eq_true h2, if_true, List.filter_nil, if_pos h2, List.map_cons, List.map_nil]
  · simp only [List.filter_cons, decide_eq_false h2, Bool.false_eq_true, if_false, List.filter_nil, if_neg h2, List.map_nil]
theorem basic_len_le (l : List Nat) : (Pu.basic l).length ≤ l.length := by unfold Pu.basic; rw [List.length_map]; exact List.length_filter_le _ _
theorem adapt_small (delta n : Nat) (start : Bool) (h : delta ≤ 1099511627776) : Pu.adapt delta n start ≤ 324 := by
  rw [adapt_eq delta n start h]
  have h0 : (if start = true then delta / 700 else delta / 2) ≤ 1099511627776 := by split <;> omega
  generalize (if start = true then delta / 700 else delta / 2) = d0 at h0 ⊢
  have h1 := Nat.div_le_self d0 n
  obtain ⟨a, b⟩ := Pu.adaptLoop_bd 8 (d0 + d0 / n) 0 (by rw [pow8]; omega)
  unfold adaptEnd
  generalize Pu.adaptLoop 8 (d0 + d0 / n) 0 = r at a b ⊢
  have : 36 * r.1 / (r.1 + 38) ≤ 36 := by
    apply Nat.div_le_of_le_mul
    omega
  omega

/-- The state of the encoder's outer loop at its head. -/
def EncHead (l : List Nat) (plain f n : Nat) (s : Pu.St) (R : Option Lb.Bytes) : Prop := Pu.encLoop f l plain n s = R ∧ s.h = (l.filter (· < n)).length ∧ l.length < s.h + f
theorem encHead_start (l : List Nat) : EncHead l (Pu.basic l).length (l.length + 1) 128 { out := Pu.head l, delta := 0, bias := 72, h := (Pu.basic l).length } (Pu.encode l) :=
  ⟨rfl, by show (Pu.basic l).length = _; unfold Pu.basic; simp, by show l.length < (Pu.basic l).length + (l.length + 1); omega⟩
theorem encHead_end {l : List Nat} {plain f n : Nat} {s : Pu.St} {R : Option Lb.Bytes} (h : EncHead l plain f n s R) (hl : ¬ s.h < l.length) : R = if 63 < s.out.length then none else some s.out := by
  obtain ⟨h1, h2, h3⟩ := h
  cases f with
  | zero => have := List.length_filter_le (fun x => decide (x < n)) l; omega
  | succ f => rw [← h1]; unfold Pu.encLoop; rw [if_neg hl]
theorem encHead_long {l : List Nat} {plain f n : Nat} {s : Pu.St} {R : Option Lb.Bytes} (h : EncHead l plain f n s R) (hl : s.h < l.length) (ho : 63 < s.out.length) : R = none := by
  obtain ⟨h1, h2, h3⟩ := h
  cases f with
  | zero => omega
  | succ f => rw [← h1]; unfold Pu.encLoop; rw [if_pos hl, if_pos ho]
theorem filter_pass (l : List Nat) (m : Nat) (plain : Nat) : ∀ s : Pu.St, (l.foldl (Pu.stepR m plain) s).h = s.h + (l.filter (· = m)).length := by
  induction l with
  | nil => intro s; simp
  | cons r l ih =>
    intro s
    simp only [List.foldl_cons]
    rw [ih]
    by_cases hr : r = m
    · simp [Pu.stepR, hr]; omega
    · have : (Pu.stepR m plain s r).h = s.h := by unfold Pu.stepR; rw [if_neg hr]; split <;> rfl
      rw [this]; simp [hr]
theorem filter_lt_succ (l : List Nat) (m : Nat) : (l.filter (· < m + 1)).length = (l.filter (· < m)).length + (l.filter (· = m)).length := by
  induction l with
  | nil => rfl
  | cons r l ih =>
    by_cases h1 : r < m
    · have h2 : r < m + 1 := by omega
      have h3 : ¬ r = m := by omega
      simp [h1, h2, h3, ih]; omega
    · by_cases h3 : r = m
      · subst h3; simp [ih]; omega
      · have h2 : ¬ r < m + 1 := by omega
        simp [h1, h2, h3, ih]
theorem encHead_next {l : List Nat} {plain f n : Nat} {s : Pu.St} {R : Option Lb.Bytes} (h : EncHead l plain f n s R) (hr : ∀ r ∈ l, r ≤ 1114111) (hl : s.h < l.length) (ho : ¬ 63 < s.out.length) (hd : s.delta ≤ n * 2001) (h2000 : l.length ≤ 2000) :
    n ≤ Pu.minGe n l ∧ Pu.minGe n l ≤ 1114111 ∧ s.delta + (Pu.minGe n l - n) * (s.h + 1) ≤ Pu.minGe n l * 2001 ∧ ∃ g, ∀ s2 : Pu.St, l.foldl (Pu.stepR (Pu.minGe n l) plain) { s with delta := s.delta + (Pu.minGe n l - n) * (s.h + 1) } = s2 →
      EncHead l plain g (Pu.minGe n l + 1) { s2 with delta := s2.delta + 1 } R ∧ s.h < s2.h := by
  obtain ⟨h1, h2, h3⟩ := h
  have hex : ∃ r ∈ l, n ≤ r := by
    by_cases hx : ∃ r ∈ l, n ≤ r
    · exact hx
    · exfalso
      have : l.filter (· < n) = l := List.filter_eq_self.2 fun r hr => by
        have : ¬ n ≤ r := fun hc => hx ⟨r, hr, hc⟩
        simpa using this
      rw [this] at h2
      omega
  obtain ⟨hmem, hge, hmin⟩ := Pu.minGe_some n l hr hex
  refine ⟨hge, hr _ hmem, ?_, ?_⟩
  · have a1 : (Pu.minGe n l - n) * (s.h + 1) ≤ (Pu.minGe n l - n) * 2001 := Nat.mul_le_mul_left _ (by omega)
    have a2 : n * 2001 ≤ Pu.minGe n l * 2001 := Nat.mul_le_mul_right _ hge
    omega
  · cases f with
    | zero => omega
    | succ f =>
      refine ⟨f, fun s2 hs2 => ⟨⟨?_, ?_, ?_⟩, ?_⟩⟩
      · rw [← h1]
        conv => rhs; unfold Pu.encLoop
        rw [if_pos hl, if_neg ho]
        dsimp only
        rw [hs2]
      · show s2.h = _
        rw [← hs2, filter_pass, filter_lt_succ]
        show s.h + _ = _
        rw [h2, ← Pu.filter_lt_none l n _ hge hmin]
      · show l.length < s2.h + f
        have hg := Pu.fold_h_grows (Pu.minGe n l) plain l { s with delta := s.delta + (Pu.minGe n l - n) * (s.h + 1) } hmem
        rw [hs2] at hg
        change s.h < s2.h at hg
        omega
      · have hg := Pu.fold_h_grows (Pu.minGe n l) plain l { s with delta := s.delta + (Pu.minGe n l - n) * (s.h + 1) } hmem
        rw [hs2] at hg
        exact hg
end Go.Proofs.YtffjfggndfcfmaaDoor
