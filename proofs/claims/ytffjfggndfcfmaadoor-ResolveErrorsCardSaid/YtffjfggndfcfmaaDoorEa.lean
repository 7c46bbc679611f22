/- name.each, ToASCII, ToUnicode in plain Lean. No program. -/
import Derived.Test.YtffjfggndfcfmaaDoorAu
namespace Go.Proofs.YtffjfggndfcfmaaDoor
namespace Nm

def eachL (f : Lb.Bytes → Lb.Bytes × Nat) : List Lb.Bytes → List Lb.Bytes → Lb.Bytes × Nat
  | acc, [] => (Lb.join acc, 0)
  | acc, p :: ps => if (f p).2 ≠ 0 then ([], (f p).2) else eachL f (acc ++ [(f p).1]) ps
def each (f : Lb.Bytes → Lb.Bytes × Nat) (s : Lb.Bytes) : Lb.Bytes × Nat := eachL f [] (Lb.split (Lib.trimSuffix s [46]))
def toASCII (s : Lb.Bytes) : Lb.Bytes × Nat :=
  if 1012 < s.length then ([], 2)
  else if (each asc s).2 = 0 ∧ 253 < (each asc s).1.length then ([], 2) else each asc s
def toUnicode (s : Lb.Bytes) : Lb.Bytes × Nat := if (toASCII s).2 ≠ 0 ∨ (toASCII s).1 ≠ s then ([], 1) else each uni s

theorem utf8_len (l : List Nat) : (utf8 l).length ≤ 4 * l.length := by
  induction l with
  | nil => simp [utf8]
  | cons r l ih =>
    have h := encode_size (r : Int)
    have e : (utf8 (r :: l)).length = (Utf8.encode (r : Int)).data.toList.length + (utf8 l).length := by simp only [utf8, List.flatMap_cons, List.length_append]
    obtain ⟨E, hE⟩ : ∃ E, Utf8.encode (r : Int) = E := ⟨_, rfl⟩
    rw [hE] at h e
    have e2 : E.data.toList.length = E.size := rfl
    rw [e, List.length_cons]; omega
theorem decR_len (s : Lb.Bytes) : (decR s).1.length ≤ 63 := by
  unfold decR
  cases h : Pu.decode s with
  | none => simp
  | some l =>
    simp only
    unfold Pu.decode at h
    split at h
    · cases h
    · split at h
      · cases h
      · split at h
        · cases h
        · rename_i out hd
          split at h
          · cases h
          · rename_i t ht
            split at h
            · injection h with h
              subst h
              have := Pu.encode_length _ _ ht
              omega
            · cases h
theorem uni_len (s : Lb.Bytes) : (uni s).1.length ≤ s.length + 252 := by
  unfold uni
  split
  · split
    · simp
    · unfold uniTail
      split
      · have h1 := utf8_len (decR (s.drop 4)).1
        have h2 := decR_len (s.drop 4)
        show (utf8 _).length ≤ _
        omega
      · simp
  · simp
theorem asc_len (s : Lb.Bytes) : (asc s).1.length ≤ s.length + 252 := by
  unfold asc ascLow
  have hl : (Lb.lower s).length = s.length := by unfold Lb.lower; rw [List.length_map]
  split
  · split
    · split
      · show (Lb.lower s).length ≤ _; omega
      · show (Lb.lower s).length ≤ _; omega
    · simp
  · split
    · unfold ascLoop
      split
      · unfold ascTail
        split
        · simp
        · split
          · simp
          · split
            · simp
            · rename_i h
              show (xn ++ (encR _).1).length ≤ _
              rw [List.length_append]
              have : xn.length = 4 := rfl
              omega
      · simp
    · simp
theorem eachL_bad {f : Lb.Bytes → Lb.Bytes × Nat} {acc ps : List Lb.Bytes} {p : Lb.Bytes} (h : (f p).2 ≠ 0) : eachL f acc (p :: ps) = ([], (f p).2) := by
  unfold eachL; rw [if_pos h]
theorem eachL_on {f : Lb.Bytes → Lb.Bytes × Nat} {acc ps : List Lb.Bytes} {p : Lb.Bytes} (h : (f p).2 = 0) : eachL f acc (p :: ps) = eachL f (acc ++ [(f p).1]) ps := by
  conv => lhs; unfold eachL
  rw [if_neg (by simp [h])]
theorem join_snoc_len (acc : List Lb.Bytes) (x : Lb.Bytes) : (Lb.join (acc ++ [x])).length = (Lb.join acc).length + (if acc.length = 0 then 0 else 1) + x.length := by
  by_cases h : acc = []
  · subst h; simp [Lb.join]
  · have : acc.length ≠ 0 := by intro e; exact h (List.eq_nil_of_length_eq_zero e)
    rw [Lb.join_snoc acc x h, List.length_append, List.length_cons, if_neg this]; omega
theorem trimSuffix_len (s p : Lb.Bytes) : (Lib.trimSuffix s p).length ≤ s.length := by
  unfold Lib.trimSuffix
  split
  · rw [List.length_take]; omega
  · omega
end Nm
end Go.Proofs.YtffjfggndfcfmaaDoor
