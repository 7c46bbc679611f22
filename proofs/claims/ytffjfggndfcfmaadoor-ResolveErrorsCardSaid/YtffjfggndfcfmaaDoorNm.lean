/- Names and labels in plain Lean: what label.Right, name.Good and the rest answer. No program. -/
import Derived.Test.YtffjfggndfcfmaaDoorDec
import Derived.Laws.BitsAllLaws
namespace Go.Proofs.YtffjfggndfcfmaaDoor
namespace Nm

/-- A byte that may stand in a label. -/
def byteOk (n : Nat) : Bool := (decide (48 ≤ n) && decide (n ≤ 57)) || n == 45 || n == 95 || (decide (97 ≤ n ||| 32) && decide (n ||| 32 ≤ 122) && decide (65 ≤ n))
def right (l : Lb.Bytes) : Bool := decide (l ≠ []) && decide (l.length ≤ 63) && (l.getD 0 0).toNat != 45 && (l.getD (l.length - 1) 0).toNat != 45 && l.all (fun c => byteOk c.toNat)
def plain (l : Lb.Bytes) : Bool := l.all (fun c => decide (c.toNat < 128))
/-- A rune beside ASCII that may stand in a label. -/
def good (r : Nat) : Bool :=
  if 223 ≤ r ∧ r ≤ 255 ∧ r ≠ 247 then true
  else if 256 ≤ r ∧ r ≤ 383 then decide (r % 2 = 1 ∧ r < 312)
  else (decide (945 ≤ r) && decide (r ≤ 969)) || (decide (1072 ≤ r) && decide (r ≤ 1119))

theorem right_empty {l : Lb.Bytes} (h : l = []) : right l = false := by subst h; rfl
theorem right_long {l : Lb.Bytes} (h : 63 < l.length) : right l = false := by
  unfold right; rw [decide_eq_false (show ¬ l.length ≤ 63 by omega)]; simp
theorem right_head {l : Lb.Bytes} (h : (l.getD 0 0).toNat = 45) : right l = false := by
  unfold right; rw [h]; simp
theorem right_last {l : Lb.Bytes} (h : (l.getD (l.length - 1) 0).toNat = 45) : right l = false := by
  unfold right; rw [h]; simp
theorem right_bad {l : Lb.Bytes} {k : Nat} (hk : k < l.length) (h : byteOk (l.getD k 0).toNat = false) : right l = false := by
  have : l.all (fun c => byteOk c.toNat) = false := by
    rw [List.all_eq_false]
    exact ⟨_, getD_mem l k 0 hk, by rw [h]; decide⟩
  unfold right; rw [this]; simp
theorem right_true {l : Lb.Bytes} (h0 : l ≠ []) (h1 : l.length ≤ 63) (h2 : (l.getD 0 0).toNat ≠ 45) (h3 : (l.getD (l.length - 1) 0).toNat ≠ 45) (h4 : ∀ k, k < l.length → byteOk (l.getD k 0).toNat = true) : right l = true := by
  have : l.all (fun c => byteOk c.toNat) = true := by
    rw [List.all_eq_true]
    intro c hc
    obtain ⟨k, hk, rfl⟩ := List.mem_iff_getElem.1 hc
    have := h4 k hk
    rwa [List.getD_eq_getElem?_getD, List.getElem?_eq_getElem hk] at this
  unfold right
  rw [this, decide_eq_true h0, decide_eq_true h1]
  simp only [Bool.true_and, Bool.and_true, Bool.and_eq_true, bne_iff_ne]
  exact ⟨h2, h3⟩
theorem plain_bad {l : Lb.Bytes} {k : Nat} (hk : k < l.length) (h : 128 ≤ (l.getD k 0).toNat) : plain l = false := by
  unfold plain
  rw [List.all_eq_false]
  exact ⟨_, getD_mem l k 0 hk, by rw [decide_eq_true_eq]; omega⟩
theorem plain_true {l : Lb.Bytes} (h : ∀ k, k < l.length → (l.getD k 0).toNat < 128) : plain l = true := by
  unfold plain
  rw [List.all_eq_true]
  intro c hc
  obtain ⟨k, hk, rfl⟩ := List.mem_iff_getElem.1 hc
  have := h k hk
  rw [List.getD_eq_getElem?_getD, List.getElem?_eq_getElem hk] at this
  simpa using this
end Nm
end Go.Proofs.YtffjfggndfcfmaaDoor
