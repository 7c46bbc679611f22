/- NameCapitals in plain Lean. No program. -/
import Derived.Test.YtlojfbmngippaaaDoorEa
namespace Go.Proofs.YtlojfbmngippaaaDoor
namespace Nm

def upB (c : UInt8) : UInt8 := if 97 ≤ c.toNat ∧ c.toNat ≤ 122 then c - 32 else c
theorem lower_upB : ∀ c : UInt8, Lb.lowerB (upB c) = Lb.lowerB c := by
  have h : ∀ n : Fin 256, Lb.lowerB (upB (UInt8.ofNat n.1)) = Lb.lowerB (UInt8.ofNat n.1) := by decide +kernel
  intro c
  have := h ⟨c.toNat, c.toNat_lt⟩
  simpa using this
theorem lowerB_dot : ∀ c : UInt8, Lb.lowerB c = 46 ↔ c = 46 := by
  have h : ∀ n : Fin 256, Lb.lowerB (UInt8.ofNat n.1) = 46 ↔ UInt8.ofNat n.1 = 46 := by decide +kernel
  intro c
  have := h ⟨c.toNat, c.toNat_lt⟩
  simpa using this
theorem lower_up (s : Lb.Bytes) : Lb.lower (s.map upB) = Lb.lower s := by
  unfold Lb.lower; rw [List.map_map]; exact List.map_congr_left fun c _ => lower_upB c
theorem split_map (f : UInt8 → UInt8) (hf : ∀ c, f c = 46 ↔ c = 46) : ∀ s : Lb.Bytes, Lb.split (s.map f) = (Lb.split s).map (List.map f)
  | [] => rfl
  | c :: s => by
    have ih := split_map f hf s
    by_cases hc : c = 46
    · subst hc
      have : f 46 = 46 := (hf 46).2 rfl
      simp only [List.map_cons, Lb.split, this, if_true, ih, List.map_nil]
    · have hn : f c ≠ 46 := fun e => hc ((hf c).1 e)
      simp only [List.map_cons, Lb.split, hc, hn, if_false, ih]
      cases hs : Lb.split s with
      | nil => exact absurd hs (Lb.split_ne_nil s)
      | cons a l => simp
theorem hasSuffix_map (f : UInt8 → UInt8) (hf : ∀ c, f c = 46 ↔ c = 46) (s : Lb.Bytes) : Lib.hasSuffix (s.map f) [46] = Lib.hasSuffix s [46] := by
  unfold Lib.hasSuffix
  rw [Bool.eq_iff_iff, List.isSuffixOf_iff_suffix, List.isSuffixOf_iff_suffix]
  constructor
  · rintro ⟨t, ht⟩
    rcases List.eq_nil_or_concat s with rfl | ⟨u, c, rfl⟩
    · simp at ht
    · rw [List.concat_eq_append] at ht ⊢
      rw [List.map_append] at ht
      have := (List.append_inj' ht rfl).2
      simp only [List.map_cons, List.map_nil, List.cons.injEq, and_true] at this
      rw [(hf c).1 this.symm]; exact ⟨u, rfl⟩
  · rintro ⟨t, rfl⟩
    exact ⟨t.map f, by rw [List.map_append]; simp [(hf 46).2 rfl]⟩
theorem trimSuffix_map (f : UInt8 → UInt8) (hf : ∀ c, f c = 46 ↔ c = 46) (s : Lb.Bytes) : Lib.trimSuffix (s.map f) [46] = (Lib.trimSuffix s [46]).map f := by
  unfold Lib.trimSuffix
  rw [hasSuffix_map f hf]
  split
  · rw [List.length_map, List.map_take]
  · rfl
theorem eachL_map (f : Lb.Bytes → Lb.Bytes × Nat) (g : Lb.Bytes → Lb.Bytes) (ps : List Lb.Bytes) : ∀ acc : List Lb.Bytes, eachL (fun p => f (g p)) acc ps = eachL f acc (ps.map g) := by
  induction ps with
  | nil => intro acc; rfl
  | cons p ps ih =>
    intro acc
    rw [List.map_cons]
    by_cases h : (f (g p)).2 = 0
    · rw [eachL_on (f := f) h, eachL_on (f := fun p => f (g p)) h, ih]
    · rw [eachL_bad (f := f) h, eachL_bad (f := fun p => f (g p)) h]
theorem eachL_lower (ps acc : List Lb.Bytes) : eachL asc acc ps = eachL ascLow acc (ps.map Lb.lower) := eachL_map ascLow Lb.lower ps acc
/-- What goes out hangs on the small letters alone. -/
theorem each_lower (s : Lb.Bytes) : each asc s = eachL ascLow [] (Lb.split (Lib.trimSuffix (Lb.lower s) [46])) := by
  unfold each
  rw [eachL_lower]
  congr 1
  unfold Lb.lower
  rw [trimSuffix_map _ lowerB_dot, split_map _ lowerB_dot]
theorem each_up (s : Lb.Bytes) : each asc (s.map upB) = each asc s := by rw [each_lower, each_lower, lower_up]
theorem trim_dot {s : Lb.Bytes} (h : Lib.hasSuffix s [46] = false) : Lib.trimSuffix (s ++ [46]) [46] = Lib.trimSuffix s [46] := by
  have h1 : Lib.hasSuffix (s ++ [46]) [46] = true := by unfold Lib.hasSuffix; rw [List.isSuffixOf_iff_suffix]; exact ⟨s, rfl⟩
  unfold Lib.trimSuffix
  rw [if_pos h1, if_neg (by rw [h]; decide)]
  rw [List.length_append]
  simp
theorem nameCapitals_law {s : Lb.Bytes} (hl : s.length ≤ 900) (h : Lib.hasSuffix s [46] = false) : toASCII (s.map upB) = toASCII s ∧ toASCII (s ++ [46]) = toASCII s := by
  have hd : each asc (s ++ [46]) = each asc s := by unfold each; rw [trim_dot h]
  unfold toASCII
  rw [each_up, hd, List.length_map, List.length_append]
  simp only [List.length_cons, List.length_nil]
  rw [if_neg (show ¬ 1012 < s.length by omega), if_neg (show ¬ 1012 < s.length + (0 + 1) by omega)]
  first | exact ⟨rfl, rfl⟩ | exact ⟨trivial, rfl⟩ | simp
end Nm
end Go.Proofs.YtlojfbmngippaaaDoor
