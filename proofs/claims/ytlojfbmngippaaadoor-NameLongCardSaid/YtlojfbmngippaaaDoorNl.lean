/- NameLong in plain Lean. No program. -/
import Derived.Test.YtlojfbmngippaaaDoorEa
import Derived.Laws.Bits128
namespace Go.Proofs.YtlojfbmngippaaaDoor
namespace Nm

theorem i64_and7 (n : Int) : bits .and .i64 n 7 = n % 8 := by
  have h7 : (BitVec.ofInt 64 7).toNat = 2 ^ 3 - 1 := by decide
  have key : (BitVec.ofInt 64 n &&& BitVec.ofInt 64 7).toNat = (n % ((2 ^ 64 : Nat) : Int)).toNat % 2 ^ 3 := by
    rw [BitVec.toNat_and, BitVec.toNat_ofInt, h7, Nat.and_two_pow_sub_one_eq_mod]
  show IntKind.i64.wrap ((BitVec.ofInt 64 n &&& BitVec.ofInt 64 7).toNat : Nat) = n % 8
  rw [key, IntKind.wrap_i64]
  omega
def aaa (k : Nat) : Lb.Bytes := List.replicate k 97
def ases (k j : Nat) : Lb.Bytes := Lb.join (List.replicate j (aaa k))
theorem aaa_len (k : Nat) : (aaa k).length = k := List.length_replicate
theorem aaa_succ (k : Nat) : aaa (k + 1) = aaa k ++ [97] := List.replicate_succ'
theorem aaa_get (k i : Nat) (h : i < k) : (aaa k).getD i 0 = 97 := by
  unfold aaa; rw [List.getD_eq_getElem?_getD, List.getElem?_replicate, if_pos h]; rfl
theorem ases_step (k j : Nat) : ases k (j + 1) = (if j = 0 then [] else ases k j ++ [46]) ++ aaa k := by
  unfold ases
  rw [List.replicate_succ']
  by_cases h : j = 0
  · subst h; rw [if_pos rfl]; rfl
  · have : List.replicate j (aaa k) ≠ [] := by intro e; have := congrArg List.length e; simp at this; exact h this
    rw [if_neg h, Lb.join_snoc _ _ this]; simp
theorem ases_len (k : Nat) : ∀ j, (ases k j).length ≤ j * (k + 1)
  | 0 => by simp [ases, Lb.join]
  | j + 1 => by
    have ih := ases_len k j
    rw [ases_step, List.length_append, aaa_len, Nat.succ_mul]
    split <;> simp <;> omega
theorem lower_aaa (k : Nat) : Lb.lower (aaa k) = aaa k := by
  unfold Lb.lower aaa; rw [List.map_replicate]; rfl
theorem plain_aaa (k : Nat) : plain (aaa k) = true := plain_true fun i hi => by rw [aaa_len] at hi; rw [aaa_get k i hi]; decide
theorem right_aaa {k : Nat} (h1 : 1 ≤ k) (h2 : k ≤ 63) : right (aaa k) = true := by
  refine right_true ?_ (by rw [aaa_len]; exact h2) (by rw [aaa_get k 0 h1]; decide) (by rw [aaa_len, aaa_get k (k - 1) (by omega)]; decide) (fun i hi => by rw [aaa_len] at hi; rw [aaa_get k i hi]; decide)
  intro e; have := aaa_len k; rw [e] at this; simp at this; omega
theorem asc_aaa {k : Nat} (h1 : 1 ≤ k) : asc (aaa k) = if 63 < k then ([], 1) else (aaa k, 0) := by
  unfold asc ascLow
  rw [lower_aaa, plain_aaa, if_pos rfl]
  by_cases h : 63 < k
  · rw [if_pos h, right_long (by rw [aaa_len]; exact h)]; rfl
  · rw [if_neg h, right_aaa h1 (by omega), if_pos rfl]
    obtain ⟨i, rfl⟩ : ∃ i, k = i + 1 := ⟨k - 1, by omega⟩
    rw [if_neg]
    intro hp
    have : aaa (i + 1) = 97 :: aaa i := List.replicate_succ
    rw [this] at hp
    unfold Lib.hasPrefix xn at hp
    simp at hp
theorem eachL_same {f : Lb.Bytes → Lb.Bytes × Nat} {p : Lb.Bytes} (h : f p = (p, 0)) : ∀ (j : Nat) (acc : List Lb.Bytes), eachL f acc (List.replicate j p) = (Lb.join (acc ++ List.replicate j p), 0)
  | 0, acc => by simp [eachL]
  | j + 1, acc => by
    rw [List.replicate_succ, eachL_on (by rw [h]), h, eachL_same h j, List.append_assoc]; rfl
theorem trim_ases {k j : Nat} (h1 : 1 ≤ k) (h2 : 1 ≤ j) : Lib.trimSuffix (ases k j) [46] = ases k j := by
  unfold Lib.trimSuffix
  rw [if_neg]
  intro hs
  unfold Lib.hasSuffix at hs
  obtain ⟨t, ht⟩ := List.isSuffixOf_iff_suffix.1 hs
  obtain ⟨j', rfl⟩ : ∃ i, j = i + 1 := ⟨j - 1, by omega⟩
  obtain ⟨k', rfl⟩ : ∃ i, k = i + 1 := ⟨k - 1, by omega⟩
  rw [ases_step, aaa_succ, ← List.append_assoc] at ht
  have := (List.append_inj' ht rfl).2
  cases this
theorem split_ases {k j : Nat} (h2 : 1 ≤ j) : Lb.split (ases k j) = List.replicate j (aaa k) := by
  unfold ases
  refine Lb.split_join _ (by intro e; have := congrArg List.length e; simp at this; omega) ?_
  intro x hx c hc
  rw [List.eq_of_mem_replicate hx] at hc
  rw [List.eq_of_mem_replicate hc]; decide
theorem each_ases {k j : Nat} (h1 : 1 ≤ k) (h2 : 1 ≤ j) : each asc (ases k j) = if 63 < k then ([], 1) else (ases k j, 0) := by
  unfold each
  rw [trim_ases h1 h2, split_ases h2]
  have ha := asc_aaa h1
  by_cases h : 63 < k
  · rw [if_pos h] at ha ⊢
    obtain ⟨j', rfl⟩ : ∃ i, j = i + 1 := ⟨j - 1, by omega⟩
    rw [List.replicate_succ, eachL_bad (by rw [ha]; decide), ha]
  · rw [if_neg h] at ha ⊢
    rw [eachL_same ha]; rfl
theorem nameLong_law {k j : Nat} (h1 : 1 ≤ k) (h2 : 1 ≤ j) :
    (63 < k → (ases k j).length ≤ 1012 → (toASCII (ases k j)).2 = 1) ∧
    (¬ (63 < k ∧ (ases k j).length ≤ 1012) → 253 < (ases k j).length → (toASCII (ases k j)).2 = 2) ∧
    (¬ 63 < k → ¬ 253 < (ases k j).length → toASCII (ases k j) = (ases k j, 0)) := by
  unfold toASCII
  rw [each_ases h1 h2]
  refine ⟨fun a b => ?_, fun a b => ?_, fun a b => ?_⟩
  · rw [if_neg (by omega), if_pos a, if_neg (by simp)]
  · by_cases h : 1012 < (ases k j).length
    · rw [if_pos h]
    · rw [if_neg h, if_neg (show ¬ 63 < k by omega), if_pos ⟨rfl, b⟩]
  · rw [if_neg (by omega), if_neg a, if_neg (by rintro ⟨_, h⟩; exact b h)]
end Nm
end Go.Proofs.YtlojfbmngippaaaDoor
