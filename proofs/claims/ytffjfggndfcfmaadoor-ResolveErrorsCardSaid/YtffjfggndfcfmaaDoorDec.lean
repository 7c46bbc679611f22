/- Facts for the walk of puny.Decode. -/
import Derived.Test.YtffjfggndfcfmaaDoorEnc
import Derived.Lib.LastIndexByte
namespace Go.Proofs.YtffjfggndfcfmaaDoor
open Go.RowKit

def decR (s : Lb.Bytes) : List Nat × Nat := match Pu.decode s with | some l => (l, 0) | none => ([], 3)
def decO (r : Option (List Nat)) : List Nat × Nat := match r with | some l => (l, 0) | none => ([], 3)

theorem lastAt_append_one (s : Lb.Bytes) (c : UInt8) : Pu.lastAt (s ++ [c]) = if c = 45 then (s.length : Int) else Pu.lastAt s := by
  induction s with
  | nil => simp [Pu.lastAt]
  | cons d s ih =>
    simp only [List.cons_append, Pu.lastAt, ih]
    by_cases hc : c = 45
    · simp only [if_pos hc]
      rw [if_pos (by omega)]
      simp
    · simp only [if_neg hc]
theorem lastIdx_eq (s : ByteArray) : ∀ k, k ≤ s.size → Lib.lastIdx s 45 k = Pu.lastAt (s.data.toList.take k) := by
  intro k
  induction k with
  | zero => intro _; simp [Lib.lastIdx, Pu.lastAt]
  | succ k ih =>
    intro hk
    have hb := byte_at s k (by omega)
    have hb2 : s.data[k]! = s[k] := by rw [getElem!_pos s.data k (by simpa using (by omega : k < s.size))]; rfl
    have hd : s.data.toList.getD k 0 = s[k] := by rw [List.getD_eq_getElem?_getD, hb]; rfl
    rw [take_snoc s.data.toList k 0 (by show k < s.size; omega), lastAt_append_one, hd]
    unfold Lib.lastIdx
    rw [hb2, ih (by omega)]
    have hlen : ((s.data.toList.take k).length : Int) = k := by
      rw [List.length_take]; show ((min k s.size : Nat) : Int) = k; omega
    rw [hlen]
    by_cases h : s[k] = 45
    · rw [if_pos h, if_pos (by rw [h]; rfl)]
    · rw [if_neg h, if_neg (by
        intro e
        apply h
        exact UInt8.toNat_inj.1 (by have h45 : (45 : UInt8).toNat = 45 := rfl; omega))]
theorem lastIndex_eq (s : ByteArray) : Lib.lastIndexByte s 45 = Pu.lastAt s.data.toList := by
  unfold Lib.lastIndexByte
  rw [lastIdx_eq s s.size (Nat.le_refl _), List.take_of_length_le (by show s.size ≤ s.size; omega)]
theorem lastAt_bd (s : Lb.Bytes) : -1 ≤ Pu.lastAt s ∧ Pu.lastAt s < s.length := by
  induction s with
  | nil => simp [Pu.lastAt]
  | cons c s ih =>
    unfold Pu.lastAt
    simp only [List.length_cons]
    split
    · omega
    · split <;> omega

theorem parse_ge : ∀ (l : Lb.Bytes) (i w k b j : Nat) (r : Lb.Bytes), Pu.parse l i w k b = some (j, r) → i ≤ j ∧ r.length < l.length
  | [], i, w, k, b, j, r, h => by simp [Pu.parse] at h
  | c :: l, i, w, k, b, j, r, h => by
    unfold Pu.parse at h
    split at h
    · cases h
    · split at h
      · simp only [Option.some.injEq, Prod.mk.injEq] at h
        obtain ⟨rfl, rfl⟩ := h
        exact ⟨Nat.le_add_right _ _, by simp⟩
      · have := parse_ge l _ _ _ _ _ _ h
        exact ⟨by omega, by simp; omega⟩
def decFin (s : Lb.Bytes) (o : Option (List Nat)) : Option (List Nat) :=
  match o with
  | none => none
  | some out => match Pu.encode out with
    | none => none
    | some t => if Lib.equalFold t s then some out else none
/-- What the decoder comes to behind the signs ahead of the last -. -/
def decTail (s rest : Lb.Bytes) (pre : List Nat) : Option (List Nat) := decFin s (Pu.decLoop (rest.length + 1) rest 128 0 72 pre)
theorem decode_long {s : Lb.Bytes} (h : 63 < s.length) : decR s = ([], 3) := by unfold decR Pu.decode; rw [if_pos h]
theorem decode_high {s : Lb.Bytes} {k : Nat} (hs : ¬ 63 < s.length) (hk : k < (Pu.lastAt s).toNat) (h : 128 ≤ (s.getD k 0).toNat) : decR s = ([], 3) := by
  have hb := lastAt_bd s
  have hany : ((s.take (Pu.lastAt s).toNat).any fun c => decide (128 ≤ c.toNat)) = true := by
    rw [List.any_eq_true]
    refine ⟨s.getD k 0, ?_, by simpa using h⟩
    rw [List.getD_eq_getElem?_getD, List.getElem?_eq_getElem (by omega), Option.getD_some]
    exact List.mem_take_iff_getElem.2 ⟨k, by omega, rfl⟩
  unfold decR Pu.decode
  rw [if_neg hs, if_pos hany]
theorem decode_low {s : Lb.Bytes} (hs : ¬ 63 < s.length) (h : ∀ k, k < (Pu.lastAt s).toNat → (s.getD k 0).toNat < 128) :
    decR s = decO (decTail s (s.drop (Pu.lastAt s + 1).toNat) ((s.take (Pu.lastAt s).toNat).map UInt8.toNat)) := by
  have hb := lastAt_bd s
  have hany : ((s.take (Pu.lastAt s).toNat).any fun c => decide (128 ≤ c.toNat)) = false := by
    rw [List.any_eq_false]
    intro c hc
    obtain ⟨k, hk, rfl⟩ := List.mem_take_iff_getElem.1 hc
    have := h k (by omega)
    rw [List.getD_eq_getElem?_getD, List.getElem?_eq_getElem (by omega), Option.getD_some] at this
    simp; omega
  unfold decR Pu.decode decTail decFin decO
  rw [if_neg hs, hany]
  rfl

theorem value_le (c : UInt8) : Pu.value c ≤ 36 := by rcases value_cases c with h | h | h | h <;> omega
theorem value_ascii (c : UInt8) (h : Pu.value c ≠ 36) : c.toNat < 128 := by rcases value_cases c with h | h | h | h <;> omega
theorem parse_ascii : ∀ (l : Lb.Bytes) (i w k b j : Nat) (r : Lb.Bytes), Pu.parse l i w k b = some (j, r) → (∀ c ∈ r, c.toNat < 128) → ∀ c ∈ l, c.toNat < 128
  | [], i, w, k, b, j, r, h, _ => by simp [Pu.parse] at h
  | c :: l, i, w, k, b, j, r, h, hr => by
    unfold Pu.parse at h
    split at h
    · cases h
    · rename_i hn
      have hc : c.toNat < 128 := value_ascii c (fun e => hn (.inl e))
      split at h
      · simp only [Option.some.injEq, Prod.mk.injEq] at h
        obtain ⟨_, rfl⟩ := h
        intro d hd
        rcases List.mem_cons.1 hd with rfl | hd
        · exact hc
        · exact hr d hd
      · intro d hd
        rcases List.mem_cons.1 hd with rfl | hd
        · exact hc
        · exact parse_ascii l _ _ _ _ _ _ h hr d hd
theorem decLoop_ascii : ∀ (f : Nat) (l : Lb.Bytes) (n i b : Nat) (out out' : List Nat), Pu.decLoop f l n i b out = some out' → ∀ c ∈ l, c.toNat < 128
  | 0, l, n, i, b, out, out', h => by simp [Pu.decLoop] at h
  | f + 1, l, n, i, b, out, out', h => by
    unfold Pu.decLoop at h
    split at h
    · rename_i he; subst he; intro c hc; cases hc
    · split at h
      · cases h
      · rename_i hp
        split at h
        · cases h
        · exact parse_ascii _ _ _ _ _ _ _ hp (decLoop_ascii f _ _ _ _ _ _ h)
theorem decLoop_end {f n i b : Nat} {l : Lb.Bytes} {out : List Nat} {R : Option (List Nat)} (h : Pu.decLoop f l n i b out = R) (hf : l.length < f) (hl : l = []) : R = some out := by
  obtain ⟨g, rfl⟩ : ∃ g, f = g + 1 := ⟨f - 1, by omega⟩
  rw [← h]; unfold Pu.decLoop; rw [if_pos hl]
theorem decLoop_bad {f n i b : Nat} {l : Lb.Bytes} {out : List Nat} {R : Option (List Nat)} (h : Pu.decLoop f l n i b out = R) (hl : l ≠ []) (hp : Pu.parse l i 1 36 b = none) : R = none := by
  rw [← h]
  cases f with
  | zero => rfl
  | succ f => unfold Pu.decLoop; rw [if_neg hl, hp]
theorem decLoop_out {f n i b j : Nat} {l r : Lb.Bytes} {out : List Nat} {R : Option (List Nat)} (h : Pu.decLoop f l n i b out = R) (hl : l ≠ []) (hp : Pu.parse l i 1 36 b = some (j, r))
    (hx : 1114111 < n + j / (out.length + 1) ∨ (55296 ≤ n + j / (out.length + 1) ∧ n + j / (out.length + 1) ≤ 57343)) : R = none := by
  rw [← h]
  cases f with
  | zero => rfl
  | succ f => unfold Pu.decLoop; rw [if_neg hl, hp]; simp only []; rw [if_pos hx]
theorem decLoop_on {f n i b j : Nat} {l r : Lb.Bytes} {out : List Nat} {R : Option (List Nat)} (h : Pu.decLoop f l n i b out = R) (hf : l.length < f) (hl : l ≠ []) (hp : Pu.parse l i 1 36 b = some (j, r))
    (hx : ¬ (1114111 < n + j / (out.length + 1) ∨ (55296 ≤ n + j / (out.length + 1) ∧ n + j / (out.length + 1) ≤ 57343))) :
    ∃ g, r.length < g ∧ Pu.decLoop g r (n + j / (out.length + 1)) (j % (out.length + 1) + 1) (Pu.adapt (j - i) (out.length + 1) (i == 0)) (out.take (j % (out.length + 1)) ++ (n + j / (out.length + 1)) :: out.drop (j % (out.length + 1))) = R := by
  obtain ⟨g, rfl⟩ : ∃ g, f = g + 1 := ⟨f - 1, by omega⟩
  refine ⟨g, ?_, ?_⟩
  · have := (parse_ge _ _ _ _ _ _ _ hp).2; omega
  · rw [← h]
    conv => rhs; unfold Pu.decLoop
    rw [if_neg hl, hp]
    simp only []
    rw [if_neg hx]
theorem cons_extract (Y : ByteArray) (h : 0 < Y.size) : Y.data.toList = Y[0] :: (Y.extract 1 Y.size).data.toList := by
  rw [Lib.extract_data, List.take_of_length_le (by simp)]
  have := byte_at Y 0 h
  cases hl : Y.data.toList with
  | nil => rw [hl] at this; cases this
  | cons a l => rw [hl] at this; simp at this; rw [← this]; rfl
def strLen : Value → Nat | .string s => s.size | _ => 0
theorem empty_iff (Y : ByteArray) : Y.toList.isEmpty = decide (Y.size = 0) := by
  rw [Lib.toList_data, Bool.eq_iff_iff, List.isEmpty_iff, decide_eq_true_eq, ← List.length_eq_zero_iff]
  rfl
theorem lastAt_is : ∀ (s : Lb.Bytes) (k : Nat), Pu.lastAt s = k → s[k]? = some 45
  | [], k, h => by simp [Pu.lastAt] at h
  | c :: s, k, h => by
    unfold Pu.lastAt at h
    split at h
    · rename_i h0
      obtain ⟨j, rfl⟩ : ∃ j, k = j + 1 := ⟨k - 1, by omega⟩
      have := lastAt_is s j (by omega)
      simpa using this
    · split at h
      · rename_i hc
        have : k = 0 := by omega
        subst this; simp [hc]
      · omega
theorem parse_nil {i w k b : Nat} {Y : ByteArray} {R : Option (Nat × Lb.Bytes)} (h : Pu.parse Y.data.toList i w k b = R) (hy : Y.size = 0) : R = none := by
  have : Y.data.toList = [] := List.eq_nil_of_length_eq_zero hy
  rw [← h, this]; rfl
theorem parse_bad {i w k b : Nat} {Y : ByteArray} {R : Option (Nat × Lb.Bytes)} (h : Pu.parse Y.data.toList i w k b = R) (hy : 0 < Y.size) (hb : Pu.value Y[0] = 36 ∨ Pu.M < i ∨ Pu.M < w) : R = none := by
  rw [cons_extract Y hy] at h
  rw [← h]; unfold Pu.parse; rw [if_pos hb]
theorem parse_stop {i w k b t : Nat} {Y : ByteArray} {R : Option (Nat × Lb.Bytes)} (h : Pu.parse Y.data.toList i w k b = R) (hy : 0 < Y.size) (hb : ¬ (Pu.value Y[0] = 36 ∨ Pu.M < i ∨ Pu.M < w)) (ht : Pu.threshold k b = t) (hv : Pu.value Y[0] < t) :
    R = some (i + Pu.value Y[0] * w, (Y.extract 1 Y.size).data.toList) := by
  rw [cons_extract Y hy] at h
  rw [← h]; unfold Pu.parse; rw [if_neg hb, if_pos (by omega)]
theorem parse_on {i w k b t : Nat} {Y : ByteArray} {R : Option (Nat × Lb.Bytes)} (h : Pu.parse Y.data.toList i w k b = R) (hy : 0 < Y.size) (hb : ¬ (Pu.value Y[0] = 36 ∨ Pu.M < i ∨ Pu.M < w)) (ht : Pu.threshold k b = t) (hv : ¬ Pu.value Y[0] < t) :
    Pu.parse (Y.extract 1 Y.size).data.toList (i + Pu.value Y[0] * w) (w * (36 - t)) (k + 36) b = R := by
  rw [cons_extract Y hy] at h
  rw [← h]
  conv => rhs; unfold Pu.parse
  rw [if_neg hb, if_neg (by omega), ht]
end Go.Proofs.YtffjfggndfcfmaaDoor
