/- name.ascii and name.unicode in plain Lean. No program. -/
import Derived.Test.YtffjfggndfcfmaaDoorNm
import Derived.Test.YtffjfggndfcfmaaDoorEnc
import Derived.Lib.ValidLaws
import Derived.Laws.RangeAny
namespace Go.Proofs.YtffjfggndfcfmaaDoor
namespace Nm

/-- The runes that a text spells, from pos on. -/
def runesF (s : ByteArray) : Nat → Nat → List Nat
  | 0, _ => []
  | f + 1, pos => if pos < s.size then (Utf8.decode s pos).1 :: runesF s f (pos + (Utf8.decode s pos).2) else []
def okRune (r : Nat) : Bool := if 128 ≤ r then good r else byteOk r
def isHy (l : List Nat) : Bool := l.getD 0 0 == 45 || l.getD (l.length - 1) 0 == 45
def xn : Lb.Bytes := [120, 110, 45, 45]
def ascTail (l : List Nat) : Lb.Bytes × Nat :=
  if isHy l = true then ([], 1)
  else if (encR l).2 ≠ 0 then ([], (encR l).2)
  else if 63 < (encR l).1.length + 4 then ([], 2) else (xn ++ (encR l).1, 0)
def ascLoop (l rest : List Nat) : Lb.Bytes × Nat := if rest.all okRune then ascTail (l ++ rest) else ([], 1)
def wide (l : List Nat) (k : Nat) : Bool := (l.take k).any fun r => decide (128 ≤ r)
def utf8 (l : List Nat) : Lb.Bytes := l.flatMap fun (r : Nat) => (Utf8.encode (r : Int)).data.toList
def uniTail (l : List Nat) : Lb.Bytes × Nat := if l.all okRune && l.any (fun r => decide (128 ≤ r)) && !isHy l then (utf8 l, 0) else ([], 3)
def uni (s : Lb.Bytes) : Lb.Bytes × Nat :=
  if Lib.hasPrefix s xn then (if (decR (s.drop 4)).2 ≠ 0 then ([], (decR (s.drop 4)).2) else uniTail (decR (s.drop 4)).1) else (s, 0)
def ascLow (s : Lb.Bytes) : Lb.Bytes × Nat :=
  if plain s then (if right s then (if Lib.hasPrefix s xn then (s, (uni s).2) else (s, 0)) else ([], 1))
  else if Lib.validD s then ascLoop [] (runesF (Lb.str s) (s.length + 1) 0) else ([], 1)
def asc (s : Lb.Bytes) : Lb.Bytes × Nat := ascLow (Lb.lower s)

theorem encode_size (n : Int) : (Utf8.encode n).size ≤ 4 := by
  unfold Utf8.encode
  simp only []
  repeat' split
  all_goals (first | (show 1 ≤ 4; omega) | (show 2 ≤ 4; omega) | (show 3 ≤ 4; omega) | (show 4 ≤ 4; omega))
theorem right_one (r : Nat) (h : r < 128) : right (((⟨#[97]⟩ : ByteArray) ++ Utf8.encode (r : Int)) ++ ⟨#[97]⟩).data.toList = byteOk r := by
  have he : Utf8.encode (r : Int) = ⟨#[UInt8.ofNat r]⟩ := by
    have hv : Utf8.valid (r : Int) = true := by unfold Utf8.valid; simp; omega
    unfold Utf8.encode
    simp only [hv, if_true, Int.toNat_natCast]
    rw [if_pos (by omega)]
  rw [he]
  have hl : (((⟨#[97]⟩ : ByteArray) ++ ⟨#[UInt8.ofNat r]⟩) ++ ⟨#[97]⟩).data.toList = [97, UInt8.ofNat r, 97] := by
    simp only [ByteArray.data_append]
    simp
  rw [hl]
  have ht : (UInt8.ofNat r).toNat = r := by simp; omega
  unfold right
  simp [ht]
  rw [show byteOk 97 = true by decide]
  simp
theorem ok_high {r : Nat} (h : 128 ≤ r) : okRune r = good r := by unfold okRune; rw [if_pos h]
theorem ok_low {r : Nat} (h : r < 128) : okRune r = byteOk r := by unfold okRune; rw [if_neg (by omega)]
theorem good_le {r : Nat} (h : good r = true) : r ≤ 1119 := by
  unfold good at h
  split at h
  · omega
  · split at h
    · simp at h; omega
    · simp at h; omega
theorem ok_le {r : Nat} (h : okRune r = true) : r ≤ 1119 := by
  unfold okRune at h
  split at h
  · exact good_le h
  · omega
theorem runesF_end {s : ByteArray} {f pos : Nat} (h : ¬ pos < s.size) : runesF s f pos = [] := by
  cases f with
  | zero => rfl
  | succ f => unfold runesF; rw [if_neg h]
theorem decode_pos (s : ByteArray) (pos : Nat) (h : pos < s.size) : 1 ≤ (Utf8.decode s pos).2 := by
  by_cases ha : (s[pos]'h).toNat < 128
  · rw [Go.decode_ascii s pos h ha]; exact Nat.le_refl _
  · exact (Go.decode_high s pos h (by omega)).2
theorem runesF_on {s : ByteArray} {f pos : Nat} (hf : s.size - pos < f) (h : pos < s.size) :
    ∃ g, s.size - (pos + (Utf8.decode s pos).2) < g ∧ runesF s f pos = (Utf8.decode s pos).1 :: runesF s g (pos + (Utf8.decode s pos).2) := by
  obtain ⟨g, rfl⟩ : ∃ g, f = g + 1 := ⟨f - 1, by omega⟩
  have := decode_pos s pos h
  refine ⟨g, by omega, ?_⟩
  conv => lhs; unfold runesF
  rw [if_pos h]
theorem ascLoop_bad {l rest : List Nat} {r : Nat} (h : okRune r = false) : ascLoop l (r :: rest) = ([], 1) := by
  unfold ascLoop; rw [List.all_cons, h]; rfl
theorem ascLoop_on {l rest : List Nat} {r : Nat} (h : okRune r = true) : ascLoop l (r :: rest) = ascLoop (l ++ [r]) rest := by
  unfold ascLoop; rw [List.all_cons, h, Bool.true_and, List.append_assoc]; rfl
theorem ascLoop_end {l : List Nat} : ascLoop l [] = ascTail l := by
  unfold ascLoop; rw [List.append_nil]; rfl
end Nm
end Go.Proofs.YtffjfggndfcfmaaDoor
