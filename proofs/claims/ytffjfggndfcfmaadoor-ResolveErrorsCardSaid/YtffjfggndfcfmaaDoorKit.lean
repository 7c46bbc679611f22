/- Small facts on memory that the walks share: a slice of strings that can be read, a row of the call's own that grows. No program. -/
import Derived.Test.YtffjfggndfcfmaaDoorLab
import Derived.WalkKit
import Derived.WalkSpells
import Derived.WalkLawsBesides
import Derived.Lib.Hide
import Derived.Lib.Strings
namespace Go.Proofs.YtffjfggndfcfmaaDoor
open Go.RowKit

theorem byte_at (s : ByteArray) (k : Nat) (h : k < s.size) : s.data.toList[k]? = some s[k] := by
  rw [List.getElem?_eq_getElem (by simpa using h)]; rfl
theorem own_base_le {w : World} {base e size n : Nat} {v : Value} {xs : List Value} (h : w.ownsRow base e size v n xs) {g : Nat} (hg : v.ownBlock = some g) : base ≤ g := by
  rcases h.2 with ⟨rfl, _⟩ | ⟨g', cap, cur, rfl, hb, _⟩
  · simp [Value.ownBlock] at hg
  · simp [Value.ownBlock] at hg; omega

/-- A slice value that reads as the strings xs: empty, or its cells lie there. -/
def StrsAt (w : World) (v : Value) (xs : List Lb.Bytes) : Prop :=
  (xs = [] ∧ ∃ A c, v = .slice A 0 c) ∨
    ∃ b o c, v = .slice (some ⟨b, o, none⟩) xs.length c ∧ b < w.heap.size ∧ ∀ j, j < xs.length → w.cell? ⟨b, o + j, none⟩ = some (Lb.strV (xs.getD j []))
theorem StrsAt.below {w w' : World} {v : Value} {xs : List Lb.Bytes} (h : StrsAt w v xs) {B : Nat} (hb : Below B w w') (hB : w.heap.size ≤ B) : StrsAt w' v xs := by
  rcases h with h | ⟨b, o, c, rfl, hlt, hc⟩
  · exact .inl h
  · exact .inr ⟨b, o, c, rfl, Nat.lt_of_lt_of_le hlt hb.size, fun j hj => (hb.cell (p := ⟨b, o + j, none⟩) (by show b < B; omega)).trans (hc j hj)⟩
theorem strsAt_of_own {w : World} {base e : Nat} {v : Value} {xs : List Lb.Bytes} (h : w.ownsRow base e 1 v xs.length (xs.map Lb.strV)) : StrsAt w v xs := by
  rcases h.2 with ⟨rfl, hn⟩ | ⟨g, cap, cur, rfl, _, hh, _⟩
  · exact .inl ⟨List.eq_nil_of_length_eq_zero hn, none, 0, rfl⟩
  · refine .inr ⟨g, 0, cap, rfl, ?_, ?_⟩
    · exact (Array.getElem?_eq_some_iff.1 hh).1
    · intro j hj
      have := h.cellAt j (by omega)
      rw [Nat.zero_add, this, List.getElem?_map, List.getD_eq_getElem?_getD, List.getElem?_eq_getElem hj]
      rfl
theorem below_chain {B : Nat} {w w1 w2 : World} (h : Below B w w1) (k : Below w1.heap.size w1 w2) (hB : B ≤ w.heap.size) : Below B w w2 :=
  h.trans (k.mono (Nat.le_trans hB h.size))
theorem ret_bool {a b : Bool} (h : a = b) : Ending.returned (.bool a) = .returned (.bool b) := by rw [h]
theorem ret_int {k : IntKind} {a b : Int} (h : a = b) : Ending.returned (.int k a) = .returned (.int k b) := by rw [h]
theorem ret_str {a b : ByteArray} (h : a = b) : Ending.returned (.string a) = .returned (.string b) := by rw [h]
theorem own_len {w : World} {base e n : Nat} {v : Value} {xs : List Value} (h : w.ownsRow base e 1 v n xs) : ∃ A c, v = .slice A n c := by
  rcases h.2 with ⟨rfl, rfl⟩ | ⟨g, cap, cur, rfl, _⟩
  · exact ⟨none, 0, rfl⟩
  · exact ⟨_, cap, rfl⟩
theorem str_eq_iff (s : ByteArray) (l : Lb.Bytes) : (s.toList == l) = (s.data.toList == l) := by rw [Lib.toList_data]
/-- A slice value that reads as the runes l. -/
def RunesAt (w : World) (v : Value) (l : List Nat) : Prop :=
  (l = [] ∧ ∃ A c, v = .slice A 0 c) ∨
    ∃ b o c, v = .slice (some ⟨b, o, none⟩) l.length c ∧ b < w.heap.size ∧ ∀ j, j < l.length → w.cell? ⟨b, o + j, none⟩ = some (.int .i32 ((l.getD j 0 : Nat) : Int))
theorem RunesAt.below {w w' : World} {v : Value} {l : List Nat} (h : RunesAt w v l) {B : Nat} (hb : Below B w w') (hB : w.heap.size ≤ B) : RunesAt w' v l := by
  rcases h with h | ⟨b, o, c, rfl, hlt, hc⟩
  · exact .inl h
  · exact .inr ⟨b, o, c, rfl, Nat.lt_of_lt_of_le hlt hb.size, fun j hj => (hb.cell (p := ⟨b, o + j, none⟩) (by show b < B; omega)).trans (hc j hj)⟩
def runeV (r : Nat) : Value := .int .i32 (r : Int)
theorem runesAt_of_own {w : World} {base e : Nat} {v : Value} {l : List Nat} (h : w.ownsRow base e 1 v l.length (l.map runeV)) : RunesAt w v l := by
  rcases h.2 with ⟨rfl, hn⟩ | ⟨g, cap, cur, rfl, _, hh, _⟩
  · exact .inl ⟨List.eq_nil_of_length_eq_zero hn, none, 0, rfl⟩
  · refine .inr ⟨g, 0, cap, rfl, ?_, ?_⟩
    · exact (Array.getElem?_eq_some_iff.1 hh).1
    · intro j hj
      have := h.cellAt j (by omega)
      rw [Nat.zero_add, this, List.getElem?_map, List.getD_eq_getElem?_getD, List.getElem?_eq_getElem hj]
      rfl
theorem take_snoc {α : Type} (l : List α) (k : Nat) (d : α) (h : k < l.length) : l.take (k + 1) = l.take k ++ [l.getD k d] := by
  rw [List.take_succ_eq_append_getElem h, List.getD_eq_getElem?_getD, List.getElem?_eq_getElem h]; rfl
theorem fold_snoc {α β : Type} (f : β → α → β) (s : β) (l : List α) (k : Nat) (d : α) (h : k < l.length) : (l.take (k + 1)).foldl f s = f ((l.take k).foldl f s) (l.getD k d) := by
  rw [take_snoc l k d h, List.foldl_append]; rfl
theorem getD_mem {α : Type} (l : List α) (k : Nat) (d : α) (h : k < l.length) : l.getD k d ∈ l := by
  rw [List.getD_eq_getElem?_getD, List.getElem?_eq_getElem h]; exact List.getElem_mem _
end Go.Proofs.YtffjfggndfcfmaaDoor
