/- Appending to a row of the call's own from whatever source; cutting such a row. No program. -/
import Derived.Test.YtffjfggndfcfmaaDoorKit
import Derived.Maps.AppendAt
import Derived.Laws.AppendOwnNone
namespace Go.Proofs.YtffjfggndfcfmaaDoor
open Go.RowKit

/-- A slice value whose elements (one cell each) read as xs in w. -/
def SrcAt (w : World) (v : Value) (xs : List Value) : Prop :=
  ∃ A c, v = .slice A xs.length c ∧ (A = none → xs = [] ∧ c = 0) ∧ ∀ ad, A = some ad → ∀ j u, xs[j]? = some u → w.cell? (ad.add j) = some u
theorem add_at (g o j : Nat) : (⟨g, o, none⟩ : Addr).add j = ⟨g, o + j, none⟩ := by unfold Addr.add; split <;> simp_all
theorem srcAt_own {w : World} {base e n : Nat} {v : Value} {xs : List Value} (h : w.ownsRow base e 1 v n xs) : SrcAt w v xs := by
  have hl : xs.length = n := by have := h.1; omega
  rcases h.2 with ⟨rfl, hn⟩ | ⟨g, cap, cur, rfl, _⟩
  · exact ⟨none, 0, by rw [hl, hn], fun _ => ⟨List.eq_nil_of_length_eq_zero (by omega), rfl⟩, fun ad h => (by cases h)⟩
  · refine ⟨some ⟨g, 0, none⟩, cap, by rw [hl], fun h => (by cases h), ?_⟩
    intro ad hA j u hu
    injection hA with hA
    subst hA
    have hj : j < xs.length := (List.getElem?_eq_some_iff.1 hu).1
    rw [add_at, Nat.zero_add, h.cellAt j (by omega)]
    exact hu

section
variable {P : Program} {w : World}
theorem append_src (base : Nat) (t ty e : TypeId) (i : TypeInfo) (z : Value) (bytes : Nat) (ht : P.underlying t = some (.slice e)) (hi : P.info? e = some i) (hz : i.zero = some z)
    (hsize : i.size = 1) (hby : i.bytes = bytes) (hzs : z.cells.size = 1)
    (v : Value) (n : Nat) (xs : List Value) (hown : w.ownsRow base e 1 v n xs) (s : Value) (ys : List Value) (hs : SrcAt w s ys) (h1 : ∀ u ∈ ys, u.oneCell' = true)
    (h63 : n + ys.length ≤ maxLen) (hbytes : (n + ys.length) * bytes ≤ 140737488355328) (hbase : base ≤ w.heap.size) :
    ∃ v' w', (Builtin.append_ #[t, t] ty #[v, s]).run P w = .ok v' w' ∧ w'.ownsRow base e 1 v' (n + ys.length) (xs ++ ys) ∧ w.grownBy w' v.ownBlock ∧ (v'.ownBlock = v.ownBlock ∨ v'.ownBlock = some w.heap.size) := by
  obtain ⟨A, c, rfl, hnone, hcell⟩ := hs
  cases A with
  | none =>
    obtain ⟨rfl, rfl⟩ := hnone rfl
    refine ⟨v, w, ?_, by simpa using hown, World.grownBy.refl w _, .inl rfl⟩
    exact run_append_owned_none (P := P) (w := w) base t ty e i 1 ht hi v n xs hown
  | some ad =>
    obtain ⟨v', w', a1, a2, a3, _, a5⟩ := run_append_own_at (P := P) w base t ty e i z 1 bytes ht hi hz hsize hby hzs (by decide) v n xs hown ad ys.length c ys (by omega) (fun j u hu => hcell ad rfl j u hu) h1 h63 hbytes hbase
    exact ⟨v', w', a1, a2, a3, a5⟩
end

/-- The first i elements of a row of the call's own. -/
theorem own_cut {w : World} {base e n : Nat} {A : Option Addr} {cap : Nat} {xs : List Value} (h : w.ownsRow base e 1 (.slice A n cap) n xs) (i : Nat) (hi : i ≤ n) : w.ownsRow base e 1 (.slice A i cap) i (xs.take i) := by
  have hl : xs.length = n := by have := h.1; omega
  refine ⟨by rw [List.length_take]; omega, ?_⟩
  rcases h.2 with ⟨hv, hn⟩ | ⟨g, cap', cur, hv, hb, hh, hnc, hcm, hcs, ht⟩
  · injection hv with h1 h2 h3
    subst h1; subst h3
    have : i = 0 := by omega
    subst this
    exact .inl ⟨rfl, rfl⟩
  · injection hv with h1 h2 h3
    subst h1; subst h3
    refine .inr ⟨g, cap, cur, rfl, hb, hh, by omega, hcm, hcs, ?_⟩
    rw [← ht, List.take_take]
    congr 1
    omega
theorem own_cap {w : World} {base e n : Nat} {A : Option Addr} {cap : Nat} {xs : List Value} (h : w.ownsRow base e 1 (.slice A n cap) n xs) : n ≤ cap ∧ cap ≤ maxLen ∧ (A = none → n = 0 ∧ cap = 0) ∧ ∀ ad, A = some ad → ∃ g, ad = ⟨g, 0, none⟩ ∧ base ≤ g ∧ g < w.heap.size := by
  rcases h.2 with ⟨hv, hn⟩ | ⟨g, cap', cur, hv, hb, hh, hnc, hcm, _⟩
  · injection hv with h1 h2 h3
    subst h1; subst h3
    exact ⟨by omega, by unfold maxLen; omega, fun _ => ⟨hn, rfl⟩, fun ad h => (by cases h)⟩
  · injection hv with h1 h2 h3
    subst h1; subst h3
    exact ⟨hnc, hcm, fun h => (by cases h), fun ad h => by injection h with h; exact ⟨g, h.symm, hb, (Array.getElem?_eq_some_iff.1 hh).1⟩⟩
/-- What stands from element i on. -/
theorem src_from {w : World} {base e n : Nat} {A : Option Addr} {cap : Nat} {xs : List Value} (h : w.ownsRow base e 1 (.slice A n cap) n xs) (i : Nat) (hi : i ≤ n) :
    SrcAt w (.slice (if cap = i then A else A.map (·.add i)) (n - i) (cap - i)) (xs.drop i) := by
  have hl : xs.length = n := by have := h.1; omega
  obtain ⟨h1, h2, h3, h4⟩ := own_cap h
  refine ⟨_, cap - i, by rw [List.length_drop, hl], ?_, ?_⟩
  · intro hA
    have hA' : A = none := by
      by_cases e : cap = i
      · rw [if_pos e] at hA; exact hA
      · rw [if_neg e] at hA; cases A with
        | none => rfl
        | some ad => cases hA
    obtain ⟨a, b⟩ := h3 hA'
    exact ⟨List.drop_eq_nil_of_le (by omega), by omega⟩
  · intro ad hA j u hu
    have hj : i + j < xs.length := by rw [List.getElem?_drop] at hu; exact (List.getElem?_eq_some_iff.1 hu).1
    have hne : ¬ cap = i := by omega
    rw [if_neg hne] at hA
    cases A with
    | none => cases hA
    | some a =>
      injection hA with hA
      subst hA
      obtain ⟨g, rfl, _, _⟩ := h4 a rfl
      show w.cell? (((⟨g, 0, none⟩ : Addr).add i).add j) = some u
      rw [add_at, add_at, Nat.zero_add, h.cellAt (i + j) (by omega)]
      rw [List.getElem?_drop] at hu
      exact hu
/-- What is owned stays owned behind a call that turns nothing that was there. -/
theorem own_later {w w' : World} {base e n : Nat} {v : Value} {xs : List Value} (h : w.ownsRow base e 1 v n xs) (hb : Below w.heap.size w w') : w'.ownsRow base e 1 v n xs := by
  refine ⟨h.1, ?_⟩
  rcases h.2 with h2 | ⟨g, cap, cur, hv, hg, hh, h3⟩
  · exact .inl h2
  · exact .inr ⟨g, cap, cur, hv, hg, (hb.block g (Array.getElem?_eq_some_iff.1 hh).1).trans hh, h3⟩
end Go.Proofs.YtffjfggndfcfmaaDoor
