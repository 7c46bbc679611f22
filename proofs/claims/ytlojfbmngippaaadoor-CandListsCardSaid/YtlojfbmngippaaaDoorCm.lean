/- A map of strings to bools that the call makes, all of it true: what is looked up, what a store makes of it. -/
import Derived.Test.YtlojfbmngippaaaDoorCnW
import Derived.Maps.Own
import Derived.Maps.Views
namespace Go.Proofs.YtlojfbmngippaaaDoor
open Go.RowKit Go.ChangeMaps Go.Maps Go.WideMaps
set_option linter.unusedVariables false
/-- The datum of a set of strings. -/
def setD (ks : List Lb.Bytes) : DataW Unit := ks.foldl (fun D k => D.put (.string k) (.lit (.bool true))) (.map [])
theorem setD_snoc (ks : List Lb.Bytes) (k : Lb.Bytes) : setD (ks ++ [k]) = (setD ks).put (.string k) (.lit (.bool true)) := by
  unfold setD; rw [List.foldl_append]; rfl
theorem setD_isMap (ks : List Lb.Bytes) : IsMap (setD ks) := by
  have key : ∀ (l : List Lb.Bytes) (D : DataW Unit), IsMap D → IsMap (l.foldl (fun D k => D.put (.string k) (.lit (.bool true))) D) := by
    intro l
    induction l with
    | nil => intro D h; exact h
    | cons k l ih => intro D h; exact ih _ (h.put _ _)
  exact key ks _ isMap_empty
theorem setD_at (ks : List Lb.Bytes) (x : Lb.Bytes) : (setD ks).atKey (.string x) (.lit (.bool false)) = .lit (.bool (ks.any fun y => x == y)) := by
  have key : ∀ (n : Nat) (l : List Lb.Bytes), l.length = n → (setD l).atKey (.string x) (.lit (.bool false)) = .lit (.bool (l.any fun y => x == y)) := by
    intro n
    induction n with
    | zero =>
      intro l hl
      have : l = [] := List.eq_nil_of_length_eq_zero hl
      subst this
      rfl
    | succ n ih =>
      intro l hl
      rcases List.eq_nil_or_concat l with e | ⟨a, b, e⟩
      · subst e; cases hl
      · rw [List.concat_eq_append] at e
        subst e
        have ha := ih a (by simpa using hl)
        rw [setD_snoc, List.any_append]
        by_cases hx : x = b
        · subst hx
          rw [atKey_put_same (setD_isMap a) (by trivial)]
          simp
        · rw [atKey_put_other (by intro e; injection e with e; exact hx e), ha]
          have : (x == b) = false := by simpa using hx
          simp [this]
  exact key _ ks rfl
theorem plain_bool_inv {H : Type} {P : Program} {e : TypeId} {v : Value} {c : Bool} {ps : List MemPlace} (hu : P.underlying e = some .bool) (h : plainElem (H := H) P e v = some (.lit (.bool c), ps)) : v = .bool c := by
  unfold plainElem at h
  split at h
  · simp only [Option.some.injEq, Prod.mk.injEq, DataW.lit.injEq, Lit.bool.injEq] at h
    rw [h.1]
  · rename_i heq
    rw [hu] at heq; cases heq
  · rename_i heq
    rw [hu] at heq; cases heq
  · cases h
theorem zero_bool (w : World) : (zeroValue 4).run Tryd.prog w = .ok (.bool false) w := by kernel_rfl
theorem str_key : Keyed Tryd.prog 9 := string_keyed Tryd.underlying9
/-- The block of the set. -/
def SetAt (w : World) (b n : Nat) (ks : List Lb.Bytes) : Prop := w.ownsMap Tryd.prog 9 (plainElem Tryd.prog 4) b n (setD ks)
theorem setAt_made (w : World) : SetAt (w.alloc (.map #[] 0)) w.heap.size 0 [] := World.ownsMap_made w _ _ _
theorem seen_lookup {w : World} {b n : Nat} {ks : List Lb.Bytes} (h : SetAt w b n ks) (X : ByteArray) (hX : X.size ≤ maxLen) :
    (Instr.lookup 42 (.map (some b)) (.string X) false).run Tryd.prog w = .ok (.bool (ks.any fun y => X.data.toList == y)) w := by
  obtain ⟨v, ps, hrun, hv⟩ := World.ownsMap.lookup h str_key Tryd.underlying42 (zero_bool w) (plainElem_bool Tryd.underlying4 false) (keyOf_string_mk Tryd.underlying9 hX)
  rw [setD_at] at hv
  have : v = .bool (ks.any fun y => X.data.toList == y) := by
    exact plain_bool_inv Tryd.underlying4 hv
  rw [hrun, this]
theorem seen_store {w : World} {b n : Nat} {ks : List Lb.Bytes} (h : SetAt w b n ks) (X : ByteArray) (hX : X.size ≤ maxLen) (hn : n < maxLen) :
    ∃ w', (Instr.mapUpdate 42 (.map (some b)) (.string X) (.bool true)).run Tryd.prog w = .ok () w' ∧ SetAt w' b (n + 1) (ks ++ [X.data.toList]) ∧ w.grownBy w' (some b) := by
  obtain ⟨w', h1, h2, h3⟩ := World.ownsMap.update h str_key Tryd.underlying42 hn (keyOf_string_mk Tryd.underlying9 hX) (plainElem_bool Tryd.underlying4 true)
  exact ⟨w', h1, by unfold SetAt; rw [setD_snoc]; exact h2, h3⟩
end Go.Proofs.YtlojfbmngippaaaDoor
