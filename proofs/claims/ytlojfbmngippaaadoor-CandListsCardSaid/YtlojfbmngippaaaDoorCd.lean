/- cand.List in plain Lean: the names that are tried. No program. -/
import Derived.Test.YtlojfbmngippaaaDoorNt
namespace Go.Proofs.YtlojfbmngippaaaDoor
namespace Cd
/-- One more, if it is not there and not too long. -/
def addL (out : List Lb.Bytes) (x : Lb.Bytes) : List Lb.Bytes := if out.any (fun y => x == y) = true ∨ 253 < x.length then out else out ++ [x]
def all (early : Bool) (search : List Lb.Bytes) (n : Lb.Bytes) : List Lb.Bytes := (if early then [n] else []) ++ (search.map fun d => n ++ 46 :: d) ++ [n]
def cands (early : Bool) (search : List Lb.Bytes) (n : Lb.Bytes) : List Lb.Bytes := (all early search n).foldl addL []
def list (dots : Int) (search : List Lb.Bytes) (s : Lb.Bytes) : List Lb.Bytes × Nat :=
  if (Nm.toASCII s).2 ≠ 0 then ([], (Nm.toASCII s).2)
  else if Lib.hasSuffix s [46] then ([(Nm.toASCII s).1], 0)
  else (cands (decide (dots ≤ ((Nm.toASCII s).1.count 46 : Nat))) search (Nm.toASCII s).1, 0)

theorem addL_known {out : List Lb.Bytes} {x : Lb.Bytes} (h : out.any (fun y => x == y) = true) : addL out x = out := by unfold addL; rw [if_pos (.inl h)]
theorem addL_long {out : List Lb.Bytes} {x : Lb.Bytes} (h : 253 < x.length) : addL out x = out := by unfold addL; rw [if_pos (.inr h)]
theorem addL_new {out : List Lb.Bytes} {x : Lb.Bytes} (h : out.any (fun y => x == y) = false) (h2 : ¬ 253 < x.length) : addL out x = out ++ [x] := by
  unfold addL; rw [if_neg (by rintro (h3 | h3); rw [h] at h3; cases h3; exact h2 h3)]
theorem addL_len (out : List Lb.Bytes) (x : Lb.Bytes) : (addL out x).length ≤ out.length + 1 := by
  unfold addL; split
  · omega
  · simp
theorem foldl_len (xs : List Lb.Bytes) : ∀ out : List Lb.Bytes, (xs.foldl addL out).length ≤ out.length + xs.length := by
  induction xs with
  | nil => intro out; simp
  | cons x xs ih => intro out; have h1 := ih (addL out x); have h2 := addL_len out x; simp only [List.foldl_cons, List.length_cons]; omega
theorem addL_mem {out : List Lb.Bytes} {x y : Lb.Bytes} (h : y ∈ addL out x) : y ∈ out ∨ (y = x ∧ x.length ≤ 253) := by
  unfold addL at h
  split at h
  · exact .inl h
  · rename_i h2
    rcases List.mem_append.1 h with h | h
    · exact .inl h
    · right; simp only [List.mem_singleton] at h; exact ⟨h, by have : ¬ 253 < x.length := fun h3 => h2 (.inr h3); omega⟩
theorem addL_sub {out : List Lb.Bytes} {x y : Lb.Bytes} (h : y ∈ out) : y ∈ addL out x := by
  unfold addL; split
  · exact h
  · exact List.mem_append_left _ h
theorem addL_self {out : List Lb.Bytes} {x : Lb.Bytes} (h : x.length ≤ 253) : x ∈ addL out x := by
  unfold addL; split
  · rename_i h2
    rcases h2 with h2 | h2
    · obtain ⟨y, hy, e⟩ := List.any_eq_true.1 h2
      rw [beq_iff_eq] at e
      rw [e]; exact hy
    · omega
  · simp
theorem foldl_mem (xs : List Lb.Bytes) : ∀ (out : List Lb.Bytes) (y : Lb.Bytes), y ∈ xs.foldl addL out → y ∈ out ∨ (y ∈ xs ∧ y.length ≤ 253) := by
  induction xs with
  | nil => intro out y h; exact .inl h
  | cons x xs ih =>
    intro out y h
    rcases ih _ y h with h | ⟨h, h2⟩
    · rcases addL_mem h with h | ⟨rfl, h⟩
      · exact .inl h
      · exact .inr ⟨by simp, h⟩
    · exact .inr ⟨List.mem_cons_of_mem _ h, h2⟩
theorem foldl_sub (xs : List Lb.Bytes) : ∀ (out : List Lb.Bytes) (y : Lb.Bytes), y ∈ out → y ∈ xs.foldl addL out := by
  induction xs with
  | nil => intro out y h; exact h
  | cons x xs ih => intro out y h; exact ih _ y (addL_sub h)
theorem foldl_self (xs : List Lb.Bytes) : ∀ (out : List Lb.Bytes) (y : Lb.Bytes), y ∈ xs → y.length ≤ 253 → y ∈ xs.foldl addL out := by
  induction xs with
  | nil => intro out y h _; cases h
  | cons x xs ih =>
    intro out y h h2
    rcases List.mem_cons.1 h with rfl | h
    · exact foldl_sub xs _ _ (addL_self h2)
    · exact ih _ y h h2

/-! ### CandNames -/
/-- A name and a search domain, both of which go out as they are: together they go out as they are, if that is not too long. -/
theorem toASCII_pair {n d : Lb.Bytes} (hn : Nm.toASCII n = (n, 0)) (hd : Nm.toASCII d = (d, 0)) (hl : (n ++ 46 :: d).length ≤ 253) : Nm.toASCII (n ++ 46 :: d) = (n ++ 46 :: d, 0) := by
  obtain ⟨ts, xs, hne, hp, e1, _⟩ := Nm.name_ok hn
  obtain ⟨us, ys, hne2, hp2, e2, _⟩ := Nm.name_ok hd
  have hsn : Lib.hasSuffix n [46] = false := by rw [e1]; exact Nm.join_ne_dot (hp.labsT hne)
  have hsd : Lib.hasSuffix d [46] = false := by rw [e2]; exact Nm.join_ne_dot (hp2.labsT hne2)
  have hd0 : d ≠ [] := by
    rintro rfl
    have : Nm.toASCII [] = ([], 1) := by kernel_rfl
    rw [this] at hd
    injection hd with _ h
    cases h
  have hlen : n.length + d.length ≤ 400 := by simp only [List.length_append, List.length_cons] at hl; omega
  obtain ⟨_, _, h3⟩ := Nm.nameParts_law hlen hsn hsd
  have h4 := (h3 (by rw [hn]) hd0 (by rw [hd])).2 (by rw [hn, hd]; simp only [List.length_append, List.length_cons] at hl; show ¬ 253 < n.length + 1 + d.length; omega)
  rw [hn, hd] at h4
  exact h4
theorem toASCII_fix {s t : Lb.Bytes} (h : Nm.toASCII s = (t, 0)) : Nm.toASCII t = (t, 0) ∧ t.length ≤ 253 := by
  obtain ⟨u, _, _, h3, _⟩ := Nm.nameBack_law h
  exact ⟨h3, (Nm.toASCII_back h).2.2⟩
theorem cands_len (early : Bool) (search : List Lb.Bytes) (n : Lb.Bytes) (hn : n.length ≤ 253) : 1 ≤ (cands early search n).length ∧ (cands early search n).length ≤ search.length + 1 := by
  have hmem : n ∈ cands early search n := foldl_self _ _ _ (by simp [all]) hn
  refine ⟨List.length_pos_iff.2 (List.ne_nil_of_mem hmem), ?_⟩
  unfold cands all
  cases early with
  | false =>
    have := foldl_len ((if false = true then [n] else []) ++ (search.map fun d => n ++ 46 :: d) ++ [n]) []
    simp only [Bool.false_eq_true, if_false, List.nil_append, List.length_append, List.length_map, List.length_cons, List.length_nil] at this ⊢
    omega
  | true =>
    simp only [if_true]
    rw [List.foldl_append]
    have h1 : n ∈ ([n] ++ search.map fun d => n ++ 46 :: d).foldl addL [] := foldl_self _ _ _ (by simp) hn
    have h2 := foldl_len ([n] ++ search.map fun d => n ++ 46 :: d) []
    have h3 : addL (([n] ++ search.map fun d => n ++ 46 :: d).foldl addL []) n = ([n] ++ search.map fun d => n ++ 46 :: d).foldl addL [] := addL_known (List.any_eq_true.2 ⟨n, h1, by simp⟩)
    simp only [List.foldl_cons, List.foldl_nil, h3] at h2 ⊢
    simp only [List.length_append, List.length_map, List.length_cons, List.length_nil] at h2
    simp only [List.singleton_append, List.foldl_cons] at h2 ⊢
    omega
theorem candNames_law {dots : Int} {search : List Lb.Bytes} {s n : Lb.Bytes} (hs : ∀ d ∈ search, Nm.toASCII d = (d, 0)) (h : Nm.toASCII s = (n, 0)) :
    ∃ l, list dots search s = (l, 0) ∧ 1 ≤ l.length ∧ l.length ≤ search.length + 1 ∧ ∀ x ∈ l, Nm.toASCII x = (x, 0) ∧ n.length ≤ x.length ∧ x.take n.length = n ∧ x.length ≤ 253 := by
  obtain ⟨hfix, hn⟩ := toASCII_fix h
  unfold list
  rw [h, if_neg (by simp)]
  have hself : Nm.toASCII n = (n, 0) ∧ n.length ≤ n.length ∧ n.take n.length = n ∧ n.length ≤ 253 := ⟨hfix, Nat.le_refl _, List.take_length, hn⟩
  split
  · exact ⟨[n], rfl, by simp, by simp, by intro x hx; simp only [List.mem_singleton] at hx; subst hx; exact hself⟩
  · refine ⟨_, rfl, (cands_len _ _ _ hn).1, (cands_len _ _ _ hn).2, ?_⟩
    intro x hx
    rcases foldl_mem _ _ _ hx with hx | ⟨hx, hl⟩
    · cases hx
    · unfold all at hx
      rcases List.mem_append.1 hx with hx | hx
      · rcases List.mem_append.1 hx with hx | hx
        · split at hx
          · simp only [List.mem_singleton] at hx; subst hx; exact hself
          · cases hx
        · obtain ⟨d, hd, rfl⟩ := List.mem_map.1 hx
          refine ⟨toASCII_pair hfix (hs d hd) hl, by simp, by simp, hl⟩
      · simp only [List.mem_singleton] at hx; subst hx; exact hself
end Cd
end Go.Proofs.YtlojfbmngippaaaDoor
