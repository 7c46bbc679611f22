/- Punycode in plain Lean: what the Go functions of package puny compute, and that decoding what was encoded gives the runes back. No program, no memory. -/
import Derived.Lib.Fold
namespace Go.Proofs.YtffjfggndfcfmaaDoor.Pu
abbrev Bytes := List UInt8

def threshold (k bias : Nat) : Nat := min (max (k - bias) 1) 26
def digit (d : Nat) : UInt8 := if d < 26 then UInt8.ofNat (97 + d) else UInt8.ofNat (22 + d)
def value (c : UInt8) : Nat :=
  if 97 ≤ c.toNat ∧ c.toNat ≤ 122 then c.toNat - 97
  else if 65 ≤ c.toNat ∧ c.toNat ≤ 90 then c.toNat - 65
  else if 48 ≤ c.toNat ∧ c.toNat ≤ 57 then c.toNat - 48 + 26
  else 36
def adaptLoop : Nat → Nat → Nat → Nat × Nat
  | 0, d, k => (d, k)
  | f + 1, d, k => if 455 < d then adaptLoop f (d / 35) (k + 36) else (d, k)
def adapt (delta n : Nat) (start : Bool) : Nat :=
  let d0 := if start then delta / 700 else delta / 2
  let d1 := d0 + d0 / n
  let r := adaptLoop 64 d1 0
  r.2 + 36 * r.1 / (r.1 + 38)
def number : Nat → Nat → Nat → Nat → Bytes
  | 0, _, _, _ => []
  | f + 1, q, k, bias =>
    if q < threshold k bias then [digit q]
    else digit (threshold k bias + (q - threshold k bias) % (36 - threshold k bias)) :: number f ((q - threshold k bias) / (36 - threshold k bias)) (k + 36) bias

structure St where
  out : Bytes
  delta : Nat
  bias : Nat
  h : Nat
def stepR (n plain : Nat) (s : St) (r : Nat) : St :=
  if r = n then { out := s.out ++ number 64 s.delta 36 s.bias, delta := 0, bias := adapt s.delta (s.h + 1) (s.h == plain), h := s.h + 1 }
  else if r < n then { s with delta := s.delta + 1 } else s
def minGe (n : Nat) (l : List Nat) : Nat := l.foldl (fun m r => if n ≤ r ∧ r < m then r else m) 1114112
def encLoop : Nat → List Nat → Nat → Nat → St → Option Bytes
  | 0, _, _, _, _ => none
  | f + 1, l, plain, n, s =>
    if s.h < l.length then
      if 63 < s.out.length then none
      else
        let m := minGe n l
        let s2 := l.foldl (stepR m plain) { s with delta := s.delta + (m - n) * (s.h + 1) }
        encLoop f l plain (m + 1) { s2 with delta := s2.delta + 1 }
    else if 63 < s.out.length then none else some s.out
def basic (l : List Nat) : Bytes := (l.filter (· < 128)).map UInt8.ofNat
def head (l : List Nat) : Bytes := if basic l = [] then [] else basic l ++ [45]
def encode (l : List Nat) : Option Bytes := encLoop (l.length + 1) l (basic l).length 128 { out := head l, delta := 0, bias := 72, h := (basic l).length }

def M : Nat := 71303104
def parse : Bytes → Nat → Nat → Nat → Nat → Option (Nat × Bytes)
  | [], _, _, _, _ => none
  | c :: rest, i, w, k, bias =>
    if value c = 36 ∨ M < i ∨ M < w then none
    else if value c < threshold k bias then some (i + value c * w, rest)
    else parse rest (i + value c * w) (w * (36 - threshold k bias)) (k + 36) bias
def decLoop : Nat → Bytes → Nat → Nat → Nat → List Nat → Option (List Nat)
  | 0, _, _, _, _, _ => none
  | f + 1, rest, n, i, bias, out =>
    if rest = [] then some out
    else match parse rest i 1 36 bias with
      | none => none
      | some (j, rest') =>
        if 1114111 < n + j / (out.length + 1) ∨ (55296 ≤ n + j / (out.length + 1) ∧ n + j / (out.length + 1) ≤ 57343) then none
        else decLoop f rest' (n + j / (out.length + 1)) (j % (out.length + 1) + 1) (adapt (j - i) (out.length + 1) (i == 0))
          (out.take (j % (out.length + 1)) ++ (n + j / (out.length + 1)) :: out.drop (j % (out.length + 1)))

/-! ### numbers and digits -/
theorem threshold_bd (k bias : Nat) : 1 ≤ threshold k bias ∧ threshold k bias ≤ 26 := by unfold threshold; omega
theorem digit_toNat (d : Nat) (h : d < 36) : (digit d).toNat = if d < 26 then 97 + d else 22 + d := by
  unfold digit
  split
  · rw [UInt8.toNat_ofNat']; omega
  · rw [UInt8.toNat_ofNat']; omega
theorem value_digit (d : Nat) (h : d < 36) : value (digit d) = d := by
  have e := digit_toNat d h
  unfold value
  rw [e]
  split <;> (repeat' split) <;> omega
theorem digit_ne_dash (d : Nat) (h : d < 36) : digit d ≠ 45 := by
  intro e
  have := digit_toNat d h
  rw [e] at this
  have h45 : (45 : UInt8).toNat = 45 := rfl
  rw [h45] at this
  split at this <;> omega

/-- A digit as the encoder writes it: a to z, 0 to 9. -/
def IsDig (c : UInt8) : Prop := (97 ≤ c.toNat ∧ c.toNat ≤ 122) ∨ (48 ≤ c.toNat ∧ c.toNat ≤ 57)
theorem digit_isDig (d : Nat) (h : d < 36) : IsDig (digit d) := by
  unfold IsDig
  rw [digit_toNat d h]
  split <;> omega
theorem number_isDig : ∀ (f q k bias : Nat), ∀ c ∈ number f q k bias, IsDig c := by
  intro f
  induction f with
  | zero => intro q k bias c hc; simp [number] at hc
  | succ f ih =>
    intro q k bias c hc
    have ht := threshold_bd k bias
    unfold number at hc
    split at hc
    · simp at hc; subst hc; exact digit_isDig _ (by omega)
    · simp only [List.mem_cons] at hc
      rcases hc with rfl | hc
      · refine digit_isDig _ ?_
        have := Nat.mod_lt (q - threshold k bias) (show 36 - threshold k bias > 0 by omega)
        omega
      · exact ih _ _ _ c hc
theorem number_ne_nil (f q k bias : Nat) : number (f + 1) q k bias ≠ [] := by
  unfold number
  split <;> simp
theorem number_short (j : Nat) : ∀ (f q k bias : Nat), q < 10 ^ j → (number f q k bias).length ≤ j + 1 := by
  induction j with
  | zero =>
    intro f q k bias h
    have ht := threshold_bd k bias
    cases f with
    | zero => simp [number]
    | succ f => unfold number; rw [if_pos (by simp at h; omega)]; simp
  | succ j ih =>
    intro f q k bias h
    have ht := threshold_bd k bias
    cases f with
    | zero => simp [number]
    | succ f =>
      unfold number
      split
      · simp
      · simp only [List.length_cons]
        have h2 : (q - threshold k bias) / (36 - threshold k bias) < 10 ^ j := by
          rw [Nat.div_lt_iff_lt_mul (by omega)]
          have : 10 ^ (j + 1) = 10 ^ j * 10 := rfl
          have h3 : 10 ^ j * 10 ≤ 10 ^ j * (36 - threshold k bias) := Nat.mul_le_mul_left _ (by omega)
          omega
        have := ih f _ (k + 36) bias h2
        omega

/-- THE WEIGHTS STAY SMALL: w at place k = 36 * (j + 1), as long as the bias is one that adapt gives. -/
def WOk (w k : Nat) : Prop := (∃ j, k = 36 * (j + 1) ∧ (j ≤ 5 → w ≤ 35 ^ j)) ∧ w ≤ M

theorem parse_number : ∀ (f q k bias i w : Nat) (rest : Bytes), q < 10 ^ f → bias ≤ 180 → WOk w k → i + q * w ≤ M →
    parse (number (f + 1) q k bias ++ rest) i w k bias = some (i + q * w, rest) := by
  intro f
  induction f with
  | zero =>
    intro q k bias i w rest hq hb hw hi
    have ht := threshold_bd k bias
    have hq0 : q = 0 := by simp at hq; omega
    subst hq0
    unfold number
    rw [if_pos (by omega)]
    simp only [List.cons_append, List.nil_append, parse]
    rw [value_digit 0 (by omega), if_neg (by have := hw.2; omega), if_pos (by omega)]
  | succ f ih =>
    intro q k bias i w rest hq hb hw hi
    have ht := threshold_bd k bias
    unfold number
    split
    · rename_i h
      simp only [List.cons_append, List.nil_append, parse]
      rw [value_digit q (by omega), if_neg (by have := hw.2; omega), if_pos h]
    · rename_i h
      obtain ⟨t, ht0⟩ : ∃ t, threshold k bias = t := ⟨_, rfl⟩
      obtain ⟨u, hu0⟩ : ∃ u, 36 - t = u := ⟨_, rfl⟩
      rw [ht0] at ht h ⊢
      rw [hu0]
      have hu : 10 ≤ u ∧ u ≤ 35 := by omega
      obtain ⟨x, hx⟩ : ∃ x, q = t + x := ⟨q - t, by omega⟩
      have hx1 : q - t = x := by omega
      rw [hx1]
      have hmod := Nat.mod_lt x (show u > 0 by omega)
      have hdm := Nat.div_add_mod x u
      have hval : value (digit (t + x % u)) = t + x % u := value_digit _ (by omega)
      simp only [List.cons_append, parse]
      rw [hval, if_neg (by have := hw.2; omega), ht0, if_neg (by omega), hu0]
      have hsum : i + (t + x % u) * w + x / u * (w * u) = i + q * w := by
        have e1 : x / u * (w * u) = (u * (x / u)) * w := by
          rw [Nat.mul_comm w u, ← Nat.mul_assoc, Nat.mul_comm (x / u) u]
        rw [e1, Nat.add_assoc, ← Nat.add_mul]
        have e2 : t + x % u + u * (x / u) = q := by omega
        rw [e2]
      have hf : x / u < 10 ^ f := by
        rw [Nat.div_lt_iff_lt_mul (by omega)]
        have e3 : 10 ^ (f + 1) = 10 ^ f * 10 := rfl
        have h3 : 10 ^ f * 10 ≤ 10 ^ f * u := Nat.mul_le_mul_left _ (by omega)
        omega
      have hqw : t * w ≤ q * w := Nat.mul_le_mul_right _ (by omega)
      have hw' : WOk (w * u) (k + 36) := by
        obtain ⟨⟨j, hk, hj⟩, hM⟩ := hw
        have hlow : j + 1 ≤ 5 → w * u ≤ 35 ^ (j + 1) := by
          intro h5
          have := hj (by omega)
          exact Nat.mul_le_mul this hu.2
        refine ⟨⟨j + 1, by omega, hlow⟩, ?_⟩
        by_cases h5 : j + 1 ≤ 5
        · have h1 := hlow h5
          have h2 : 35 ^ (j + 1) ≤ 35 ^ 5 := Nat.pow_le_pow_right (by omega) h5
          have h3 : (35 : Nat) ^ 5 ≤ M := by unfold M; decide
          omega
        · have ht26 : t = 26 := by rw [← ht0]; unfold threshold; omega
          have hu10 : u = 10 := by omega
          rw [hu10]
          rw [ht26] at hqw
          omega
      have := ih (x / u) (k + 36) bias (i + (t + x % u) * w) (w * u) rest hf hb hw' (by rw [hsum]; exact hi)
      rw [this, hsum]

theorem pow10_64 : (100000000 : Nat) ≤ 10 ^ 63 := by decide
/-- What number writes from the first place on is read back. -/
theorem parse_first (q bias i : Nat) (rest : Bytes) (hb : bias ≤ 180) (hi : i + q ≤ M) :
    parse (number 64 q 36 bias ++ rest) i 1 36 bias = some (i + q, rest) := by
  have hM : M ≤ 100000000 := by unfold M; decide
  have := parse_number 63 q 36 bias i 1 rest (by have := pow10_64; omega) hb ⟨⟨0, rfl, fun _ => by simp⟩, by unfold M; decide⟩ (by simpa using hi)
  simpa using this

theorem adaptLoop_bd : ∀ (f d k : Nat), d ≤ 455 * 35 ^ f → (adaptLoop f d k).1 ≤ 455 ∧ (adaptLoop f d k).2 ≤ k + 36 * f := by
  intro f
  induction f with
  | zero => intro d k h; simp [adaptLoop]; simpa using h
  | succ f ih =>
    intro d k h
    unfold adaptLoop
    split
    · have e : 35 ^ (f + 1) = 35 ^ f * 35 := rfl
      have h2 : d / 35 ≤ 455 * 35 ^ f := by
        have : d ≤ (455 * 35 ^ f) * 35 := by rw [e, ← Nat.mul_assoc] at h; exact h
        omega
      have := ih (d / 35) (k + 36) h2
      omega
    · simp; omega
/-- More rounds than are wanted change nothing. -/
theorem adaptLoop_more : ∀ (f g d k : Nat), d ≤ 455 * 35 ^ f → adaptLoop (f + g) d k = adaptLoop f d k := by
  intro f
  induction f with
  | zero =>
    intro g d k h
    have h0 : d ≤ 455 := by simpa using h
    cases g with
    | zero => rfl
    | succ g => simp only [adaptLoop]; rw [if_neg (by omega)]
  | succ f ih =>
    intro g d k h
    rw [show f + 1 + g = (f + g) + 1 by omega]
    simp only [adaptLoop]
    split
    · have e : 35 ^ (f + 1) = 35 ^ f * 35 := rfl
      have h2 : d / 35 ≤ 455 * 35 ^ f := by
        have : d ≤ (455 * 35 ^ f) * 35 := by rw [e, ← Nat.mul_assoc] at h; exact h
        omega
      exact ih g _ _ h2
    · rfl
theorem adapt_bd (delta n : Nat) (start : Bool) (hd : delta ≤ M) : adapt delta n start ≤ 180 := by
  unfold adapt
  obtain ⟨d0, hd0⟩ : ∃ d0, (if start then delta / 700 else delta / 2) = d0 := ⟨_, rfl⟩
  have h0 : d0 ≤ M / 2 := by rw [← hd0]; unfold M at *; split <;> omega
  simp only [hd0]
  have h1 : d0 / n ≤ d0 := Nat.div_le_self _ _
  have h2 : d0 + d0 / n ≤ 455 * 35 ^ 4 := by
    have : M ≤ 455 * 35 ^ 4 := by unfold M; decide
    omega
  have e := adaptLoop_more 4 60 (d0 + d0 / n) 0 h2
  rw [show (64 : Nat) = 4 + 60 from rfl, e]
  have hb := adaptLoop_bd 4 (d0 + d0 / n) 0 h2
  obtain ⟨a, b⟩ := hb
  generalize (adaptLoop 4 (d0 + d0 / n) 0) = r at a b ⊢
  have : 36 * r.1 / (r.1 + 38) ≤ 36 := by
    apply Nat.div_le_of_le_mul
    omega
  omega

/-! ### one pass of the encoder, read by the decoder -/
/-- What the decoder has, while the encoder passes over l1 ++ l2 for m and has l1 behind it. -/
def have_ (m : Nat) (l1 l2 : List Nat) : List Nat := l1.filter (· ≤ m) ++ l2.filter (· < m)

def okRune (r : Nat) : Prop := r ≤ 1114111 ∧ ¬ (55296 ≤ r ∧ r ≤ 57343)

theorem stepR_out (m plain : Nat) (l : List Nat) : ∀ s : St, ∃ ds, (l.foldl (stepR m plain) s).out = s.out ++ ds ∧ (∀ c ∈ ds, IsDig c) ∧ (l.foldl (stepR m plain) s).h + s.out.length ≤ s.h + (l.foldl (stepR m plain) s).out.length := by
  induction l with
  | nil => intro s; exact ⟨[], by simp, by simp, by simp⟩
  | cons r l ih =>
    intro s
    obtain ⟨ds, h1, h2, h3⟩ := ih (stepR m plain s r)
    simp only [List.foldl_cons]
    unfold stepR at h1 h3 ⊢
    by_cases hr : r = m
    · simp only [if_pos hr] at h1 h3 ⊢
      have hn : 0 < (number 64 s.delta 36 s.bias).length := List.length_pos_iff.2 (number_ne_nil 63 s.delta 36 s.bias)
      refine ⟨number 64 s.delta 36 s.bias ++ ds, by rw [h1, List.append_assoc], ?_, ?_⟩
      · intro c hc
        rcases List.mem_append.1 hc with hc | hc
        · exact number_isDig _ _ _ _ c hc
        · exact h2 c hc
      · simp only [List.length_append] at h3
        omega
    · simp only [if_neg hr] at h1 h3 ⊢
      by_cases hlt : r < m
      · simp only [if_pos hlt] at h1 h3 ⊢; exact ⟨ds, h1, h2, h3⟩
      · simp only [if_neg hlt] at h1 h3 ⊢; exact ⟨ds, h1, h2, h3⟩

/-- ONE PASS: the decoder, standing before the digits that the pass writes, comes to stand behind them. -/
theorem pass (plain m : Nat) (hm : okRune m) (total : Nat) (ht : total ≤ 62) :
    ∀ (l2 l1 : List Nat) (s : St) (N I : Nat), N ≤ m → s.bias ≤ 180 → s.h = (have_ m l1 l2).length → l1.length + l2.length ≤ total + 1 → plain ≤ s.h → (I = 0 ↔ s.h = plain) →
      I + s.delta = (m - N) * (s.h + 1) + (l1.filter (· ≤ m)).length →
      ∃ ds N' I', (l2.foldl (stepR m plain) s).out = s.out ++ ds ∧ N' ≤ m ∧ (l2.foldl (stepR m plain) s).bias ≤ 180 ∧
        (l2.foldl (stepR m plain) s).h = (have_ m (l1 ++ l2) []).length ∧ plain ≤ (l2.foldl (stepR m plain) s).h ∧ (I' = 0 ↔ (l2.foldl (stepR m plain) s).h = plain) ∧
        I' + (l2.foldl (stepR m plain) s).delta = (m - N') * ((l2.foldl (stepR m plain) s).h + 1) + ((l1 ++ l2).filter (· ≤ m)).length ∧
        ∀ (F : Nat) (rest : Bytes), (ds ++ rest).length < F → ∃ F', rest.length < F' ∧ decLoop F (ds ++ rest) N I s.bias (have_ m l1 l2) = decLoop F' rest N' I' (l2.foldl (stepR m plain) s).bias (have_ m (l1 ++ l2) []) := by
  intro l2
  induction l2 with
  | nil =>
    intro l1 s N I hN hb hh hl hp hI hd
    refine ⟨[], N, I, by simp, hN, hb, by simpa using hh, hp, hI, by simpa using hd, ?_⟩
    intro F rest hF
    exact ⟨F, by simpa using hF, by simp⟩
  | cons r l2 ih =>
    intro l1 s N I hN hb hh hl hp hI hd
    simp only [List.foldl_cons]
    have happ : l1 ++ r :: l2 = (l1 ++ [r]) ++ l2 := by simp
    rw [happ]
    have hll : (l1 ++ [r]).length + l2.length ≤ total + 1 := by simp at hl ⊢; omega
    by_cases hr : r = m
    · subst hr
      have hstep : stepR r plain s r = { out := s.out ++ number 64 s.delta 36 s.bias, delta := 0, bias := adapt s.delta (s.h + 1) (s.h == plain), h := s.h + 1 } := by simp [stepR]
      have hle : (l1.filter (· ≤ r)).length ≤ s.h := by rw [hh]; unfold have_; simp
      have hshort : s.h ≤ total := by
        rw [hh]; unfold have_
        have a := List.length_filter_le (fun x => decide (x ≤ r)) l1
        have b := List.length_filter_le (fun x => decide (x < r)) l2
        simp at hl ⊢; omega
      have hIM : I + s.delta ≤ M := by
        have e1 : (r - N) * (s.h + 1) ≤ 1114111 * 63 := Nat.mul_le_mul (by have := hm.1; omega) (by omega)
        unfold M; omega
      have hout : have_ r l1 (r :: l2) = l1.filter (· ≤ r) ++ l2.filter (· < r) := by unfold have_; simp
      have hnew : have_ r (l1 ++ [r]) l2 = l1.filter (· ≤ r) ++ r :: l2.filter (· < r) := by unfold have_; simp
      obtain ⟨ds, N', I', h1, h2, h3, h4, h5, h6, h7, h8⟩ := ih (l1 ++ [r]) (stepR r plain s r) r ((l1.filter (· ≤ r)).length + 1) (Nat.le_refl _)
        (by rw [hstep]; exact adapt_bd _ _ _ (by omega))
        (by rw [hstep, hnew]; simp only [List.length_append, List.length_cons]; rw [hh, hout]; simp; omega)
        hll (by rw [hstep]; show plain ≤ s.h + 1; omega) (by rw [hstep]; show _ ↔ s.h + 1 = plain; omega)
        (by rw [hstep]; simp)
      refine ⟨number 64 s.delta 36 s.bias ++ ds, N', I', by rw [h1, hstep, List.append_assoc], h2, h3, h4, h5, h6, h7, ?_⟩
      intro F rest hF
      obtain ⟨F0, rfl⟩ : ∃ F0, F = F0 + 1 := ⟨F - 1, by omega⟩
      have hne : 0 < (number 64 s.delta 36 s.bias).length := List.length_pos_iff.2 (number_ne_nil 63 s.delta 36 s.bias)
      obtain ⟨F', hF', e⟩ := h8 F0 rest (by simp only [List.length_append] at hF ⊢; omega)
      refine ⟨F', hF', ?_⟩
      rw [← e]
      conv => lhs; unfold decLoop
      have hnn : ¬ (number 64 s.delta 36 s.bias ++ ds ++ rest = []) := by
        intro h0
        have := congrArg List.length h0
        simp only [List.length_append, List.length_nil] at this
        omega
      rw [if_neg hnn, List.append_assoc, parse_first _ _ _ _ hb hIM]
      simp only []
      have hlen : (have_ r l1 (r :: l2)).length + 1 = s.h + 1 := by rw [hh]
      rw [hlen, hd]
      have hdiv : ((r - N) * (s.h + 1) + (l1.filter (· ≤ r)).length) / (s.h + 1) = r - N := by
        rw [Nat.mul_comm, Nat.mul_add_div (by omega), Nat.div_eq_of_lt (by omega)]; simp
      have hmod : ((r - N) * (s.h + 1) + (l1.filter (· ≤ r)).length) % (s.h + 1) = (l1.filter (· ≤ r)).length := by
        rw [Nat.mul_comm, Nat.mul_add_mod, Nat.mod_eq_of_lt (by omega)]
      rw [hdiv, hmod]
      have hNr : N + (r - N) = r := by omega
      rw [hNr, if_neg (by have := hm.1; have := hm.2; omega)]
      have hsub : (r - N) * (s.h + 1) + (l1.filter (· ≤ r)).length - I = s.delta := by omega
      rw [hsub, hstep, hnew, hout]
      have hst : (I == 0) = (s.h == plain) := by
        rw [Bool.eq_iff_iff]; simp only [beq_iff_eq]; exact hI
      rw [hst]
      have htake : List.take (l1.filter (· ≤ r)).length (l1.filter (· ≤ r) ++ l2.filter (· < r)) = l1.filter (· ≤ r) := by simp
      have hdrop : List.drop (l1.filter (· ≤ r)).length (l1.filter (· ≤ r) ++ l2.filter (· < r)) = l2.filter (· < r) := by simp
      rw [htake, hdrop]
    · have hkeep : have_ m l1 (r :: l2) = have_ m (l1 ++ [r]) l2 := by
        unfold have_
        by_cases hlt : r < m
        · simp [hlt, Nat.le_of_lt hlt]
        · have : ¬ r ≤ m := by omega
          simp [hlt, this]
      by_cases hlt : r < m
      · have hstep : stepR m plain s r = { s with delta := s.delta + 1 } := by simp [stepR, hr, hlt]
        have hf : ((l1 ++ [r]).filter (· ≤ m)).length = (l1.filter (· ≤ m)).length + 1 := by simp [Nat.le_of_lt hlt]
        rw [hstep]
        obtain ⟨ds, N', I', h1, h2, h3, h4, h5, h6, h7, h8⟩ := ih (l1 ++ [r]) { s with delta := s.delta + 1 } N I hN hb (by rw [← hkeep]; exact hh) hll hp hI
          (by rw [hf]; show I + (s.delta + 1) = (m - N) * (s.h + 1) + _; omega)
        refine ⟨ds, N', I', h1, h2, h3, h4, h5, h6, h7, ?_⟩
        rw [hkeep]; exact h8
      · have hstep : stepR m plain s r = s := by simp [stepR, hr, hlt]
        have hnle : ¬ r ≤ m := by omega
        have hf : ((l1 ++ [r]).filter (· ≤ m)).length = (l1.filter (· ≤ m)).length := by simp [hnle]
        rw [hstep]
        obtain ⟨ds, N', I', h1, h2, h3, h4, h5, h6, h7, h8⟩ := ih (l1 ++ [r]) s N I hN hb (by rw [← hkeep]; exact hh) hll hp hI (by rw [hf]; exact hd)
        refine ⟨ds, N', I', h1, h2, h3, h4, h5, h6, h7, ?_⟩
        rw [hkeep]; exact h8

/-! ### the next rune -/
theorem minGe_fold (n : Nat) (l : List Nat) : ∀ m0, let m := l.foldl (fun m r => if n ≤ r ∧ r < m then r else m) m0
    m ≤ m0 ∧ (m = m0 ∨ (m ∈ l ∧ n ≤ m)) ∧ ∀ r ∈ l, n ≤ r → m ≤ r := by
  induction l with
  | nil => intro m0; simp
  | cons r l ih =>
    intro m0
    simp only [List.foldl_cons]
    by_cases h : n ≤ r ∧ r < m0
    · simp only [if_pos h]
      obtain ⟨a, b, c⟩ := ih r
      refine ⟨by omega, ?_, ?_⟩
      · rcases b with b | b
        · exact .inr ⟨by rw [b]; simp, by omega⟩
        · exact .inr ⟨by simp [b.1], b.2⟩
      · intro x hx hn
        rcases List.mem_cons.1 hx with rfl | hx
        · exact a
        · exact c x hx hn
    · simp only [if_neg h]
      obtain ⟨a, b, c⟩ := ih m0
      refine ⟨a, ?_, ?_⟩
      · rcases b with b | b
        · exact .inl b
        · exact .inr ⟨by simp [b.1], b.2⟩
      · intro x hx hn
        rcases List.mem_cons.1 hx with rfl | hx
        · omega
        · exact c x hx hn
/-- Where there is a rune from n on: the least one. -/
theorem minGe_some (n : Nat) (l : List Nat) (hl : ∀ r ∈ l, r ≤ 1114111) (h : ∃ r ∈ l, n ≤ r) : minGe n l ∈ l ∧ n ≤ minGe n l ∧ ∀ r ∈ l, n ≤ r → minGe n l ≤ r := by
  obtain ⟨a, b, c⟩ := minGe_fold n l 1114112
  change minGe n l ≤ 1114112 at a
  change minGe n l = 1114112 ∨ _ at b
  obtain ⟨r, hr, hn⟩ := h
  have h1 : minGe n l ≤ r := c r hr hn
  have h2 := hl r hr
  rcases b with b | b
  · omega
  · exact ⟨b.1, b.2, c⟩

theorem fold_h_mono (m plain : Nat) (l : List Nat) : ∀ s : St, s.h ≤ (l.foldl (stepR m plain) s).h := by
  induction l with
  | nil => intro s; exact Nat.le_refl _
  | cons r l ih =>
    intro s
    have := ih (stepR m plain s r)
    simp only [List.foldl_cons]
    have h2 : s.h ≤ (stepR m plain s r).h := by
      unfold stepR
      split
      · exact Nat.le_succ _
      · split <;> exact Nat.le_refl _
    omega
theorem fold_h_grows (m plain : Nat) (l : List Nat) : ∀ s : St, m ∈ l → s.h < (l.foldl (stepR m plain) s).h := by
  induction l with
  | nil => intro s h; cases h
  | cons r l ih =>
    intro s h
    simp only [List.foldl_cons]
    by_cases hr : r = m
    · have h1 := fold_h_mono m plain l (stepR m plain s r)
      have h2 : (stepR m plain s r).h = s.h + 1 := by simp [stepR, hr]
      omega
    · have hm : m ∈ l := by
        rcases List.mem_cons.1 h with h | h
        · exact absurd h.symm hr
        · exact h
      have h1 := ih (stepR m plain s r) hm
      have h2 : (stepR m plain s r).h = s.h := by
        unfold stepR
        rw [if_neg hr]
        split <;> rfl
      omega
theorem fold_grows (m plain : Nat) (l : List Nat) (s : St) (h : m ∈ l) : s.out.length < (l.foldl (stepR m plain) s).out.length := by
  obtain ⟨_, _, _, h3⟩ := stepR_out m plain l s
  have := fold_h_grows m plain l s h
  omega

/-! ### the encoder's loop -/
theorem encLoop_len (l : List Nat) (plain : Nat) : ∀ (f n : Nat) (s : St) (t : Bytes), encLoop f l plain n s = some t → s.h ≤ s.out.length → l.length ≤ t.length ∧ t.length ≤ 63 := by
  intro f
  induction f with
  | zero => intro n s t h; simp [encLoop] at h
  | succ f ih =>
    intro n s t h hs
    unfold encLoop at h
    by_cases h1 : s.h < l.length
    · rw [if_pos h1] at h
      by_cases h2 : 63 < s.out.length
      · rw [if_pos h2] at h; cases h
      · rw [if_neg h2] at h
        obtain ⟨ds, e1, _, e3⟩ := stepR_out (minGe n l) plain l { s with delta := s.delta + (minGe n l - n) * (s.h + 1) }
        refine ih _ _ t h ?_
        show (l.foldl (stepR (minGe n l) plain) { s with delta := s.delta + (minGe n l - n) * (s.h + 1) }).h ≤ (l.foldl (stepR (minGe n l) plain) { s with delta := s.delta + (minGe n l - n) * (s.h + 1) }).out.length
        change _ + s.out.length ≤ s.h + _ at e3
        omega
    · rw [if_neg h1] at h
      by_cases h2 : 63 < s.out.length
      · rw [if_pos h2] at h; cases h
      · rw [if_neg h2] at h
        injection h with h
        subst h
        omega
theorem encLoop_digs (l : List Nat) (plain : Nat) : ∀ (f n : Nat) (s : St) (t : Bytes), encLoop f l plain n s = some t → ∃ ds, t = s.out ++ ds ∧ (∀ c ∈ ds, IsDig c) ∧ (s.h < l.length → (∃ r ∈ l, n ≤ r) → (∀ r ∈ l, r ≤ 1114111) → ds ≠ []) := by
  intro f
  induction f with
  | zero => intro n s t h; simp [encLoop] at h
  | succ f ih =>
    intro n s t h
    unfold encLoop at h
    by_cases h1 : s.h < l.length
    · rw [if_pos h1] at h
      by_cases h2 : 63 < s.out.length
      · rw [if_pos h2] at h; cases h
      · rw [if_neg h2] at h
        obtain ⟨ds, e1, e2, e3⟩ := stepR_out (minGe n l) plain l { s with delta := s.delta + (minGe n l - n) * (s.h + 1) }
        obtain ⟨ds2, g1, g2, _⟩ := ih _ _ t h
        change t = (l.foldl (stepR (minGe n l) plain) { s with delta := s.delta + (minGe n l - n) * (s.h + 1) }).out ++ ds2 at g1
        rw [e1] at g1
        refine ⟨ds ++ ds2, by rw [g1]; simp, ?_, ?_⟩
        · intro c hc
          rcases List.mem_append.1 hc with hc | hc
          · exact e2 c hc
          · exact g2 c hc
        · intro _ hex hle hnil
          obtain ⟨hmem, _, _⟩ := minGe_some n l hle hex
          have hgrow := fold_grows (minGe n l) plain l { s with delta := s.delta + (minGe n l - n) * (s.h + 1) } hmem
          rw [e1] at hgrow
          simp only [List.length_append] at hgrow
          have : ds = [] := (List.append_eq_nil_iff.1 hnil).1
          rw [this] at hgrow
          simp at hgrow
    · rw [if_neg h1] at h
      by_cases h2 : 63 < s.out.length
      · rw [if_pos h2] at h; cases h
      · rw [if_neg h2] at h
        injection h with h
        subst h
        exact ⟨[], by simp, by simp, fun h => absurd h h1⟩

theorem filter_lt_none (l : List Nat) (n m : Nat) (hnm : n ≤ m) (h : ∀ r ∈ l, n ≤ r → m ≤ r) : l.filter (· < m) = l.filter (· < n) := by
  apply List.filter_congr
  intro r hr
  have := h r hr
  simp only [decide_eq_decide]
  omega
theorem filter_le_lt (l : List Nat) (m : Nat) : l.filter (· ≤ m) = l.filter (· < m + 1) := by
  apply List.filter_congr
  intro r _
  simp only [decide_eq_decide]
  omega
theorem filter_all (l : List Nat) (p : Nat → Bool) (h : ¬ (l.filter p).length < l.length) : l.filter p = l := by
  have h1 := List.length_filter_le p l
  exact List.filter_eq_self.2 (List.length_filter_eq_length_iff.1 (by omega))

theorem encLoop_dec (l : List Nat) (plain : Nat) (hok : ∀ r ∈ l, okRune r) (hl : l.length ≤ 63) :
    ∀ (f n : Nat) (s : St) (N I : Nat) (t : Bytes), encLoop f l plain n s = some t → N ≤ n → s.bias ≤ 180 → s.h = (l.filter (· < n)).length → plain ≤ s.h → (I = 0 ↔ s.h = plain) →
      I + s.delta = (n - N) * (s.h + 1) → ∃ ds, t = s.out ++ ds ∧ ∀ F, ds.length < F → decLoop F ds N I s.bias (l.filter (· < n)) = some l := by
  intro f
  induction f with
  | zero => intro n s N I t h; simp [encLoop] at h
  | succ f ih =>
    intro n s N I t h hN hb hh hp hI hd
    unfold encLoop at h
    by_cases h1 : s.h < l.length
    · rw [if_pos h1] at h
      by_cases h2 : 63 < s.out.length
      · rw [if_pos h2] at h; cases h
      · rw [if_neg h2] at h
        have hex : ∃ r ∈ l, n ≤ r := by
          by_cases hx : ∃ r ∈ l, n ≤ r
          · exact hx
          · exfalso
            have : l.filter (· < n) = l := List.filter_eq_self.2 fun r hr => by
              have : ¬ n ≤ r := fun hc => hx ⟨r, hr, hc⟩
              simpa using this
            rw [this] at hh
            omega
        obtain ⟨hmem, hge, hmin⟩ := minGe_some n l (fun r hr => (hok r hr).1) hex
        obtain ⟨m, hm⟩ : ∃ m, minGe n l = m := ⟨_, rfl⟩
        rw [hm] at h hmem hge hmin
        dsimp only at h
        have hlt : l.filter (· < m) = l.filter (· < n) := filter_lt_none l n m hge hmin
        have hhave : have_ m [] l = l.filter (· < n) := by unfold have_; simpa using hlt
        obtain ⟨ds, N', I', p1, p2, p3, p4, p5, p6, p7, p8⟩ := pass plain m (hok m hmem) 62 (Nat.le_refl _) l [] { s with delta := s.delta + (m - n) * (s.h + 1) } N I (by omega) hb
          (by rw [hhave]; exact hh) (by simp; omega) hp hI
          (by
            show I + (s.delta + (m - n) * (s.h + 1)) = _
            have e : (m - N) * (s.h + 1) = (n - N) * (s.h + 1) + (m - n) * (s.h + 1) := by rw [← Nat.add_mul]; congr 1; omega
            simp; omega)
        obtain ⟨s2, hs2⟩ : ∃ s2, l.foldl (stepR m plain) { s with delta := s.delta + (m - n) * (s.h + 1) } = s2 := ⟨_, rfl⟩
        rw [hs2] at h p1 p3 p4 p5 p6 p7 p8
        have hend : have_ m ([] ++ l) [] = l.filter (· < m + 1) := by unfold have_; simp [filter_le_lt]
        rw [hend] at p4 p8
        simp only [List.nil_append] at p7
        rw [filter_le_lt, ← p4] at p7
        obtain ⟨ds2, q1, q2⟩ := ih (m + 1) { s2 with delta := s2.delta + 1 } N' I' t h (by omega) p3 p4 p5 p6
          (by
            show I' + (s2.delta + 1) = (m + 1 - N') * (s2.h + 1)
            have e : (m + 1 - N') = (m - N') + 1 := by omega
            rw [e, Nat.add_mul]; omega)
        refine ⟨ds ++ ds2, by rw [q1]; show s2.out ++ ds2 = _; rw [p1, List.append_assoc], ?_⟩
        intro F hF
        obtain ⟨F', hF', e⟩ := p8 F ds2 hF
        rw [hhave] at e
        rw [e]
        exact q2 F' hF'
    · rw [if_neg h1] at h
      by_cases h2 : 63 < s.out.length
      · rw [if_pos h2] at h; cases h
      · rw [if_neg h2] at h
        injection h with h
        subst h
        refine ⟨[], by simp, ?_⟩
        intro F hF
        obtain ⟨F0, rfl⟩ : ∃ F0, F = F0 + 1 := ⟨F - 1, by omega⟩
        unfold decLoop
        rw [if_pos rfl, filter_all l _ (by rw [← hh]; exact h1)]

/-! ### the decoder, whole; there and back -/
def lastAt : Bytes → Int
  | [] => -1
  | c :: t => if 0 ≤ lastAt t then lastAt t + 1 else if c = 45 then 0 else -1
def decode (s : Bytes) : Option (List Nat) :=
  if 63 < s.length then none
  else if (s.take (lastAt s).toNat).any (fun c => 128 ≤ c.toNat) then none
  else match decLoop ((s.drop (lastAt s + 1).toNat).length + 1) (s.drop (lastAt s + 1).toNat) 128 0 72 ((s.take (lastAt s).toNat).map UInt8.toNat) with
    | none => none
    | some out => match encode out with
      | none => none
      | some t => if Lib.equalFold t s then some out else none

theorem lastAt_none (s : Bytes) (h : ∀ c ∈ s, c ≠ 45) : lastAt s = -1 := by
  induction s with
  | nil => rfl
  | cons c s ih =>
    have h1 := ih (fun d hd => h d (by simp [hd]))
    have h2 := h c (by simp)
    simp [lastAt, h1, h2]
theorem lastAt_some (b ds : Bytes) (h : ∀ c ∈ ds, c ≠ 45) : lastAt (b ++ 45 :: ds) = b.length := by
  induction b with
  | nil => simp [lastAt, lastAt_none ds h]
  | cons c b ih =>
    simp only [List.cons_append, lastAt, ih]
    rw [if_pos (by omega)]
    simp
theorem isDig_ne (c : UInt8) (h : IsDig c) : c ≠ 45 := by
  rintro rfl
  have h45 : (45 : UInt8).toNat = 45 := rfl
  unfold IsDig at h
  omega
theorem foldEq_refl (c : UInt8) : Lib.foldEq c c = true := by simp [Lib.foldEq]
theorem equalFold_refl (s : Bytes) : Lib.equalFold s s = true := by
  induction s with
  | nil => rfl
  | cons c s ih => simp [Lib.equalFold, foldEq_refl, ih]
theorem basic_back (l : List Nat) : (basic l).map UInt8.toNat = l.filter (· < 128) := by
  unfold basic
  rw [List.map_map]
  have : ∀ r ∈ l.filter (· < 128), (UInt8.toNat ∘ UInt8.ofNat) r = r := by
    intro r hr
    have h : r < 128 := by simpa using (List.mem_filter.1 hr).2
    simp only [Function.comp, UInt8.toNat_ofNat']
    omega
  rw [List.map_congr_left this]
  simp
theorem basic_small (l : List Nat) : ∀ c ∈ basic l, c.toNat < 128 := by
  intro c hc
  have : c.toNat ∈ (basic l).map UInt8.toNat := List.mem_map_of_mem hc
  rw [basic_back] at this
  simpa using (List.mem_filter.1 this).2
theorem head_length (l : List Nat) : (basic l).length ≤ (head l).length := by
  unfold head
  split
  · rename_i h; simp [h]
  · simp
theorem encode_length (l : List Nat) (t : Bytes) (h : encode l = some t) : l.length ≤ t.length ∧ t.length ≤ 63 :=
  encLoop_len l _ _ _ _ t h (head_length l)
/-- What is written: the runes below 128, a - behind them if there are some, digits. -/
theorem encode_form (l : List Nat) (t : Bytes) (h : encode l = some t) :
    ∃ ds, t = head l ++ ds ∧ (∀ c ∈ ds, IsDig c) ∧ ((∃ r ∈ l, 128 ≤ r) → (∀ r ∈ l, r ≤ 1114111) → ds ≠ []) := by
  obtain ⟨ds, h1, h2, h3⟩ := encLoop_digs l _ _ _ _ t h
  refine ⟨ds, h1, h2, fun hex hle => h3 ?_ hex hle⟩
  show (basic l).length < l.length
  have e : (basic l).length = (l.filter (· < 128)).length := by unfold basic; simp
  rw [e]
  rcases Nat.lt_or_ge (l.filter (· < 128)).length l.length with hlt | hge
  · exact hlt
  · have heq := List.length_filter_eq_length_iff.1 (Nat.le_antisymm (List.length_filter_le _ l) hge)
    obtain ⟨r, hr, hr2⟩ := hex
    have := heq r hr
    simp at this
    omega
/-- THERE AND BACK. -/
theorem decode_encode (l : List Nat) (hok : ∀ r ∈ l, okRune r) (t : Bytes) (h : encode l = some t) : decode t = some l := by
  obtain ⟨hl1, hl2⟩ := encode_length l t h
  obtain ⟨ds, hd1, hd2⟩ := encLoop_dec l (basic l).length hok (by omega) (l.length + 1) 128 { out := head l, delta := 0, bias := 72, h := (basic l).length } 128 0 t h (Nat.le_refl _) (by show 72 ≤ 180; omega)
    (by show (basic l).length = _; unfold basic; simp) (Nat.le_refl _) (by simp) (by simp)
  obtain ⟨ds', hf1, hf2, _⟩ := encode_form l t h
  have hdd : ds = ds' := by
    have : head l ++ ds = head l ++ ds' := by rw [← hf1]; exact hd1.symm
    exact List.append_cancel_left this
  subst hdd
  have hno : ∀ c ∈ ds, c ≠ 45 := fun c hc => isDig_ne c (hf2 c hc)
  have hcut : t.take (lastAt t).toNat = basic l ∧ t.drop (lastAt t + 1).toNat = ds := by
    by_cases hb : basic l = []
    · have ht : t = ds := by rw [hf1]; unfold head; rw [if_pos hb]; rfl
      rw [ht, lastAt_none ds hno, hb]
      simp
    · have ht : t = basic l ++ 45 :: ds := by rw [hf1]; unfold head; rw [if_neg hb]; simp
      rw [ht, lastAt_some _ ds hno]
      constructor
      · simp
      · rw [show ((basic l).length : Int) + 1 = (((basic l).length + 1 : Nat) : Int) by omega, Int.toNat_natCast]
        rw [show basic l ++ 45 :: ds = (basic l ++ [45]) ++ ds by simp, List.drop_left' (by simp)]
  unfold decode
  rw [if_neg (by omega), hcut.1, hcut.2]
  have hany : ((basic l).any fun c => decide (128 ≤ c.toNat)) = false := by
    rw [List.any_eq_false]
    intro c hc
    have := basic_small l c hc
    simp; omega
  rw [hany, basic_back]
  have e := hd2 (ds.length + 1) (by omega)
  change decLoop (ds.length + 1) ds 128 0 72 (l.filter (· < 128)) = some l at e
  rw [e]
  simp only [Bool.false_eq_true, if_false, h, equalFold_refl, if_true]
end Go.Proofs.YtffjfggndfcfmaaDoor.Pu
