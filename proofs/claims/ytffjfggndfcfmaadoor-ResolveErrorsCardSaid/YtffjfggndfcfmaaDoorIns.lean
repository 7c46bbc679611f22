/- append(out[:i], append([]rune{r}, out[i:]...)...): the memory while its operations come up in whatever order. No program. -/
import Derived.Test.YtffjfggndfcfmaaDoorApp
import Derived.Test.YtffjfggndfcfmaaDoorReg
import Derived.BigFrame
namespace Go.Proofs.YtffjfggndfcfmaaDoor
open Go.RowKit
set_option linter.unusedVariables false

/-- The frame with every operation's value put in, in their order. -/
def putAll (vals : Nat → Value) : List Oper → Nat → Act → Act
  | [], _, a => a
  | o :: l, k, a => putAll vals l (k + 1) (a.put o.dst (vals k))
theorem put_size (a : Act) (d : Option Tmp) (v : Value) : (a.put d v).tmps.size = a.tmps.size := by cases d <;> simp [Act.put]
theorem put_defers (a : Act) (d : Option Tmp) (v : Value) : (a.put d v).defers = a.defers := by cases d <;> rfl
theorem put_other (a : Act) (d : Option Tmp) (v : Value) (t : Tmp) (h : d ≠ some t) : (a.put d v).tmps[t]? = a.tmps[t]? := by
  cases d with
  | none => rfl
  | some d => simp only [Act.put]; rw [Array.getElem?_setIfInBounds, if_neg (fun e => h (by rw [e]))]
theorem putAll_size (vals : Nat → Value) : ∀ (l : List Oper) (k : Nat) (a : Act), (putAll vals l k a).tmps.size = a.tmps.size
  | [], _, _ => rfl
  | o :: l, k, a => (putAll_size vals l (k + 1) _).trans (put_size _ _ _)
theorem putAll_defers (vals : Nat → Value) : ∀ (l : List Oper) (k : Nat) (a : Act), (putAll vals l k a).defers = a.defers
  | [], _, _ => rfl
  | o :: l, k, a => (putAll_defers vals l (k + 1) _).trans (put_defers _ _ _)
theorem putAll_rest (vals : Nat → Value) (t : Tmp) : ∀ (l : List Oper) (k : Nat) (a : Act), (∀ o ∈ l, o.dst ≠ some t) → (putAll vals l k a).tmps[t]? = a.tmps[t]?
  | [], _, _, _ => rfl
  | o :: l, k, a, h => (putAll_rest vals t l (k + 1) _ fun p hp => h p (List.mem_cons_of_mem _ hp)).trans (put_other _ _ _ _ (h o List.mem_cons_self))
theorem putAll_done (vals : Nat → Value) : ∀ (l : List Oper) (k : Nat) (a : Act), apartB (l.map (·.dst)) = true → ∀ (i : Nat) (o : Oper) (d : Tmp), l[i]? = some o → o.dst = some d → d < a.tmps.size → (putAll vals l k a).tmps[d]? = some (vals (k + i))
  | [], _, _, _, i, o, d, h, _, _ => by simp at h
  | p :: l, k, a, ha, 0, o, d, h, hd, hlt => by
    simp at h; subst h
    have hne : ∀ q ∈ l, q.dst ≠ some d := by
      intro q hq e
      obtain ⟨j, hj⟩ := List.getElem?_of_mem hq
      have := apartB_spec _ ha 0 (j + 1) d (by simp [hd]) (by simp [hj, e])
      omega
    refine (putAll_rest vals d l (k + 1) _ hne).trans ?_
    rw [hd]
    simp only [Act.put]
    rw [Array.getElem?_setIfInBounds, if_pos rfl, if_pos hlt, Nat.add_zero]
  | p :: l, k, a, ha, i + 1, o, d, h, hd, hlt => by
    have ha2 : apartB (l.map (·.dst)) = true := by
      simp only [List.map_cons] at ha
      cases hp : p.dst with
      | none => rw [hp] at ha; exact ha
      | some c => rw [hp] at ha; simp only [apartB, Bool.and_eq_true] at ha; exact ha.2
    have := putAll_done vals l (k + 1) (a.put p.dst (vals k)) ha2 i o d (by simpa using h) hd (by rw [put_size]; exact hlt)
    rw [show k + (i + 1) = k + 1 + i by omega]
    exact this
theorem RInv.frame {ops : Array Oper} {vals : Nat → Value} {a0 a : Act} {listed : Array Bool} (h : RInv ops vals a0 listed a) (hall : ∀ i, i < ops.size → listed.getD i false = true)
    (hd : apartB (ops.toList.map (·.dst)) = true) (hfit : (ops.toList.map (·.dst)).all (fun x => match x with | some d => decide (d < a0.tmps.size) | none => true) = true) :
    a = putAll vals ops.toList 0 a0 := by
  have ht : a.tmps = (putAll vals ops.toList 0 a0).tmps := by
    apply Array.ext_getElem?
    intro t
    by_cases hx : ∃ (i : Nat) (o : Oper), ops.toList[i]? = some o ∧ o.dst = some t
    · obtain ⟨i, o, hi, hdt⟩ := hx
      have hi2 : ops[i]? = some o := by rw [← Array.getElem?_toList]; exact hi
      have hlt : t < a0.tmps.size := by
        rw [List.all_eq_true] at hfit
        have := hfit (some t) (List.mem_map.2 ⟨o, List.mem_of_getElem? hi, hdt⟩)
        simpa using this
      rw [putAll_done vals ops.toList 0 a0 hd i o t hi hdt hlt, Nat.zero_add]
      exact h.done i o t hi2 (hall i (Array.getElem?_eq_some_iff.1 hi2).1) hdt
    · rw [putAll_rest vals t ops.toList 0 a0 (fun o ho e => hx (by obtain ⟨j, hj⟩ := List.getElem?_of_mem ho; exact ⟨j, o, hj, e⟩))]
      exact h.rest t fun i o hi _ e => hx ⟨i, o, by rw [Array.getElem?_toList]; exact hi, e⟩
  have hdf : a.defers = (putAll vals ops.toList 0 a0).defers := h.defers.trans (putAll_defers _ _ _ _).symm
  cases a; cases hp : putAll vals ops.toList 0 a0
  rw [hp] at ht hdf
  simp only at ht hdf
  rw [ht, hdf]

theorem RInv.oldBut {ops : Array Oper} {vals : Nat → Value} {a0 a : Act} {listed : Array Bool} (h : RInv ops vals a0 listed a) {d : Tmp} (m : Nat)
    (hd : (ops.toList.zipIdx.all fun x => x.1.dst != some d || x.2 == m) = true) (hm : listed.getD m false = false) : a.tmps[d]?.getD undef = a0.tmps[d]?.getD undef := by
  rw [h.rest d]
  intro i o ho hl e
  rw [List.all_eq_true] at hd
  have := hd (o, i) (List.mem_iff_getElem?.2 ⟨i, by rw [List.getElem?_zipIdx, Array.getElem?_toList, ho]; simp⟩)
  simp [e] at this
  rw [this, hm] at hl; cases hl
/-- The last operation, which writes what the others read, comes last. -/
def LastOf (m : Nat) (listed : Array Bool) : Prop := listed.getD m false = true → ∀ j, j < m → listed.getD j false = true
theorem LastOf.start (m n : Nat) : LastOf m (Array.replicate n false) := by
  intro h
  rw [Array.getD_eq_getD_getElem?, Array.getElem?_replicate] at h
  split at h <;> cases h
theorem LastOf.step {m k : Nat} {listed : Array Bool} (h : LastOf m listed) (hk : k < listed.size) (hkm : k ≠ m) : LastOf m (listed.setIfInBounds k true) := by
  intro hm j hj
  rw [getD_set listed k m hk, decide_eq_false hkm, Bool.false_or] at hm
  rw [getD_set listed k j hk, h hm j hj, Bool.or_true]
theorem LastOf.not {m k : Nat} {listed : Array Bool} (h : LastOf m listed) (hkm : k < m) (hl : listed.getD k false = false) : listed.getD m false = false := by
  cases hm : listed.getD m false with
  | false => rfl
  | true => rw [h hm k hkm] at hl; cases hl
theorem LastOf.last {m : Nat} {listed : Array Bool} (h : ∀ j, j < m → listed.getD j false = true) (hk : m < listed.size) : LastOf m (listed.setIfInBounds m true) := by
  intro _ j hj
  rw [getD_set listed m j hk, h j hj, Bool.or_true]

theorem wp_append {P : Program} {o : Oper} {a : Act} {w w' : World} {v' : Value} {K : Act → World → Prop} {Q : Exit → Act → World → Prop} {s t : Tmp} {T : TypeId}
    (ho : o.op = .call { callee := .builtin .append, args := #[.tmp s, .tmp t], argTypes := #[T, T] })
    (h : (Builtin.append_ #[T, T] o.type #[a.tmps[s]?.getD undef, a.tmps[t]?.getD undef]).run P w = .ok v' w') (hk : K (a.put o.dst v') w') : o.wp P a w K Q := by
  obtain ⟨dst, op, type, pos, after, guard⟩ := o
  subst ho
  have e : (execOp a.eval { dst, op := .call { callee := .builtin .append, args := #[.tmp s, .tmp t], argTypes := #[T, T] }, type, pos, after, guard }).run P w = .ok (.value v') w' := by
    rw [BigFrame.execOp_builtin, BigFrame.builtin_append]
    have h2 : (Builtin.append_ #[T, T] type (#[Operand.tmp s, Operand.tmp t].map a.eval)).run P w = .ok v' w' := by simpa [Act.eval, Array.getD_eq_getD_getElem?] using h
    simp only [Sem.run_bind, h2, Result.andThen_ok, Sem.run_pure]
  simp only [Oper.wp, e, Oper.upon]
  exact hk

theorem step_append {P : Program} {ops : Array Oper} {i : Nat} {o : Oper} {a : Act} {w w' : World} {v' : Value} {K : Act → World → Prop} {Q : Exit → Act → World → Prop} {s t : Tmp} {T : TypeId}
    (hi : ops[i]? = some o) (hg : o.guard = none) (ho : o.op = .call { callee := .builtin .append, args := #[.tmp s, .tmp t], argTypes := #[T, T] })
    (h : (Builtin.append_ #[T, T] o.type #[a.tmps[s]?.getD undef, a.tmps[t]?.getD undef]).run P w = .ok v' w') (hk : K (a.put o.dst v') w') : wpOp P ops Q i K a w :=
  wpOp_step hi fun K' hK' => by
    rw [if_pos (by simp [Region.wanted, hg])]
    exact wp_append ho h (hK' _ _ hk)

def InsMem (B : Nat) (w0 : World) (e : TypeId) (out : Value) (n i : Nat) (xs : List Value) (N : Value) (x : Value × Value × Value) (listed : Array Bool) (w : World) : Prop :=
  Below B w0 w ∧ B ≤ w.heap.size ∧
  ((listed.getD 5 false = false ∧ listed.getD 9 false = false ∧ listed.getD 10 false = false ∧ w.ownsRow B e 1 out n xs) ∨
   (listed.getD 5 false = true ∧ listed.getD 9 false = false ∧ listed.getD 10 false = false ∧ w.ownsRow B e 1 out n xs ∧ w.ownsRow B e 1 x.1 1 [N] ∧ (out.ownBlock = none ∨ out.ownBlock ≠ x.1.ownBlock)) ∨
   (listed.getD 5 false = true ∧ listed.getD 9 false = true ∧ listed.getD 10 false = false ∧ w.ownsRow B e 1 out n xs ∧ w.ownsRow B e 1 x.2.1 (1 + (n - i)) (N :: xs.drop i)) ∨
   (listed.getD 5 false = true ∧ listed.getD 9 false = true ∧ listed.getD 10 false = true ∧ w.ownsRow B e 1 x.2.2 (i + (1 + (n - i))) (xs.take i ++ N :: xs.drop i)))

theorem insMem_start {B : Nat} {w0 w : World} {e : TypeId} {out : Value} {n i : Nat} {xs : List Value} {N : Value} (h : Below B w0 w) (hB : B ≤ w.heap.size) (ho : w.ownsRow B e 1 out n xs) (x : Value × Value × Value) (m : Nat) :
    InsMem B w0 e out n i xs N x (Array.replicate m false) w.drew := by
  have hf : ∀ i : Nat, (Array.replicate m false).getD i false = false := by
    intro i
    simp [Array.getD_eq_getD_getElem?, Array.getElem?_replicate]
    split <;> rfl
  exact ⟨h.drew, hB, .inl ⟨hf 5, hf 9, hf 10, ho.drew⟩⟩
theorem getD_off (l : Array Bool) {k j : Nat} (hk : k < l.size) (hj : k ≠ j) : (l.setIfInBounds k true).getD j false = l.getD j false := by
  rw [getD_set l k j hk, decide_eq_false hj, Bool.false_or]
theorem getD_on (l : Array Bool) {k : Nat} (hk : k < l.size) : (l.setIfInBounds k true).getD k false = true := by
  rw [getD_set l k k hk]; simp
section
variable {B : Nat} {w0 w : World} {e : TypeId} {out : Value} {n i : Nat} {xs : List Value} {N : Value} {x : Value × Value × Value} {listed : Array Bool}
theorem insMem_other {k : Nat} (hne : k ≠ 5 ∧ k ≠ 9 ∧ k ≠ 10) (h : InsMem B w0 e out n i xs N x listed w) (hk : k < listed.size) : InsMem B w0 e out n i xs N x (listed.setIfInBounds k true) w := by
  unfold InsMem
  rw [getD_off listed hk hne.1, getD_off listed hk hne.2.1, getD_off listed hk hne.2.2]
  exact h
theorem insMem_5 (h : InsMem B w0 e out n i xs N x listed w) (hk : 5 < listed.size) (hl : listed.getD 5 false = false) :
    InsMem B w0 e out n i xs N (.slice (some ⟨w.heap.size, 0, none⟩) 1 1, x.2) (listed.setIfInBounds 5 true) (w.alloc (.cells #[N] e)) := by
  obtain ⟨h1, h2, ⟨_, h9, h10, ho⟩ | ⟨h5, _⟩ | ⟨h5, _⟩ | ⟨h5, _⟩⟩ := h
  · refine ⟨h1.alloc h2 _, by simp; omega, .inr (.inl ⟨getD_on listed hk, ?_, ?_, ho.alloc _, ?_, ?_⟩)⟩
    · rw [getD_off listed hk (by decide)]; exact h9
    · rw [getD_off listed hk (by decide)]; exact h10
    · exact World.ownsRow_lit w #[N] 1 h2 (by unfold maxLen; omega) rfl
    · cases hb : out.ownBlock with
      | none => exact .inl rfl
      | some g =>
        right
        have := (ho.lt g hb).2
        intro e2
        have e3 : g = w.heap.size := by simpa [Value.ownBlock] using e2
        omega
  all_goals (rw [hl] at h5; cases h5)
end
section
variable {P : Program} {B : Nat} {w0 w : World} {n i : Nat} {xs : List Value} {N : Value} {x : Value × Value × Value} {listed : Array Bool}
theorem insMem_9 (t ty e : TypeId) (inf : TypeInfo) (z : Value) (bytes : Nat) (ht : P.underlying t = some (.slice e)) (hi : P.info? e = some inf) (hz : inf.zero = some z)
    (hsize : inf.size = 1) (hby : inf.bytes = bytes) (hzs : z.cells.size = 1) {A : Option Addr} {c : Nat}
    (h : InsMem B w0 e (.slice A n c) n i xs N x listed w) (hk : 9 < listed.size) (hl : listed.getD 9 false = false) (h5 : listed.getD 5 false = true) (hin : i ≤ n)
    (hN : N.oneCell' = true) (h1 : ∀ u ∈ xs, u.oneCell' = true) (hn : n ≤ 1000000) (hbs : bytes ≤ 16) :
    ∃ v' w', (Builtin.append_ #[t, t] ty #[x.1, .slice (if c = i then A else A.map (·.add i)) (n - i) (c - i)]).run P w = .ok v' w' ∧ InsMem B w0 e (.slice A n c) n i xs N (x.1, v', x.2.2) (listed.setIfInBounds 9 true) w' := by
  obtain ⟨g1, g2, ⟨g5, _⟩ | ⟨_, _, h10, ho, hx, hne⟩ | ⟨_, g9, _⟩ | ⟨_, g9, _⟩⟩ := h
  · rw [g5] at h5; cases h5
  · have hs := src_from ho i hin
    have hl2 : xs.length = n := by have := ho.1; omega
    obtain ⟨v', w', hr, hown, hg, hbk⟩ := append_src B t ty e inf z bytes ht hi hz hsize hby hzs x.1 1 [N] hx _ _ hs (fun u hu => h1 u (List.mem_of_mem_drop hu))
      (by rw [List.length_drop, hl2]; unfold maxLen; omega) (by rw [List.length_drop, hl2]; exact Nat.le_trans (Nat.mul_le_mul (show _ ≤ 1000001 by omega) hbs) (by decide)) g2
    refine ⟨v', w', hr, g1.grown hg g2 (fun g hg' => (hx.lt g hg').1), Nat.le_trans g2 hg.size, .inr (.inr (.inl ⟨?_, getD_on listed hk, ?_, ho.kept hg hne, ?_⟩))⟩
    · rw [getD_off listed hk (by decide)]; exact h5
    · rw [getD_off listed hk (by decide)]; exact h10
    · rw [List.length_drop, hl2] at hown; exact hown
  · rw [hl] at g9; cases g9
  · rw [hl] at g9; cases g9
theorem insMem_10 (t ty e : TypeId) (inf : TypeInfo) (z : Value) (bytes : Nat) (ht : P.underlying t = some (.slice e)) (hi : P.info? e = some inf) (hz : inf.zero = some z)
    (hsize : inf.size = 1) (hby : inf.bytes = bytes) (hzs : z.cells.size = 1) {A : Option Addr} {c : Nat}
    (h : InsMem B w0 e (.slice A n c) n i xs N x listed w) (hk : 10 < listed.size) (hl : listed.getD 10 false = false) (h9 : listed.getD 9 false = true) (hin : i ≤ n)
    (hN : N.oneCell' = true) (h1 : ∀ u ∈ xs, u.oneCell' = true) (hn : n ≤ 1000000) (hbs : bytes ≤ 16) :
    ∃ v' w', (Builtin.append_ #[t, t] ty #[.slice A i c, x.2.1]).run P w = .ok v' w' ∧ InsMem B w0 e (.slice A n c) n i xs N (x.1, x.2.1, v') (listed.setIfInBounds 10 true) w' := by
  obtain ⟨g1, g2, ⟨_, g9, _⟩ | ⟨_, g9, _⟩ | ⟨h5, _, h10, ho, hx⟩ | ⟨_, _, g10, _⟩⟩ := h
  · rw [g9] at h9; cases h9
  · rw [g9] at h9; cases h9
  · have hc := own_cut ho i hin
    have hl2 : xs.length = n := by have := ho.1; omega
    obtain ⟨v', w', hr, hown, hg, hbk⟩ := append_src B t ty e inf z bytes ht hi hz hsize hby hzs (.slice A i c) i (xs.take i) hc _ _ (srcAt_own hx)
      (fun u hu => by rcases List.mem_cons.1 hu with rfl | hu; exact hN; exact h1 u (List.mem_of_mem_drop hu))
      (by rw [List.length_cons, List.length_drop, hl2]; unfold maxLen; omega) (by rw [List.length_cons, List.length_drop, hl2]; exact Nat.le_trans (Nat.mul_le_mul (show _ ≤ 1000001 by omega) hbs) (by decide)) g2
    refine ⟨v', w', hr, g1.grown hg g2 (fun g hg' => (hc.lt g hg').1), Nat.le_trans g2 hg.size, .inr (.inr (.inr ⟨?_, ?_, getD_on listed hk, ?_⟩))⟩
    · rw [getD_off listed hk (by decide)]; exact h5
    · rw [getD_off listed hk (by decide)]; exact h9
    · rw [List.length_cons, List.length_drop, hl2, show n - i + 1 = 1 + (n - i) by omega] at hown; exact hown
  · rw [hl] at g10; cases g10
theorem insMem_end {e : TypeId} {out : Value} (h : InsMem B w0 e out n i xs N x listed w) (h10 : listed.getD 10 false = true) : Below B w0 w ∧ w.ownsRow B e 1 x.2.2 (i + (1 + (n - i))) (xs.take i ++ N :: xs.drop i) := by
  obtain ⟨g1, g2, ⟨_, _, g10, _⟩ | ⟨_, _, g10, _⟩ | ⟨_, _, g10, _⟩ | ⟨_, _, _, ho⟩⟩ := h
  · rw [h10] at g10; cases g10
  · rw [h10] at g10; cases g10
  · rw [h10] at g10; cases g10
  · exact ⟨g1, ho⟩
/-- What 'out[:i]' is. -/
theorem cut_head {e : TypeId} {A : Option Addr} {c : Nat} (h : w.ownsRow B e 1 (.slice A n c) n xs) (s : Nat) : (if c = 0 then A else A.map (·.add (0 * s))) = A := by
  split
  · rfl
  · cases A with
    | none => rfl
    | some ad =>
      obtain ⟨g, rfl, _⟩ := (own_cap h).2.2.2 ad rfl
      simp [add_at]
end
end Go.Proofs.YtffjfggndfcfmaaDoor
