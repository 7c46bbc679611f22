/- A region that draws its order, by what is true after each set of its operations: one step for each operation, no walk over the orders. No program. -/
import Derived.Orders
import Derived.RegionTactic
namespace Go.Proofs.YtffjfggndfcfmaaDoor
section
variable {P : Program} {ops : Array Oper} {Q : Exit → Act → World → Prop} {md : Region.Mode}

/-- The frame after the operations that 'listed' marks: operation i has left vals i in its slot; the other slots are as they were. -/
structure RInv (ops : Array Oper) (vals : Nat → Value) (a0 : Act) (listed : Array Bool) (a : Act) : Prop where
  size : a.tmps.size = a0.tmps.size
  done : ∀ (i : Nat) (o : Oper) (d : Tmp), ops[i]? = some o → listed.getD i false = true → o.dst = some d → a.tmps[d]? = some (vals i)
  rest : ∀ t : Tmp, (∀ (i : Nat) (o : Oper), ops[i]? = some o → listed.getD i false = true → o.dst ≠ some t) → a.tmps[t]? = a0.tmps[t]?
  defers : a.defers = a0.defers

theorem RInv.start (ops : Array Oper) (vals : Nat → Value) (a0 : Act) (n : Nat) : RInv ops vals a0 (Array.replicate n false) a0 := by
  have hf : ∀ i : Nat, (Array.replicate n false).getD i false = false := by
    intro i
    simp [Array.getD_eq_getD_getElem?, Array.getElem?_replicate]
    split <;> rfl
  exact ⟨rfl, fun i o d _ h _ => (by rw [hf i] at h; cases h), fun _ _ => rfl, rfl⟩

theorem getD_set (l : Array Bool) (i j : Nat) (h : i < l.size) : (l.setIfInBounds i true).getD j false = (decide (i = j) || l.getD j false) := by
  simp only [Array.getD_eq_getD_getElem?, Array.getElem?_setIfInBounds]
  by_cases e : i = j
  · subst e; simp [h]
  · simp [e]

theorem RInv.put {vals : Nat → Value} {a0 a : Act} {listed : Array Bool} (h : RInv ops vals a0 listed a) {i : Nat} {o : Oper} (ho : ops[i]? = some o) (hi : i < listed.size)
    (hd : ∀ (i j : Nat) (oi oj : Oper) (d : Tmp), ops[i]? = some oi → ops[j]? = some oj → oi.dst = some d → oj.dst = some d → i = j)
    (hfit : ∀ (i : Nat) (o : Oper) (d : Tmp), ops[i]? = some o → o.dst = some d → d < a0.tmps.size) :
    RInv ops vals a0 (listed.setIfInBounds i true) (a.put o.dst (vals i)) := by
  have hset : ∀ j, (listed.setIfInBounds i true).getD j false = (decide (i = j) || listed.getD j false) := fun j => getD_set listed i j hi
  cases hdst : o.dst with
  | none =>
    refine ⟨h.size, ?_, ?_, h.defers⟩
    · intro j oj d hj hl hjd
      rw [hset, Bool.or_eq_true, decide_eq_true_eq] at hl
      rcases hl with e | hl
      · subst e; rw [ho] at hj; injection hj with e; subst e; rw [hdst] at hjd; cases hjd
      · exact h.done j oj d hj hl hjd
    · intro t ht
      exact h.rest t fun j oj hj hl => ht j oj hj (by rw [hset, hl]; simp)
  | some d =>
    have hfd : d < a.tmps.size := by rw [h.size]; exact hfit i o d ho hdst
    refine ⟨by simp [Act.put, h.size], ?_, ?_, h.defers⟩
    · intro j oj e hj hl hjd
      simp only [Act.put]
      rw [Array.getElem?_setIfInBounds]
      by_cases hde : d = e
      · subst hde
        have := hd i j o oj d ho hj hdst hjd
        subst this
        rw [if_pos rfl, if_pos hfd]
      · rw [if_neg hde]
        rw [hset, Bool.or_eq_true, decide_eq_true_eq] at hl
        rcases hl with e2 | hl
        · subst e2; rw [ho] at hj; injection hj with e3; subst e3; rw [hdst] at hjd; injection hjd with e4; exact absurd e4 hde
        · exact h.done j oj e hj hl hjd
    · intro t ht
      simp only [Act.put]
      rw [Array.getElem?_setIfInBounds, if_neg]
      · exact h.rest t fun j oj hj hl => ht j oj hj (by rw [hset, hl]; simp)
      · intro e
        subst e
        exact ht i o ho (by rw [hset]; simp) hdst

theorem ready_nil {listed : Array Bool} (hac : ∀ (i : Nat) (o : Oper), ops[i]? = some o → ∀ e ∈ o.after, e.on < i) (hr : Region.ready md ops listed = []) (hsz : listed.size = ops.size) :
    ∀ i, i < ops.size → listed.getD i false = true := by
  intro i
  induction i using Nat.strongRecOn with
  | ind i ih =>
    intro hi
    have ho : ops[i]? = some ops[i] := Array.getElem?_eq_getElem hi
    have hnot : i ∉ Region.ready md ops listed := by rw [hr]; simp
    unfold Region.ready at hnot
    rw [List.mem_filter] at hnot
    have hg : listed.getD i true = listed.getD i false := by
      simp [Array.getD_eq_getD_getElem?, Array.getElem?_eq_getElem (show i < listed.size by omega)]
    cases hl : listed.getD i false with
    | true => rfl
    | false =>
      exfalso
      apply hnot
      refine ⟨List.mem_range.2 hi, ?_⟩
      rw [hg, hl, ho]
      simp only [Option.map_some, Option.getD_some, Bool.not_false, Bool.true_and, Array.all_eq_true', Bool.or_eq_true]
      intro e he
      right
      exact ih e.on (hac i _ ho e he) (by have := hac i _ ho e he; omega)

theorem RInv.turn {vals vals' : Nat → Value} {a0 a : Act} {listed : Array Bool} (h : RInv ops vals a0 listed a) (hv : ∀ j, listed.getD j false = true → vals' j = vals j) : RInv ops vals' a0 listed a :=
  ⟨h.size, fun i o d ho hl hd => by rw [hv i hl]; exact h.done i o d ho hl hd, h.rest, h.defers⟩

/-- What one operation owes: from whatever state in which those that it waits for are done, it leaves its value and the memory's part. -/
def Step (P : Program) (md : Region.Mode) (ops : Array Oper) (Q : Exit → Act → World → Prop) {β : Type} (vals : β → Nat → Value) (a0 : Act) (Mem : β → Array Bool → World → Prop) (i : Nat) (o : Oper) : Prop :=
  ∀ (x : β) (listed : Array Bool) (a : Act) (w : World) (K : Act → World → Prop), RInv ops (vals x) a0 listed a → Mem x listed w → i < listed.size → listed.getD i false = false →
    (∀ e ∈ o.after, Region.binds md e = true → listed.getD e.on false = true) →
    (∀ (x' : β) (w' : World), (∀ j, listed.getD j false = true → vals x' j = vals x j) → Mem x' (listed.setIfInBounds i true) w' → K (a.put o.dst (vals x' i)) w') → wpOp P ops Q i K a w
def StepAll (S : Nat → Oper → Prop) : Nat → List Oper → Prop
  | _, [] => True
  | k, o :: l => S k o ∧ StepAll S (k + 1) l
theorem stepAll_spec {S : Nat → Oper → Prop} : ∀ (l : List Oper) (k : Nat), StepAll S k l → ∀ (i : Nat) (o : Oper), l[i]? = some o → S (k + i) o
  | [], _, _, i, o, h => by simp at h
  | x :: l, k, hs, 0, o, h => by simp at h; subst h; exact hs.1
  | x :: l, k, hs, i + 1, o, h => by
    have := stepAll_spec l (k + 1) hs.2 i o (by simpa using h)
    rw [show k + (i + 1) = k + 1 + i by omega]; exact this
def apartB : List (Option Tmp) → Bool
  | [] => true
  | none :: l => apartB l
  | some d :: l => l.all (fun x => x != some d) && apartB l
theorem apartB_spec : ∀ (l : List (Option Tmp)), apartB l = true → ∀ (i j : Nat) (d : Tmp), l[i]? = some (some d) → l[j]? = some (some d) → i = j
  | [], _, i, j, d, h, _ => by simp at h
  | none :: l, hl, i, j, d, hi, hj => by
    cases i with
    | zero => simp at hi
    | succ i =>
      cases j with
      | zero => simp at hj
      | succ j => have := apartB_spec l hl i j d (by simpa using hi) (by simpa using hj); omega
  | some c :: l, hl, i, j, d, hi, hj => by
    simp only [apartB, Bool.and_eq_true, List.all_eq_true] at hl
    cases i with
    | zero =>
      cases j with
      | zero => rfl
      | succ j =>
        simp at hi hj; subst hi
        have := hl.1 (some c) (List.mem_of_getElem? hj)
        simp at this
    | succ i =>
      cases j with
      | zero =>
        simp at hi hj; subst hj
        have := hl.1 (some c) (List.mem_of_getElem? hi)
        simp at this
      | succ j => have := apartB_spec l hl.2 i j d (by simpa using hi) (by simpa using hj); omega
def backB : Nat → List Oper → Bool
  | _, [] => true
  | k, o :: l => o.after.all (fun e => decide (e.on < k)) && backB (k + 1) l
theorem backB_spec : ∀ (l : List Oper) (k : Nat), backB k l = true → ∀ (i : Nat) (o : Oper), l[i]? = some o → ∀ e ∈ o.after, e.on < k + i
  | [], _, _, i, o, h => by simp at h
  | x :: l, k, hb, 0, o, h => by
    simp at h; subst h
    simp only [backB, Bool.and_eq_true, Array.all_eq_true', decide_eq_true_eq] at hb
    exact hb.1
  | x :: l, k, hb, i + 1, o, h => by
    simp only [backB, Bool.and_eq_true] at hb
    have := backB_spec l (k + 1) hb.2 i o (by simpa using h)
    rw [show k + (i + 1) = k + 1 + i by omega]; exact this

theorem wpAny_inv {β : Type} (vals : β → Nat → Value) (a0 : Act) (Mem : β → Array Bool → World → Prop)
    (hd : apartB (ops.toList.map (·.dst)) = true) (hfit : (ops.toList.map (·.dst)).all (fun x => match x with | some d => decide (d < a0.tmps.size) | none => true) = true) (hac : backB 0 ops.toList = true)
    (hstep : StepAll (Step P md ops Q vals a0 Mem) 0 ops.toList)
    (hend : ∀ (x : β) (a : Act) (w : World) (listed : Array Bool), RInv ops (vals x) a0 listed a → (∀ i, i < ops.size → listed.getD i false = true) → Mem x listed w → Q .normal a w) :
    ∀ (fuel : Nat) (x : β) (listed : Array Bool) (a : Act) (w : World), RInv ops (vals x) a0 listed a → Mem x listed w → listed.size = ops.size → listed.toList.count false ≤ fuel → wpAny P md ops Q fuel listed a w := by
  have hd' : ∀ (i j : Nat) (oi oj : Oper) (d : Tmp), ops[i]? = some oi → ops[j]? = some oj → oi.dst = some d → oj.dst = some d → i = j := by
    intro i j oi oj d hi hj hdi hdj
    refine apartB_spec _ hd i j d ?_ ?_
    · rw [List.getElem?_map, Array.getElem?_toList, hi]; simp [hdi]
    · rw [List.getElem?_map, Array.getElem?_toList, hj]; simp [hdj]
  have hfit' : ∀ (i : Nat) (o : Oper) (d : Tmp), ops[i]? = some o → o.dst = some d → d < a0.tmps.size := by
    intro i o d hi hdi
    rw [List.all_eq_true] at hfit
    have := hfit (some d) (List.mem_map.2 ⟨o, by rw [Array.mem_toList_iff]; exact Array.mem_of_getElem? hi, hdi⟩)
    simpa using this
  have hac' : ∀ (i : Nat) (o : Oper), ops[i]? = some o → ∀ e ∈ o.after, e.on < i := by
    intro i o hi e he
    have := backB_spec ops.toList 0 hac i o (by rw [Array.getElem?_toList]; exact hi) e he
    omega
  have hstep' : ∀ (i : Nat) (o : Oper), ops[i]? = some o → Step P md ops Q vals a0 Mem i o := by
    intro i o hi
    have := stepAll_spec ops.toList 0 hstep i o (by rw [Array.getElem?_toList]; exact hi)
    rwa [Nat.zero_add] at this
  clear hd hfit hac hstep
  intro fuel
  induction fuel with
  | zero =>
    intro x listed a w hI hM hsz hc
    have hall : ∀ i, i < ops.size → listed.getD i false = true := by
      intro i hi
      have hm : false ∉ listed.toList := by
        intro hm
        have := List.count_pos_iff.2 hm
        omega
      rw [Array.getD_eq_getD_getElem?, Array.getElem?_eq_getElem (show i < listed.size by omega), Option.getD_some]
      cases hb : listed[i] with
      | true => rfl
      | false => exact absurd (hb ▸ Array.getElem_mem_toList (by omega)) hm
    refine ⟨?_, hend x a w listed hI hall hM⟩
    unfold Region.ready
    rw [List.filter_eq_nil_iff]
    intro i hi
    rw [List.mem_range] at hi
    have hg : listed.getD i true = listed.getD i false := by
      simp [Array.getD_eq_getD_getElem?, Array.getElem?_eq_getElem (show i < listed.size by omega)]
    rw [hg, hall i hi]
    simp
  | succ fuel ih =>
    intro x listed a w hI hM hsz hc
    refine ⟨fun hr => hend x a w listed hI (ready_nil hac' hr hsz) hM, ?_⟩
    intro i hi
    unfold Region.ready at hi
    rw [List.mem_filter, List.mem_range] at hi
    obtain ⟨hlt, hi⟩ := hi
    have ho : ops[i]? = some ops[i] := Array.getElem?_eq_getElem hlt
    have hg : listed.getD i true = listed.getD i false := by
      simp [Array.getD_eq_getD_getElem?, Array.getElem?_eq_getElem (show i < listed.size by omega)]
    rw [ho, hg] at hi
    simp only [Option.map_some, Option.getD_some, Bool.and_eq_true, Bool.not_eq_true', Array.all_eq_true', Bool.or_eq_true] at hi
    obtain ⟨hl, hdeps⟩ := hi
    refine hstep' i _ ho x listed a w _ hI hM (by omega) hl (fun e he hb => ?_) (fun x' w' hv hM' => ?_)
    · rcases hdeps e he with h | h
      · rw [hb] at h; cases h
      · exact h
    · refine ih _ _ _ _ ((hI.turn hv).put ho (by omega) hd' hfit') hM' (by simpa using hsz) ?_
      have hil : i < listed.size := by omega
      have hb : listed[i] = false := by
        rw [Array.getD_eq_getD_getElem?, Array.getElem?_eq_getElem hil, Option.getD_some] at hl; exact hl
      have hcnt : (listed.setIfInBounds i true).toList.count false + 1 = listed.toList.count false := by
        have h0 : 0 < listed.toList.count false := List.count_pos_iff.2 (hb ▸ Array.getElem_mem_toList hil)
        rw [Array.toList_setIfInBounds, List.count_set (by simpa using hil)]
        rw [Array.getElem_toList, hb]
        simp only [beq_self_eq_true, if_true, show (true == false) = false from rfl, Bool.false_eq_true, if_false]
        omega
      omega

/-- A region that draws, by its steps. -/
theorem wp_region_inv {β : Type} {id : Nat} {a0 : Act} {w : World} (hm : P.follows .mixedOrders = true) (vals : β → Nat → Value) (Mem : β → Array Bool → World → Prop) (x : β)
    (hd : apartB (ops.toList.map (·.dst)) = true) (hfit : (ops.toList.map (·.dst)).all (fun x => match x with | some d => decide (d < a0.tmps.size) | none => true) = true) (hac : backB 0 ops.toList = true)
    (hM : Mem x (Array.replicate ops.size false) w.drew)
    (hstep : StepAll (Step P .any ops Q vals a0 Mem) 0 ops.toList)
    (hend : ∀ (x : β) (a : Act) (w : World) (listed : Array Bool), RInv ops (vals x) a0 listed a → (∀ i, i < ops.size → listed.getD i false = true) → Mem x listed w → Q .normal a w) :
    (Code.region id ops true).wp P Q a0 w :=
  wp_region_any hm (wpAny_inv vals a0 Mem hd hfit hac hstep hend ops.size x _ a0 _ (RInv.start ops _ a0 _) hM (by simp) (Nat.le_trans List.count_le_length (by simp)))

/-- What an operation that is done has left in its slot. -/
theorem RInv.slot {vals : Nat → Value} {a0 a : Act} {listed : Array Bool} (h : RInv ops vals a0 listed a) {i : Nat} {o : Oper} {d : Tmp} (ho : ops[i]? = some o) (hl : listed.getD i false = true) (hd : o.dst = some d) :
    a.tmps[d]?.getD undef = vals i := by
  rw [h.done i o d ho hl hd]; rfl
theorem RInv.old {vals : Nat → Value} {a0 a : Act} {listed : Array Bool} (h : RInv ops vals a0 listed a) {d : Tmp} (hd : (ops.toList.map (·.dst)).all (fun x => x != some d) = true) :
    a.tmps[d]?.getD undef = a0.tmps[d]?.getD undef := by
  rw [h.rest d]
  intro i o ho _ e
  rw [List.all_eq_true] at hd
  have := hd (some d) (List.mem_map.2 ⟨o, by rw [Array.mem_toList_iff]; exact Array.mem_of_getElem? ho, e⟩)
  simp at this
theorem RInv.says {vals : Nat → Value} {a0 a : Act} {listed : Array Bool} (h : RInv ops vals a0 listed a) {i : Nat} {o : Oper} {d : Tmp} {b : Bool} (ho : ops[i]? = some o) (hl : listed.getD i false = true) (hd : o.dst = some d) (hv : vals i = .bool b) :
    yielded ops a.tmps i = some b := by
  unfold yielded
  rw [ho, Option.bind_some, hd, Option.bind_some, h.done i o d ho hl hd, hv]

/-- An operation that yields v in whatever world. -/
theorem step_value {i : Nat} {o : Oper} {K : Act → World → Prop} {a : Act} {w : World} {v : Value} (ho : ops[i]? = some o) (hw : Region.wanted o (yielded ops a.tmps) = true)
    (hr : ∀ w, (execOp a.eval o).run P w = .ok (.value v) w) (hK : K (a.put o.dst v) w) : wpOp P ops Q i K a w := by
  unfold wpOp
  simp only [ho, hw, if_true, Oper.wp, hr w, Oper.upon]
  exact .inl hK
end
end Go.Proofs.YtffjfggndfcfmaaDoor
