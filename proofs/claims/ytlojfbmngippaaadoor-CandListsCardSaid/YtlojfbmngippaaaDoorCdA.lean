/- The walk of cand.List's closure. -/
import Derived.Test.YtlojfbmngippaaaDoorDots
import Derived.Test.YtlojfbmngippaaaDoorCd
import Derived.OneCell
import Derived.Outline
import Derived.Deep.QuietTactic
import Derived.BigQuiet
namespace Go.Proofs.YtlojfbmngippaaaDoor
open Go.RowKit
set_option linter.unusedVariables false
theorem StrsAt.cellAt {w : World} {v : Value} {xs : List Lb.Bytes} (h : StrsAt w v xs) (hne : xs ≠ []) : ∃ b o c, v = .slice (some ⟨b, o, none⟩) xs.length c ∧ b < w.heap.size ∧ ∀ j, j < xs.length → w.cell? ⟨b, o + j, none⟩ = some (Lb.strV (xs.getD j [])) := by
  rcases h with ⟨e, _⟩ | h
  · exact absurd e hne
  · exact h
theorem StrsAt.sliceAt {w : World} {v : Value} {xs : List Lb.Bytes} (h : StrsAt w v xs) : ∃ A c, v = .slice A xs.length c := by
  rcases h with ⟨rfl, A, c, rfl⟩ | ⟨b, o, c, rfl, _⟩
  · exact ⟨A, c, rfl⟩
  · exact ⟨_, c, rfl⟩
theorem one_str (w : World) (t : TypeId) (s : Lb.Bytes) (S : ByteArray) (hS : S = Lb.str s) : StrsAt (w.alloc (.cells #[.string S] t)) (.slice (some ⟨w.heap.size, 0, none⟩) 1 1) [s] := by
  refine .inr ⟨w.heap.size, 0, 1, rfl, by simp, ?_⟩
  intro j hj
  have : j = 0 := by simp at hj; omega
  subst this
  rw [hS]
  show (w.alloc (.cells #[.string (Lb.str s)] t)).cell? ⟨w.heap.size, 0, none⟩ = some (.string (Lb.str s))
  exact cell_one_new w (.string (Lb.str s)) t 0 _ rfl
/-- Is x among the first m? -/
def knownAt (out : List Lb.Bytes) (x : Lb.Bytes) (m : Nat) : Bool := (out.take m).any fun y => x == y
theorem knownAt_zero (out : List Lb.Bytes) (x : Lb.Bytes) : knownAt out x 0 = false := by simp [knownAt]
theorem knownAt_snoc (out : List Lb.Bytes) (x : Lb.Bytes) (m : Nat) (h : m < out.length) : knownAt out x (m + 1) = (knownAt out x m || x == out.getD m []) := by
  unfold knownAt; rw [take_snoc out m [] h, List.any_append]; simp
theorem knownAt_end (out : List Lb.Bytes) (x : Lb.Bytes) (m : Nat) (h : out.length ≤ m) : knownAt out x m = out.any (fun y => x == y) := by
  unfold knownAt; rw [List.take_of_length_le h]

/-- Behind an append to what a block of one cell holds: what is known of the cell, and of the world once the new row is stored there. -/
theorem add_facts {w wz : World} {B L c0 : Nat} {v v' u : Value} {A0 : Option Addr} {xs : List Value} {o : Obj} (hL : xs.length = L) (hv : v = .slice A0 L c0) (hB : w.heap[B]? = some (.cells #[v] 27 (0, 0))) (hown : w.ownsRow (B + 1) 9 1 (.slice A0 L c0) L xs)
    (hown' : wz.ownsRow (B + 1) 9 1 v' (L + 1) (xs ++ [u])) (hgrow : (w.alloc o).grownBy wz (Value.ownBlock (.slice A0 L c0))) :
    (∃ A5 c5, v' = .slice A5 (L + 1) c5) ∧ wz.cell? ⟨B, 0, none⟩ = some (.slice A0 L c0) ∧ wz.frozen? ⟨B, 0, none⟩ = false ∧ Hid ((wz.setCell ⟨B, 0, none⟩ v').heap[B]? = some (.cells #[v'] 27 (0, 0)) ∧
      (wz.setCell ⟨B, 0, none⟩ v').ownsRow (B + 1) 9 1 v' (L + 1) (xs ++ [u]) ∧ Below B w (wz.setCell ⟨B, 0, none⟩ v')) := by
  have hBlt := lt_of_block hB
  have h0 : Below (B + 1) w (w.alloc o) := (((Below.refl w.heap.size w).alloc (Nat.le_refl _) o).mono (by omega))
  have hbz : Below (B + 1) w wz := h0.grown hgrow (by simp; omega) (fun g hg => own_base_le hown hg)
  have hBz : wz.heap[B]? = some (.cells #[v] 27 (0, 0)) := (hbz.block B (by omega)).trans hB
  have hcz := cell_of_one hBz
  rw [hv] at hcz
  refine ⟨own_len hown', hcz, free_of_one hBz, one_setCell hBz, ownsRow_setCell_other hown' (fun e => absurd (own_base_le hown' e) (Nat.not_succ_le_self B)) v', (hbz.mono (Nat.le_succ B)).setCell (by simp) _⟩
set_option maxRecDepth 20000 in
set_option maxHeartbeats 4000000 in
theorem add_any (h c : Nat) (X : ByteArray) (B : Nat) (v : Value) (out : List Lb.Bytes) (w : World) (hXs : X.size ≤ 1000000) (hl : out.length ≤ 1000)
    (hcell : w.cell? ⟨h, 0, none⟩ = some (.string X)) (hB : w.heap[B]? = some (.cells #[v] 27 (0, 0))) (hown : w.ownsRow (B + 1) 9 1 v out.length (out.map Lb.strV)) :
    Calls Tryd.prog 32 #[.slice (some ⟨h, 0, none⟩) 1 c, .pointer (some ⟨B, 0, none⟩)] w fun e w' => e = .returned (.tuple #[]) ∧
      (∃ v', w'.heap[B]? = some (.cells #[v'] 27 (0, 0)) ∧ w'.ownsRow (B + 1) 9 1 v' (Cd.addL out X.data.toList).length ((Cd.addL out X.data.toList).map Lb.strV)) ∧ Below B w w' := by
  obtain ⟨i0, hi, hz0, hz1, hz2⟩ := info_parts str_info
  have hcB := cell_of_one hB
  have hfB := free_of_one hB
  have hBlt := lt_of_block hB
  have hst := strsAt_of_own hown
  obtain ⟨A0, c0, hv⟩ := own_len hown
  rw [hv] at hst hcB
  have hcells : Hid (∀ j, j < out.length → ∃ b o, A0 = some ⟨b, o, none⟩ ∧ w.cell? ⟨b, o + j, none⟩ = some (Lb.strV (out.getD j []))) := by
    intro j hj
    rcases hst with ⟨e, _⟩ | ⟨b, o, c', e, _, hc⟩
    · rw [e] at hj; exact absurd hj (Nat.not_lt_zero _)
    · injection e with e1 e2 e3
      exact ⟨b, o, e1, hc j hj⟩
  have HOWN := Lib.hid hown
  have HB := Lib.hid hB
  have HV := Lib.hid hv
  obtain ⟨L, hL⟩ : ∃ L, out.length = L := ⟨_, rfl⟩
  rw [hL] at hl hcells hcB
  have HL := Lib.hid hL
  clear hown hst hB hv hL
  go_enter Tryd.func32, Tryd.ntmps32
  go_wp2_with fail
  refine wp_loop_rounds 2 ?_
  rw [rounds_succ]
  go_wp2_with fail
  go_loop [16, 5] (fun i kn => ∃ m : Nat, m ≤ L ∧ i = .int .i64 m ∧ kn = .bool (knownAt out X.data.toList m)) (fun i _ => L - (intOf i).toNat)
  case atStart => exact ⟨0, Nat.zero_le _, rfl, by rw [knownAt_zero]⟩
  case round =>
    obtain ⟨m, hm, rfl, rfl⟩ := hrel
    obtain ⟨g, hg⟩ : ∃ g, knownAt out X.data.toList m = g := ⟨_, rfl⟩
    rw [hg]
    have HG := Lib.hid hg
    clear hg
    by_cases hlt : m < L
    · obtain ⟨b, o, hA, hc⟩ := hcells.out m hlt
      subst hA
      have hsn := knownAt_snoc out X.data.toList m (by have := HL.out; omega)
      rw [HG.out] at hsn
      obtain ⟨Y, hY⟩ : ∃ Y, Lb.str (out.getD m []) = Y := ⟨_, rfl⟩
      have hcY : w.cell? ⟨b, o + m, none⟩ = some (.string Y) := by rw [← hY]; exact hc
      have hq : (X.toList == Y.toList) = (X.data.toList == out.getD m []) := by rw [← hY, Lib.toList_data, Lib.toList_data, Lb.str_toList]
      obtain ⟨q, hqq⟩ : ∃ q, (X.data.toList == out.getD m []) = q := ⟨_, rfl⟩
      rw [hqq] at hq hsn
      have HSN := Lib.hid hsn
      clear hsn hc hY hqq
      cases g with
      | true =>
        clear hq
        go_wp2_with fail
        go_round
        case rel => exact ⟨m + 1, by omega, by go_num, by rw [HSN.out]; rfl⟩
        case measure => simp [intOf]; omega
      | false =>
        cases q with
        | true =>
          go_wp2_with fail
          go_round
          case rel => exact ⟨m + 1, by omega, by go_num, by rw [HSN.out]; rfl⟩
          case measure => simp [intOf]; omega
        | false =>
          go_wp2_with fail
          go_round
          case rel => exact ⟨m + 1, by omega, by go_num, by rw [HSN.out]; rfl⟩
          case measure => simp [intOf]; omega
    · have hend := knownAt_end out X.data.toList m (by have := HL.out; omega)
      rw [HG.out] at hend
      have HEND := Lib.hid hend
      clear hend HG hcells
      cases g with
      | true =>
        have HF := Lib.hid (Cd.addL_known HEND.out.symm)
        go_wp2_with fail
        rw [rounds_succ]
        go_wp2_with fail
        go_end0
        exact ⟨rfl, ⟨v, HB.out, by rw [HF.out]; exact HOWN.out⟩, Below.refl _ _⟩
      | false =>
        by_cases hlg : 253 < X.size
        · have HF := Lib.hid (Cd.addL_long (out := out) (x := X.data.toList) hlg)
          have hlgi : ¬ (X.size : Int) ≤ 253 := by omega
          go_wp2_with fail
          rw [rounds_succ]
          go_wp2_with fail
          go_end0
          exact ⟨rfl, ⟨v, HB.out, by rw [HF.out]; exact HOWN.out⟩, Below.refl _ _⟩
        · have HF := Lib.hid (Cd.addL_new HEND.out.symm hlg)
          have hlgi : (X.size : Int) ≤ 253 := by omega
          have HV2 : Hid (v = .slice A0 L c0) := by show _ = _; rw [HV.out, HL.out]
          have hown : w.ownsRow (B + 1) 9 1 (.slice A0 L c0) L (out.map Lb.strV) := by have h1 := HOWN.out; rw [HV.out, HL.out] at h1; exact h1
          go_wp2_with (at_builtin; refine wpList_append_own _ rfl (.tmp 34) (.tmp 36) 27 rfl (B + 1) 9 i0 (.string .empty) 1 16 Tryd.underlying27 hi hz0 hz1 hz2 rfl (by decide) _ _ _ rfl (hown.alloc _) ⟨w.heap.size, 0, none⟩ 1 1 [.string X] rfl rfl (cell_one_new _ _ _) (by simp [Value.oneCell']) (by unfold maxLen; omega) (by omega) (by simp; omega) ?_; intro v' wz hown' hgrow _; obtain ⟨⟨A5, c5, hv5⟩, hcz, hfz, HFA⟩ := add_facts (u := .string X) (by rw [List.length_map]; exact HL.out) HV2.out HB.out hown hown' hgrow; subst hv5; clear hown' hgrow hown)
          go_wp2_with fail
          rw [rounds_succ]
          go_wp2_with fail
          go_end0
          refine ⟨rfl, ⟨_, HFA.out.1, ?_⟩, HFA.out.2.2⟩
          rw [HF.out, List.length_append, List.map_append, HL.out]
          exact HFA.out.2.1

end Go.Proofs.YtlojfbmngippaaaDoor
