/- The fold of package resolve, at what nomenclatorlaw16.fit asks of it. -/
import Derived.Test.YtffjfggndfcfmaaDoorRsN
import Derived.Test.YtffjfggndfcfmaaDoorDots
import Derived.StillTailTactics
import Derived.RegionTactic
import Derived.BigRegion
import Derived.Outline
import Derived.OneCell
import Derived.Test.YtffjfggndfcfmaaDoorKit
namespace Go.Proofs.YtffjfggndfcfmaaDoor
open Go.RowKit
set_option linter.unusedVariables false
/-- A Fold in block b. -/
def FoldAt (w : World) (b : Nat) (order : Value) (src : Int) (k : Int) (l0 l1 l2 l3 : Value) (over : Bool) : Prop :=
  w.heap[b]? = some (.cells #[order, .int .i64 1, .int .i64 src, .int .i64 0, .int .i64 0, .int .i64 0, .int .i64 k, .slice none 0 0, l0, l1, l2, l3, .bool over] 120 (0, 0))
set_option maxRecDepth 20000 in
set_option maxHeartbeats 2000000 in
theorem at_over (b : Nat) (w : World) (h : w.cell? ⟨b, 12, none⟩ = some (.bool true)) :
    Calls Tryd.prog 34 #[.pointer (some ⟨b, 0, none⟩)] w fun ev w' => ev = .returned (.tuple #[.int .i64 0, .int .i64 0, .bool false]) ∧ w' = w := by
  go_enter Tryd.func34, Tryd.ntmps34
  go_wp2
  go_ret3
  exact ⟨rfl, rfl⟩
set_option maxRecDepth 20000 in
set_option maxHeartbeats 2000000 in
theorem at_on (b : Nat) (s c : Int) (w : World) (h : w.cell? ⟨b, 12, none⟩ = some (.bool false)) (h2 : w.cell? ⟨b, 2, none⟩ = some (.int .i64 s)) (h3 : w.cell? ⟨b, 3, none⟩ = some (.int .i64 c)) :
    Calls Tryd.prog 34 #[.pointer (some ⟨b, 0, none⟩)] w fun ev w' => ev = .returned (.tuple #[.int .i64 s, .int .i64 c, .bool true]) ∧ ∃ n, w' = w.drewN n := by
  go_enter Tryd.func34, Tryd.ntmps34
  go_wp2
  go_quiet (fail)
  go_wp2
  go_ret3
  exact ⟨rfl, _, rfl⟩
set_option maxRecDepth 20000 in
theorem action_any (k : Int) (hk : k ≠ 5) (w : World) :
    Calls Tryd.prog 56 #[.int .i64 k] w fun ev w' => ev = .returned (.int .i64 k) ∧ w' = w := by
  have h : (k == 5) = false := by simpa using hk
  go_enter Tryd.func56, Tryd.ntmps56
  go_wp2
  go_ret
  exact ⟨rfl, rfl⟩

/-- The thirteen cells of a Fold. -/
structure FoldC (w : World) (b : Nat) (order src cand a0 a1 a2 a3 l0 l1 l2 l3 over : Value) : Prop where
  blk : w.heap[b]? = some (.cells #[order, .int .i64 1, src, cand, a0, a1, a2, a3, l0, l1, l2, l3, over] 120 (0, 0))
theorem FoldC.cell {w : World} {b : Nat} {order src cand a0 a1 a2 a3 l0 l1 l2 l3 over : Value} (h : FoldC w b order src cand a0 a1 a2 a3 l0 l1 l2 l3 over) (j : Nat) (v : Value)
    (hv : (#[order, .int .i64 1, src, cand, a0, a1, a2, a3, l0, l1, l2, l3, over] : Array Value)[j]? = some v) : w.cell? ⟨b, j, none⟩ = some v ∧ w.frozen? ⟨b, j, none⟩ = false :=
  ⟨by rw [cell_of_row w b j _ _ _ h.blk]; exact hv, by unfold World.frozen?; rw [h.blk]; rfl⟩
theorem setRow {w : World} {b j : Nat} {C : Array Value} {t : TypeId} {fr : Nat × Nat} (h : w.heap[b]? = some (.cells C t fr)) (v : Value) : (w.setCell ⟨b, j, none⟩ v).heap[b]? = some (.cells (C.setIfInBounds j v) t fr) := by
  unfold World.setCell; simp [Array.getElem?_modify, h]
theorem setOther {w : World} {b j ob : Nat} (h : ob ≠ b) (v : Value) (i : Nat) : (w.setCell ⟨b, j, none⟩ v).cell? ⟨ob, i, none⟩ = w.cell? ⟨ob, i, none⟩ :=
  World.cell?_of_block (Below.heap_setCell _ _ _ _ h)
set_option maxRecDepth 20000 in
set_option maxHeartbeats 4000000 in
theorem note_any (b ob oc : Nat) (s k : Int) (hk : (k = 1 ∧ s = 1) ∨ (k = 2 ∧ s = 0)) (a0 a1 a2 a3 l0 l1 l2 l3 : Value) (w : World)
    (hF : FoldC w b (.slice (some ⟨ob, 0, none⟩) 2 oc) (.int .i64 s) (.int .i64 0) a0 a1 a2 a3 l0 l1 l2 l3 (.bool false)) (hne : ob ≠ b) (hob : ob < w.heap.size) (hc : w.cell? ⟨ob, (if s = 0 then 3 else 8), none⟩ = some (.bool false)) :
    Calls Tryd.prog 36 #[.pointer (some ⟨b, 0, none⟩), .agg #[.int .i64 0, .int .i64 0, .int .i64 k, .slice none 0 0]] w fun ev w' => ev = .returned (.tuple #[]) ∧
      FoldC w' b (.slice (some ⟨ob, 0, none⟩) 2 oc) (.int .i64 (s + 1)) (.int .i64 0) (.int .i64 s) (.int .i64 0) (.int .i64 k) (.slice none 0 0) (.int .i64 s) (.int .i64 0) (.int .i64 k) (.slice none 0 0) (.bool (s == 1)) ∧ (∀ j, w'.cell? ⟨ob, j, none⟩ = w.cell? ⟨ob, j, none⟩) ∧ Below b w w' := by
  have hbl := lt_of_block hF.blk
  have c12 := (hF.cell 12 _ rfl).1
  have c2 := (hF.cell 2 _ rfl).1
  have c3 := (hF.cell 3 _ rfl).1
  have n0 : ∀ (o : Obj) (j : Nat), (w.alloc o).cell? ⟨b, j, none⟩ = w.cell? ⟨b, j, none⟩ := fun o j => World.cell?_alloc_past _ _ _ hbl
  have d12 := fun o => (n0 o 12).trans c12
  have d2 := fun o => (n0 o 2).trans c2
  have d3 := fun o => (n0 o 3).trans c3
  clear n0 c12 c2 c3
  go_enter Tryd.func36, Tryd.ntmps36
  go_wp2
  go_region
  have hF1 : FoldC (w.alloc (.cells #[.int .i64 s, .int .i64 0, .int .i64 k, .slice none 0 0] 29)).drew b (.slice (some ⟨ob, 0, none⟩) 2 oc) (.int .i64 s) (.int .i64 0) a0 a1 a2 a3 l0 l1 l2 l3 (.bool false) :=
    ⟨(((Below.refl w.heap.size w).alloc (Nat.le_refl _) _).block b hbl).trans hF.blk⟩
  have ho : ∀ j v, (#[.int .i64 s, .int .i64 0, .int .i64 k, .slice none 0 0] : Array Value)[j]? = some v → (w.alloc (.cells #[.int .i64 s, .int .i64 0, .int .i64 k, .slice none 0 0] 29)).drew.cell? ⟨w.heap.size, j, none⟩ = some v := by
    intro j v h
    show (w.alloc (.cells #[.int .i64 s, .int .i64 0, .int .i64 k, .slice none 0 0] 29)).cell? ⟨w.heap.size, j, none⟩ = some v
    rw [World.cell?_alloc_at _ _ _ _ rfl]; exact h
  have hcob : Hid ((∀ j, (w.alloc (.cells #[.int .i64 s, .int .i64 0, .int .i64 k, .slice none 0 0] 29)).drew.cell? ⟨ob, j, none⟩ = w.cell? ⟨ob, j, none⟩) ∧ Below b w (w.alloc (.cells #[.int .i64 s, .int .i64 0, .int .i64 k, .slice none 0 0] 29)).drew) := ⟨fun j => World.cell?_alloc_past _ _ _ hob, ((Below.refl b w).alloc (Nat.le_of_lt hbl) _).drew⟩
  obtain ⟨W1, hW1⟩ : ∃ W1, (w.alloc (.cells #[.int .i64 s, .int .i64 0, .int .i64 k, .slice none 0 0] 29)).drew = W1 := ⟨_, rfl⟩
  rw [hW1] at hF1 ho hcob ⊢
  have HF1 := Lib.hid hF1
  have o0 := ho 0 _ rfl
  have o1 := ho 1 _ rfl
  have o2 := ho 2 _ rfl
  have o3 := ho 3 _ rfl
  have c3 := (hF1.cell 3 _ rfl).1
  have f3 := (hF1.cell 3 _ rfl).2
  have f4 := (hF1.cell 4 _ rfl).2
  have f5 := (hF1.cell 5 _ rfl).2
  have f6 := (hF1.cell 6 _ rfl).2
  have f7 := (hF1.cell 7 _ rfl).2
  have e4 := (hF1.cell 4 _ rfl).1
  have e5 := (hF1.cell 5 _ rfl).1
  have e6 := (hF1.cell 6 _ rfl).1
  have e7 := (hF1.cell 7 _ rfl).1
  clear hW1 ho d12 d2 d3 hF1
  go_wp2
  clear o0 o1 o2 o3 c3 f3 f4 f5 f6 f7 e4 e5 e6 e7
  have hF2 : FoldC (((((W1.setCell ⟨b, 4, none⟩ (.int .i64 s)).setCell ⟨b, 5, none⟩ (.int .i64 0)).setCell ⟨b, 6, none⟩ (.int .i64 k)).setCell ⟨b, 7, none⟩ (.slice none 0 0)).setCell ⟨b, 3, none⟩ (.int .i64 1)) b
      (.slice (some ⟨ob, 0, none⟩) 2 oc) (.int .i64 s) (.int .i64 1) (.int .i64 s) (.int .i64 0) (.int .i64 k) (.slice none 0 0) l0 l1 l2 l3 (.bool false) :=
    ⟨setRow (setRow (setRow (setRow (setRow HF1.out.blk _) _) _) _) _⟩
  have hcob2 : Hid ((∀ j, (((((W1.setCell ⟨b, 4, none⟩ (.int .i64 s)).setCell ⟨b, 5, none⟩ (.int .i64 0)).setCell ⟨b, 6, none⟩ (.int .i64 k)).setCell ⟨b, 7, none⟩ (.slice none 0 0)).setCell ⟨b, 3, none⟩ (.int .i64 1)).cell? ⟨ob, j, none⟩ = w.cell? ⟨ob, j, none⟩) ∧ Below b w (((((W1.setCell ⟨b, 4, none⟩ (.int .i64 s)).setCell ⟨b, 5, none⟩ (.int .i64 0)).setCell ⟨b, 6, none⟩ (.int .i64 k)).setCell ⟨b, 7, none⟩ (.slice none 0 0)).setCell ⟨b, 3, none⟩ (.int .i64 1))) := by
    refine ⟨fun j => ?_, (((((hcob.out.2.setCell (Nat.le_refl _) _).setCell (Nat.le_refl _) _).setCell (Nat.le_refl _) _).setCell (Nat.le_refl _) _).setCell (Nat.le_refl _) _)⟩
    rw [setOther hne, setOther hne, setOther hne, setOther hne, setOther hne]
    exact hcob.out.1 j
  obtain ⟨W2, hW2⟩ : ∃ W2, (((((W1.setCell ⟨b, 4, none⟩ (.int .i64 s)).setCell ⟨b, 5, none⟩ (.int .i64 0)).setCell ⟨b, 6, none⟩ (.int .i64 k)).setCell ⟨b, 7, none⟩ (.slice none 0 0)).setCell ⟨b, 3, none⟩ (.int .i64 1)) = W2 := ⟨_, rfl⟩
  rw [hW2] at hF2 hcob2 ⊢
  have HF2 := Lib.hid hF2
  have g1 := (hF2.cell 1 _ rfl).1
  have g3 := (hF2.cell 3 _ rfl).1
  have g6 := (hF2.cell 6 _ rfl).1
  clear hW2 hF2 HF1 hcob
  rcases hk with ⟨rfl, rfl⟩ | ⟨rfl, rfl⟩
  · go_quiet (fail)
    obtain ⟨W3, hW3⟩ : ∃ W3, W2.drewN nq = W3 := ⟨_, rfl⟩
    have HF3 := Lib.hid (show FoldC (W2.drewN nq) b _ _ _ _ _ _ _ _ _ _ _ _ from ⟨HF2.out.blk⟩)
    have hcob3 : Hid ((∀ j, (W2.drewN nq).cell? ⟨ob, j, none⟩ = w.cell? ⟨ob, j, none⟩) ∧ Below b w (W2.drewN nq)) := ⟨hcob2.out.1, hcob2.out.2.os, hcob2.out.2.tape, hcob2.out.2.output, hcob2.out.2.size, hcob2.out.2.block⟩
    rw [hW3] at HF3 hcob3 ⊢
    have m4 := (HF3.out.cell 4 _ rfl).1
    have m5 := (HF3.out.cell 5 _ rfl).1
    have m6 := (HF3.out.cell 6 _ rfl).1
    have m7 := (HF3.out.cell 7 _ rfl).1
    have m8 := (HF3.out.cell 8 _ rfl).1
    have m9 := (HF3.out.cell 9 _ rfl).1
    have m10 := (HF3.out.cell 10 _ rfl).1
    have m11 := (HF3.out.cell 11 _ rfl).1
    have p8 := (HF3.out.cell 8 _ rfl).2
    have p9 := (HF3.out.cell 9 _ rfl).2
    have p10 := (HF3.out.cell 10 _ rfl).2
    have p11 := (HF3.out.cell 11 _ rfl).2
    clear hW3 HF2 hcob2 g1 g3 g6
    go_wp2
    clear m4 m5 m6 m7 m8 m9 m10 m11 p8 p9 p10 p11
    have hb4 := setRow (j := 11) (setRow (j := 10) (setRow (j := 9) (setRow (j := 8) HF3.out.blk (.int .i64 1)) (.int .i64 0)) (.int .i64 1)) (.slice none 0 0)
    have hF4 : FoldC ((((W3.setCell ⟨b, 8, none⟩ (.int .i64 1)).setCell ⟨b, 9, none⟩ (.int .i64 0)).setCell ⟨b, 10, none⟩ (.int .i64 1)).setCell ⟨b, 11, none⟩ (.slice none 0 0)) b (.slice (some ⟨ob, 0, none⟩) 2 oc) (.int .i64 1) (.int .i64 1) (.int .i64 1) (.int .i64 0) (.int .i64 1) (.slice none 0 0) (.int .i64 1) (.int .i64 0) (.int .i64 1) (.slice none 0 0) (.bool false) := ⟨hb4⟩
    have hcob4 : Hid ((∀ j, ((((W3.setCell ⟨b, 8, none⟩ (.int .i64 1)).setCell ⟨b, 9, none⟩ (.int .i64 0)).setCell ⟨b, 10, none⟩ (.int .i64 1)).setCell ⟨b, 11, none⟩ (.slice none 0 0)).cell? ⟨ob, j, none⟩ = w.cell? ⟨ob, j, none⟩) ∧ Below b w ((((W3.setCell ⟨b, 8, none⟩ (.int .i64 1)).setCell ⟨b, 9, none⟩ (.int .i64 0)).setCell ⟨b, 10, none⟩ (.int .i64 1)).setCell ⟨b, 11, none⟩ (.slice none 0 0))) := by
      refine ⟨fun j => ?_, ((((hcob3.out.2.setCell (Nat.le_refl _) _).setCell (Nat.le_refl _) _).setCell (Nat.le_refl _) _).setCell (Nat.le_refl _) _)⟩
      rw [setOther hne, setOther hne, setOther hne, setOther hne]
      exact hcob3.out.1 j
    obtain ⟨W4, hW4⟩ : ∃ W4, ((((W3.setCell ⟨b, 8, none⟩ (.int .i64 1)).setCell ⟨b, 9, none⟩ (.int .i64 0)).setCell ⟨b, 10, none⟩ (.int .i64 1)).setCell ⟨b, 11, none⟩ (.slice none 0 0)) = W4 := ⟨_, rfl⟩
    rw [hW4] at hF4 hcob4 ⊢
    have HF4 := Lib.hid hF4
    have r0 := (hF4.cell 0 _ rfl).1
    have r2 := (hF4.cell 2 _ rfl).1
    have r6 := (hF4.cell 6 _ rfl).1
    have hcE : W4.cell? ⟨ob, 8, none⟩ = some (.bool false) := (hcob4.out.1 8).trans hc
    have HACT := Lib.hid (fun W => action_any 1 (by decide) W)
    clear hW4 hF4 HF3 hcob3 hb4 hc
    go_still_tail 34, (by kernel_rfl)
    still_call (HACT.out _)
    repeat still_step
    try refine wpStill_nil ?_
    generalize hW5 : ({ heap := W4.heap, tape := W4.tape, drawn := W4.drawn + 1, os := W4.os, output := W4.output } : World) = W5
    have HF5 := Lib.hid (show FoldC W5 b _ _ _ _ _ _ _ _ _ _ _ _ from by rw [← hW5]; exact ⟨HF4.out.blk⟩)
    have hcob5 : Hid ((∀ j, W5.cell? ⟨ob, j, none⟩ = w.cell? ⟨ob, j, none⟩) ∧ Below b w W5) := by rw [← hW5]; exact ⟨hcob4.out.1, hcob4.out.2.os, hcob4.out.2.tape, hcob4.out.2.output, hcob4.out.2.size, hcob4.out.2.block⟩
    clear hW5 HF4 hcob4 hcE r0 r2 r6
    have c12 := (HF5.out.cell 12 _ rfl).1
    have f12 := (HF5.out.cell 12 _ rfl).2
    have c2 := (HF5.out.cell 2 _ rfl).1
    have f2 := (HF5.out.cell 2 _ rfl).2
    have c3 := (HF5.out.cell 3 _ rfl).1
    have f3 := (HF5.out.cell 3 _ rfl).2
    go_wp2
    go_end0
    exact ⟨rfl, ⟨setRow (setRow (setRow HF5.out.blk _) _) _⟩, fun j => by rw [setOther hne, setOther hne, setOther hne]; exact hcob5.out.1 j, (((hcob5.out.2.setCell (Nat.le_refl _) _).setCell (Nat.le_refl _) _).setCell (Nat.le_refl _) _)⟩
  · go_quiet (fail)
    obtain ⟨W3, hW3⟩ : ∃ W3, W2.drewN nq = W3 := ⟨_, rfl⟩
    have HF3 := Lib.hid (show FoldC (W2.drewN nq) b _ _ _ _ _ _ _ _ _ _ _ _ from ⟨HF2.out.blk⟩)
    have hcob3 : Hid ((∀ j, (W2.drewN nq).cell? ⟨ob, j, none⟩ = w.cell? ⟨ob, j, none⟩) ∧ Below b w (W2.drewN nq)) := ⟨hcob2.out.1, hcob2.out.2.os, hcob2.out.2.tape, hcob2.out.2.output, hcob2.out.2.size, hcob2.out.2.block⟩
    rw [hW3] at HF3 hcob3 ⊢
    have m4 := (HF3.out.cell 4 _ rfl).1
    have m5 := (HF3.out.cell 5 _ rfl).1
    have m6 := (HF3.out.cell 6 _ rfl).1
    have m7 := (HF3.out.cell 7 _ rfl).1
    have m8 := (HF3.out.cell 8 _ rfl).1
    have m9 := (HF3.out.cell 9 _ rfl).1
    have m10 := (HF3.out.cell 10 _ rfl).1
    have m11 := (HF3.out.cell 11 _ rfl).1
    have p8 := (HF3.out.cell 8 _ rfl).2
    have p9 := (HF3.out.cell 9 _ rfl).2
    have p10 := (HF3.out.cell 10 _ rfl).2
    have p11 := (HF3.out.cell 11 _ rfl).2
    clear hW3 HF2 hcob2 g1 g3 g6
    go_wp2
    clear m4 m5 m6 m7 m8 m9 m10 m11 p8 p9 p10 p11
    have hb4 := setRow (j := 11) (setRow (j := 10) (setRow (j := 9) (setRow (j := 8) HF3.out.blk (.int .i64 0)) (.int .i64 0)) (.int .i64 2)) (.slice none 0 0)
    have hF4 : FoldC ((((W3.setCell ⟨b, 8, none⟩ (.int .i64 0)).setCell ⟨b, 9, none⟩ (.int .i64 0)).setCell ⟨b, 10, none⟩ (.int .i64 2)).setCell ⟨b, 11, none⟩ (.slice none 0 0)) b (.slice (some ⟨ob, 0, none⟩) 2 oc) (.int .i64 0) (.int .i64 1) (.int .i64 0) (.int .i64 0) (.int .i64 2) (.slice none 0 0) (.int .i64 0) (.int .i64 0) (.int .i64 2) (.slice none 0 0) (.bool false) := ⟨hb4⟩
    have hcob4 : Hid ((∀ j, ((((W3.setCell ⟨b, 8, none⟩ (.int .i64 0)).setCell ⟨b, 9, none⟩ (.int .i64 0)).setCell ⟨b, 10, none⟩ (.int .i64 2)).setCell ⟨b, 11, none⟩ (.slice none 0 0)).cell? ⟨ob, j, none⟩ = w.cell? ⟨ob, j, none⟩) ∧ Below b w ((((W3.setCell ⟨b, 8, none⟩ (.int .i64 0)).setCell ⟨b, 9, none⟩ (.int .i64 0)).setCell ⟨b, 10, none⟩ (.int .i64 2)).setCell ⟨b, 11, none⟩ (.slice none 0 0))) := by
      refine ⟨fun j => ?_, ((((hcob3.out.2.setCell (Nat.le_refl _) _).setCell (Nat.le_refl _) _).setCell (Nat.le_refl _) _).setCell (Nat.le_refl _) _)⟩
      rw [setOther hne, setOther hne, setOther hne, setOther hne]
      exact hcob3.out.1 j
    obtain ⟨W4, hW4⟩ : ∃ W4, ((((W3.setCell ⟨b, 8, none⟩ (.int .i64 0)).setCell ⟨b, 9, none⟩ (.int .i64 0)).setCell ⟨b, 10, none⟩ (.int .i64 2)).setCell ⟨b, 11, none⟩ (.slice none 0 0)) = W4 := ⟨_, rfl⟩
    rw [hW4] at hF4 hcob4 ⊢
    have HF4 := Lib.hid hF4
    have r0 := (hF4.cell 0 _ rfl).1
    have r2 := (hF4.cell 2 _ rfl).1
    have r6 := (hF4.cell 6 _ rfl).1
    have hcE : W4.cell? ⟨ob, 3, none⟩ = some (.bool false) := (hcob4.out.1 3).trans hc
    have HACT := Lib.hid (fun W => action_any 2 (by decide) W)
    clear hW4 hF4 HF3 hcob3 hb4 hc
    go_still_tail 34, (by kernel_rfl)
    still_call (HACT.out _)
    repeat still_step
    try refine wpStill_nil ?_
    generalize hW5 : ({ heap := W4.heap, tape := W4.tape, drawn := W4.drawn + 1, os := W4.os, output := W4.output } : World) = W5
    have HF5 := Lib.hid (show FoldC W5 b _ _ _ _ _ _ _ _ _ _ _ _ from by rw [← hW5]; exact ⟨HF4.out.blk⟩)
    have hcob5 : Hid ((∀ j, W5.cell? ⟨ob, j, none⟩ = w.cell? ⟨ob, j, none⟩) ∧ Below b w W5) := by rw [← hW5]; exact ⟨hcob4.out.1, hcob4.out.2.os, hcob4.out.2.tape, hcob4.out.2.output, hcob4.out.2.size, hcob4.out.2.block⟩
    clear hW5 HF4 hcob4 hcE r0 r2 r6
    have c12 := (HF5.out.cell 12 _ rfl).1
    have f12 := (HF5.out.cell 12 _ rfl).2
    have c2 := (HF5.out.cell 2 _ rfl).1
    have f2 := (HF5.out.cell 2 _ rfl).2
    have c3 := (HF5.out.cell 3 _ rfl).1
    have f3 := (HF5.out.cell 3 _ rfl).2
    go_wp2
    go_end0
    exact ⟨rfl, ⟨setRow (setRow (setRow HF5.out.blk _) _) _⟩, fun j => by rw [setOther hne, setOther hne, setOther hne]; exact hcob5.out.1 j, (((hcob5.out.2.setCell (Nat.le_refl _) _).setCell (Nat.le_refl _) _).setCell (Nat.le_refl _) _)⟩
end Go.Proofs.YtffjfggndfcfmaaDoor
