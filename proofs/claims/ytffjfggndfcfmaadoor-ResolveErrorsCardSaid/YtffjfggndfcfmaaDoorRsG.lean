/- The fold of package resolve: New, Reply, Resolve, and nomenclatorlaw16.fit. -/
import Derived.Test.YtffjfggndfcfmaaDoorRsF
namespace Go.Proofs.YtffjfggndfcfmaaDoor
open Go.RowKit
set_option linter.unusedVariables false
theorem src_info : (Tryd.prog.info? 59).map (fun i => (i.zero, i.size, i.bytes)) = some (some (.agg #[.int .i64 0, .bool false, .bool false, .bool false, .bool false, .bool false]), 6, 16) := by kernel_rfl
theorem row_has {w : World} {b : Nat} {C : Array Value} {t : TypeId} {fr : Nat × Nat} (h : w.heap[b]? = some (.cells C t fr)) (l : List Value) (hl : C.toList = l) :
    ∀ (j : Nat) (u : Value), l[j]? = some u → w.cell? ((⟨b, 0, none⟩ : Addr).add j) = some u := by
  intro j u hu
  rw [add_at, Nat.zero_add, cell_of_row w b j _ _ _ h, ← Array.getElem?_toList, hl]
  exact hu
theorem src_facts {w wz : World} {v' v0 : Value} {n : Nat} {xs : List Value} (hv0 : v0 = .slice none 0 0) (hown' : wz.ownsRow w.heap.size 59 6 v' (0 + 2) ([] ++ xs)) (h3 : xs[3]? = some (.bool false)) (h8 : xs[8]? = some (.bool false)) (hgrow : w.grownBy wz v0.ownBlock) :
    ∃ g c, v' = .slice (some ⟨g, 0, none⟩) 2 c ∧ w.heap.size ≤ g ∧ g < wz.heap.size ∧ wz.cell? ⟨g, 3, none⟩ = some (.bool false) ∧ wz.cell? ⟨g, 8, none⟩ = some (.bool false) ∧ Below w.heap.size w wz := by
  subst hv0
  have hb : Below w.heap.size w wz := (Below.refl w.heap.size w).grown hgrow (Nat.le_refl _) (fun g hg => by cases hg)
  rcases hown'.2 with ⟨_, h0⟩ | ⟨g, cap, cur, hv, hg, hh, hc1, hc2, hcs, ht⟩
  · omega
  · have hcell : ∀ j u, j < 12 → xs[j]? = some u → wz.cell? ⟨g, j, none⟩ = some u := by
      intro j u hj hu
      rw [cell_of_row wz g j _ _ _ hh, ← Array.getElem?_toList]
      have : (cur.toList.take ((0 + 2) * 6))[j]? = some u := by rw [ht]; simpa using hu
      rw [List.getElem?_take] at this
      simpa [hj] using this
    exact ⟨g, cap, hv, hg, lt_of_block hh, hcell 3 _ (by decide) h3, hcell 8 _ (by decide) h8, hb⟩
set_option maxRecDepth 20000 in
set_option maxHeartbeats 2000000 in
theorem new_any (ob : Nat) (w : World) (hb : w.heap[ob]? = some (.cells #[.int .i64 1, .bool false, .bool false, .bool false, .bool false, .bool false, .int .i64 2, .bool false, .bool false, .bool false, .bool false, .bool false] 59 (0, 0))) :
    Calls Tryd.prog 33 #[.slice (some ⟨ob, 0, none⟩) 2 2, .int .i64 1] w fun ev w' => ∃ b o c, ev = .returned (.pointer (some ⟨b, 0, none⟩)) ∧
      FoldC w' b (.slice (some ⟨o, 0, none⟩) 2 c) (.int .i64 0) (.int .i64 0) (.int .i64 0) (.int .i64 0) (.int .i64 0) (.slice none 0 0) (.int .i64 0) (.int .i64 0) (.int .i64 3) (.slice none 0 0) (.bool false) ∧
      w.heap.size ≤ o ∧ o < b ∧ w'.cell? ⟨o, 3, none⟩ = some (.bool false) ∧ w'.cell? ⟨o, 8, none⟩ = some (.bool false) ∧ Below w.heap.size w w' := by
  obtain ⟨i0, hi, hz0, hz1, hz2⟩ := info_parts src_info
  have HNEWS := Lib.hid (row_has hb _ rfl)
  have hbl := lt_of_block hb
  clear hb
  go_enter Tryd.func33, Tryd.ntmps33
  go_wp2_with (at_builtin; refine wpList_append_own _ rfl (.const (.slice none 0 0)) (.tmp 5) 60 rfl w.heap.size 59 i0 _ 6 16 Tryd.underlying60 hi hz0 hz1 hz2 rfl (by decide) _ 0 [] rfl (World.ownsRow_nil _ _ _ _) ⟨ob, 0, none⟩ 2 2 _ rfl rfl HNEWS.out (by decide) (by unfold maxLen; omega) (by omega) (Nat.le_refl _) ?_; intro v' wz hown' hgrow _; obtain ⟨g, c, hv', hgw, hgz, hg3, hg8, hbz⟩ := src_facts (n := 0) rfl hown' rfl rfl hgrow; subst hv'; clear hown' hgrow)
  go_ret
  refine ⟨wz.heap.size, rfl, g, ⟨c, ⟨heap_alloc_new _ _⟩⟩, hgw, hgz, ?_, ?_, ?_⟩
  · rw [World.cell?_alloc_past _ _ _ hgz]; exact hg3
  · rw [World.cell?_alloc_past _ _ _ hgz]; exact hg8
  · exact hbz.alloc hbz.size _
set_option maxRecDepth 20000 in
set_option maxHeartbeats 2000000 in
theorem reply_any (b : Nat) (order src cand a0 a1 a2 a3 over : Value) (x y z : Int) (w : World) (hF : FoldC w b order src cand a0 a1 a2 a3 (.int .i64 x) (.int .i64 y) (.int .i64 z) (.slice none 0 0) over) :
    Calls Tryd.prog 35 #[.pointer (some ⟨b, 0, none⟩)] w fun ev w' => ev = .returned (.agg #[.int .i64 x, .int .i64 y, .int .i64 z, .slice none 0 0]) ∧ Below w.heap.size w w' := by
  have hbl := lt_of_block hF.blk
  have c8 := (hF.cell 8 _ rfl).1
  have c9 := (hF.cell 9 _ rfl).1
  have c10 := (hF.cell 10 _ rfl).1
  have c11 := (hF.cell 11 _ rfl).1
  have n0 : ∀ (o : Obj) (j : Nat), (w.alloc o).cell? ⟨b, j, none⟩ = w.cell? ⟨b, j, none⟩ := fun o j => World.cell?_alloc_past _ _ _ hbl
  have d8 := fun o => (n0 o 8).trans c8
  have d9 := fun o => (n0 o 9).trans c9
  have d10 := fun o => (n0 o 10).trans c10
  have d11 := fun o => (n0 o 11).trans c11
  clear n0 c8 c9 c10 c11 hF
  go_enter Tryd.func35, Tryd.ntmps35
  go_wp2
  refine bodyPost_ret (v := .agg #[.int .i64 x, .int .i64 y, .int .i64 z, .slice none 0 0]) ?_ rfl ⟨rfl, (Below.refl w.heap.size w).alloc (Nat.le_refl _) _⟩
  unfold results
  simp only [show (Tryd.func35).results = #[.cell 2 29] from rfl]
  go_simp
set_option maxRecDepth 20000 in
set_option maxHeartbeats 4000000 in
theorem resolve_any (ob lb : Nat) (w : World) (hb : w.heap[ob]? = some (.cells #[.int .i64 1, .bool false, .bool false, .bool false, .bool false, .bool false, .int .i64 2, .bool false, .bool false, .bool false, .bool false, .bool false] 59 (0, 0)))
    (hl : w.heap[lb]? = some (.cells #[.int .i64 0, .int .i64 0, .int .i64 2, .slice none 0 0, .int .i64 0, .int .i64 0, .int .i64 1, .slice none 0 0] 29 (0, 0))) :
    Calls Tryd.prog 20 #[.slice (some ⟨ob, 0, none⟩) 2 2, .int .i64 1, .slice (some ⟨lb, 0, none⟩) 2 2] w fun ev w' => ev = .returned (.tuple #[.agg #[.int .i64 1, .int .i64 0, .int .i64 1, .slice none 0 0], .bool true]) ∧ Below w.heap.size w w' := by
  have hbl := lt_of_block hb
  have hll := lt_of_block hl
  have HNEW := Lib.hid (new_any ob (w.alloc (.cells #[.int .i64 0, .int .i64 0, .int .i64 0, .slice none 0 0] 29)) (((Below.refl w.heap.size w).alloc (Nat.le_refl _) _).block ob hbl |>.trans hb))
  have HL := Lib.hid hl
  clear hl hb
  go_enter Tryd.func20, Tryd.ntmps20
  go_wp2_with fail
  refine HNEW.out.mono ?_
  rintro _ W1 ⟨b, o, c, rfl, HF, ho1, ho2, h3, h8, hbel⟩
  have hB1 : Below w.heap.size w W1 := ((Below.refl w.heap.size w).alloc (Nat.le_refl _) _).trans (hbel.mono (by simp))
  have hl1 : W1.heap[lb]? = _ := (hB1.block lb hll).trans HL.out
  have hs1 := hB1.size
  have hob1 : w.heap.size + 1 ≤ o ∧ o < b := ⟨by simpa using ho1, ho2⟩
  have hr1 : W1.heap[w.heap.size]? = _ := (hbel.block w.heap.size (by simp)).trans (heap_alloc_new _ _)
  have hbW1 : b < W1.heap.size := lt_of_block HF.blk
  have HF1 := Lib.hid HF
  have HL1 := Lib.hid hl1
  have HR1 := Lib.hid hr1
  have HB1 := Lib.hid hB1
  have H3 := Lib.hid h3
  have H8 := Lib.hid h8
  clear HNEW HF hl1 hB1 h3 h8 hbel HL hr1 ho1 ho2
  go_wp2_with fail
  refine wp_loop_rounds 3 ?_
  have x0 : W1.cell? ⟨lb, 0, none⟩ = some (.int .i64 0) := by rw [cell_of_row _ _ _ _ _ _ HL1.out]; rfl
  have x1 : W1.cell? ⟨lb, 1, none⟩ = some (.int .i64 0) := by rw [cell_of_row _ _ _ _ _ _ HL1.out]; rfl
  have x2 : W1.cell? ⟨lb, 2, none⟩ = some (.int .i64 2) := by rw [cell_of_row _ _ _ _ _ _ HL1.out]; rfl
  have x3 : W1.cell? ⟨lb, 3, none⟩ = some (.slice none 0 0) := by rw [cell_of_row _ _ _ _ _ _ HL1.out]; rfl
  rw [rounds_succ]
  go_wp2_with fail
  clear x0 x1 x2 x3
  have HA1 := Lib.hid (show FoldC (W1.alloc (.cells #[.int .i64 0, .int .i64 0, .int .i64 2, .slice none 0 0] 29)) b _ _ _ _ _ _ _ _ _ _ _ _ from ⟨(Below.heap_alloc _ _ _ hbW1).trans HF1.out.blk⟩)
  refine (at_on b 0 0 _ (HA1.out.cell 12 _ rfl).1 (HA1.out.cell 2 _ rfl).1 (HA1.out.cell 3 _ rfl).1).mono ?_
  rintro _ _ ⟨rfl, n1, rfl⟩
  have hbA1 : Below W1.heap.size W1 ((W1.alloc (.cells #[.int .i64 0, .int .i64 0, .int .i64 2, .slice none 0 0] 29)).drewN n1) := by
    have h := (Below.refl W1.heap.size W1).alloc (Nat.le_refl _) (.cells #[.int .i64 0, .int .i64 0, .int .i64 2, .slice none 0 0] 29)
    exact ⟨h.os, h.tape, h.output, h.size, h.block⟩
  have hrow1 : ((W1.alloc (.cells #[.int .i64 0, .int .i64 0, .int .i64 2, .slice none 0 0] 29)).drewN n1).heap[W1.heap.size]? = some (.cells #[.int .i64 0, .int .i64 0, .int .i64 2, .slice none 0 0] 29) := heap_alloc_new _ _
  have hFA1 := HA1.out.blk
  have hFB1 : ((W1.alloc (.cells #[.int .i64 0, .int .i64 0, .int .i64 2, .slice none 0 0] 29)).drewN n1).heap[b]? = _ := hFA1
  obtain ⟨V1, hV1⟩ : ∃ V, (W1.alloc (.cells #[.int .i64 0, .int .i64 0, .int .i64 2, .slice none 0 0] 29)).drewN n1 = V := ⟨_, rfl⟩
  rw [hV1] at hbA1 hrow1 hFB1 ⊢
  have y0 : V1.cell? ⟨W1.heap.size, 0, none⟩ = some (.int .i64 0) := by rw [cell_of_row _ _ _ _ _ _ hrow1]; rfl
  have y1 : V1.cell? ⟨W1.heap.size, 1, none⟩ = some (.int .i64 0) := by rw [cell_of_row _ _ _ _ _ _ hrow1]; rfl
  have y2 : V1.cell? ⟨W1.heap.size, 2, none⟩ = some (.int .i64 2) := by rw [cell_of_row _ _ _ _ _ _ hrow1]; rfl
  have y3 : V1.cell? ⟨W1.heap.size, 3, none⟩ = some (.slice none 0 0) := by rw [cell_of_row _ _ _ _ _ _ hrow1]; rfl
  clear hV1 hrow1 hFA1 HA1
  have HFV1 := Lib.hid (show FoldC V1 b _ _ _ _ _ _ _ _ _ _ _ _ from ⟨hFB1⟩)
  have HBA1 := Lib.hid hbA1
  clear hbA1 hFB1
  go_wp2_with fail
  clear y0 y1 y2 y3
  refine (note_any b o c 0 2 (.inr ⟨rfl, rfl⟩) _ _ _ _ _ _ _ _ V1 HFV1.out (by omega) (by have := HBA1.out.size; omega) (((HBA1.out.cell (p := ⟨o, 3, none⟩) (by simp; omega))).trans H3.out)).mono ?_
  rintro _ W2 ⟨rfl, hf, hco, hbn⟩
  have HF2 := Lib.hid hf
  have hBst : Below b W1 W2 := (HBA1.out.mono (by omega)).trans hbn
  have hbW2 : b < W2.heap.size := by have := hBst.size; omega
  have HL2 := Lib.hid ((hBst.block lb (by omega)).trans HL1.out)
  have HR2 := Lib.hid ((hBst.block w.heap.size (by omega)).trans HR1.out)
  have HB2 := Lib.hid (HB1.out.trans (hBst.mono (by omega)))
  have H8b : Hid (W2.cell? ⟨o, 8, none⟩ = some (.bool false)) := (hBst.cell (p := ⟨o, 8, none⟩) hob1.2).trans H8.out
  clear hf hco hbn hBst HFV1 HBA1 HF1 HL1 HR1 HB1 hbW1
  go_wp2_with fail
  have x0 : W2.cell? ⟨lb, 4, none⟩ = some (.int .i64 0) := by rw [cell_of_row _ _ _ _ _ _ HL2.out]; rfl
  have x1 : W2.cell? ⟨lb, 5, none⟩ = some (.int .i64 0) := by rw [cell_of_row _ _ _ _ _ _ HL2.out]; rfl
  have x2 : W2.cell? ⟨lb, 6, none⟩ = some (.int .i64 1) := by rw [cell_of_row _ _ _ _ _ _ HL2.out]; rfl
  have x3 : W2.cell? ⟨lb, 7, none⟩ = some (.slice none 0 0) := by rw [cell_of_row _ _ _ _ _ _ HL2.out]; rfl
  rw [rounds_succ]
  go_wp2_with fail
  clear x0 x1 x2 x3
  have HA2 := Lib.hid (show FoldC (W2.alloc (.cells #[.int .i64 0, .int .i64 0, .int .i64 1, .slice none 0 0] 29)) b _ _ _ _ _ _ _ _ _ _ _ _ from ⟨(Below.heap_alloc _ _ _ hbW2).trans HF2.out.blk⟩)
  refine (at_on b 1 0 _ (HA2.out.cell 12 _ rfl).1 (HA2.out.cell 2 _ rfl).1 (HA2.out.cell 3 _ rfl).1).mono ?_
  rintro _ _ ⟨rfl, n2, rfl⟩
  have hbA2 : Below W2.heap.size W2 ((W2.alloc (.cells #[.int .i64 0, .int .i64 0, .int .i64 1, .slice none 0 0] 29)).drewN n2) := by
    have h := (Below.refl W2.heap.size W2).alloc (Nat.le_refl _) (.cells #[.int .i64 0, .int .i64 0, .int .i64 1, .slice none 0 0] 29)
    exact ⟨h.os, h.tape, h.output, h.size, h.block⟩
  have hrow2 : ((W2.alloc (.cells #[.int .i64 0, .int .i64 0, .int .i64 1, .slice none 0 0] 29)).drewN n2).heap[W2.heap.size]? = some (.cells #[.int .i64 0, .int .i64 0, .int .i64 1, .slice none 0 0] 29) := heap_alloc_new _ _
  have hFA2 := HA2.out.blk
  have hFB2 : ((W2.alloc (.cells #[.int .i64 0, .int .i64 0, .int .i64 1, .slice none 0 0] 29)).drewN n2).heap[b]? = _ := hFA2
  obtain ⟨V2, hV2⟩ : ∃ V, (W2.alloc (.cells #[.int .i64 0, .int .i64 0, .int .i64 1, .slice none 0 0] 29)).drewN n2 = V := ⟨_, rfl⟩
  rw [hV2] at hbA2 hrow2 hFB2 ⊢
  have y0 : V2.cell? ⟨W2.heap.size, 0, none⟩ = some (.int .i64 0) := by rw [cell_of_row _ _ _ _ _ _ hrow2]; rfl
  have y1 : V2.cell? ⟨W2.heap.size, 1, none⟩ = some (.int .i64 0) := by rw [cell_of_row _ _ _ _ _ _ hrow2]; rfl
  have y2 : V2.cell? ⟨W2.heap.size, 2, none⟩ = some (.int .i64 1) := by rw [cell_of_row _ _ _ _ _ _ hrow2]; rfl
  have y3 : V2.cell? ⟨W2.heap.size, 3, none⟩ = some (.slice none 0 0) := by rw [cell_of_row _ _ _ _ _ _ hrow2]; rfl
  clear hV2 hrow2 hFA2 HA2
  have HFV2 := Lib.hid (show FoldC V2 b _ _ _ _ _ _ _ _ _ _ _ _ from ⟨hFB2⟩)
  have HBA2 := Lib.hid hbA2
  clear hbA2 hFB2
  go_wp2_with fail
  clear y0 y1 y2 y3
  refine (note_any b o c 1 1 (.inl ⟨rfl, rfl⟩) _ _ _ _ _ _ _ _ V2 HFV2.out (by omega) (by have := HBA2.out.size; omega) (((HBA2.out.cell (p := ⟨o, 8, none⟩) (by simp; omega))).trans H8b.out)).mono ?_
  rintro _ W3 ⟨rfl, hf, hco, hbn⟩
  have HF3 := Lib.hid hf
  have hBst : Below b W2 W3 := (HBA2.out.mono (by omega)).trans hbn
  have hbW3 : b < W3.heap.size := by have := hBst.size; omega
  have HL3 := Lib.hid ((hBst.block lb (by omega)).trans HL2.out)
  have HR3 := Lib.hid ((hBst.block w.heap.size (by omega)).trans HR2.out)
  have HB3 := Lib.hid (HB2.out.trans (hBst.mono (by omega)))
  clear hf hco hbn hBst HFV2 HBA2 HF2 HL2 HR2 HB2 hbW2
  go_wp2_with fail
  rw [rounds_succ]
  go_wp2_with fail
  refine (at_over b W3 (HF3.out.cell 12 _ rfl).1).mono ?_
  rintro _ _ ⟨rfl, rfl⟩
  go_wp2_with fail
  refine (reply_any b _ _ _ _ _ _ _ _ 1 0 1 _ HF3.out).mono ?_
  rintro _ W4 ⟨rfl, hb4⟩
  have hr4 : W4.heap[w.heap.size]? = _ := (hb4.block w.heap.size (by omega)).trans HR3.out
  have f0 : W4.frozen? ⟨w.heap.size, 0, none⟩ = false := by unfold World.frozen?; rw [hr4]; rfl
  have f1 : W4.frozen? ⟨w.heap.size, 1, none⟩ = false := by unfold World.frozen?; rw [hr4]; rfl
  have f2 : W4.frozen? ⟨w.heap.size, 2, none⟩ = false := by unfold World.frozen?; rw [hr4]; rfl
  have f3 : W4.frozen? ⟨w.heap.size, 3, none⟩ = false := by unfold World.frozen?; rw [hr4]; rfl
  have z0 : W4.cell? ⟨w.heap.size, 0, none⟩ = some (.int .i64 0) := by rw [cell_of_row _ _ _ _ _ _ hr4]; rfl
  have z1 : W4.cell? ⟨w.heap.size, 1, none⟩ = some (.int .i64 0) := by rw [cell_of_row _ _ _ _ _ _ hr4]; rfl
  have z2 : W4.cell? ⟨w.heap.size, 2, none⟩ = some (.int .i64 0) := by rw [cell_of_row _ _ _ _ _ _ hr4]; rfl
  have z3 : W4.cell? ⟨w.heap.size, 3, none⟩ = some (.slice none 0 0) := by rw [cell_of_row _ _ _ _ _ _ hr4]; rfl
  have HB4 := Lib.hid (HB3.out.trans (hb4.mono (by have := HB3.out.size; omega)))
  clear hr4 hb4 HR3 HF3 HL3 HB3 H3 H8 H8b
  go_wp2_with fail
  have HB5 := (((HB4.out.setCell (p := ⟨w.heap.size, 0, none⟩) (Nat.le_refl _) (.int .i64 1)).setCell (p := ⟨w.heap.size, 1, none⟩) (Nat.le_refl _) (.int .i64 0)).setCell (p := ⟨w.heap.size, 2, none⟩) (Nat.le_refl _) (.int .i64 1)).setCell (p := ⟨w.heap.size, 3, none⟩) (Nat.le_refl _) (.slice none 0 0)
  refine bodyPost_ret (v := .tuple #[.agg #[.int .i64 1, .int .i64 0, .int .i64 1, .slice none 0 0], .bool true]) ?_ rfl ⟨rfl, HB5⟩
  unfold results
  simp only [show (Tryd.func20).results = #[.cell 6 29, .tmp 7] from rfl]
  go_simp
theorem below_alloc2 (w : World) (A B : Obj) : Below w.heap.size w ((w.alloc A).alloc B) := ((Below.refl w.heap.size w).alloc (Nat.le_refl _) A).alloc (by simp) B
theorem alloc2_fst (w : World) (A B : Obj) : ((w.alloc A).alloc B).heap[w.heap.size]? = some A := (Below.heap_alloc _ _ _ (by simp)).trans (heap_alloc_new _ _)
theorem alloc2_snd (w : World) (A B : Obj) : ((w.alloc A).alloc B).heap[w.heap.size + 1]? = some B := by
  have h := heap_alloc_new (w.alloc A) B
  simpa using h
set_option maxRecDepth 20000 in
set_option maxHeartbeats 4000000 in
theorem fit16_any (w : World) : Calls Tryd.prog 8 #[] w fun ev w' => ev = .returned (.bool true) ∧ Below w.heap.size w w' := by
  go_enter Tryd.func8, Tryd.ntmps8
  go_wp2_with fail
  refine (resolve_any w.heap.size (w.heap.size + 1) _ (alloc2_fst _ _ _) (alloc2_snd _ _ _)).mono ?_
  rintro _ W2 ⟨rfl, hb2⟩
  have HB2 := Lib.hid ((below_alloc2 w _ _).trans (hb2.mono (by simp; omega)))
  clear hb2
  go_wp2_with fail
  go_ret
  exact ⟨rfl, HB2.out.alloc HB2.out.size _⟩
end Go.Proofs.YtffjfggndfcfmaaDoor
