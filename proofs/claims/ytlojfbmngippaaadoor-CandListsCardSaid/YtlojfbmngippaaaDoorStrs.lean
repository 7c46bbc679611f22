/- A slice of strings that comes in, opened. -/
import Derived.Test.YtlojfbmngippaaaDoorSh
import Derived.Test.YtlojfbmngippaaaDoorKit
import Derived.SliceStrings
import Derived.ProofKit
namespace Go.Proofs.YtlojfbmngippaaaDoor
open Go.ChangeShapes Go.WideShapes Go.ChangeAt Go.RowKit
theorem cells_str : Tryd.prog.cellsOf 9 = 1 := by kernel_rfl
set_option maxRecDepth 100000 in
theorem strs_open {H : Type} {enc : TypeId × Value → H} {W : World} {base : Nat} {v : Value} {d : DataW H} {p : List MemPlace}
    (hv : Value.okWide Tryd.prog W .any base 27 v) (h : DataW.Trod enc Tryd.prog W 0 (fun _ => true) true 27 v d p) (hlt : ∀ x ∈ p, x.block < W.heap.size) :
    ∃ xs : List Lb.Bytes, StrsAt W v xs ∧ xs.length ≤ maxLen ∧ ∀ x ∈ xs, x.length ≤ maxLen := by
  obtain ⟨a0, len, cap, rfl⟩ := okWide_slice Tryd.underlying27 hv
  obtain ⟨fuel, hf⟩ := h
  rcases open_strings Tryd.underlying27 Tryd.underlying9 cells_str hf with ⟨hcs, hx⟩ | ⟨a, len', cap', ss, hcs, _, hl, hm, hz, hx, hcell, hws⟩
  · simp [Value.cells] at hcs
    obtain ⟨rfl, rfl, rfl⟩ := hcs
    exact ⟨[], .inl ⟨rfl, none, 0, rfl⟩, by simp, by intro x hx; cases hx⟩
  · simp [Value.cells] at hcs
    obtain ⟨rfl, rfl, rfl⟩ := hcs
    simp only [Prod.mk.injEq] at hx
    obtain ⟨rfl, rfl⟩ := hx
    simp only [if_true] at hz
    by_cases hl0 : len = 0
    · subst hl0
      exact ⟨[], .inl ⟨rfl, some a, cap, rfl⟩, by simp, by intro x hx; cases hx⟩
    · obtain ⟨b, off, spot⟩ := a
      have hspot : spot = none := by simpa [Addr.add] using World.cell?_spot (hcell 0 (by omega))
      subst hspot
      have hbW : b < W.heap.size := hlt (.cell b off) (MemPlace.mem_row.2 ⟨0, by omega, by simp⟩)
      have hlen : ((ss.take len).map (·.data.toList)).length = len := by rw [List.length_map, List.length_take]; omega
      refine ⟨(ss.take len).map (·.data.toList), .inr ⟨b, off, cap, by rw [hlen], hbW, ?_⟩, by rw [hlen]; omega, ?_⟩
      · intro j hj
        rw [hlen] at hj
        have := hcell j (by omega)
        rw [show (⟨b, off, none⟩ : Addr).add j = ⟨b, off + j, none⟩ by unfold Addr.add; split <;> simp_all] at this
        rw [this]
        have hjs : j < ss.length := by omega
        have e : ((ss.take len).map (·.data.toList)).getD j [] = ss[j].data.toList := by
          rw [List.getD_eq_getElem?_getD, List.getElem?_map, List.getElem?_take, if_pos hj, List.getElem?_eq_getElem hjs]; rfl
        rw [e, List.getD_eq_getElem?_getD, List.getElem?_eq_getElem hjs]
        show some (Value.string ss[j]) = some (Value.string (Lb.str ss[j].data.toList))
        rw [Lb.str_back]
      · intro x hx
        obtain ⟨s, hs, rfl⟩ := List.mem_map.1 hx
        exact hws s (List.mem_of_mem_take hs)
end Go.Proofs.YtlojfbmngippaaaDoor
