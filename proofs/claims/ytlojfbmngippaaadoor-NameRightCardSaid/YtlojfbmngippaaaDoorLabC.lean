/- The walk of label.Count. -/
import Derived.Test.YtlojfbmngippaaaDoorLabW
namespace Go.Proofs.YtlojfbmngippaaaDoor
open Go.RowKit

set_option maxHeartbeats 400000 in
theorem count_any (s : ByteArray) (w : World) (hs : s.size ≤ 1000000) :
    Calls Tryd.prog 24 #[.string s] w fun e w' => e = .returned (.int .i64 (Lb.count s.data.toList)) ∧ Below w.heap.size w w' := by
  have hlen := Lb.split_length_le s.data.toList
  by_cases h : s.data.toList = [46]
  · have h1 : (s.toList == [46]) = true := by rw [str_eq_iff, h]; rfl
    have hr : Lb.count s.data.toList = 0 := by unfold Lb.count; rw [if_pos h]
    rw [hr]
    clear hr h
    go_enter Tryd.func24, Tryd.ntmps24
    go_wp2
    go_ret
    exact ⟨rfl, Below.refl _ _⟩
  · have h1 : (s.toList == [46]) = false := by rw [str_eq_iff]; simpa using h
    have hr : Lb.count s.data.toList = (Lb.split s.data.toList).length := by unfold Lb.count; rw [if_neg h]
    rw [hr]
    clear hr h
    go_enter Tryd.func24, Tryd.ntmps24
    go_wp2_with (go_at_call 22; refine (split_any _ _ hs).mono ?_; rintro e w1 ⟨v, rfl, hown, hbel⟩; obtain ⟨A, c, rfl⟩ := own_len hown)
    go_ret
    exact ⟨rfl, hbel⟩
end Go.Proofs.YtlojfbmngippaaaDoor
