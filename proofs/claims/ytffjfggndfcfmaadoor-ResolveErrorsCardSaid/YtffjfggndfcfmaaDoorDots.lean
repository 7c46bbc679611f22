/- name.Dots, walked; a world that has drawn. -/
import Derived.Test.YtffjfggndfcfmaaDoorEaA
import Derived.Deep.QuietTactic
import Derived.BigQuiet
namespace Go.Proofs.YtffjfggndfcfmaaDoor
open Go.RowKit
set_option linter.unusedVariables false
theorem below_drewN2 {B : Nat} {a w : World} (h : Below B a w) (n : Nat) : Below B a (w.drewN n) := h.trans ⟨rfl, rfl, rfl, Nat.le_refl _, fun _ _ => rfl⟩
theorem countByte_46 (l : Lb.Bytes) : Lib.countByte l 46 = l.count 46 := by
  unfold Lib.countByte
  first | rfl | (rw [List.count_eq_countP, List.countP_eq_length_filter])
theorem dots_any (s : ByteArray) (w : World) (hs : s.size ≤ 1000000) :
    Calls Tryd.prog 19 #[.string s] w fun e w' => e = .returned (.int .i64 (s.data.toList.count 46)) ∧ w = w' := by
  have hcb := Tryd.strings_Count_one s 46 w
  rw [countByte_46] at hcb
  obtain ⟨c, hc⟩ : ∃ c, s.data.toList.count 46 = c := ⟨_, rfl⟩
  rw [hc] at hcb ⊢
  have HCB := Lib.hid hcb
  clear hc hcb
  go_enter Tryd.func19, Tryd.ntmps19
  go_wp2_with fail
  refine HCB.out.mono ?_
  rintro e w' ⟨rfl, rfl⟩
  go_wp2_with fail
  go_ret
  exact ⟨rfl, rfl⟩
end Go.Proofs.YtffjfggndfcfmaaDoor
