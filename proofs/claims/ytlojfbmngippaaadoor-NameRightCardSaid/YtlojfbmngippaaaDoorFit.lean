/- nomenclatorlaw03.fit: what it asks is so. -/
import Derived.Test.YtlojfbmngippaaaDoorEaW
import Derived.Test.YtlojfbmngippaaaDoorLabC
namespace Go.Proofs.YtlojfbmngippaaaDoor
open Go.RowKit

def bIn : Lb.Bytes := [66, 195, 188, 99, 104, 101, 114, 46, 68, 69, 46]
def bAsc : Lb.Bytes := [120, 110, 45, 45, 98, 99, 104, 101, 114, 45, 107, 118, 97, 46, 100, 101]
def bUni : Lb.Bytes := [98, 195, 188, 99, 104, 101, 114, 46, 100, 101]
theorem fit_asc : Nm.toASCII bIn = (bAsc, 0) := by kernel_rfl
theorem fit_uni : Nm.toUnicode bAsc = (bUni, 0) := by kernel_rfl
theorem bAsc_count : Lb.count bAsc = 2 := by kernel_rfl
set_option maxRecDepth 20000 in
theorem fit_any (w : World) (hT : Tabs w) :
    Calls Tryd.prog 15 #[] w fun e w' => e = .returned (.bool true) ∧ Below w.heap.size w w' := by
  go_enter Tryd.func15, Tryd.ntmps15
  go_wp2_with fail
  refine (toASCII_any (Lb.str bIn) w hT (by decide)).mono ?_
  rintro e w1 ⟨rfl, hb1⟩
  rw [Lb.str_toList, fit_asc]
  have hT1 := hT.below hb1 (Nat.le_refl _)
  obtain ⟨A, hA⟩ : ∃ A, Lb.str bAsc = A := ⟨_, rfl⟩
  have hAl : A.toList = bAsc := by rw [Lib.toList_data, ← hA]; rfl
  rw [show Lb.strV (bAsc, 0).1 = .string A by rw [← hA]; rfl, show (((bAsc, 0) : Lb.Bytes × Nat).2 : Int) = 0 from rfl]
  go_wp2_with fail
  refine (toUnicode_any (Lb.str bAsc) w1 hT1 (by decide)).mono ?_
  rintro e w2 ⟨rfl, hb2⟩
  have hb3 := below_chain hb1 hb2 (Nat.le_refl _)
  rw [Lb.str_toList, fit_uni]
  obtain ⟨U, hU⟩ : ∃ U, Lb.str bUni = U := ⟨_, rfl⟩
  have hUl : U.toList = bUni := by rw [Lib.toList_data, ← hU]; rfl
  rw [show Lb.strV (bUni, 0).1 = .string U by rw [← hU]; rfl, show (((bUni, 0) : Lb.Bytes × Nat).2 : Int) = 0 from rfl]
  have hq1 : (A.toList == [120, 110, 45, 45, 98, 99, 104, 101, 114, 45, 107, 118, 97, 46, 100, 101]) = true := by rw [hAl]; rfl
  have hq2 : (U.toList == [98, 195, 188, 99, 104, 101, 114, 46, 100, 101]) = true := by rw [hUl]; rfl
  have hcnt := count_any A w2 (by rw [← hA]; decide)
  rw [← Lib.toList_data, hAl, bAsc_count] at hcnt
  have HC := Lib.hid hcnt
  clear hcnt hAl hUl hA hU
  go_wp2_with fail
  refine HC.out.mono ?_
  rintro e w3 ⟨rfl, hb4⟩
  have hb5 := below_chain hb3 hb4 (Nat.le_refl _)
  rw [show ((2 : Nat) : Int) = 2 from rfl]
  go_wp2_with fail
  go_ret
  exact ⟨rfl, hb5⟩
end Go.Proofs.YtlojfbmngippaaaDoor
