/- The library's contracts in the words of these texts (the world's name on the left). -/
import Derived.Test.YtffjfggndfcfmaaDoorDec
import Derived.Test.YtffjfggndfcfmaaDoorApp
import Derived.Test.YtffjfggndfcfmaaDoorShelf
namespace Go.Proofs.YtffjfggndfcfmaaDoor
open Go.RowKit

theorem lastIndex_any (s : ByteArray) (w : World) (hs : s.size ≤ 1000000) :
    Calls Tryd.prog 72 #[.string s, .int .u8 45] w fun e w' => e = .returned (.int .i64 (Pu.lastAt s.data.toList)) ∧ w = w' :=
  (Tryd.strings_LastIndexByte s 45 (by omega) w).mono fun _ _ h => ⟨by rw [← lastIndex_eq]; exact h.1, h.2.symm⟩
theorem equalFold_any (s t : ByteArray) (w : World) (hs : s.size ≤ 1000000) (h1 : ∀ b ∈ s.data.toList, b.toNat < 128) (h2 : ∀ b ∈ t.data.toList, b.toNat < 128) :
    Calls Tryd.prog 75 #[.string s, .string t] w fun e w' => e = .returned (.bool (Lib.equalFold s.data.toList t.data.toList)) ∧ w = w' :=
  (Tryd.strings_EqualFold s t w (by omega) (fun _ b h => h1 b (List.mem_of_getElem? h)) (fun _ b h => h2 b (List.mem_of_getElem? h))).mono fun _ _ h => ⟨h.1, h.2.symm⟩
theorem hasPrefix_any (s p : ByteArray) (w : World) :
    Calls Tryd.prog 46 #[.string s, .string p] w fun e w' => e = .returned (.bool (Lib.hasPrefix s.data.toList p.data.toList)) ∧ w = w' :=
  (Tryd.strings_HasPrefix s p w).mono fun _ _ h => ⟨h.1, h.2.symm⟩
theorem cutPrefix_any (s p : ByteArray) (w : World) :
    Calls Tryd.prog 60 #[.string s, .string p] w fun e w' => e = .returned (.tuple #[Lb.strV (Lib.trimPrefix s.data.toList p.data.toList), .bool (Lib.hasPrefix s.data.toList p.data.toList)]) ∧ w = w' :=
  (Tryd.strings_CutPrefix s p w).mono fun _ _ h => ⟨h.1, h.2.symm⟩
theorem cutSuffix_any (s p : ByteArray) (w : World) (hs : s.size ≤ 1000000) :
    Calls Tryd.prog 40 #[.string s, .string p] w fun e w' => e = .returned (.tuple #[Lb.strV (Lib.trimSuffix s.data.toList p.data.toList), .bool (Lib.hasSuffix s.data.toList p.data.toList)]) ∧ w = w' :=
  (Tryd.strings_CutSuffix s p w (by omega)).mono fun _ _ h => ⟨h.1, h.2.symm⟩
/-- The tables that utf8.ValidString reads lie in w. -/
def Tabs (w : World) : Prop := Lib.Utf8Tabs 1 2 w
theorem valid_any (s : ByteArray) (w : World) (hs : s.size ≤ 1000000) (hT : Tabs w) :
    Calls Tryd.prog 48 #[.string s] w fun e w' => e = .returned (.bool (Lib.validD s.data.toList)) ∧ Below w.heap.size w w' :=
  Tryd.utf8_ValidString s w (by omega) hT
end Go.Proofs.YtffjfggndfcfmaaDoor
