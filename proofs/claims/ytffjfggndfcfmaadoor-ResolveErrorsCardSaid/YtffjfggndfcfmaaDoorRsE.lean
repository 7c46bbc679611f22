/- nomenclatorlaw16.ResolveErrors walked. -/
import Derived.Test.YtffjfggndfcfmaaDoorRsG
namespace Go.Proofs.YtffjfggndfcfmaaDoor
open Go.RowKit
set_option linter.unusedVariables false
theorem below_alloc4 (w : World) (A B C D : Obj) : Below w.heap.size w ((((w.alloc A).alloc B).alloc C).alloc D) := ((((Below.refl w.heap.size w).alloc (Nat.le_refl _) A).alloc (by simp) B).alloc (by simp; omega) C).alloc (by simp; omega) D
set_option maxRecDepth 20000 in
set_option maxHeartbeats 2000000 in
theorem re_long (n : Int) (s : ByteArray) (w : World) (hs : 300 < s.size) : Calls Tryd.prog 3 #[.int .i64 n, .string s] w fun ev w' => ev = .returned (.bool true) ∧ Below w.heap.size w w' := by
  have h1 : (300 : Int) < (s.size : Int) := by omega
  go_enter Tryd.func3, Tryd.ntmps3
  go_wp2_with fail
  refine (fit16_any w).mono ?_
  rintro _ w1 ⟨rfl, hb1⟩
  go_wp2_with fail
  go_ret
  exact ⟨rfl, hb1⟩
set_option maxRecDepth 20000 in
set_option maxHeartbeats 2000000 in
theorem re_ok (n : Int) (s : ByteArray) (w : World) (hs : s.size ≤ 300) (hk : 1 + n % 256 % 5 = 1) : Calls Tryd.prog 3 #[.int .i64 n, .string s] w fun ev w' => ev = .returned (.bool true) ∧ Below w.heap.size w w' := by
  have h1 : ¬ (300 : Int) < (s.size : Int) := by omega
  have hK := fun W => kind_any n W
  rw [hk] at hK
  have HK := Lib.hid hK
  clear hK hk
  go_enter Tryd.func3, Tryd.ntmps3
  go_wp2_with fail
  refine (fit16_any w).mono ?_
  rintro _ w1 ⟨rfl, hb1⟩
  have HB1 := Lib.hid hb1
  clear hb1
  go_wp2_with fail
  refine (HK.out w1).mono ?_
  rintro _ _ ⟨rfl, rfl⟩
  go_wp2_with fail
  refine (error_ok s _).mono ?_
  rintro _ w2 ⟨rfl, hb2⟩
  have HB2 := Lib.hid (HB1.out.trans (hb2.mono HB1.out.size))
  clear hb2 HB1
  go_wp2_with fail
  refine (number_nil _).mono ?_
  rintro _ _ ⟨rfl, rfl⟩
  go_wp2_with fail
  go_ret
  exact ⟨rfl, HB2.out.alloc HB2.out.size _⟩
set_option maxRecDepth 20000 in
set_option maxHeartbeats 8000000 in
theorem re_some (n : Int) (s : ByteArray) (w : World) (hs : s.size ≤ 300) (k e : Nat) (h : (k = 2 ∧ e = 9) ∨ (k = 3 ∧ e = 12) ∨ (k = 4 ∧ e = 11) ∨ (k = 5 ∧ e = 10)) (hk : 1 + n % 256 % 5 = (k : Int)) (hg : ErrTy w) : Calls Tryd.prog 3 #[.int .i64 n, .string s] w fun ev w' => ev = .returned (.bool true) ∧ Below w.heap.size w w' := by
  have h1 : ¬ (300 : Int) < (s.size : Int) := by omega
  have hK := fun W => kind_any n W
  rw [hk] at hK
  have HK := Lib.hid hK
  have HE := Lib.hid (fun W => error_any s k e h W)
  have hp := hg.pos
  have HG := Lib.hid hg
  clear hK hk hg
  rcases h with ⟨rfl, rfl⟩ | ⟨rfl, rfl⟩ | ⟨rfl, rfl⟩ | ⟨rfl, rfl⟩
  · have HEE := Lib.hid (fun W => errnoError_any 9 (by decide) W)
    have hz := errTxt_size 9 (by decide)
    have HWE := Lib.hid (fun b W h0 h1 => whyError_any b s 9 (by decide) W (by omega) h0 h1)
    obtain ⟨T, hT⟩ : ∃ T, errTxt 9 = T := ⟨_, rfl⟩
    rw [hT] at HEE hz HWE
    clear hT
    go_enter Tryd.func3, Tryd.ntmps3
    go_wp2_with fail
    refine (fit16_any w).mono ?_
    rintro _ w1 ⟨rfl, hb1⟩
    have HB1 := Lib.hid hb1
    clear hb1
    go_wp2_with fail
    refine (HK.out w1).mono ?_
    rintro _ _ ⟨rfl, rfl⟩
    go_wp2_with fail
    refine (HE.out _).mono ?_
    rintro _ w2 ⟨b, rfl, hbl, c0, c1, hb2⟩
    have HB2 := Lib.hid (HB1.out.trans (hb2.mono HB1.out.size))
    have HC0 := Lib.hid c0
    have HC1 := Lib.hid c1
    clear hb2 HB1 c0 c1
    go_wp2_with fail
    refine (number_why b 9 _ ((World.cell?_alloc_past _ _ _ hbl).trans HC1.out)).mono ?_
    rintro _ _ ⟨rfl, rfl⟩
    go_wp2_with fail
    obtain ⟨W3, hW3⟩ : ∃ W3, ((w2.alloc (.cells #[.int .i64 0, .int .i64 0, .int .i64 9, .int .i64 12, .int .i64 11, .int .i64 10] 30)).alloc (.cells #[.pointer none] 33)) = W3 := ⟨_, rfl⟩
    rw [hW3]
    have hb3 : Below w2.heap.size w2 W3 := by rw [← hW3]; exact below_alloc2 _ _ _
    have hr3 : W3.heap[w2.heap.size + 1]? = some (.cells #[.pointer none] 33 (0, 0)) := by rw [← hW3]; exact alloc2_snd _ _ _
    have hlt3 : w2.heap.size + 1 < W3.heap.size := lt_of_block hr3
    have HB3 := Lib.hid (HB2.out.trans (hb3.mono HB2.out.size))
    have HG3 : Hid (ErrTy W3) := HG.out.below HB3.out hp
    have HD0 := Lib.hid ((hb3.cell (p := ⟨b, 0, none⟩) hbl).trans HC0.out)
    have HD1 := Lib.hid ((hb3.cell (p := ⟨b, 0 + 1, none⟩) hbl).trans HC1.out)
    have HR3 := Lib.hid hr3
    have hs2 := HB2.out.size
    clear hW3 hb3 hr3 HC0 HC1 HB2 HK HE HG
    refine (is_any b 0 9 9 true (by decide) W3 HD1.out).mono ?_
    rintro _ W3 ⟨rfl, rfl⟩
    go_wp2_with fail
    refine (is_any b 0 9 7 false (by decide) W3 HD1.out).mono ?_
    rintro _ W3 ⟨rfl, rfl⟩
    go_wp2_with fail
    refine (as_why ⟨w2.heap.size + 1, 0, none⟩ ⟨b, 0, none⟩ (.pointer none) W3 HG3.out (by rw [cell_of_row _ _ _ _ _ _ HR3.out]; rfl) (by unfold World.frozen?; rw [HR3.out]; rfl)).mono ?_
    rintro _ W4 ⟨rfl, hW4⟩
    obtain ⟨Wx, hWx⟩ : ∃ Wx, ((((W3.alloc (.cells #[.pointer (some ⟨w2.heap.size + 1, 0, none⟩)] 36)).alloc (.cells #[.pointer (some ⟨10, 36, none⟩), .pointer (some ⟨W3.heap.size, 0, none⟩), .int .u64 150] 75)).alloc (.cells #[.pointer (some ⟨10, 36, none⟩), .pointer (some ⟨W3.heap.size, 0, none⟩), .int .u64 150] 75)).alloc (.cells #[.pointer (some ⟨b, 0, none⟩)] 33)) = Wx := ⟨_, rfl⟩
    rw [hWx] at hW4
    have hbx : Below W3.heap.size W3 Wx := by rw [← hWx]; exact below_alloc4 _ _ _ _ _
    have hb4 : Below w2.heap.size W3 W4 := by rw [hW4]; exact (hbx.mono (by omega)).setCell (p := ⟨w2.heap.size + 1, 0, none⟩) (by simp) _
    have hr4 : W4.heap[w2.heap.size + 1]? = some (.cells #[.pointer (some ⟨b, 0, none⟩)] 33 (0, 0)) := by rw [hW4]; exact setRow ((hbx.block _ hlt3).trans HR3.out) _
    have hv4 : W4.cell? ⟨w2.heap.size + 1, 0, none⟩ = some (.pointer (some ⟨b, 0, none⟩)) := by rw [cell_of_row _ _ _ _ _ _ hr4]; rfl
    have e0 := (hb4.cell (p := ⟨b, 0, none⟩) hbl).trans HD0.out
    have e1 := (hb4.cell (p := ⟨b, 0 + 1, none⟩) hbl).trans HD1.out
    have HB4 := Lib.hid (HB3.out.trans (hb4.mono hs2))
    have HG4 : Hid (ErrTy W4) := HG3.out.below (hb4.mono hs2) hp
    have hs4 := hb4.size
    have HE1 := Lib.hid e1
    have HV4 := Lib.hid hv4
    have mE := rsMethodError33
    clear hW4 hWx hbx hr4 hb4 HB3 HG3 HD0 HD1 HR3 e1
    go_wp2_with fail
    refine (HWE.out b W4 e0 HE1.out).mono ?_
    rintro _ W5 ⟨rfl, n5, hW5⟩
    have hv5 : W5.cell? ⟨w2.heap.size + 1, 0, none⟩ = some (.pointer (some ⟨b, 0, none⟩)) := by rw [hW5]; exact HV4.out
    have HE5 : Hid (W5.cell? ⟨b, 0 + 1, none⟩ = some (.iface 30 (.int .i64 (((9 : Nat)) : Int)))) := by rw [hW5]; exact HE1.out
    have HB5 : Hid (Below w.heap.size w W5) := by rw [hW5]; exact ⟨HB4.out.os, HB4.out.tape, HB4.out.output, HB4.out.size, HB4.out.block⟩
    have HG5 : Hid (ErrTy W5) := by rw [hW5]; exact HG4.out
    have hbl5 : b < W5.heap.size := by rw [hW5]; show b < W4.heap.size; omega
    have hS : (s ++ ⟨#[58, 32]⟩).size ≤ 302 := by rw [ByteArray.size_append]; show s.size + 2 ≤ 302; omega
    clear hW5 e0 HE1 HB4 HG4 mE HV4 hv4 HWE
    go_wp2_with fail
    refine (HEE.out W5).mono ?_
    rintro _ W5 ⟨rfl, rfl⟩
    go_wp2_with fail
    refine (unwrap_any b 0 _ W5 HE5.out).mono ?_
    rintro _ W5 ⟨rfl, rfl⟩
    go_wp2_with fail
    refine (number_errno 9 W5 HG5.out).mono ?_
    rintro _ W6 ⟨rfl, hb6⟩
    have HB6 := Lib.hid (HB5.out.trans (hb6.mono HB5.out.size))
    have HE6 := Lib.hid ((hb6.cell (p := ⟨b, 0 + 1, none⟩) hbl5).trans HE5.out)
    have HG6 : Hid (ErrTy W6) := HG5.out.below (hb6.mono HB5.out.size) hp
    have hbl6 : b < W6.heap.size := by have := hb6.size; omega
    clear hb6 HE5 HB5 HG5
    go_wp2_with fail
    have hw7 : Below W6.heap.size W6 (W6.alloc (.cells #[.string s, .iface 33 (.pointer (some ⟨b, 0, none⟩))] 38)) := (Below.refl W6.heap.size W6).alloc (Nat.le_refl _) _
    refine (number_chain W6.heap.size b 9 _ (HG6.out.below (hw7.mono (Nat.le_refl _)) (by have := HB6.out.size; omega)) (by simp) (by simp; omega) (by rw [cell_of_row _ _ _ _ _ _ (heap_alloc_new _ _)]; rfl) ((hw7.cell (p := ⟨b, 0 + 1, none⟩) hbl6).trans HE6.out)).mono ?_
    rintro _ W8 ⟨rfl, hb8⟩
    have HB8 := Lib.hid ((HB6.out.trans (hw7.mono HB6.out.size)).trans (hb8.mono (by have := HB6.out.size; simp; omega)))
    clear hb8 hw7 HB6 HE6 HG6
    go_wp2_with fail
    go_ret
    exact ⟨rfl, HB8.out⟩
  · have HEE := Lib.hid (fun W => errnoError_any 12 (by decide) W)
    have hz := errTxt_size 12 (by decide)
    have HWE := Lib.hid (fun b W h0 h1 => whyError_any b s 12 (by decide) W (by omega) h0 h1)
    obtain ⟨T, hT⟩ : ∃ T, errTxt 12 = T := ⟨_, rfl⟩
    rw [hT] at HEE hz HWE
    clear hT
    go_enter Tryd.func3, Tryd.ntmps3
    go_wp2_with fail
    refine (fit16_any w).mono ?_
    rintro _ w1 ⟨rfl, hb1⟩
    have HB1 := Lib.hid hb1
    clear hb1
    go_wp2_with fail
    refine (HK.out w1).mono ?_
    rintro _ _ ⟨rfl, rfl⟩
    go_wp2_with fail
    refine (HE.out _).mono ?_
    rintro _ w2 ⟨b, rfl, hbl, c0, c1, hb2⟩
    have HB2 := Lib.hid (HB1.out.trans (hb2.mono HB1.out.size))
    have HC0 := Lib.hid c0
    have HC1 := Lib.hid c1
    clear hb2 HB1 c0 c1
    go_wp2_with fail
    refine (number_why b 12 _ ((World.cell?_alloc_past _ _ _ hbl).trans HC1.out)).mono ?_
    rintro _ _ ⟨rfl, rfl⟩
    go_wp2_with fail
    obtain ⟨W3, hW3⟩ : ∃ W3, ((w2.alloc (.cells #[.int .i64 0, .int .i64 0, .int .i64 9, .int .i64 12, .int .i64 11, .int .i64 10] 30)).alloc (.cells #[.pointer none] 33)) = W3 := ⟨_, rfl⟩
    rw [hW3]
    have hb3 : Below w2.heap.size w2 W3 := by rw [← hW3]; exact below_alloc2 _ _ _
    have hr3 : W3.heap[w2.heap.size + 1]? = some (.cells #[.pointer none] 33 (0, 0)) := by rw [← hW3]; exact alloc2_snd _ _ _
    have hlt3 : w2.heap.size + 1 < W3.heap.size := lt_of_block hr3
    have HB3 := Lib.hid (HB2.out.trans (hb3.mono HB2.out.size))
    have HG3 : Hid (ErrTy W3) := HG.out.below HB3.out hp
    have HD0 := Lib.hid ((hb3.cell (p := ⟨b, 0, none⟩) hbl).trans HC0.out)
    have HD1 := Lib.hid ((hb3.cell (p := ⟨b, 0 + 1, none⟩) hbl).trans HC1.out)
    have HR3 := Lib.hid hr3
    have hs2 := HB2.out.size
    clear hW3 hb3 hr3 HC0 HC1 HB2 HK HE HG
    refine (is_any b 0 12 12 true (by decide) W3 HD1.out).mono ?_
    rintro _ W3 ⟨rfl, rfl⟩
    go_wp2_with fail
    refine (is_any b 0 12 7 false (by decide) W3 HD1.out).mono ?_
    rintro _ W3 ⟨rfl, rfl⟩
    go_wp2_with fail
    refine (as_why ⟨w2.heap.size + 1, 0, none⟩ ⟨b, 0, none⟩ (.pointer none) W3 HG3.out (by rw [cell_of_row _ _ _ _ _ _ HR3.out]; rfl) (by unfold World.frozen?; rw [HR3.out]; rfl)).mono ?_
    rintro _ W4 ⟨rfl, hW4⟩
    obtain ⟨Wx, hWx⟩ : ∃ Wx, ((((W3.alloc (.cells #[.pointer (some ⟨w2.heap.size + 1, 0, none⟩)] 36)).alloc (.cells #[.pointer (some ⟨10, 36, none⟩), .pointer (some ⟨W3.heap.size, 0, none⟩), .int .u64 150] 75)).alloc (.cells #[.pointer (some ⟨10, 36, none⟩), .pointer (some ⟨W3.heap.size, 0, none⟩), .int .u64 150] 75)).alloc (.cells #[.pointer (some ⟨b, 0, none⟩)] 33)) = Wx := ⟨_, rfl⟩
    rw [hWx] at hW4
    have hbx : Below W3.heap.size W3 Wx := by rw [← hWx]; exact below_alloc4 _ _ _ _ _
    have hb4 : Below w2.heap.size W3 W4 := by rw [hW4]; exact (hbx.mono (by omega)).setCell (p := ⟨w2.heap.size + 1, 0, none⟩) (by simp) _
    have hr4 : W4.heap[w2.heap.size + 1]? = some (.cells #[.pointer (some ⟨b, 0, none⟩)] 33 (0, 0)) := by rw [hW4]; exact setRow ((hbx.block _ hlt3).trans HR3.out) _
    have hv4 : W4.cell? ⟨w2.heap.size + 1, 0, none⟩ = some (.pointer (some ⟨b, 0, none⟩)) := by rw [cell_of_row _ _ _ _ _ _ hr4]; rfl
    have e0 := (hb4.cell (p := ⟨b, 0, none⟩) hbl).trans HD0.out
    have e1 := (hb4.cell (p := ⟨b, 0 + 1, none⟩) hbl).trans HD1.out
    have HB4 := Lib.hid (HB3.out.trans (hb4.mono hs2))
    have HG4 : Hid (ErrTy W4) := HG3.out.below (hb4.mono hs2) hp
    have hs4 := hb4.size
    have HE1 := Lib.hid e1
    have HV4 := Lib.hid hv4
    have mE := rsMethodError33
    clear hW4 hWx hbx hr4 hb4 HB3 HG3 HD0 HD1 HR3 e1
    go_wp2_with fail
    refine (HWE.out b W4 e0 HE1.out).mono ?_
    rintro _ W5 ⟨rfl, n5, hW5⟩
    have hv5 : W5.cell? ⟨w2.heap.size + 1, 0, none⟩ = some (.pointer (some ⟨b, 0, none⟩)) := by rw [hW5]; exact HV4.out
    have HE5 : Hid (W5.cell? ⟨b, 0 + 1, none⟩ = some (.iface 30 (.int .i64 (((12 : Nat)) : Int)))) := by rw [hW5]; exact HE1.out
    have HB5 : Hid (Below w.heap.size w W5) := by rw [hW5]; exact ⟨HB4.out.os, HB4.out.tape, HB4.out.output, HB4.out.size, HB4.out.block⟩
    have HG5 : Hid (ErrTy W5) := by rw [hW5]; exact HG4.out
    have hbl5 : b < W5.heap.size := by rw [hW5]; show b < W4.heap.size; omega
    have hS : (s ++ ⟨#[58, 32]⟩).size ≤ 302 := by rw [ByteArray.size_append]; show s.size + 2 ≤ 302; omega
    clear hW5 e0 HE1 HB4 HG4 mE HV4 hv4 HWE
    go_wp2_with fail
    refine (HEE.out W5).mono ?_
    rintro _ W5 ⟨rfl, rfl⟩
    go_wp2_with fail
    refine (unwrap_any b 0 _ W5 HE5.out).mono ?_
    rintro _ W5 ⟨rfl, rfl⟩
    go_wp2_with fail
    refine (number_errno 12 W5 HG5.out).mono ?_
    rintro _ W6 ⟨rfl, hb6⟩
    have HB6 := Lib.hid (HB5.out.trans (hb6.mono HB5.out.size))
    have HE6 := Lib.hid ((hb6.cell (p := ⟨b, 0 + 1, none⟩) hbl5).trans HE5.out)
    have HG6 : Hid (ErrTy W6) := HG5.out.below (hb6.mono HB5.out.size) hp
    have hbl6 : b < W6.heap.size := by have := hb6.size; omega
    clear hb6 HE5 HB5 HG5
    go_wp2_with fail
    have hw7 : Below W6.heap.size W6 (W6.alloc (.cells #[.string s, .iface 33 (.pointer (some ⟨b, 0, none⟩))] 38)) := (Below.refl W6.heap.size W6).alloc (Nat.le_refl _) _
    refine (number_chain W6.heap.size b 12 _ (HG6.out.below (hw7.mono (Nat.le_refl _)) (by have := HB6.out.size; omega)) (by simp) (by simp; omega) (by rw [cell_of_row _ _ _ _ _ _ (heap_alloc_new _ _)]; rfl) ((hw7.cell (p := ⟨b, 0 + 1, none⟩) hbl6).trans HE6.out)).mono ?_
    rintro _ W8 ⟨rfl, hb8⟩
    have HB8 := Lib.hid ((HB6.out.trans (hw7.mono HB6.out.size)).trans (hb8.mono (by have := HB6.out.size; simp; omega)))
    clear hb8 hw7 HB6 HE6 HG6
    go_wp2_with fail
    go_ret
    exact ⟨rfl, HB8.out⟩
  · have HEE := Lib.hid (fun W => errnoError_any 11 (by decide) W)
    have hz := errTxt_size 11 (by decide)
    have HWE := Lib.hid (fun b W h0 h1 => whyError_any b s 11 (by decide) W (by omega) h0 h1)
    obtain ⟨T, hT⟩ : ∃ T, errTxt 11 = T := ⟨_, rfl⟩
    rw [hT] at HEE hz HWE
    clear hT
    go_enter Tryd.func3, Tryd.ntmps3
    go_wp2_with fail
    refine (fit16_any w).mono ?_
    rintro _ w1 ⟨rfl, hb1⟩
    have HB1 := Lib.hid hb1
    clear hb1
    go_wp2_with fail
    refine (HK.out w1).mono ?_
    rintro _ _ ⟨rfl, rfl⟩
    go_wp2_with fail
    refine (HE.out _).mono ?_
    rintro _ w2 ⟨b, rfl, hbl, c0, c1, hb2⟩
    have HB2 := Lib.hid (HB1.out.trans (hb2.mono HB1.out.size))
    have HC0 := Lib.hid c0
    have HC1 := Lib.hid c1
    clear hb2 HB1 c0 c1
    go_wp2_with fail
    refine (number_why b 11 _ ((World.cell?_alloc_past _ _ _ hbl).trans HC1.out)).mono ?_
    rintro _ _ ⟨rfl, rfl⟩
    go_wp2_with fail
    obtain ⟨W3, hW3⟩ : ∃ W3, ((w2.alloc (.cells #[.int .i64 0, .int .i64 0, .int .i64 9, .int .i64 12, .int .i64 11, .int .i64 10] 30)).alloc (.cells #[.pointer none] 33)) = W3 := ⟨_, rfl⟩
    rw [hW3]
    have hb3 : Below w2.heap.size w2 W3 := by rw [← hW3]; exact below_alloc2 _ _ _
    have hr3 : W3.heap[w2.heap.size + 1]? = some (.cells #[.pointer none] 33 (0, 0)) := by rw [← hW3]; exact alloc2_snd _ _ _
    have hlt3 : w2.heap.size + 1 < W3.heap.size := lt_of_block hr3
    have HB3 := Lib.hid (HB2.out.trans (hb3.mono HB2.out.size))
    have HG3 : Hid (ErrTy W3) := HG.out.below HB3.out hp
    have HD0 := Lib.hid ((hb3.cell (p := ⟨b, 0, none⟩) hbl).trans HC0.out)
    have HD1 := Lib.hid ((hb3.cell (p := ⟨b, 0 + 1, none⟩) hbl).trans HC1.out)
    have HR3 := Lib.hid hr3
    have hs2 := HB2.out.size
    clear hW3 hb3 hr3 HC0 HC1 HB2 HK HE HG
    refine (is_any b 0 11 11 true (by decide) W3 HD1.out).mono ?_
    rintro _ W3 ⟨rfl, rfl⟩
    go_wp2_with fail
    refine (is_any b 0 11 7 false (by decide) W3 HD1.out).mono ?_
    rintro _ W3 ⟨rfl, rfl⟩
    go_wp2_with fail
    refine (as_why ⟨w2.heap.size + 1, 0, none⟩ ⟨b, 0, none⟩ (.pointer none) W3 HG3.out (by rw [cell_of_row _ _ _ _ _ _ HR3.out]; rfl) (by unfold World.frozen?; rw [HR3.out]; rfl)).mono ?_
    rintro _ W4 ⟨rfl, hW4⟩
    obtain ⟨Wx, hWx⟩ : ∃ Wx, ((((W3.alloc (.cells #[.pointer (some ⟨w2.heap.size + 1, 0, none⟩)] 36)).alloc (.cells #[.pointer (some ⟨10, 36, none⟩), .pointer (some ⟨W3.heap.size, 0, none⟩), .int .u64 150] 75)).alloc (.cells #[.pointer (some ⟨10, 36, none⟩), .pointer (some ⟨W3.heap.size, 0, none⟩), .int .u64 150] 75)).alloc (.cells #[.pointer (some ⟨b, 0, none⟩)] 33)) = Wx := ⟨_, rfl⟩
    rw [hWx] at hW4
    have hbx : Below W3.heap.size W3 Wx := by rw [← hWx]; exact below_alloc4 _ _ _ _ _
    have hb4 : Below w2.heap.size W3 W4 := by rw [hW4]; exact (hbx.mono (by omega)).setCell (p := ⟨w2.heap.size + 1, 0, none⟩) (by simp) _
    have hr4 : W4.heap[w2.heap.size + 1]? = some (.cells #[.pointer (some ⟨b, 0, none⟩)] 33 (0, 0)) := by rw [hW4]; exact setRow ((hbx.block _ hlt3).trans HR3.out) _
    have hv4 : W4.cell? ⟨w2.heap.size + 1, 0, none⟩ = some (.pointer (some ⟨b, 0, none⟩)) := by rw [cell_of_row _ _ _ _ _ _ hr4]; rfl
    have e0 := (hb4.cell (p := ⟨b, 0, none⟩) hbl).trans HD0.out
    have e1 := (hb4.cell (p := ⟨b, 0 + 1, none⟩) hbl).trans HD1.out
    have HB4 := Lib.hid (HB3.out.trans (hb4.mono hs2))
    have HG4 : Hid (ErrTy W4) := HG3.out.below (hb4.mono hs2) hp
    have hs4 := hb4.size
    have HE1 := Lib.hid e1
    have HV4 := Lib.hid hv4
    have mE := rsMethodError33
    clear hW4 hWx hbx hr4 hb4 HB3 HG3 HD0 HD1 HR3 e1
    go_wp2_with fail
    refine (HWE.out b W4 e0 HE1.out).mono ?_
    rintro _ W5 ⟨rfl, n5, hW5⟩
    have hv5 : W5.cell? ⟨w2.heap.size + 1, 0, none⟩ = some (.pointer (some ⟨b, 0, none⟩)) := by rw [hW5]; exact HV4.out
    have HE5 : Hid (W5.cell? ⟨b, 0 + 1, none⟩ = some (.iface 30 (.int .i64 (((11 : Nat)) : Int)))) := by rw [hW5]; exact HE1.out
    have HB5 : Hid (Below w.heap.size w W5) := by rw [hW5]; exact ⟨HB4.out.os, HB4.out.tape, HB4.out.output, HB4.out.size, HB4.out.block⟩
    have HG5 : Hid (ErrTy W5) := by rw [hW5]; exact HG4.out
    have hbl5 : b < W5.heap.size := by rw [hW5]; show b < W4.heap.size; omega
    have hS : (s ++ ⟨#[58, 32]⟩).size ≤ 302 := by rw [ByteArray.size_append]; show s.size + 2 ≤ 302; omega
    clear hW5 e0 HE1 HB4 HG4 mE HV4 hv4 HWE
    go_wp2_with fail
    refine (HEE.out W5).mono ?_
    rintro _ W5 ⟨rfl, rfl⟩
    go_wp2_with fail
    refine (unwrap_any b 0 _ W5 HE5.out).mono ?_
    rintro _ W5 ⟨rfl, rfl⟩
    go_wp2_with fail
    refine (number_errno 11 W5 HG5.out).mono ?_
    rintro _ W6 ⟨rfl, hb6⟩
    have HB6 := Lib.hid (HB5.out.trans (hb6.mono HB5.out.size))
    have HE6 := Lib.hid ((hb6.cell (p := ⟨b, 0 + 1, none⟩) hbl5).trans HE5.out)
    have HG6 : Hid (ErrTy W6) := HG5.out.below (hb6.mono HB5.out.size) hp
    have hbl6 : b < W6.heap.size := by have := hb6.size; omega
    clear hb6 HE5 HB5 HG5
    go_wp2_with fail
    have hw7 : Below W6.heap.size W6 (W6.alloc (.cells #[.string s, .iface 33 (.pointer (some ⟨b, 0, none⟩))] 38)) := (Below.refl W6.heap.size W6).alloc (Nat.le_refl _) _
    refine (number_chain W6.heap.size b 11 _ (HG6.out.below (hw7.mono (Nat.le_refl _)) (by have := HB6.out.size; omega)) (by simp) (by simp; omega) (by rw [cell_of_row _ _ _ _ _ _ (heap_alloc_new _ _)]; rfl) ((hw7.cell (p := ⟨b, 0 + 1, none⟩) hbl6).trans HE6.out)).mono ?_
    rintro _ W8 ⟨rfl, hb8⟩
    have HB8 := Lib.hid ((HB6.out.trans (hw7.mono HB6.out.size)).trans (hb8.mono (by have := HB6.out.size; simp; omega)))
    clear hb8 hw7 HB6 HE6 HG6
    go_wp2_with fail
    go_ret
    exact ⟨rfl, HB8.out⟩
  · have HEE := Lib.hid (fun W => errnoError_any 10 (by decide) W)
    have hz := errTxt_size 10 (by decide)
    have HWE := Lib.hid (fun b W h0 h1 => whyError_any b s 10 (by decide) W (by omega) h0 h1)
    obtain ⟨T, hT⟩ : ∃ T, errTxt 10 = T := ⟨_, rfl⟩
    rw [hT] at HEE hz HWE
    clear hT
    go_enter Tryd.func3, Tryd.ntmps3
    go_wp2_with fail
    refine (fit16_any w).mono ?_
    rintro _ w1 ⟨rfl, hb1⟩
    have HB1 := Lib.hid hb1
    clear hb1
    go_wp2_with fail
    refine (HK.out w1).mono ?_
    rintro _ _ ⟨rfl, rfl⟩
    go_wp2_with fail
    refine (HE.out _).mono ?_
    rintro _ w2 ⟨b, rfl, hbl, c0, c1, hb2⟩
    have HB2 := Lib.hid (HB1.out.trans (hb2.mono HB1.out.size))
    have HC0 := Lib.hid c0
    have HC1 := Lib.hid c1
    clear hb2 HB1 c0 c1
    go_wp2_with fail
    refine (number_why b 10 _ ((World.cell?_alloc_past _ _ _ hbl).trans HC1.out)).mono ?_
    rintro _ _ ⟨rfl, rfl⟩
    go_wp2_with fail
    obtain ⟨W3, hW3⟩ : ∃ W3, ((w2.alloc (.cells #[.int .i64 0, .int .i64 0, .int .i64 9, .int .i64 12, .int .i64 11, .int .i64 10] 30)).alloc (.cells #[.pointer none] 33)) = W3 := ⟨_, rfl⟩
    rw [hW3]
    have hb3 : Below w2.heap.size w2 W3 := by rw [← hW3]; exact below_alloc2 _ _ _
    have hr3 : W3.heap[w2.heap.size + 1]? = some (.cells #[.pointer none] 33 (0, 0)) := by rw [← hW3]; exact alloc2_snd _ _ _
    have hlt3 : w2.heap.size + 1 < W3.heap.size := lt_of_block hr3
    have HB3 := Lib.hid (HB2.out.trans (hb3.mono HB2.out.size))
    have HG3 : Hid (ErrTy W3) := HG.out.below HB3.out hp
    have HD0 := Lib.hid ((hb3.cell (p := ⟨b, 0, none⟩) hbl).trans HC0.out)
    have HD1 := Lib.hid ((hb3.cell (p := ⟨b, 0 + 1, none⟩) hbl).trans HC1.out)
    have HR3 := Lib.hid hr3
    have hs2 := HB2.out.size
    clear hW3 hb3 hr3 HC0 HC1 HB2 HK HE HG
    refine (is_any b 0 10 10 true (by decide) W3 HD1.out).mono ?_
    rintro _ W3 ⟨rfl, rfl⟩
    go_wp2_with fail
    refine (is_any b 0 10 7 false (by decide) W3 HD1.out).mono ?_
    rintro _ W3 ⟨rfl, rfl⟩
    go_wp2_with fail
    refine (as_why ⟨w2.heap.size + 1, 0, none⟩ ⟨b, 0, none⟩ (.pointer none) W3 HG3.out (by rw [cell_of_row _ _ _ _ _ _ HR3.out]; rfl) (by unfold World.frozen?; rw [HR3.out]; rfl)).mono ?_
    rintro _ W4 ⟨rfl, hW4⟩
    obtain ⟨Wx, hWx⟩ : ∃ Wx, ((((W3.alloc (.cells #[.pointer (some ⟨w2.heap.size + 1, 0, none⟩)] 36)).alloc (.cells #[.pointer (some ⟨10, 36, none⟩), .pointer (some ⟨W3.heap.size, 0, none⟩), .int .u64 150] 75)).alloc (.cells #[.pointer (some ⟨10, 36, none⟩), .pointer (some ⟨W3.heap.size, 0, none⟩), .int .u64 150] 75)).alloc (.cells #[.pointer (some ⟨b, 0, none⟩)] 33)) = Wx := ⟨_, rfl⟩
    rw [hWx] at hW4
    have hbx : Below W3.heap.size W3 Wx := by rw [← hWx]; exact below_alloc4 _ _ _ _ _
    have hb4 : Below w2.heap.size W3 W4 := by rw [hW4]; exact (hbx.mono (by omega)).setCell (p := ⟨w2.heap.size + 1, 0, none⟩) (by simp) _
    have hr4 : W4.heap[w2.heap.size + 1]? = some (.cells #[.pointer (some ⟨b, 0, none⟩)] 33 (0, 0)) := by rw [hW4]; exact setRow ((hbx.block _ hlt3).trans HR3.out) _
    have hv4 : W4.cell? ⟨w2.heap.size + 1, 0, none⟩ = some (.pointer (some ⟨b, 0, none⟩)) := by rw [cell_of_row _ _ _ _ _ _ hr4]; rfl
    have e0 := (hb4.cell (p := ⟨b, 0, none⟩) hbl).trans HD0.out
    have e1 := (hb4.cell (p := ⟨b, 0 + 1, none⟩) hbl).trans HD1.out
    have HB4 := Lib.hid (HB3.out.trans (hb4.mono hs2))
    have HG4 : Hid (ErrTy W4) := HG3.out.below (hb4.mono hs2) hp
    have hs4 := hb4.size
    have HE1 := Lib.hid e1
    have HV4 := Lib.hid hv4
    have mE := rsMethodError33
    clear hW4 hWx hbx hr4 hb4 HB3 HG3 HD0 HD1 HR3 e1
    go_wp2_with fail
    refine (HWE.out b W4 e0 HE1.out).mono ?_
    rintro _ W5 ⟨rfl, n5, hW5⟩
    have hv5 : W5.cell? ⟨w2.heap.size + 1, 0, none⟩ = some (.pointer (some ⟨b, 0, none⟩)) := by rw [hW5]; exact HV4.out
    have HE5 : Hid (W5.cell? ⟨b, 0 + 1, none⟩ = some (.iface 30 (.int .i64 (((10 : Nat)) : Int)))) := by rw [hW5]; exact HE1.out
    have HB5 : Hid (Below w.heap.size w W5) := by rw [hW5]; exact ⟨HB4.out.os, HB4.out.tape, HB4.out.output, HB4.out.size, HB4.out.block⟩
    have HG5 : Hid (ErrTy W5) := by rw [hW5]; exact HG4.out
    have hbl5 : b < W5.heap.size := by rw [hW5]; show b < W4.heap.size; omega
    have hS : (s ++ ⟨#[58, 32]⟩).size ≤ 302 := by rw [ByteArray.size_append]; show s.size + 2 ≤ 302; omega
    clear hW5 e0 HE1 HB4 HG4 mE HV4 hv4 HWE
    go_wp2_with fail
    refine (HEE.out W5).mono ?_
    rintro _ W5 ⟨rfl, rfl⟩
    go_wp2_with fail
    refine (unwrap_any b 0 _ W5 HE5.out).mono ?_
    rintro _ W5 ⟨rfl, rfl⟩
    go_wp2_with fail
    refine (number_errno 10 W5 HG5.out).mono ?_
    rintro _ W6 ⟨rfl, hb6⟩
    have HB6 := Lib.hid (HB5.out.trans (hb6.mono HB5.out.size))
    have HE6 := Lib.hid ((hb6.cell (p := ⟨b, 0 + 1, none⟩) hbl5).trans HE5.out)
    have HG6 : Hid (ErrTy W6) := HG5.out.below (hb6.mono HB5.out.size) hp
    have hbl6 : b < W6.heap.size := by have := hb6.size; omega
    clear hb6 HE5 HB5 HG5
    go_wp2_with fail
    have hw7 : Below W6.heap.size W6 (W6.alloc (.cells #[.string s, .iface 33 (.pointer (some ⟨b, 0, none⟩))] 38)) := (Below.refl W6.heap.size W6).alloc (Nat.le_refl _) _
    refine (number_chain W6.heap.size b 10 _ (HG6.out.below (hw7.mono (Nat.le_refl _)) (by have := HB6.out.size; omega)) (by simp) (by simp; omega) (by rw [cell_of_row _ _ _ _ _ _ (heap_alloc_new _ _)]; rfl) ((hw7.cell (p := ⟨b, 0 + 1, none⟩) hbl6).trans HE6.out)).mono ?_
    rintro _ W8 ⟨rfl, hb8⟩
    have HB8 := Lib.hid ((HB6.out.trans (hw7.mono HB6.out.size)).trans (hb8.mono (by have := HB6.out.size; simp; omega)))
    clear hb8 hw7 HB6 HE6 HG6
    go_wp2_with fail
    go_ret
    exact ⟨rfl, HB8.out⟩
set_option maxRecDepth 20000 in
theorem resolveErrors_any (n : Int) (s : ByteArray) (w : World) (hg : ErrTy w) : Calls Tryd.prog 3 #[.int .i64 n, .string s] w fun ev w' => ev = .returned (.bool true) ∧ Below w.heap.size w w' := by
  by_cases hs : 300 < s.size
  · exact re_long n s w hs
  have hs' : s.size ≤ 300 := by omega
  have hm : n % 256 % 5 = 0 ∨ n % 256 % 5 = 1 ∨ n % 256 % 5 = 2 ∨ n % 256 % 5 = 3 ∨ n % 256 % 5 = 4 := by omega
  rcases hm with h | h | h | h | h
  · exact re_ok n s w hs' (by omega)
  · exact re_some n s w hs' 2 9 (.inl ⟨rfl, rfl⟩) (by omega) hg
  · exact re_some n s w hs' 3 12 (.inr (.inl ⟨rfl, rfl⟩)) (by omega) hg
  · exact re_some n s w hs' 4 11 (.inr (.inr (.inl ⟨rfl, rfl⟩))) (by omega) hg
  · exact re_some n s w hs' 5 10 (.inr (.inr (.inr ⟨rfl, rfl⟩))) (by omega) hg
end Go.Proofs.YtffjfggndfcfmaaDoor
