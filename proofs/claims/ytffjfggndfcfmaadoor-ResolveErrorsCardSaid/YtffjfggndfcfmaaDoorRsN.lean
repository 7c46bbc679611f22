/- resolve.Error, resolve.Number, the errors' texts. -/
import Derived.Test.YtffjfggndfcfmaaDoorRsA
import Derived.Test.YtffjfggndfcfmaaDoorSh
import Derived.Deep.QuietTactic
import Derived.BigQuiet
namespace Go.Proofs.YtffjfggndfcfmaaDoor
open Go.RowKit Go.Extern.Stop Go.Stop Go.Extern
set_option linter.unusedVariables false

/-! ### the texts -/
def ePre : ByteArray := ⟨#[110, 111, 109, 101, 110, 99, 108, 97, 116, 111, 114, 58, 32, 101, 114, 114, 111, 114, 32]⟩
def errTxt (e : Nat) : ByteArray := ePre ++ ⟨(Lib.decDigits e).toArray⟩
theorem digits_small : ∀ e : Nat, e < 100 → (Lib.decDigits e).length ≤ 2 := by decide +kernel
theorem errTxt_size (e : Nat) (h : e < 100) : (errTxt e).size ≤ 21 := by
  unfold errTxt
  rw [ByteArray.size_append]
  have h1 : ePre.size = 19 := rfl
  have h2 : (⟨(Lib.decDigits e).toArray⟩ : ByteArray).size = (Lib.decDigits e).length := by show (Lib.decDigits e).toArray.size = _; simp
  have := digits_small e h
  omega
set_option maxRecDepth 20000 in
theorem errnoError_any (e : Nat) (he : e < 100) (w : World) :
    Calls Tryd.prog 14 #[.int .i64 e] w fun ev w' => ev = .returned (.string (errTxt e)) ∧ w' = w := by
  have hi := Tryd.strconv_Itoa_small e he w
  obtain ⟨D, hD⟩ : ∃ D : ByteArray, ⟨(Lib.decDigits e).toArray⟩ = D := ⟨_, rfl⟩
  have hDs : D.size ≤ 2 := by
    rw [← hD]
    show (Lib.decDigits e).toArray.size ≤ 2
    have := digits_small e he
    simpa using this
  have HT : Hid (ePre ++ D = errTxt e) := by show _ = _; rw [← hD]; rfl
  rw [hD] at hi
  have HI := Lib.hid hi
  clear hi hD
  go_enter Tryd.func14, Tryd.ntmps14
  go_wp2_with fail
  refine HI.out.mono ?_
  rintro ev w' ⟨rfl, rfl⟩
  go_wp2_with fail
  go_ret
  exact ⟨ret_str HT.out, rfl⟩
theorem rsMethodError30 (v : Value) (w : World) : (Go.method 299 30 v "Error").run Tryd.prog w = .ok (14, v) w := by kernel_rfl
theorem rsMethodError33 (v : Value) (w : World) : (Go.method 299 33 v "Error").run Tryd.prog w = .ok (113, v) w := by kernel_rfl
set_option maxRecDepth 20000 in
set_option maxHeartbeats 2000000 in
theorem whyError_any (b : Nat) (S : ByteArray) (e : Nat) (he : e < 100) (w : World) (hS : S.size ≤ 1000000) (h0 : w.cell? ⟨b, 0, none⟩ = some (.string S)) (h1 : w.cell? ⟨b, 0 + 1, none⟩ = some (.iface 30 (.int .i64 e))) :
    Calls Tryd.prog 113 #[.pointer (some ⟨b, 0, none⟩)] w fun ev w' => ev = .returned (.string ((S ++ ⟨#[58, 32]⟩) ++ errTxt e)) ∧ ∃ n, w' = w.drewN n := by
  have mE := rsMethodError30
  have hz := errTxt_size e he
  have hEE := fun W => errnoError_any e he W
  obtain ⟨T, hT⟩ : ∃ T, errTxt e = T := ⟨_, rfl⟩
  rw [hT] at hz hEE ⊢
  have HEE := Lib.hid hEE
  rw [Nat.zero_add] at h1
  clear hT hEE
  go_enter Tryd.func113, Tryd.ntmps113
  go_wp2_with fail
  go_quiet ((go_at_call 14; exact Calls.quiet_of_same (HEE.out _)))
  go_wp2_with fail
  go_ret
  exact ⟨rfl, _, rfl⟩

/-! ### Number -/
theorem rsHasWrapped33 (v : Value) (xT : TypeId) (w : World) : (Instr.typeAssert (.iface 33 v) xT 64 true).run Tryd.prog w = .ok (.tuple #[.iface 33 v, .bool true]) w := run_typeAssert_hasB Tryd.underlying64 (by kernel_rfl) v xT w
theorem rsNoWrapped30 (v : Value) (xT : TypeId) (w : World) : (Instr.typeAssert (.iface 30 v) xT 64 true).run Tryd.prog w = .ok (.tuple #[.nilIface, .bool false]) w := run_typeAssert_lacksB Tryd.underlying64 (by kernel_rfl) (by kernel_rfl) v xT w
theorem rsCast33 (v : Value) (w : World) : (Instr.typeAssert (.iface 33 v) 25 30 true).run Tryd.prog w = .ok (.tuple #[.int .i64 0, .bool false]) w := by kernel_rfl
theorem rsCast30 (v : Value) (w : World) : (Instr.typeAssert (.iface 30 v) 25 30 true).run Tryd.prog w = .ok (.tuple #[v, .bool true]) w := by kernel_rfl
set_option maxRecDepth 20000 in
theorem number_nil (w : World) : Calls Tryd.prog 11 #[.nilIface] w fun ev w' => ev = .returned (.int .i64 0) ∧ w' = w := by
  go_enter Tryd.func11, Tryd.ntmps11
  go_wp2
  go_ret
  exact ⟨rfl, rfl⟩
set_option maxRecDepth 20000 in
set_option maxHeartbeats 2000000 in
theorem number_why (b : Nat) (e : Int) (w : World) (h1 : w.cell? ⟨b, 0 + 1, none⟩ = some (.iface 30 (.int .i64 e))) :
    Calls Tryd.prog 11 #[.iface 33 (.pointer (some ⟨b, 0, none⟩))] w fun ev w' => ev = .returned (.int .i64 e) ∧ w' = w := by
  have hW := rsHasWrapped33
  have mU := rsMethodUnwrap
  have cW := rsCast33
  have cE := rsCast30
  go_enter Tryd.func11, Tryd.ntmps11
  go_wp2_with (go_at_call 15; refine (unwrap_any b 0 _ _ h1).mono ?_; rintro ev w' ⟨rfl, rfl⟩)
  go_ret
  exact ⟨rfl, rfl⟩
/-- The variable that says what an error is: a cell that holds the type's handle. -/
def ErrTy (w : World) : Prop := w.cell? ⟨0, 0, none⟩ = some (.iface 95 (.agg #[.pointer (some ⟨10, 25, none⟩)]))
theorem ErrTy.below {w w' : World} {B : Nat} (h : ErrTy w) (hb : Below B w w') (hB : 0 < B) : ErrTy w' := (hb.cell (p := ⟨0, 0, none⟩) hB).trans h
theorem ErrTy.pos {w : World} (h : ErrTy w) : 0 < w.heap.size := by
  rcases Nat.eq_zero_or_pos w.heap.size with h0 | h1
  · unfold ErrTy at h; simp [World.cell?, h0] at h
  · exact h1
set_option maxRecDepth 20000 in
set_option maxHeartbeats 4000000 in
theorem number_errno (e : Int) (w : World) (hg : ErrTy w) :
    Calls Tryd.prog 11 #[.iface 30 (.int .i64 e)] w fun ev w' => ev = .returned (.int .i64 e) ∧ Below w.heap.size w w' := by
  have hW := rsNoWrapped30
  have hp := hg.pos
  have hg2 : ErrTy (w.alloc (.cells #[.int .i64 0] 30)) := hg.below ((Below.refl w.heap.size w).alloc (Nat.le_refl _) _) hp
  have HG := Lib.hid hg2
  clear hg2 hg
  go_enter Tryd.func11, Tryd.ntmps11
  go_wp2_with fail
  refine (as_errno ⟨w.heap.size, 0, none⟩ e (.int .i64 0) _ HG.out ?_ ?_).mono ?_
  · rw [World.cell?_alloc_at _ _ _ _ rfl]; rfl
  · exact World.frozen?_alloc_at _ _ _ _ rfl
  rintro ev w' ⟨rfl, rfl⟩
  go_wp2_with fail
  go_ret
  exact ⟨rfl, (((((Below.refl w.heap.size w).alloc (Nat.le_refl _) _).alloc (by simp) _).alloc (by simp; omega) _).alloc (by simp; omega) _).alloc (by simp; omega) _⟩
set_option maxRecDepth 20000 in
set_option maxHeartbeats 4000000 in
theorem number_chain (b1 b2 : Nat) (e : Int) (w : World) (hg : ErrTy w) (hb1 : b1 < w.heap.size) (hb2 : b2 < w.heap.size) (hc1 : w.cell? ⟨b1, 0 + 1, none⟩ = some (.iface 33 (.pointer (some ⟨b2, 0, none⟩))))
    (hc2 : w.cell? ⟨b2, 0 + 1, none⟩ = some (.iface 30 (.int .i64 e))) :
    Calls Tryd.prog 11 #[.iface 33 (.pointer (some ⟨b1, 0, none⟩))] w fun ev w' => ev = .returned (.int .i64 e) ∧ Below w.heap.size w w' := by
  have hW := rsHasWrapped33
  have mU := rsMethodUnwrap
  have cW := rsCast33
  have cE := rsCast30
  have hp := hg.pos
  have hb0 : Below w.heap.size w (w.alloc (.cells #[.int .i64 0] 30)) := (Below.refl w.heap.size w).alloc (Nat.le_refl _) _
  have HG := Lib.hid (hg.below hb0 hp)
  have HC1 := Lib.hid ((hb0.cell (p := ⟨b1, 0 + 1, none⟩) hb1).trans hc1)
  have HC2 := Lib.hid ((hb0.cell (p := ⟨b2, 0 + 1, none⟩) hb2).trans hc2)
  have HH1 := Lib.hid hc1
  have hz : b1 < (w.alloc (.cells #[.int .i64 0] 30)).heap.size ∧ b2 < (w.alloc (.cells #[.int .i64 0] 30)).heap.size := by constructor <;> (simp; omega)
  have HZ := Lib.hid hz
  clear hg hb0 hc1 hc2 hz
  go_enter Tryd.func11, Tryd.ntmps11
  go_wp2_with (go_at_call 15; refine (unwrap_any b1 0 _ _ HH1.out).mono ?_; rintro ev w' ⟨rfl, rfl⟩)
  refine (as_chain ⟨w'.heap.size, 0, none⟩ e b1 0 b2 0 (.int .i64 0) _ HG.out ?_ ?_ HZ.out.1 HZ.out.2 HC1.out HC2.out).mono ?_
  · rw [World.cell?_alloc_at _ _ _ _ rfl]; rfl
  · exact World.frozen?_alloc_at _ _ _ _ rfl
  rintro ev w'' ⟨rfl, rfl⟩
  go_wp2_with fail
  go_ret
  exact ⟨rfl, (((((Below.refl w'.heap.size w').alloc (Nat.le_refl _) _).alloc (by simp) _).alloc (by simp; omega) _).alloc (by simp; omega) _).alloc (by simp; omega) _⟩
/-! ### Error -/
/-- A new *Why: its block, and what lies in it. -/
def NewWhy (w : World) (S : ByteArray) (e : Nat) (ev : Ending) (w' : World) : Prop :=
  ∃ b, ev = .returned (.iface 33 (.pointer (some ⟨b, 0, none⟩))) ∧ b < w'.heap.size ∧ w'.cell? ⟨b, 0, none⟩ = some (.string S) ∧ w'.cell? ⟨b, 0 + 1, none⟩ = some (.iface 30 (.int .i64 e)) ∧ Below w.heap.size w w'
set_option maxRecDepth 20000 in
set_option maxHeartbeats 2000000 in
theorem error_any (S : ByteArray) (k e : Nat) (h : (k = 2 ∧ e = 9) ∨ (k = 3 ∧ e = 12) ∨ (k = 4 ∧ e = 11) ∨ (k = 5 ∧ e = 10)) (w : World) :
    Calls Tryd.prog 10 #[.string S, .agg #[.int .i64 0, .int .i64 0, .int .i64 k, .slice none 0 0]] w (NewWhy w S e) := by
  rcases h with ⟨rfl, rfl⟩ | ⟨rfl, rfl⟩ | ⟨rfl, rfl⟩ | ⟨rfl, rfl⟩
  all_goals
    go_enter Tryd.func10, Tryd.ntmps10
    go_wp2
    go_ret
    refine ⟨_, rfl, ?_, ?_, ?_, ((Below.refl w.heap.size w).alloc (Nat.le_refl _) _).alloc (by simp) _⟩
    · simp
    · rw [World.cell?_alloc_at _ _ _ _ (by simp)]; rfl
    · rw [World.cell?_alloc_at _ _ _ _ (by simp)]; rfl
set_option maxRecDepth 20000 in
theorem error_ok (S : ByteArray) (w : World) :
    Calls Tryd.prog 10 #[.string S, .agg #[.int .i64 0, .int .i64 0, .int .i64 1, .slice none 0 0]] w fun ev w' => ev = .returned .nilIface ∧ Below w.heap.size w w' := by
  go_enter Tryd.func10, Tryd.ntmps10
  go_wp2
  go_ret
  exact ⟨rfl, (Below.refl w.heap.size w).alloc (Nat.le_refl _) _⟩
theorem i64_and255 (n : Int) : bits .and .i64 n 255 = n % 256 := by
  have h3 : (BitVec.ofInt 64 255).toNat = 2 ^ 8 - 1 := by decide
  have key : (BitVec.ofInt 64 n &&& BitVec.ofInt 64 255).toNat = (n % ((2 ^ 64 : Nat) : Int)).toNat % 2 ^ 8 := by
    rw [BitVec.toNat_and, BitVec.toNat_ofInt, h3, Nat.and_two_pow_sub_one_eq_mod]
  show IntKind.i64.wrap ((BitVec.ofInt 64 n &&& BitVec.ofInt 64 255).toNat : Nat) = n % 256
  rw [key, IntKind.wrap_i64]
  omega
set_option maxRecDepth 20000 in
theorem kind_any (n : Int) (w : World) : Calls Tryd.prog 9 #[.int .i64 n] w fun ev w' => ev = .returned (.int .i64 (1 + n % 256 % 5)) ∧ w' = w := by
  have hA := i64_and255 n
  have h1 : 0 ≤ n % 256 := by omega
  have h2 : n % 256 < 256 := by omega
  obtain ⟨q, hq⟩ : ∃ q, n % 256 = q := ⟨_, rfl⟩
  rw [hq] at hA h1 h2 ⊢
  clear hq
  go_enter Tryd.func9, Tryd.ntmps9
  go_wp2
  go_ret
  exact ⟨rfl, rfl⟩
end Go.Proofs.YtffjfggndfcfmaaDoor
