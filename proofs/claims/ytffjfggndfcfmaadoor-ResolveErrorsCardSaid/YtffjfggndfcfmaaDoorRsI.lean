/- errors.Is over a *resolve.Why that stands around an api.Errno. -/
import Derived.Test.YtffjfggndfcfmaaDoorProg
import Derived.WalkKit
import Derived.LaidEql
import Derived.Stop.Asserts
import Derived.RowKitTokens
import Derived.Outline
import Derived.Lib.IfaceEq
namespace Go.Proofs.YtffjfggndfcfmaaDoor
open Go.RowKit Go.Extern.Stop Go.Stop Go.Extern
set_option linter.unusedVariables false

theorem rsTypeOf30 (v : Value) (w : World) : (Extern.ReflectliteType.typeOf #[.iface 30 v]).run Tryd.prog w = .ok (.iface 95 (.agg #[.pointer (some ⟨10, 30, none⟩)])) w := by kernel_rfl
theorem rsComparable30 (w : World) : ((Extern.ReflectliteType.method fun t => do Extern.Rtype.noPackHeld "Comparable" t; (fun a => Value.bool a.comparable) <$> typeInfo t) #[.agg #[.pointer (some ⟨10, 30, none⟩)]]).run Tryd.prog w = .ok (.bool true) w := by kernel_rfl
theorem rsMethodComparable (v : Value) (w : World) : (Go.method 299 95 v "Comparable").run Tryd.prog w = .ok (120, v) w := by kernel_rfl
theorem rsMethodUnwrap (v : Value) (w : World) : (Go.method 299 33 v "Unwrap").run Tryd.prog w = .ok (15, v) w := by kernel_rfl
theorem rsNoIs30 (v : Value) (xT : TypeId) (w : World) : (Instr.typeAssert (.iface 30 v) xT 97 true).run Tryd.prog w = .ok (.tuple #[.nilIface, .bool false]) w := run_typeAssert_lacksB Tryd.underlying97 (by kernel_rfl) (by kernel_rfl) v xT w
theorem rsNoUnwrap30 (v : Value) (xT : TypeId) (w : World) : (Instr.typeAssert (.iface 30 v) xT 100 true).run Tryd.prog w = .ok (.tuple #[.nilIface, .bool false]) w := run_typeAssert_lacksB Tryd.underlying100 (by kernel_rfl) (by kernel_rfl) v xT w
theorem rsNoUnwraps30 (v : Value) (xT : TypeId) (w : World) : (Instr.typeAssert (.iface 30 v) xT 101 true).run Tryd.prog w = .ok (.tuple #[.nilIface, .bool false]) w := run_typeAssert_lacksB Tryd.underlying101 (by kernel_rfl) (by kernel_rfl) v xT w
theorem rsNoIs33 (v : Value) (xT : TypeId) (w : World) : (Instr.typeAssert (.iface 33 v) xT 97 true).run Tryd.prog w = .ok (.tuple #[.nilIface, .bool false]) w := run_typeAssert_lacksB Tryd.underlying97 (by kernel_rfl) (by kernel_rfl) v xT w
theorem rsHasUnwrap33 (v : Value) (xT : TypeId) (w : World) : (Instr.typeAssert (.iface 33 v) xT 100 true).run Tryd.prog w = .ok (.tuple #[.iface 33 v, .bool true]) w := run_typeAssert_hasB Tryd.underlying100 (by kernel_rfl) v xT w

theorem rsEqWE (v u : Value) (w : World) : (binOp .eql 25 (.iface 33 v) (.iface 30 u)).run Tryd.prog w = .ok (.bool false) w := run_eql_iface_types 33 30 v u Tryd.underlying25 (by decide) w
theorem rsInfo30 : (Tryd.prog.info? 30).map (·.comparable) = some true := by kernel_rfl
theorem rsEqEE (a b : Int) (w : World) : (binOp .eql 25 (.iface 30 (.int .i64 a)) (.iface 30 (.int .i64 b))).run Tryd.prog w = .ok (.bool (a == b)) w := by
  exact Lib.run_eql_iface_int w a b Tryd.underlying25 rsInfo30 Tryd.underlying30
/-- (*Why).Unwrap. -/
theorem unwrap_any (b o : Nat) (x : Value) (w : World) (h1 : w.cell? ⟨b, o + 1, none⟩ = some x) :
    Calls Tryd.prog 15 #[.pointer (some ⟨b, o, none⟩)] w fun ev w' => ev = .returned x ∧ w' = w := by
  go_enter Tryd.func15, Tryd.ntmps15
  go_wp2
  go_ret
  exact ⟨rfl, rfl⟩

set_option maxRecDepth 20000 in
set_option maxHeartbeats 4000000 in
theorem is_any (b o : Nat) (e t : Int) (g : Bool) (hg : (e == t) = g) (w : World) (h1 : w.cell? ⟨b, o + 1, none⟩ = some (.iface 30 (.int .i64 e))) :
    Calls Tryd.prog 12 #[.iface 33 (.pointer (some ⟨b, o, none⟩)), .iface 30 (.int .i64 t)] w fun ev w' => ev = .returned (.bool g) ∧ w' = w := by
  have h8 := @run_callFunc_extern Tryd.prog 21 _ Extern.ReflectliteType.typeOf Tryd.func21 (by kernel_rfl) (by kernel_rfl) (by kernel_rfl) (by kernel_rfl)
  have h32 := @run_callFunc_extern Tryd.prog 120 _ (Extern.ReflectliteType.method fun t => do Extern.Rtype.noPackHeld "Comparable" t; pure (.bool (← typeInfo t).comparable)) Tryd.func120 (by kernel_rfl) (by kernel_rfl) (by kernel_rfl) (by kernel_rfl)
  have tT := rsTypeOf30
  have cT := rsComparable30
  have nE := rsNoIs30
  have uE := rsNoUnwrap30
  have vE := rsNoUnwraps30
  have nW := rsNoIs33
  have uW := rsHasUnwrap33
  have mC := rsMethodComparable
  have mU := rsMethodUnwrap
  have eW := rsEqWE
  have eE := fun w => rsEqEE e t w
  rw [hg] at eE
  clear hg
  go_enter Tryd.func12, Tryd.ntmps12
  cases g
  all_goals
    go_wp2
    refine wp_loop_rounds 2 ?_
    rw [rounds_succ]
    go_wp2
    rw [rounds_succ]
    go_wp2
    go_ret
    exact ⟨rfl, rfl⟩
end Go.Proofs.YtffjfggndfcfmaaDoor
