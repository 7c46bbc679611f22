/- A map of bools that a literal makes: what the two stores and the look-up come to. -/
import Derived.Test.YtcicghpljnlggaaProg
import Derived.Test.YtcicghpljnlggaaKit
import Derived.Maps.Own
namespace Go.Proofs.Ytcicghpljnlggaa
open Go.RowKit Go.ChangeMaps Go.Maps

/-- Block b is a map that has true at 0 (if t) and false at p (if f). -/
def MapSt (w : World) (b : Nat) (t f : Bool) (p : Value) : Prop :=
  ∃ es clock, w.heap[b]? = some (.map es clock) ∧ match t, f with
    | false, false => es = #[]
    | true, false => ∃ k, es = #[⟨.bool true, .int .i64 0, k⟩]
    | false, true => ∃ k, es = #[⟨.bool false, p, k⟩]
    | true, true => ∃ k k', es = #[⟨.bool true, .int .i64 0, k⟩, ⟨.bool false, p, k'⟩] ∨ es = #[⟨.bool false, p, k'⟩, ⟨.bool true, .int .i64 0, k⟩]
theorem MapSt.below {w w' : World} {b : Nat} {t f : Bool} {p : Value} (h : MapSt w b t f p) (hb : Below w.heap.size w w') : MapSt w' b t f p := by
  obtain ⟨es, clock, hh, hx⟩ := h
  have hlt : b < w.heap.size := (Array.getElem?_eq_some_iff.1 hh).1
  exact ⟨es, clock, (hb.block b hlt).trans hh, hx⟩
theorem mapSt_made (w : World) (p : Value) : MapSt (w.alloc (.map #[] 0)) w.heap.size false false p := ⟨#[], 0, heap_alloc_new w _, rfl⟩
theorem setBlock_at {w : World} {b : Nat} {o o' : Obj} (h : w.heap[b]? = some o) : (setBlock w b o').heap[b]? = some o' := by
  have hlt : b < w.heap.size := (Array.getElem?_eq_some_iff.1 h).1
  simp [setBlock, hlt]
theorem below_setBlock {B : Nat} {a w : World} (h : Below B a w) {b : Nat} (hb : B ≤ b) (o : Obj) : Below B a (setBlock w b o) :=
  h.trans ⟨rfl, rfl, rfl, by simp [setBlock], fun k hk => by simp [setBlock]; rw [Array.getElem?_setIfInBounds_ne (by omega)]⟩
theorem bool_check (w : World) (em x : Bool) : (Instr.checkKey em 10000 4 (.bool x)).run Try.prog w = .ok () w :=
  (bool_keyed Try.underlying4).check w em (keyOf_bool_mk Try.underlying4 x)

theorem ins_true (w : World) (b : Nat) (f : Bool) (p : Value) (h : MapSt w b false f p) :
    ∃ w', (Instr.mapUpdate 28 (.map (some b)) (.bool true) (.int .i64 0)).run Try.prog w = .ok () w' ∧ MapSt w' b true f p ∧ (∀ B a, B ≤ b → Below B a w → Below B a w') := by
  obtain ⟨es, clock, hb, hx⟩ := h
  cases f with
  | false =>
    simp only at hx; subst hx
    refine ⟨setBlock w b (.map #[⟨.bool true, .int .i64 0, clock⟩] (clock + 1)), ?_, ⟨_, _, setBlock_at hb, clock, rfl⟩, fun B a hB hbel => below_setBlock hbel hB _⟩
    simp [Instr.mapUpdate, run_underlying Try.underlying28, run_underlying Try.underlying4, MapKept.run_getObj_map hb, bool_check, Instr.findKey, Instr.findNow, MapKept.run_setObj_map _ hb, Result.andThen, setBlock]
  | true =>
    simp only at hx; obtain ⟨k, rfl⟩ := hx
    refine ⟨setBlock w b (.map #[⟨.bool false, p, k⟩, ⟨.bool true, .int .i64 0, clock⟩] (clock + 1)), ?_, ⟨_, _, setBlock_at hb, clock, k, .inr rfl⟩, fun B a hB hbel => below_setBlock hbel hB _⟩
    simp [Instr.mapUpdate, run_underlying Try.underlying28, run_underlying Try.underlying4, MapKept.run_getObj_map hb, bool_check, Instr.findKey, Instr.findNow, Instr.sameNow, MapKept.run_setObj_map _ hb, Result.andThen, setBlock]
theorem ins_false (w : World) (b : Nat) (t : Bool) (p : Value) (h : MapSt w b t false p) :
    ∃ w', (Instr.mapUpdate 28 (.map (some b)) (.bool false) p).run Try.prog w = .ok () w' ∧ MapSt w' b t true p ∧ (∀ B a, B ≤ b → Below B a w → Below B a w') := by
  obtain ⟨es, clock, hb, hx⟩ := h
  cases t with
  | false =>
    simp only at hx; subst hx
    refine ⟨setBlock w b (.map #[⟨.bool false, p, clock⟩] (clock + 1)), ?_, ⟨_, _, setBlock_at hb, clock, rfl⟩, fun B a hB hbel => below_setBlock hbel hB _⟩
    simp [Instr.mapUpdate, run_underlying Try.underlying28, run_underlying Try.underlying4, MapKept.run_getObj_map hb, bool_check, Instr.findKey, Instr.findNow, MapKept.run_setObj_map _ hb, Result.andThen, setBlock]
  | true =>
    simp only at hx; obtain ⟨k, rfl⟩ := hx
    refine ⟨setBlock w b (.map #[⟨.bool true, .int .i64 0, k⟩, ⟨.bool false, p, clock⟩] (clock + 1)), ?_, ⟨_, _, setBlock_at hb, k, clock, .inl rfl⟩, fun B a hB hbel => below_setBlock hbel hB _⟩
    simp [Instr.mapUpdate, run_underlying Try.underlying28, run_underlying Try.underlying4, MapKept.run_getObj_map hb, bool_check, Instr.findKey, Instr.findNow, Instr.sameNow, MapKept.run_setObj_map _ hb, Result.andThen, setBlock]
theorem look_at (w : World) (b : Nat) (x : Bool) (p : Value) (h : MapSt w b true true p) :
    (Instr.lookup 28 (.map (some b)) (.bool x) false).run Try.prog w = .ok (if x then .int .i64 0 else p) w := by
  obtain ⟨es, clock, hb, hx⟩ := h
  simp only at hx
  obtain ⟨k, k', hx⟩ := hx
  rcases hx with rfl | rfl <;> cases x <;>
    simp [Instr.lookup, run_underlying Try.underlying28, run_underlying Try.underlying4, MapKept.run_getObj_map hb, bool_check, Instr.findKey, Instr.findNow, Instr.sameNow, Result.andThen]
end Go.Proofs.Ytcicghpljnlggaa
