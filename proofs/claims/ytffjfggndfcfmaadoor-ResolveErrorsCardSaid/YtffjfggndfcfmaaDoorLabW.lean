/- The walks of package label: Split, Join, Lower as Go runs them answer what the plain functions of Lab say. -/
import Derived.Test.YtffjfggndfcfmaaDoorKit
import Derived.Test.YtffjfggndfcfmaaDoorProg
namespace Go.Proofs.YtffjfggndfcfmaaDoor
open Go.RowKit

theorem str_info : (Tryd.prog.info? 9).map (fun i => (i.zero, i.size, i.bytes)) = some (some (.string .empty), 1, 16) := by kernel_rfl

set_option maxRecDepth 20000 in
set_option maxHeartbeats 400000 in
theorem split_any (s : ByteArray) (w : World) (hs : s.size ≤ 1000000) :
    Calls Tryd.prog 41 #[.string s] w fun e w' => ∃ v, e = .returned v ∧ w'.ownsRow w.heap.size 9 1 v (Lb.split s.data.toList).length ((Lb.split s.data.toList).map Lb.strV) ∧ Below w.heap.size w w' := by
  obtain ⟨i0, hi, hz0, hz1, hz2⟩ := info_parts str_info
  go_enter Tryd.func41, Tryd.ntmps41
  go_wp2
  go_loopw [3, 4, 9] (fun v f i wr => ∃ (xs : List Lb.Bytes) (frm k : Nat), k ≤ s.size + 1 ∧ i = .int .i64 k ∧ f = .int .i64 frm ∧ Lb.SplitAt s.data.toList xs frm k ∧ wr.ownsRow w.heap.size 9 1 v xs.length (xs.map Lb.strV) ∧ Below w.heap.size w wr)
    (fun _ _ i _ => s.size + 1 - (intOf i).toNat)
  case atStart => exact ⟨[], 0, 0, by omega, rfl, rfl, Lb.splitAt_start _, World.ownsRow_nil _ _ _ _, Below.refl _ _⟩
  case round =>
    obtain ⟨xs, frm, k, hk, rfl, rfl, hat, hown, hbel⟩ := hrel
    have hlen := Lb.splitAt_len hat
    have hf : frm ≤ k := hat.1
    have hbs : w.heap.size ≤ wr.heap.size := hbel.size
    have hxl : xs.length ≤ s.size + 1 := hlen
    clear hlen
    by_cases hend : k < s.size + 1
    · by_cases hc : k = s.size ∨ s.data.toList[k]? = some 46
      · have HC := Lib.hid (Lb.splitAt_cut hat (by show k ≤ s.size; omega) hc)
        have HE : (Lb.strV ((s.data.toList.drop frm).take (k - frm))) = .string (s.extract frm k) := by
          unfold Lb.strV Lb.str; rw [Lib.extract_eq]
        have HE := Lib.hid HE
        have ht : (((k : Int) == (s.size : Int)) = true) ∨ (∃ h : k < s.size, ((s[k].toNat : Int) == 46) = true ∧ ((k : Int) == (s.size : Int)) = false) := by
          by_cases hks : k = s.size
          · left; simp [hks]
          · right
            have hlt : k < s.size := by omega
            refine ⟨hlt, ?_, by simp; omega⟩
            rcases hc with hc | hc
            · exact absurd hc hks
            · rw [byte_at s k hlt] at hc
              injection hc with hc
              rw [hc]; rfl
        clear hc hat
        rcases ht with ht | ⟨hks, ht, ht2⟩
        all_goals
          go_wp2_with (at_builtin; refine wpList_append_own _ rfl (.tmp 22) (.tmp 27) 42 rfl w.heap.size 9 i0 (.string .empty) 1 16 Tryd.underlying42 hi hz0 hz1 hz2 rfl (by decide) _ _ _ rfl (hown.alloc _) ⟨wr.heap.size, 0, none⟩ 1 1 [.string (s.extract frm k)] rfl rfl (cell_one_new _ _ _) (by simp [Value.oneCell']) (by unfold maxLen; omega) (by omega) (by simp; omega) ?_; intro v' w1 hown' hgrow _)
          have hb' : Below w.heap.size w w1 := (hbel.alloc hbs _).grown hgrow (by simp; omega) (fun g hg => own_base_le hown hg)
          have hown2 : w1.ownsRow w.heap.size 9 1 v' (xs ++ [(s.data.toList.drop frm).take (k - frm)]).length ((xs ++ [(s.data.toList.drop frm).take (k - frm)]).map Lb.strV) := by
            rw [List.map_append, List.map_cons, List.map_nil, HE.out, List.length_append]; exact hown'
          have H2 := Lib.hid hown2
          clear hown' hown2 hgrow hown
          go_wp2
          go_roundw
          case rel => exact ⟨_, k + 1, k + 1, by omega, by go_num, by go_num, HC.out, H2.out, hb'⟩
          case measure => simp [intOf]; omega
      · have hks : k < s.size := by
          rcases Nat.lt_or_ge k s.size with h | h
          · exact h
          · exact absurd (.inl (by omega)) hc
        have ht : ((s[k].toNat : Int) == 46) = false := by
          have := byte_at s k hks
          simp only [beq_eq_false_iff_ne, ne_eq]
          intro e
          apply hc
          right
          rw [this]
          congr 1
          exact UInt8.toNat_inj.1 (by have h46 : (46 : UInt8).toNat = 46 := rfl; omega)
        have ht2 : ((k : Int) == (s.size : Int)) = false := by simp; omega
        have HC := Lib.hid (Lb.splitAt_on hat hks (fun h => hc (.inr h)))
        clear hc hat
        go_wp2
        go_roundw
        case rel => exact ⟨_, frm, k + 1, by omega, by go_num, rfl, HC.out, hown, hbel⟩
        case measure => simp [intOf]; omega
    · have hk2 : k = s.size + 1 := by omega
      have HX := Lib.hid (Lb.splitAt_end hat hk2)
      clear hat hk2
      go_wp2
      go_ret
      refine ⟨_, rfl, ?_, hbel⟩
      rw [← HX.out]
      exact hown

set_option maxHeartbeats 400000 in
theorem join_any (v : Value) (xs : List Lb.Bytes) (w : World) (hv : StrsAt w v xs) (hn : xs.length ≤ 1000000) (hj : (Lb.join xs).length ≤ 1000000) :
    Calls Tryd.prog 42 #[v] w fun e w' => e = .returned (Lb.strV (Lb.join xs)) ∧ w = w' := by
  rcases hv with ⟨rfl, A, c, rfl⟩ | ⟨b, o, c, rfl, hb, hcell⟩
  · go_enter Tryd.func42, Tryd.ntmps42
    go_wp2
    refine wp_loop_rounds 1 ?_
    rw [rounds_succ]
    go_wp2
    go_ret
    exact ⟨rfl, rfl⟩
  · have HJ := Lib.hid hj
    have HCELL := Lib.hid hcell
    clear hj hcell
    obtain ⟨n, hxn⟩ : ∃ n, xs.length = n := ⟨_, rfl⟩
    have HXN := Lib.hid hxn
    rw [hxn] at hn ⊢
    clear hxn
    go_enter Tryd.func42, Tryd.ntmps42
    go_wp2
    go_loop [3, 8] (fun s i => ∃ k : Nat, k ≤ n ∧ i = .int .i64 k ∧ s = .string (Lb.str (Lb.join (xs.take k)))) (fun _ i => n - (intOf i).toNat)
    case atStart => exact ⟨0, Nat.zero_le _, rfl, rfl⟩
    case round =>
      obtain ⟨k, hk, rfl, rfl⟩ := hrel
      by_cases hlt : k < n
      · have hx := HXN.out
        have hcell : w.cell? ⟨b, o + k, none⟩ = some (.string (Lb.str (xs.getD k []))) := HCELL.out k (by omega)
        have hlen := Lb.join_elem_le xs k (by omega)
        have hjb := HJ.out
        have hstep := Lb.join_step xs k (by omega)
        obtain ⟨J, hJ⟩ : ∃ J, Lb.str (Lb.join (xs.take k)) = J := ⟨_, rfl⟩
        obtain ⟨X, hX⟩ : ∃ X, Lb.str (xs.getD k []) = X := ⟨_, rfl⟩
        have hJs : J.size + X.size + (if k = 0 then 0 else 1) ≤ 1000000 := by
          have e1 : J.size = (Lb.join (xs.take k)).length := by rw [← hJ]; rfl
          have e2 : X.size = (xs.getD k []).length := by rw [← hX]; rfl
          omega
        by_cases h0 : k = 0
        · have hend : Lb.str (Lb.join (xs.take (k + 1))) = J ++ X := by
            rw [hstep, if_pos h0, ← hX, ← hJ, h0, Lb.str_append]; rfl
          have HE := Lib.hid hend
          rw [hX] at hcell
          rw [hJ]
          rw [if_pos h0] at hJs
          have h0' : ¬ (0 : Int) < (k : Int) := by omega
          clear hend hX hJ hstep hjb hlen hx h0
          go_wp2
          go_round
          case rel => exact ⟨k + 1, by omega, by go_num, by rw [HE.out]⟩
          case measure => simp [intOf]; omega
        · have hend : Lb.str (Lb.join (xs.take (k + 1))) = J ++ ⟨#[46]⟩ ++ X := by
            rw [hstep, if_neg h0, ← hX, ← hJ, ← Lb.str_append, ← Lb.str_append]; rfl
          have HE := Lib.hid hend
          rw [hX] at hcell
          rw [hJ]
          rw [if_neg h0] at hJs
          have h0' : (0 : Int) < (k : Int) := by omega
          have hd : (⟨#[46]⟩ : ByteArray).size = 1 := rfl
          have hd2 : (J ++ ⟨#[46]⟩ : ByteArray).size ≤ J.size + 1 := by rw [ByteArray.size_append, hd]; omega
          clear hend hX hJ hstep hjb hlen hx h0 hd
          go_wp2
          go_round
          case rel => exact ⟨k + 1, by omega, by go_num, by rw [HE.out]⟩
          case measure => simp [intOf]; omega
      · go_wp2
        go_ret
        refine ⟨?_, rfl⟩
        have := HXN.out
        rw [List.take_of_length_le (by omega)]
        rfl

/-- A block of bytes of the call's own that bears the mark behind its last cell: its first bytes are l. -/
def BytesBlk (w : World) (b : Nat) (l : Lb.Bytes) (m : Nat) : Prop :=
  ∃ C : Array Value, w.heap[b]? = some (.cells C 5 (m, m + 1)) ∧ l.length ≤ m ∧ ∀ j, j < l.length → C[j]? = some (.int .u8 ((l.getD j 0).toNat : Int))
theorem BytesBlk.cell {w : World} {b m : Nat} {l : Lb.Bytes} (h : BytesBlk w b l m) (j : Nat) (hj : j < l.length) : w.cell? ⟨b, j, none⟩ = some (.int .u8 ((l.getD j 0).toNat : Int)) := by
  obtain ⟨C, hb, _, hc⟩ := h
  rw [cell_of_row w b j C _ _ hb, hc j hj]
theorem BytesBlk.free {w : World} {b m : Nat} {l : Lb.Bytes} (h : BytesBlk w b l m) (j : Nat) (hj : j < l.length) : w.frozen? ⟨b, j, none⟩ = false := by
  obtain ⟨C, hb, hl, _⟩ := h
  unfold World.frozen?
  rw [hb]
  simp; omega
theorem BytesBlk.set {w : World} {b m : Nat} {l : Lb.Bytes} (h : BytesBlk w b l m) (j : Nat) (hj : j < l.length) (x : UInt8) : BytesBlk (w.setCell ⟨b, j, none⟩ (.int .u8 (x.toNat : Int))) b (l.set j x) m := by
  obtain ⟨C, hb, hl, hc⟩ := h
  refine ⟨C.setIfInBounds j (.int .u8 (x.toNat : Int)), ?_, by simpa using hl, ?_⟩
  · unfold World.setCell; simp [Array.getElem?_modify, hb]
  · intro i hi
    have hi' : i < l.length := by simpa using hi
    have hC : ∀ i, i < l.length → i < C.size := fun i hi => (Array.getElem?_eq_some_iff.1 (hc i hi)).1
    rw [Array.getElem?_setIfInBounds]
    by_cases e : j = i
    · subst e; simp [hC j hj, List.getD_eq_getElem?_getD, hj]
    · rw [if_neg e, hc i hi']
      simp [List.getD_eq_getElem?_getD, List.getElem?_set_ne e]

def lowTo (s : Lb.Bytes) (k : Nat) : Lb.Bytes := (s.take k).map Lb.lowerB ++ s.drop k
theorem lowTo_length (s : Lb.Bytes) (k : Nat) : (lowTo s k).length = s.length := by
  unfold lowTo; simp; omega
theorem lowTo_get (s : Lb.Bytes) (k : Nat) (h : k < s.length) : (lowTo s k).getD k 0 = s.getD k 0 := by
  unfold lowTo
  simp only [List.getD_eq_getElem?_getD]
  rw [List.getElem?_append_right (by simp; omega)]
  simp only [List.length_map, List.length_take, List.getElem?_drop]
  congr 2
  omega
theorem lowTo_step (s : Lb.Bytes) (k : Nat) (h : k < s.length) : lowTo s (k + 1) = (lowTo s k).set k (Lb.lowerB (s.getD k 0)) := by
  unfold lowTo
  apply List.ext_getElem?
  intro i
  have hm : min k s.length = k := by omega
  have hm1 : min (k + 1) s.length = k + 1 := by omega
  rw [List.getElem?_set]
  by_cases hi : k = i
  · subst hi
    rw [if_pos rfl, if_pos (by simp; omega), List.getElem?_append_left (by simp; omega)]
    simp [List.getD_eq_getElem?_getD, List.getElem?_eq_getElem h]
  · rw [if_neg hi]
    rcases Nat.lt_or_ge i k with hlt | hge
    · rw [List.getElem?_append_left (by simp; omega), List.getElem?_append_left (by simp; omega)]
      simp [hlt, show i < k + 1 by omega]
    · rw [List.getElem?_append_right (by simp; omega), List.getElem?_append_right (by simp; omega)]
      simp only [List.length_map, List.length_take, List.getElem?_drop, hm, hm1]
      congr 1
      omega
theorem lowTo_same (s : Lb.Bytes) (k : Nat) (h : k < s.length) (hc : Lb.lowerB (s.getD k 0) = s.getD k 0) : lowTo s (k + 1) = lowTo s k := by
  rw [lowTo_step s k h, hc, ← lowTo_get s k h]
  apply List.ext_getElem?
  intro i
  rw [List.getElem?_set]
  split
  · rename_i e; subst e
    have : k < (lowTo s k).length := by rw [lowTo_length]; exact h
    simp [List.getD_eq_getElem?_getD, this]
  · rfl
theorem lowTo_end (s : Lb.Bytes) (k : Nat) (h : s.length ≤ k) : lowTo s k = Lb.lower s := by
  unfold lowTo Lb.lower
  rw [List.take_of_length_le h, List.drop_eq_nil_of_le h, List.append_nil]
theorem lowTo_zero (s : Lb.Bytes) : lowTo s 0 = s := by simp [lowTo]
theorem getD_lt (l : Lb.Bytes) (k : Nat) : ((l.getD k 0).toNat : Int) < 256 := by have := (l.getD k 0).toNat_lt; omega

set_option maxRecDepth 20000 in
set_option maxHeartbeats 400000 in
theorem lower_any (s : ByteArray) (w : World) (hs : s.size ≤ 1000000) :
    Calls Tryd.prog 43 #[.string s] w fun e w' => e = .returned (Lb.strV (Lb.lower s.data.toList)) ∧ Below w.heap.size w w' := by
  obtain ⟨cap, hcap⟩ : ∃ cap, grownCap w s.size 0 5 = cap := ⟨_, rfl⟩
  have hge : s.size ≤ cap := by rw [← hcap]; exact grownCap_ge w s.size 0 5
  have hconv := run_bytes_of_string (P := Tryd.prog) w 9 54 5 s Tryd.underlying9 Tryd.underlying54 Tryd.underlying5
  rw [hcap] at hconv
  obtain ⟨W1, hW1⟩ : ∃ W1, w.drew.alloc (.cells (bytesRow s cap) 5 ((bytesRow s cap).size, (bytesRow s cap).size + 1)) = W1 := ⟨_, rfl⟩
  rw [hW1] at hconv
  have hblk : BytesBlk W1 w.heap.size (lowTo s.data.toList 0) (bytesRow s cap).size := by
    rw [lowTo_zero]
    refine ⟨bytesRow s cap, by rw [← hW1]; exact heap_alloc_new w.drew _, by simp [bytesRow], ?_⟩
    intro j hj
    have hj' : j < s.data.size := by simpa using hj
    rw [bytesRow_at s cap j hj']
    simp [List.getD_eq_getElem?_getD, Array.getElem?_eq_getElem hj']
  have hbel : Below w.heap.size w W1 := by rw [← hW1]; exact ((Below.refl _ _).drew).alloc (Nat.le_refl _) _
  clear hcap hW1
  generalize (bytesRow s cap).size = M at hblk
  go_enter Tryd.func43, Tryd.ntmps43
  go_wp2
  clear hconv
  go_loopw [10] (fun i wr => ∃ k : Nat, k ≤ s.size ∧ i = .int .i64 k ∧ BytesBlk wr w.heap.size (lowTo s.data.toList k) M ∧ Below w.heap.size w wr) (fun i _ => s.size - (intOf i).toNat)
  case atStart => exact ⟨0, Nat.zero_le _, rfl, hblk, hbel⟩
  case round =>
    clear hblk hbel
    obtain ⟨k, hk, rfl, hblk, hbel⟩ := hrel
    have hlen : (lowTo s.data.toList k).length = s.size := lowTo_length _ _
    by_cases hlt : k < s.size
    · have hcell := hblk.cell k (by omega)
      rw [lowTo_get _ _ (by exact hlt)] at hcell
      have hfree := hblk.free k (by omega)
      have hc256 := getD_lt s.data.toList k
      have HS := Lib.hid (lowTo_step s.data.toList k hlt)
      have HK := Lib.hid (lowTo_same s.data.toList k hlt)
      obtain ⟨c, hc⟩ : ∃ c, s.data.toList.getD k 0 = c := ⟨_, rfl⟩
      rw [hc] at hcell hc256 HS HK
      have hset := fun x => hblk.set k (by omega) x
      have HSET := Lib.hid hset
      have HB := Lib.hid hblk
      clear hset hblk hlen hc
      by_cases hup : 65 ≤ c.toNat ∧ c.toNat ≤ 90
      · have hlow : Lb.lowerB c = c + 32 := by unfold Lb.lowerB; rw [if_pos hup]
        have hnum : ((c + 32 : UInt8).toNat : Int) = (c.toNat : Int) + 32 := by
          rw [UInt8.toNat_add]; have : (32 : UInt8).toNat = 32 := rfl; omega
        have HL := Lib.hid hlow
        have HN := Lib.hid hnum
        have h1 : (65 : Int) ≤ (c.toNat : Int) := by omega
        have h2 : (c.toNat : Int) ≤ 90 := by omega
        clear hlow hnum hup
        go_wp2
        go_roundw
        case rel =>
          refine ⟨k + 1, by omega, by go_num, ?_, hbel.setCell (by simp) _⟩
          have := HSET.out (c + 32)
          rw [HN.out] at this
          rw [HS.out, HL.out]
          exact this
        case measure => simp [intOf]; omega
      · have hlow : Lb.lowerB c = c := by unfold Lb.lowerB; rw [if_neg hup]
        have HL := Lib.hid hlow
        have h1 : (c.toNat : Int) < 65 ∨ 90 < (c.toNat : Int) := by omega
        clear hlow hup
        rcases h1 with h1 | h1
        · go_wp2
          go_roundw
          case rel => exact ⟨k + 1, by omega, by go_num, by rw [HK.out HL.out]; exact HB.out, hbel⟩
          case measure => simp [intOf]; omega
        · have h2 : (65 : Int) ≤ (c.toNat : Int) := by omega
          go_wp2
          go_roundw
          case rel => exact ⟨k + 1, by omega, by go_num, by rw [HK.out HL.out]; exact HB.out, hbel⟩
          case measure => simp [intOf]; omega
    · have hend := lowTo_end s.data.toList k (by show s.size ≤ k; omega)
      have hconv : (convert 54 9 (.slice (some ⟨w.heap.size, 0, none⟩) s.size cap)).run Tryd.prog wr = .ok (Lb.strV (Lb.lower s.data.toList)) wr := by
        have := run_convert_bytes_back (P := Tryd.prog) wr 54 9 5 ⟨w.heap.size, 0, none⟩ cap (lowTo s.data.toList k) Tryd.underlying54 Tryd.underlying5 Tryd.underlying9 (fun j hj => by
          have := hblk.cell j hj
          rw [List.getD_eq_getElem?_getD, List.getElem?_eq_getElem hj] at this
          rw [show (⟨w.heap.size, 0, none⟩ : Addr).add j = ⟨w.heap.size, j, none⟩ by unfold Addr.add; split <;> simp_all]; exact this)
        rw [hlen, hend] at this
        exact this
      clear hend hlen hblk
      go_wp2
      go_ret
      exact ⟨rfl, hbel⟩
end Go.Proofs.YtffjfggndfcfmaaDoor
