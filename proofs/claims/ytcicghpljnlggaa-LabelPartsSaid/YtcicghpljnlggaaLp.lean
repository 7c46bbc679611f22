/- The walk of LabelParts. -/
import Derived.Test.YtcicghpljnlggaaLabW
import Derived.Test.YtcicghpljnlggaaReg
import Derived.Test.YtcicghpljnlggaaMapb
namespace Go.Proofs.Ytcicghpljnlggaa
open Go.RowKit

theorem fit_any (w : World) : Calls Try.prog 4 #[] w fun e w' => e = .returned (.bool true) ∧ Below w.heap.size w w' := by
  have e1 : Lb.under (⟨#[97, 46, 98, 46, 99]⟩ : ByteArray).data.toList (⟨#[66, 46, 99]⟩ : ByteArray).data.toList = true := by decide +kernel
  have e2 : Lb.under (⟨#[97, 98, 46, 99]⟩ : ByteArray).data.toList (⟨#[98, 46, 99]⟩ : ByteArray).data.toList = false := by decide +kernel
  have h1 := fun W => under_any ⟨#[97, 46, 98, 46, 99]⟩ ⟨#[66, 46, 99]⟩ W (by decide) (by decide)
  have h2 := fun W => under_any ⟨#[97, 98, 46, 99]⟩ ⟨#[98, 46, 99]⟩ W (by decide) (by decide)
  rw [e1] at h1
  rw [e2] at h2
  have H1 := Lib.hid h1
  have H2 := Lib.hid h2
  clear h1 h2 e1 e2
  go_enter Try.func4, Try.ntmps4
  go_wp2_with fail
  refine (H1.out _).mono ?_
  rintro e w1 ⟨rfl, hb1⟩
  go_wp2_with fail
  refine (H2.out _).mono ?_
  rintro e w2 ⟨rfl, hb2⟩
  go_wp2_with fail
  go_ret
  exact ⟨rfl, below_chain hb1 hb2 (Nat.le_refl _)⟩

theorem light_one (b c : Nat) (s : ByteArray) (w : World) (hs : s.size ≤ 9223372036854775807) (hc : w.cell? ⟨b, 0, none⟩ = some (.string s)) :
    Calls Try.prog 5 #[.slice (some ⟨b, 0, none⟩) 1 c] w fun e w' => e = .returned (.bool (decide ((s.size : Int) ≤ 600))) ∧ w = w' := by
  go_enter Try.func5, Try.ntmps5
  go_wp2
  refine wp_loop_rounds 2 ?_
  rw [rounds_succ]
  go_wp2
  rw [rounds_succ]
  go_wp2
  go_ret
  exact ⟨rfl, rfl⟩

theorem no_dot_at (x : Lb.Bytes) (h : ∀ c ∈ x, c ≠ 46) : ∀ j (hj : j < (Lb.str x).size), (((Lb.str x)[j].toNat : Int) == 46) = false := by
  intro j hj
  simp only [beq_eq_false_iff_ne, ne_eq]
  intro e
  refine h (Lb.str x)[j] ?_ (UInt8.toNat_inj.1 (by have h46 : (46 : UInt8).toNat = 46 := rfl; omega))
  have hb := byte_at (Lb.str x) j hj
  exact List.mem_of_getElem? hb
theorem count_snoc (l : Lb.Bytes) (k : Nat) (h : k < l.length) : (l.take (k + 1)).count 46 = (l.take k).count 46 + if l.getD k 0 = 46 then 1 else 0 := by
  rw [List.take_succ_eq_append_getElem h, List.count_append]
  simp [List.getD_eq_getElem?_getD, List.getElem?_eq_getElem h, List.count_singleton]
theorem count_take_le (l : Lb.Bytes) (k : Nat) : (l.take k).count 46 ≤ k := Nat.le_trans List.count_le_length (List.length_take_le _ _)

/-- The memory while the last statement's operations come up in whatever order: below the law's own blocks nothing has turned; the map, once made, has what has been put in. -/
def Mem23 (w w3 : World) (p : Value) (x : Nat) (listed : Array Bool) (wx : World) : Prop :=
  Below w.heap.size w wx ∧ (listed.getD 14 false = true → w.heap.size ≤ x ∧ w3.heap.size ≤ x ∧ MapSt wx x (listed.getD 15 false) (listed.getD 18 false) p) ∧
    (listed.getD 14 false = false → listed.getD 15 false = false ∧ listed.getD 18 false = false ∧ listed.getD 19 false = false) ∧ Below w3.heap.size w3 wx ∧ (listed.getD 19 false = true → listed.getD 14 false = true ∧ listed.getD 15 false = true ∧ listed.getD 18 false = true)
theorem mem23_start {w w3 : World} (h : Below w.heap.size w w3) (p : Value) (x n : Nat) : Mem23 w w3 p x (Array.replicate n false) w3.drew := by
  have hf : ∀ i : Nat, (Array.replicate n false).getD i false = false := by
    intro i
    simp [Array.getD_eq_getD_getElem?, Array.getElem?_replicate]
    split <;> rfl
  refine ⟨h.drew, fun h => ?_, fun _ => ⟨hf 15, hf 18, hf 19⟩, (Below.refl _ _).drew, fun h => by rw [hf 19] at h; cases h⟩
  rw [hf 14] at h; cases h
theorem mem23_other {w w3 wx : World} {p : Value} {x i : Nat} {listed : Array Bool} (hne : 14 ≠ i ∧ 15 ≠ i ∧ 18 ≠ i ∧ 19 ≠ i) (h : Mem23 w w3 p x listed wx) (hi : i < listed.size) : Mem23 w w3 p x (listed.setIfInBounds i true) wx := by
  have e : ∀ j, i ≠ j → (listed.setIfInBounds i true).getD j false = listed.getD j false := fun j hj => by rw [getD_set listed i j hi, decide_eq_false hj, Bool.false_or]
  unfold Mem23
  rw [e 14 (Ne.symm hne.1), e 15 (Ne.symm hne.2.1), e 18 (Ne.symm hne.2.2.1), e 19 (Ne.symm hne.2.2.2)]
  exact h
theorem mem23_below {w w3 wx w' : World} {p : Value} {x i : Nat} {listed : Array Bool} (hne : 14 ≠ i ∧ 15 ≠ i ∧ 18 ≠ i ∧ 19 ≠ i) (h : Mem23 w w3 p x listed wx) (hi : i < listed.size) (hb : Below wx.heap.size wx w') : Mem23 w w3 p x (listed.setIfInBounds i true) w' := by
  refine mem23_other hne ?_ hi
  obtain ⟨h1, h2, h3, h4, h5⟩ := h
  exact ⟨below_chain h1 hb (Nat.le_refl _), fun hl => ⟨(h2 hl).1, (h2 hl).2.1, (h2 hl).2.2.below hb⟩, h3, below_chain h4 hb (Nat.le_refl _), h5⟩
theorem mem23_19 {w w3 wx : World} {p : Value} {x : Nat} {listed : Array Bool} (h : Mem23 w w3 p x listed wx) (hi : 19 < listed.size) (h14 : listed.getD 14 false = true) (h15 : listed.getD 15 false = true) (h18 : listed.getD 18 false = true) : Mem23 w w3 p x (listed.setIfInBounds 19 true) wx := by
  have e : ∀ j, 19 ≠ j → (listed.setIfInBounds 19 true).getD j false = listed.getD j false := fun j hj => by rw [getD_set listed 19 j hi, decide_eq_false hj, Bool.false_or]
  obtain ⟨h1, h2, h3, h4⟩ := h
  refine ⟨h1, ?_, ?_, h4.1, ?_⟩
  · rw [e 14 (by decide), e 15 (by decide), e 18 (by decide)]; exact h2
  · rw [e 14 (by decide)]; intro hn; rw [hn] at h14; cases h14
  · rw [e 14 (by decide), e 15 (by decide), e 18 (by decide)]; exact fun _ => ⟨h14, h15, h18⟩
theorem mem23_make {w w3 wx : World} {p : Value} {x : Nat} {listed : Array Bool} (h : Mem23 w w3 p x listed wx) (hi : 14 < listed.size) (hl : listed.getD 14 false = false) :
    Mem23 w w3 p wx.heap.size (listed.setIfInBounds 14 true) (wx.alloc (.map #[] 0)) := by
  have e : ∀ j, 14 ≠ j → (listed.setIfInBounds 14 true).getD j false = listed.getD j false := fun j hj => by rw [getD_set listed 14 j hi, decide_eq_false hj, Bool.false_or]
  obtain ⟨h1, h2, h3, h4⟩ := h
  obtain ⟨f15, f18, f19⟩ := h3 hl
  obtain ⟨h4, h5⟩ := h4
  refine ⟨h1.alloc h1.size _, ?_, ?_, h4.alloc h4.size _, ?_⟩
  · rw [e 15 (by decide), e 18 (by decide), f15, f18]
    exact fun _ => ⟨h1.size, h4.size, mapSt_made wx p⟩
  · rw [getD_set listed 14 14 hi]; intro hn; simp at hn
  · rw [e 19 (by decide), f19]; intro hn; cases hn
theorem mem23_true {w w3 wx w' : World} {p : Value} {x : Nat} {listed : Array Bool} (h : Mem23 w w3 p x listed wx) (hi : 15 < listed.size) (h14 : listed.getD 14 false = true) 
    (hst : MapSt w' x true (listed.getD 18 false) p) (hB : ∀ B a, B ≤ x → Below B a wx → Below B a w') : Mem23 w w3 p x (listed.setIfInBounds 15 true) w' := by
  have e : ∀ j, 15 ≠ j → (listed.setIfInBounds 15 true).getD j false = listed.getD j false := fun j hj => by rw [getD_set listed 15 j hi, decide_eq_false hj, Bool.false_or]
  obtain ⟨h1, h2, h3, h4⟩ := h
  obtain ⟨h4, h5⟩ := h4
  refine ⟨hB _ _ (h2 h14).1 h1, ?_, ?_, hB _ _ (h2 h14).2.1 h4, ?_⟩
  rotate_right
  · rw [e 14 (by decide), e 18 (by decide), e 19 (by decide), getD_set listed 15 15 hi]; exact fun h => ⟨(h5 h).1, by simp, (h5 h).2.2⟩
  · rw [e 18 (by decide), getD_set listed 15 15 hi]
    exact fun _ => ⟨(h2 h14).1, (h2 h14).2.1, by simpa using hst⟩
  · rw [e 14 (by decide)]; intro hn; rw [hn] at h14; cases h14
theorem mem23_false {w w3 wx w' : World} {p : Value} {x : Nat} {listed : Array Bool} (h : Mem23 w w3 p x listed wx) (hi : 18 < listed.size) (h14 : listed.getD 14 false = true) 
    (hst : MapSt w' x (listed.getD 15 false) true p) (hB : ∀ B a, B ≤ x → Below B a wx → Below B a w') : Mem23 w w3 p x (listed.setIfInBounds 18 true) w' := by
  have e : ∀ j, 18 ≠ j → (listed.setIfInBounds 18 true).getD j false = listed.getD j false := fun j hj => by rw [getD_set listed 18 j hi, decide_eq_false hj, Bool.false_or]
  obtain ⟨h1, h2, h3, h4⟩ := h
  obtain ⟨h4, h5⟩ := h4
  refine ⟨hB _ _ (h2 h14).1 h1, ?_, ?_, hB _ _ (h2 h14).2.1 h4, ?_⟩
  rotate_right
  · rw [e 14 (by decide), e 15 (by decide), e 19 (by decide), getD_set listed 18 18 hi]; exact fun h => ⟨(h5 h).1, (h5 h).2.1, by simp⟩
  · rw [e 15 (by decide), getD_set listed 18 18 hi]
    exact fun _ => ⟨(h2 h14).1, (h2 h14).2.1, by simpa using hst⟩
  · rw [e 14 (by decide)]; intro hn; rw [hn] at h14; cases h14

set_option maxRecDepth 20000 in
set_option maxHeartbeats 1000000 in
theorem law_any (s : ByteArray) (hs : s.size ≤ maxLen) (w : World) :
    Calls Try.prog 3 #[.string s] w fun e w' => e = .returned (.bool true) ∧ Below w.heap.size w w' := by
  unfold maxLen at hs
  by_cases h6 : (s.size : Int) ≤ 600
  · have hd : decide ((s.size : Int) ≤ 600) = true := decide_eq_true h6
    have HS := Lib.hid (Lb.split_no_dot s.data.toList)
    have HC := Lib.hid (Lb.split_count s.data.toList)
    have HJ := Lib.hid (Lb.join_split s.data.toList)
    have hlen := Lb.split_length_le s.data.toList
    have hlen2 : (Lb.split s.data.toList).length ≤ s.size + 1 := hlen
    clear hlen
    go_enter Try.func3, Try.ntmps3
    go_wp2_with fail
    refine (fit_any _).mono ?_
    rintro e w1 ⟨rfl, hb1⟩
    go_wp2_with fail
    refine (light_one w1.heap.size 1 s _ hs ?_).mono ?_
    · exact cell_one_new w1 (.string s) 9 0 _ rfl
    rintro e w2 ⟨rfl, rfl⟩
    rw [hd]
    go_wp2_with fail
    refine (split_any s _ (by omega)).mono ?_
    rintro e w3 ⟨v3, rfl, ho3, hb3⟩
    have hbel : Below w.heap.size w w3 := below_chain (hb1.alloc hb1.size _) hb3 (by simp)
    have s3 := strsAt_of_own ho3
    obtain ⟨A3, c3, rfl⟩ := own_len ho3
    clear ho3 hb1 hb3 hd
    obtain ⟨n, hn⟩ : ∃ n, (Lb.split s.data.toList).length = n := ⟨_, rfl⟩
    have HN := Lib.hid hn
    rw [hn] at hlen2
    rw [hn]
    have s3' : StrsAt w3 (.slice A3 n c3) (Lb.split s.data.toList) := by rw [← hn]; exact s3
    have S3 := Lib.hid s3'
    clear hn s3 s3'
    go_wp2
    go_loop [4, 19] (fun p i => ∃ k : Nat, k ≤ s.size ∧ i = .int .i64 k ∧ p = .int .i64 ((s.data.toList.take k).count 46 : Nat)) (fun _ i => s.size - (intOf i).toNat)
    case atStart => exact ⟨0, Nat.zero_le _, rfl, rfl⟩
    case round =>
      obtain ⟨k, hk, rfl, rfl⟩ := hrel
      have hcl := count_take_le s.data.toList k
      by_cases hlt : k < s.size
      · have hst := Lib.hid (count_snoc s.data.toList k hlt)
        generalize (s.data.toList.take k).count 46 = P at hst hcl ⊢
        by_cases h46 : s.data.toList.getD k 0 = 46
        · have ht : ((s[k].toNat : Int) == 46) = true := by
            have := byte_at s k hlt
            rw [List.getD_eq_getElem?_getD, this] at h46
            simp at h46
            rw [h46]; rfl
          have H46 := Lib.hid h46
          clear h46
          go_wp2
          go_round
          case rel => exact ⟨k + 1, by omega, by go_num, by rw [hst.out, if_pos H46.out]; go_num⟩
          case measure => simp [intOf]; omega
        · have ht : ((s[k].toNat : Int) == 46) = false := by
            have := byte_at s k hlt
            rw [List.getD_eq_getElem?_getD, this] at h46
            simp only [beq_eq_false_iff_ne, ne_eq]
            intro e
            apply h46
            exact UInt8.toNat_inj.1 (by have h46 : (46 : UInt8).toNat = 46 := rfl; simp only [Option.getD_some]; omega)
          have H46 := Lib.hid h46
          clear h46
          go_wp2
          go_round
          case rel => exact ⟨k + 1, by omega, by go_num, by rw [hst.out, if_neg H46.out]; rfl⟩
          case measure => simp [intOf]; omega
      · have hall : s.data.toList.take k = s.data.toList := List.take_of_length_le (by show s.size ≤ k; omega)
        have hpc : (s.data.toList.count 46 : Nat) + 1 = n := by rw [← HN.out, HC.out]
        rw [hall]
        have hpc2 : (s.data.toList.count 46 : Nat) ≤ 600 := by omega
        have HP := Lib.hid hpc
        generalize s.data.toList.count 46 = P at HP hpc2 ⊢
        clear hall hpc hcl
        rcases S3.out with ⟨hx, A, c, hv⟩ | ⟨b, o, c, hv, hblt, hcell⟩
        · exact absurd hx (Lb.split_ne_nil _)
        rw [HN.out] at hv
        injection hv with hA _ hC
        subst hA
        subst hC
        have HCELL := Lib.hid hcell
        clear hcell
        go_wp2
        go_loop [31] (fun i => ∃ k : Nat, k ≤ n ∧ i = .int .i64 k) (fun i => n - (intOf i).toNat)
        case atStart => exact ⟨0, Nat.zero_le _, rfl⟩
        case round =>
          obtain ⟨k, hk, rfl⟩ := hrel
          by_cases hlt : k < n
          · have hnn := HN.out
            have hcell : w3.cell? ⟨b, o + k, none⟩ = some (.string (Lb.str ((Lb.split s.data.toList).getD k []))) := HCELL.out k (by omega)
            have hnd : ∀ c ∈ (Lb.split s.data.toList).getD k [], c ≠ 46 := by
              have hm : (Lb.split s.data.toList).getD k [] ∈ Lb.split s.data.toList := by
                rw [List.getD_eq_getElem?_getD, List.getElem?_eq_getElem (by omega)]; exact List.getElem_mem _
              exact HS.out _ hm
            have hXl := no_dot_at _ hnd
            have hXs : (Lb.str ((Lb.split s.data.toList).getD k [])).size ≤ 600 := by
              have h1 := Lb.join_elem_le (Lb.split s.data.toList) k (by omega)
              rw [HJ.out] at h1
              have h2 : (Lb.str ((Lb.split s.data.toList).getD k [])).size = ((Lb.split s.data.toList).getD k []).length := rfl
              have h3 : s.data.toList.length = s.size := rfl
              omega
            generalize Lb.str ((Lb.split s.data.toList).getD k []) = X at hXl hXs hcell
            have HXL := Lib.hid hXl
            clear hnd hXl hnn
            go_wp2
            go_loop [37] (fun i => ∃ j : Nat, j ≤ X.size ∧ i = .int .i64 j) (fun i => X.size - (intOf i).toNat)
            case atStart => exact ⟨0, Nat.zero_le _, rfl⟩
            case round =>
              obtain ⟨j, hj, rfl⟩ := hrel
              by_cases hjl : j < X.size
              · have ht := HXL.out j hjl
                go_wp2
                go_round
                case rel => exact ⟨j + 1, by omega, by go_num⟩
                case measure => simp [intOf]; omega
              · go_wp2
                go_round
                case rel => exact ⟨k + 1, by omega, by go_num⟩
                case measure => simp [intOf]; omega
          · have hpn := HP.out
            have g1 : ((n : Int) == ((P : Int) + 1)) = true := by simp; omega
            have g2 : IntKind.i64.wrap ((P : Int) + 1) = (P : Int) + 1 := IntWalk.i64_in _ (by omega)
            have g3 : ((Lb.str (Lb.join (Lb.split s.data.toList))).toList == s.toList) = true := by rw [HJ.out, Lb.str_back]; simp
            have hjn : (Lb.split s.data.toList).length ≤ 1000000 := by have := HN.out; omega
            have hjj : (Lb.join (Lb.split s.data.toList)).length ≤ 1000000 := by rw [HJ.out]; show s.size ≤ _; omega
            have hss : s.size ≤ 1000000 := by omega
            have hcnt : ((Lb.count s.data.toList : Int) == (if (s.toList == [46]) = true then 0 else (P : Int) + 1)) = true := by
              rw [str_eq_iff, beq_iff_eq]
              by_cases e : s.data.toList = [46]
              · rw [e]; rfl
              · rw [if_neg (by simpa using e)]; unfold Lb.count; rw [if_neg e, HN.out]; omega
            have JN := Lib.hid hjn
            have JJ := Lib.hid hjj
            have HCNT := Lib.hid hcnt
            clear hpn hjn hjj hcnt
            go_wp2
            let vals : Nat → Nat → Value := fun x i => cond (i == 14 || i == 19) (.map (some x)) ([(.slice (some ⟨b, o, none⟩) n c3), (.int .i64 n), (.int .i64 P), (.int .i64 ((P : Int) + 1)), (.bool true), (.bool true), (.slice (some ⟨b, o, none⟩) n c3), (.string s), (.string s), (.bool true), (.bool true), (.bool true), (.string s), (.int .i64 (Lb.count s.data.toList)), undef, undef, (.int .i64 P), (.int .i64 ((P : Int) + 1)), undef, undef, (.string s), (.bool (s.toList == [46])), (.int .i64 (Lb.count s.data.toList)), (.bool true), (.bool true), (.bool true)].getD i undef)
            refine wp_region_inv (by kernel_rfl) vals (Mem23 w w3 (.int .i64 ((P : Int) + 1))) 0 (by kernel_rfl) (by kernel_rfl) (by kernel_rfl) ?_ ?_ ?_
            · exact mem23_start hbel _ _ _
            · refine ⟨?_, ?_, ?_, ?_, ?_, ?_, ?_, ?_, ?_, ?_, ?_, ?_, ?_, ?_, ?_, ?_, ?_, ?_, ?_, ?_, ?_, ?_, ?_, ?_, ?_, ?_, trivial⟩
              · intro x listed a wx K hI hM hi hl hdep hK
                have s3 : a.tmps[3]?.getD undef = (.slice (some ⟨b, o, none⟩) n c3) := hI.old (by rfl)
                refine wpOp_step rfl (fun K' hK' => ?_)
                go_simp
                exact hK' _ _ (hK x wx (fun _ _ => rfl) (mem23_other (by decide) hM hi))
              · intro x listed a wx K hI hM hi hl hdep hK
                have d0 := hdep ⟨0, .data⟩ (by simp) rfl
                have s46 : a.tmps[46]?.getD undef = (.slice (some ⟨b, o, none⟩) n c3) := hI.slot (i := 0) rfl d0 rfl
                refine wpOp_step rfl (fun K' hK' => ?_)
                go_simp
                exact hK' _ _ (hK x wx (fun _ _ => rfl) (mem23_other (by decide) hM hi))
              · intro x listed a wx K hI hM hi hl hdep hK
                have s4 : a.tmps[4]?.getD undef = (.int .i64 P) := hI.old (by rfl)
                refine wpOp_step rfl (fun K' hK' => ?_)
                go_simp
                exact hK' _ _ (hK x wx (fun _ _ => rfl) (mem23_other (by decide) hM hi))
              · intro x listed a wx K hI hM hi hl hdep hK
                have d2 := hdep ⟨2, .data⟩ (by simp) rfl
                have s48 : a.tmps[48]?.getD undef = (.int .i64 P) := hI.slot (i := 2) rfl d2 rfl
                refine wpOp_step rfl (fun K' hK' => ?_)
                go_simp
                exact hK' _ _ (hK x wx (fun _ _ => rfl) (mem23_other (by decide) hM hi))
              · intro x listed a wx K hI hM hi hl hdep hK
                have d1 := hdep ⟨1, .data⟩ (by simp) rfl
                have s47 : a.tmps[47]?.getD undef = (.int .i64 n) := hI.slot (i := 1) rfl d1 rfl
                have d3 := hdep ⟨3, .data⟩ (by simp) rfl
                have s49 : a.tmps[49]?.getD undef = (.int .i64 ((P : Int) + 1)) := hI.slot (i := 3) rfl d3 rfl
                refine wpOp_step rfl (fun K' hK' => ?_)
                go_simp
                exact hK' _ _ (hK x wx (fun _ _ => rfl) (mem23_other (by decide) hM hi))
              · intro x listed a wx K hI hM hi hl hdep hK
                have d4 := hdep ⟨4, .data⟩ (by simp) rfl
                have s50 : a.tmps[50]?.getD undef = (.bool true) := hI.slot (i := 4) rfl d4 rfl
                refine wpOp_step rfl (fun K' hK' => ?_)
                go_simp
                exact hK' _ _ (hK x wx (fun _ _ => rfl) (mem23_other (by decide) hM hi))
              · intro x listed a wx K hI hM hi hl hdep hK
                have s3 : a.tmps[3]?.getD undef = (.slice (some ⟨b, o, none⟩) n c3) := hI.old (by rfl)
                have dg := hdep ⟨5, .guard⟩ (by simp) rfl
                have hg : a.tmps[51]? = some (.bool true) := hI.done 5 _ 51 rfl dg rfl
                refine wpOp_step rfl (fun K' hK' => ?_)
                go_simp
                exact hK' _ _ (hK x wx (fun _ _ => rfl) (mem23_other (by decide) hM hi))
              · intro x listed a wx K hI hM hi hl hdep hK
                have d6 := hdep ⟨6, .data⟩ (by simp) rfl
                have s52 : a.tmps[52]?.getD undef = (.slice (some ⟨b, o, none⟩) n c3) := hI.slot (i := 6) rfl d6 rfl
                have dg := hdep ⟨5, .guard⟩ (by simp) rfl
                have hg : a.tmps[51]? = some (.bool true) := hI.done 5 _ 51 rfl dg rfl
                have S3x : StrsAt wx (.slice (some ⟨b, o, none⟩) n c3) (Lb.split s.data.toList) := S3.out.below hM.2.2.2.1 (Nat.le_refl _)
                refine wpOp_step rfl (fun K' hK' => ?_)
                go_simp
                refine (join_any (.slice (some ⟨b, o, none⟩) n c3) (Lb.split s.data.toList) wx S3x JN.out JJ.out).mono ?_
                rintro e w4 ⟨rfl, rfl⟩
                rw [HJ.out]
                exact hK' _ _ (hK x wx (fun _ _ => rfl) (mem23_other (by decide) hM hi))
              · intro x listed a wx K hI hM hi hl hdep hK
                have s0 : a.tmps[0]?.getD undef = (.string s) := hI.old (by rfl)
                have dg := hdep ⟨5, .guard⟩ (by simp) rfl
                have hg : a.tmps[51]? = some (.bool true) := hI.done 5 _ 51 rfl dg rfl
                refine wpOp_step rfl (fun K' hK' => ?_)
                go_simp
                exact hK' _ _ (hK x wx (fun _ _ => rfl) (mem23_other (by decide) hM hi))
              · intro x listed a wx K hI hM hi hl hdep hK
                have d7 := hdep ⟨7, .data⟩ (by simp) rfl
                have s53 : a.tmps[53]?.getD undef = (.string s) := hI.slot (i := 7) rfl d7 rfl
                have d8 := hdep ⟨8, .data⟩ (by simp) rfl
                have s54 : a.tmps[54]?.getD undef = (.string s) := hI.slot (i := 8) rfl d8 rfl
                have dg := hdep ⟨5, .guard⟩ (by simp) rfl
                have hg : a.tmps[51]? = some (.bool true) := hI.done 5 _ 51 rfl dg rfl
                refine wpOp_step rfl (fun K' hK' => ?_)
                go_simp
                exact hK' _ _ (hK x wx (fun _ _ => rfl) (mem23_other (by decide) hM hi))
              · intro x listed a wx K hI hM hi hl hdep hK
                have d5 := hdep ⟨5, .data⟩ (by simp) rfl
                have s51 : a.tmps[51]?.getD undef = (.bool true) := hI.slot (i := 5) rfl d5 rfl
                have d9 := hdep ⟨9, .data⟩ (by simp) rfl
                have s55 : a.tmps[55]?.getD undef = (.bool true) := hI.slot (i := 9) rfl d9 rfl
                refine wpOp_step rfl (fun K' hK' => ?_)
                go_simp
                exact hK' _ _ (hK x wx (fun _ _ => rfl) (mem23_other (by decide) hM hi))
              · intro x listed a wx K hI hM hi hl hdep hK
                have d10 := hdep ⟨10, .data⟩ (by simp) rfl
                have s56 : a.tmps[56]?.getD undef = (.bool true) := hI.slot (i := 10) rfl d10 rfl
                refine wpOp_step rfl (fun K' hK' => ?_)
                go_simp
                exact hK' _ _ (hK x wx (fun _ _ => rfl) (mem23_other (by decide) hM hi))
              · intro x listed a wx K hI hM hi hl hdep hK
                have s0 : a.tmps[0]?.getD undef = (.string s) := hI.old (by rfl)
                have dg := hdep ⟨11, .guard⟩ (by simp) rfl
                have hg : a.tmps[57]? = some (.bool true) := hI.done 11 _ 57 rfl dg rfl
                refine wpOp_step rfl (fun K' hK' => ?_)
                go_simp
                exact hK' _ _ (hK x wx (fun _ _ => rfl) (mem23_other (by decide) hM hi))
              · intro x listed a wx K hI hM hi hl hdep hK
                have d12 := hdep ⟨12, .data⟩ (by simp) rfl
                have s58 : a.tmps[58]?.getD undef = (.string s) := hI.slot (i := 12) rfl d12 rfl
                have dg := hdep ⟨11, .guard⟩ (by simp) rfl
                have hg : a.tmps[57]? = some (.bool true) := hI.done 11 _ 57 rfl dg rfl
                refine wpOp_step rfl (fun K' hK' => ?_)
                go_simp
                refine (count_any s wx hss).mono ?_
                rintro e w4 ⟨rfl, hb4⟩
                exact hK' _ _ (hK x w4 (fun _ _ => rfl) (mem23_below (by decide) hM hi hb4))
              · intro x listed a wx K hI hM hi hl hdep hK
                have dg := hdep ⟨11, .guard⟩ (by simp) rfl
                have hg : a.tmps[57]? = some (.bool true) := hI.done 11 _ 57 rfl dg rfl
                refine wpOp_step rfl (fun K' hK' => ?_)
                go_simp
                exact hK' _ _ (hK wx.heap.size _ (fun j hj => by
                  have n14 : j ≠ 14 := by rintro rfl; rw [hl] at hj; cases hj
                  have n19 : j ≠ 19 := by rintro rfl; rw [(hM.2.2.1 hl).2.2] at hj; cases hj
                  have e14 : (j == 14) = false := by simpa using n14
                  have e19 : (j == 19) = false := by simpa using n19
                  show cond (j == 14 || j == 19) _ _ = cond (j == 14 || j == 19) _ _
                  rw [e14, e19]; rfl) (mem23_make hM hi hl))
              · intro x listed a wx K hI hM hi hl hdep hK
                have d14 := hdep ⟨14, .data⟩ (by simp) rfl
                have s60 : a.tmps[60]?.getD undef = (.map (some x)) := hI.slot (i := 14) rfl d14 rfl
                have dg := hdep ⟨11, .guard⟩ (by simp) rfl
                have hg : a.tmps[57]? = some (.bool true) := hI.done 11 _ 57 rfl dg rfl
                refine wpOp_step rfl (fun K' hK' => ?_)
                go_simp
                obtain ⟨w', hr, hst, hB⟩ := ins_true wx x (listed.getD 18 false) (.int .i64 ((P : Int) + 1)) (by have := (hM.2.1 d14).2.2; rw [hl] at this; exact this)
                rw [hr]
                exact hK' _ _ (hK x w' (fun _ _ => rfl) (mem23_true hM hi d14 hst hB))
              · intro x listed a wx K hI hM hi hl hdep hK
                have s4 : a.tmps[4]?.getD undef = (.int .i64 P) := hI.old (by rfl)
                have dg := hdep ⟨11, .guard⟩ (by simp) rfl
                have hg : a.tmps[57]? = some (.bool true) := hI.done 11 _ 57 rfl dg rfl
                refine wpOp_step rfl (fun K' hK' => ?_)
                go_simp
                exact hK' _ _ (hK x wx (fun _ _ => rfl) (mem23_other (by decide) hM hi))
              · intro x listed a wx K hI hM hi hl hdep hK
                have d16 := hdep ⟨16, .data⟩ (by simp) rfl
                have s61 : a.tmps[61]?.getD undef = (.int .i64 P) := hI.slot (i := 16) rfl d16 rfl
                have dg := hdep ⟨11, .guard⟩ (by simp) rfl
                have hg : a.tmps[57]? = some (.bool true) := hI.done 11 _ 57 rfl dg rfl
                refine wpOp_step rfl (fun K' hK' => ?_)
                go_simp
                exact hK' _ _ (hK x wx (fun _ _ => rfl) (mem23_other (by decide) hM hi))
              · intro x listed a wx K hI hM hi hl hdep hK
                have d14 := hdep ⟨14, .data⟩ (by simp) rfl
                have s60 : a.tmps[60]?.getD undef = (.map (some x)) := hI.slot (i := 14) rfl d14 rfl
                have d17 := hdep ⟨17, .data⟩ (by simp) rfl
                have s62 : a.tmps[62]?.getD undef = (.int .i64 ((P : Int) + 1)) := hI.slot (i := 17) rfl d17 rfl
                have dg := hdep ⟨11, .guard⟩ (by simp) rfl
                have hg : a.tmps[57]? = some (.bool true) := hI.done 11 _ 57 rfl dg rfl
                refine wpOp_step rfl (fun K' hK' => ?_)
                go_simp
                obtain ⟨w', hr, hst, hB⟩ := ins_false wx x (listed.getD 15 false) (.int .i64 ((P : Int) + 1)) (by have := (hM.2.1 d14).2.2; rw [hl] at this; exact this)
                rw [hr]
                exact hK' _ _ (hK x w' (fun _ _ => rfl) (mem23_false hM hi d14 hst hB))
              · intro x listed a wx K hI hM hi hl hdep hK
                have d14 := hdep ⟨14, .data⟩ (by simp) rfl
                have s60 : a.tmps[60]?.getD undef = (.map (some x)) := hI.slot (i := 14) rfl d14 rfl
                have dg := hdep ⟨11, .guard⟩ (by simp) rfl
                have hg : a.tmps[57]? = some (.bool true) := hI.done 11 _ 57 rfl dg rfl
                refine wpOp_step rfl (fun K' hK' => ?_)
                go_simp
                exact hK' _ _ (hK x wx (fun _ _ => rfl) (mem23_19 hM hi d14 (hdep ⟨15, .data⟩ (by simp) rfl) (hdep ⟨18, .data⟩ (by simp) rfl)))
              · intro x listed a wx K hI hM hi hl hdep hK
                have s0 : a.tmps[0]?.getD undef = (.string s) := hI.old (by rfl)
                have dg := hdep ⟨11, .guard⟩ (by simp) rfl
                have hg : a.tmps[57]? = some (.bool true) := hI.done 11 _ 57 rfl dg rfl
                refine wpOp_step rfl (fun K' hK' => ?_)
                go_simp
                exact hK' _ _ (hK x wx (fun _ _ => rfl) (mem23_other (by decide) hM hi))
              · intro x listed a wx K hI hM hi hl hdep hK
                have d20 := hdep ⟨20, .data⟩ (by simp) rfl
                have s64 : a.tmps[64]?.getD undef = (.string s) := hI.slot (i := 20) rfl d20 rfl
                have dg := hdep ⟨11, .guard⟩ (by simp) rfl
                have hg : a.tmps[57]? = some (.bool true) := hI.done 11 _ 57 rfl dg rfl
                refine wpOp_step rfl (fun K' hK' => ?_)
                go_simp
                exact hK' _ _ (hK x wx (fun _ _ => rfl) (mem23_other (by decide) hM hi))
              · intro x listed a wx K hI hM hi hl hdep hK
                have d19 := hdep ⟨19, .data⟩ (by simp) rfl
                have s63 : a.tmps[63]?.getD undef = (.map (some x)) := hI.slot (i := 19) rfl d19 rfl
                have d21 := hdep ⟨21, .data⟩ (by simp) rfl
                have s65 : a.tmps[65]?.getD undef = (.bool (s.toList == [46])) := hI.slot (i := 21) rfl d21 rfl
                have dg := hdep ⟨11, .guard⟩ (by simp) rfl
                have hg : a.tmps[57]? = some (.bool true) := hI.done 11 _ 57 rfl dg rfl
                refine wpOp_step rfl (fun K' hK' => ?_)
                go_simp
                obtain ⟨l14, l15, l18⟩ := hM.2.2.2.2 d19
                have hst := (hM.2.1 l14).2.2
                rw [l15, l18] at hst
                rw [look_at wx x (s.toList == [46]) (.int .i64 ((P : Int) + 1)) hst]
                have hcv : (if (s.toList == [46]) = true then Value.int .i64 0 else .int .i64 ((P : Int) + 1)) = .int .i64 (Lb.count s.data.toList) := by
                  have := beq_iff_eq.1 HCNT.out
                  rw [this]; split <;> rfl
                rw [hcv]
                exact hK' _ _ (hK x wx (fun _ _ => rfl) (mem23_other (by decide) hM hi))
              · intro x listed a wx K hI hM hi hl hdep hK
                have d13 := hdep ⟨13, .data⟩ (by simp) rfl
                have s59 : a.tmps[59]?.getD undef = (.int .i64 (Lb.count s.data.toList)) := hI.slot (i := 13) rfl d13 rfl
                have d22 := hdep ⟨22, .data⟩ (by simp) rfl
                have s66 : a.tmps[66]?.getD undef = (.int .i64 (Lb.count s.data.toList)) := hI.slot (i := 22) rfl d22 rfl
                have dg := hdep ⟨11, .guard⟩ (by simp) rfl
                have hg : a.tmps[57]? = some (.bool true) := hI.done 11 _ 57 rfl dg rfl
                refine wpOp_step rfl (fun K' hK' => ?_)
                go_simp
                exact hK' _ _ (hK x wx (fun _ _ => rfl) (mem23_other (by decide) hM hi))
              · intro x listed a wx K hI hM hi hl hdep hK
                have d11 := hdep ⟨11, .data⟩ (by simp) rfl
                have s57 : a.tmps[57]?.getD undef = (.bool true) := hI.slot (i := 11) rfl d11 rfl
                have d23 := hdep ⟨23, .data⟩ (by simp) rfl
                have s67 : a.tmps[67]?.getD undef = (.bool true) := hI.slot (i := 23) rfl d23 rfl
                refine wpOp_step rfl (fun K' hK' => ?_)
                go_simp
                exact hK' _ _ (hK x wx (fun _ _ => rfl) (mem23_other (by decide) hM hi))
              · intro x listed a wx K hI hM hi hl hdep hK
                have d24 := hdep ⟨24, .data⟩ (by simp) rfl
                have s68 : a.tmps[68]?.getD undef = (.bool true) := hI.slot (i := 24) rfl d24 rfl
                refine wpOp_step rfl (fun K' hK' => ?_)
                go_simp
                exact hK' _ _ (hK x wx (fun _ _ => rfl) (mem23_other (by decide) hM hi))
            · intro x a wx listed hI hall hM
              have hr : a.tmps[2]?.getD undef = .bool true := hI.slot (i := 25) rfl (hall 25 (by decide)) rfl
              have hdf : a.defers = [] := hI.defers
              have hbw := hM.1
              clear hI hall hM
              go_wp2
              refine bodyPost_ret (results_tmp rfl _ _ _) hdf ⟨?_, hbw⟩
              rw [Array.getD_eq_getD_getElem?, hr]
  · have hd : decide ((s.size : Int) ≤ 600) = false := decide_eq_false h6
    go_enter Try.func3, Try.ntmps3
    go_wp2_with fail
    refine (fit_any _).mono ?_
    rintro e w1 ⟨rfl, hb1⟩
    go_wp2_with fail
    refine (light_one w1.heap.size 1 s _ hs ?_).mono ?_
    · exact cell_one_new w1 (.string s) 9 0 _ rfl
    rintro e w2 ⟨rfl, rfl⟩
    rw [hd]
    go_wp2_with fail
    go_ret
    exact ⟨rfl, hb1.alloc hb1.size _⟩
end Go.Proofs.Ytcicghpljnlggaa
