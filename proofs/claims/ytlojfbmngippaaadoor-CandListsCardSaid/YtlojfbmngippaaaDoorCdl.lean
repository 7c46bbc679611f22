/- CandDots and CandLong in plain Lean: looked at one by one. No program. -/
import Derived.Test.YtlojfbmngippaaaDoorCd
namespace Go.Proofs.YtlojfbmngippaaaDoor
namespace Cd
def aK : Nat → Lb.Bytes
  | 0 => [97]
  | n + 1 => aK n ++ [46, 97]
def sK : Nat → List Lb.Bytes
  | 0 => []
  | m + 1 => sK m ++ [[115, UInt8.ofNat (48 + m)]]
def chkDots (n d m : Nat) : Bool :=
  (list (d : Int) (sK m) (aK n)).2 == 0 && (list (d : Int) (sK m) (aK n ++ [46])).2 == 0 && (list (d : Int) (sK m) (aK n ++ [46])).1 == [aK n] && (list (d : Int) (sK m) (aK n)).1.length == m + 1 &&
  (if d ≤ n then (list (d : Int) (sK m) (aK n)).1.getD 0 [] == aK n && (m == 0 || (list (d : Int) (sK m) (aK n)).1.getD 1 [] == aK n ++ [46, 115, 48])
    else (list (d : Int) (sK m) (aK n)).1.getD m [] == aK n && (m == 0 || (list (d : Int) (sK m) (aK n)).1.getD 0 [] == aK n ++ [46, 115, 48]))
theorem chkDots_all : ((List.range 4).all fun n => (List.range 4).all fun d => (List.range 4).all fun m => chkDots n d m) = true := by kernel_rfl
theorem chkDots_at (n d m : Nat) (h1 : n < 4) (h2 : d < 4) (h3 : m < 4) : chkDots n d m = true :=
  List.all_eq_true.1 (List.all_eq_true.1 (List.all_eq_true.1 chkDots_all n (List.mem_range.2 h1)) d (List.mem_range.2 h2)) m (List.mem_range.2 h3)

def pat : Lb.Bytes := [97, 98, 99, 100, 101, 102, 103, 104, 105, 46]
def pats : Nat → Lb.Bytes
  | 0 => []
  | k + 1 => pats k ++ pat
theorem pats_len : ∀ k, (pats k).length = 10 * k
  | 0 => rfl
  | k + 1 => by
    have h : pat.length = 10 := rfl
    rw [pats, List.length_append, pats_len k, h]; omega
def dLong : Lb.Bytes := [48, 49, 50, 51, 52, 53, 54, 55, 56, 57, 46, 48, 49, 50, 51, 52, 53, 54, 55, 56, 57, 46, 48, 49, 50, 51, 52, 53, 54, 55, 56, 57]
/-- How many rounds the loop makes for n. -/
def kL (n : Nat) : Nat := (n + 9) / 10
def sL (n : Nat) : Lb.Bytes := if ((pats (kL n)).take n).getD (n - 1) 0 = 46 then ((pats (kL n)).take n).take (n - 1) ++ [120] else (pats (kL n)).take n
def wantL (n : Nat) : Nat := 1 + (if n + 1 + 32 ≤ 253 then 1 else 0) + (if n + 2 ≤ 253 then 1 else 0)
def chkLong (n : Nat) : Bool :=
  (list 99 [dLong, [121]] (sL n)).2 == 0 && (list 99 [dLong, [121]] (sL n)).1.length == wantL n && (list 99 [dLong, [121]] (sL n)).1.getD (wantL n - 1) [] == sL n
theorem chkLong_all : ((List.range 64).all fun n => chkLong (n + 180)) = true := by kernel_rfl
theorem chkLong_at (n : Nat) (h : n < 64) : chkLong (n + 180) = true := List.all_eq_true.1 chkLong_all n (List.mem_range.2 h)
theorem sL_len (n : Nat) (h : 1 ≤ n) : (sL n).length = n := by
  have hp := pats_len (kL n)
  have h2 : n ≤ 10 * kL n := by unfold kL; omega
  unfold sL
  split
  · rw [List.length_append, List.length_take, List.length_take, hp]; simp; omega
  · rw [List.length_take, hp]; omega
end Cd
end Go.Proofs.YtlojfbmngippaaaDoor
