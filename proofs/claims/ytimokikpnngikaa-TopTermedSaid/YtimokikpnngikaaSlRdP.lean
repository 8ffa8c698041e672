/- Reading a term, as plain functions. No program in sight. -/
import Derived.Test.YtimokikpnngikaaSlTmP
import Derived.Test.YtimokikpnngikaaSlOct
namespace Go.Proofs.Sl
open Go
/-- A term, what is left of the bytes, how many terms there may yet be; or why not. -/
inductive RR where
  | ok (T : Tm) (rest : List UInt8) (left : Int)
  | err (c : Int)
inductive RRL where
  | ok (l : List Tm) (rest : List UInt8) (left : Int)
  | err (c : Int)
def rdL (rdk : Int → List UInt8 → RR) : Nat → Int → List UInt8 → List Tm → RRL
  | 0, left, b, acc => .ok acc b left
  | n + 1, left, b, acc => match rdk left b with
    | .err c => .err c
    | .ok T b left => rdL rdk n left b (acc ++ [T])
def rdF (k u n : Int) (t : List UInt8) : RRL → RR
  | .ok l b left => .ok (.mk k u n t l) b left
  | .err c => .err c
def rd4 (rdk : Int → List UInt8 → RR) (k left : Int) (t : List UInt8) (u n : Int) (b : List UInt8) : RR := rdF k u n t (rdL rdk (kidsN (fieldsN k)) left b [])
def rd3 (rdk : Int → List UInt8 → RR) (k left : Int) (t : List UInt8) (u : Int) (b : List UInt8) : RR :=
  if fieldsN k &&& 4 ≠ 0 then (if b.length < 2 then .err 7 else rd4 rdk k left t u (num (b.take 2)) (b.drop 2)) else rd4 rdk k left t u 0 b
def rd2 (rdk : Int → List UInt8 → RR) (k left : Int) (t b : List UInt8) : RR :=
  if fieldsN k &&& 2 ≠ 0 then (match b with
    | [] => .err 7
    | u :: b => if knownB u.toNat = true then rd3 rdk k left t u.toNat b else .err 150) else rd3 rdk k left t 0 b
def rd1 (rdk : Int → List UInt8 → RR) (k left : Int) (b : List UInt8) : RR :=
  if fieldsN k &&& 1 ≠ 0 then (match b with
    | [] => .err 7
    | n :: b => if 64 < n.toNat then .err 150 else if b.length < n.toNat then .err 7 else rd2 rdk k left (b.take n.toNat) (b.drop n.toNat)) else rd2 rdk k left [] b
def rd : Nat → Int → Int → List UInt8 → RR
  | 0, _, _, _ => .err 7
  | N + 1, deep, left, b => match b with
    | [] => .err 7
    | k :: b => if fieldsN k.toNat ≠ 0 ∧ 0 ≤ left - 1 ∧ deep ≤ 60 then rd1 (rd N (deep + 1)) k.toNat (left - 1) b else .err 150
section
variable {rdk : Int → List UInt8 → RR} {k left : Int} {t b : List UInt8} {u : Int} {y : UInt8}
theorem rd1_no (h : ¬ fieldsN k &&& 1 ≠ 0) : rd1 rdk k left b = rd2 rdk k left [] b := by unfold rd1; rw [if_neg h]
theorem rd1_nil (h : fieldsN k &&& 1 ≠ 0) : rd1 rdk k left [] = .err 7 := by unfold rd1; rw [if_pos h]
theorem rd1_cons (h : fieldsN k &&& 1 ≠ 0) : rd1 rdk k left (y :: b) = if 64 < y.toNat then .err 150 else if b.length < y.toNat then .err 7 else rd2 rdk k left (b.take y.toNat) (b.drop y.toNat) := by unfold rd1; rw [if_pos h]
theorem rd2_no (h : ¬ fieldsN k &&& 2 ≠ 0) : rd2 rdk k left t b = rd3 rdk k left t 0 b := by unfold rd2; rw [if_neg h]
theorem rd2_nil (h : fieldsN k &&& 2 ≠ 0) : rd2 rdk k left t [] = .err 7 := by unfold rd2; rw [if_pos h]
theorem rd2_cons (h : fieldsN k &&& 2 ≠ 0) : rd2 rdk k left t (y :: b) = if knownB y.toNat = true then rd3 rdk k left t y.toNat b else .err 150 := by unfold rd2; rw [if_pos h]
end
theorem rd_nil (N : Nat) (deep left : Int) : rd (N + 1) deep left [] = .err 7 := by rw [rd]
theorem rd_cons (N : Nat) (deep left : Int) (k : UInt8) (b : List UInt8) : rd (N + 1) deep left (k :: b) = if fieldsN k.toNat ≠ 0 ∧ 0 ≤ left - 1 ∧ deep ≤ 60 then rd1 (rd N (deep + 1)) k.toNat (left - 1) b else .err 150 := by rw [rd]
theorem num_one (x : UInt8) (b : List UInt8) : num ((x :: b).take 1) = x.toNat := by simp [num]
end Go.Proofs.Sl
