/- Terms: which may be, how many are in one, their bytes. No program in sight. -/
import Derived.Test.YtimokikpnngikaaSlTm
namespace Go.Proofs.Sl
open Go
/-- The fields that count, as the program has them. -/
def fieldsN (k : Int) : Nat := if k = 1 then 1 else if k = 2 then 6 else if k = 3 then 2 else if k = 4 then 16 else if k = 6 then 16 else if k = 5 then 8 else if k = 7 then 10 else if k = 8 then 14 else 0
def kidsN (f : Nat) : Nat := if f &&& 16 ≠ 0 then 2 else if f &&& 8 ≠ 0 then 1 else 0
def knownB (u : Int) : Bool := decide (1 ≤ u) && decide (u ≤ 6)
def plainB (k u n : Int) (t : List UInt8) (m : Nat) : Bool :=
  (((decide (fieldsN k ≠ 0) && decide (m = kidsN (fieldsN k))) && decide (t.length ≤ 64)) && (decide (fieldsN k &&& 1 ≠ 0) || decide (t = []))) &&
  (((decide (fieldsN k &&& 2 ≠ 0) && knownB u) || (!decide (fieldsN k &&& 2 ≠ 0) && decide (u = 0))) &&
  (((decide (fieldsN k &&& 4 ≠ 0) && decide (0 ≤ n)) && decide (n ≤ 65535)) || (!decide (fieldsN k &&& 4 ≠ 0) && decide (n = 0))))
mutual
def wk : Int → Int → Tm → Bool × Int
  | deep, left, .mk k u n t l => if left - 1 < 0 ∨ 60 < deep ∨ plainB k u n t l.length = false then (false, left - 1) else wkL (deep + 1) (left - 1) l
def wkL : Int → Int → List Tm → Bool × Int
  | _, left, [] => (true, left)
  | deep, left, x :: l => if (wk deep left x).1 = true then wkL deep (wk deep left x).2 l else (false, (wk deep left x).2)
end
theorem wk_mk (deep left k u n : Int) (t : List UInt8) (l : List Tm) : wk deep left (.mk k u n t l) = if left - 1 < 0 ∨ 60 < deep ∨ plainB k u n t l.length = false then (false, left - 1) else wkL (deep + 1) (left - 1) l := by rw [wk]
theorem wkL_nil (deep left : Int) : wkL deep left [] = (true, left) := by rw [wkL]
theorem wkL_cons (deep left : Int) (x : Tm) (l : List Tm) : wkL deep left (x :: l) = if (wk deep left x).1 = true then wkL deep (wk deep left x).2 l else (false, (wk deep left x).2) := by rw [wkL]
/-- Walked up to a part: all well so far, or not. -/
theorem wkL_app (deep left : Int) (a b : List Tm) : wkL deep left (a ++ b) = if (wkL deep left a).1 = true then wkL deep (wkL deep left a).2 b else (false, (wkL deep left a).2) := by
  induction a generalizing left with
  | nil => simp [wkL_nil]
  | cons x a ih =>
    rw [List.cons_append, wkL_cons, wkL_cons]
    by_cases h : (wk deep left x).1 = true
    · rw [if_pos h, if_pos h, ih]
    · rw [if_neg h, if_neg h]; simp
theorem wkL_one (deep left : Int) (x : Tm) : wkL deep left [x] = wk deep left x := by
  rw [wkL_cons, wkL_nil]
  by_cases h : (wk deep left x).1 = true
  · rw [if_pos h]; exact Prod.ext h.symm rfl
  · rw [if_neg h]; exact Prod.ext (by simp at h; exact h.symm) rfl
mutual
theorem wk_le (deep left : Int) : ∀ (T : Tm), (wk deep left T).2 ≤ left - 1 ∧ (0 ≤ left → -1 ≤ (wk deep left T).2) ∧ ((wk deep left T).1 = true → 0 ≤ (wk deep left T).2)
  | .mk k u n t l => by
    rw [wk_mk]
    split
    · exact ⟨by simp, by simp; omega, by simp⟩
    · rename_i h
      obtain ⟨h1, h2, h3⟩ := wkL_le (deep + 1) (left - 1) l
      have hl : 0 ≤ left - 1 := by omega
      exact ⟨h1, fun _ => h2 hl, h3 hl⟩
theorem wkL_le (deep left : Int) : ∀ (l : List Tm), (wkL deep left l).2 ≤ left ∧ (0 ≤ left → -1 ≤ (wkL deep left l).2) ∧ (0 ≤ left → (wkL deep left l).1 = true → 0 ≤ (wkL deep left l).2)
  | [] => by rw [wkL_nil]; exact ⟨by simp, by simp; omega, by simp⟩
  | x :: l => by
    obtain ⟨h1, h2, h3⟩ := wk_le deep left x
    rw [wkL_cons]
    split
    · rename_i h
      obtain ⟨g1, g2, g3⟩ := wkL_le deep (wk deep left x).2 l
      exact ⟨by omega, fun _ => g2 (h3 h), fun _ => g3 (h3 h)⟩
    · exact ⟨by simp only; omega, fun h => h2 h, by simp⟩
end
def szP (T : Tm) : Int := if (wk 1 1200 T).1 = true then 1200 - (wk 1 1200 T).2 else 0
/-- A number's bytes, the great end first. -/
def u8I (n : Int) : UInt8 := UInt8.ofNat (n % 256).toNat
mutual
/-- The bytes that the program lays. -/
def putB : Tm → List UInt8
  | .mk k u n t l => [u8I k] ++ (if fieldsN k &&& 1 ≠ 0 then u8I t.length :: t else []) ++ (if fieldsN k &&& 2 ≠ 0 then [u8I u] else []) ++ (if fieldsN k &&& 4 ≠ 0 then [u8I (n / 256), u8I n] else []) ++ putBL l
def putBL : List Tm → List UInt8
  | [] => []
  | x :: l => putB x ++ putBL l
end
theorem putB_mk (k u n : Int) (t : List UInt8) (l : List Tm) : putB (.mk k u n t l) = [u8I k] ++ (if fieldsN k &&& 1 ≠ 0 then u8I t.length :: t else []) ++ (if fieldsN k &&& 2 ≠ 0 then [u8I u] else []) ++ (if fieldsN k &&& 4 ≠ 0 then [u8I (n / 256), u8I n] else []) ++ putBL l := by rw [putB]
theorem putBL_flat : ∀ (l : List Tm), putBL l = l.flatMap putB
  | [] => by rw [putBL]; rfl
  | x :: l => by rw [putBL, putBL_flat l]; rfl
mutual
/-- How many terms there are in one, at most so many. -/
def sz5 : Int → Tm → Int
  | most, .mk _ _ _ _ l => sz5L most 1 l
def sz5L : Int → Int → List Tm → Int
  | _, n, [] => n
  | most, n, x :: l => if n > most then n else sz5L most (n + sz5 most x) l
end
theorem sz5_mk (most k u n : Int) (t : List UInt8) (l : List Tm) : sz5 most (.mk k u n t l) = sz5L most 1 l := by rw [sz5]
theorem sz5L_nil (most n : Int) : sz5L most n [] = n := by rw [sz5L]
theorem sz5L_cons (most n : Int) (x : Tm) (l : List Tm) : sz5L most n (x :: l) = if n > most then n else sz5L most (n + sz5 most x) l := by rw [sz5L]
mutual
theorem sz5_pos (most : Int) : ∀ (T : Tm), 1 ≤ sz5 most T
  | .mk k u n t l => by rw [sz5_mk]; exact sz5L_ge most 1 l
theorem sz5L_ge (most : Int) : ∀ (n : Int) (l : List Tm), n ≤ sz5L most n l
  | n, [] => by rw [sz5L_nil]; exact Int.le_refl _
  | n, x :: l => by
    rw [sz5L_cons]
    split
    · exact Int.le_refl _
    · have := sz5_pos most x; have := sz5L_ge most (n + sz5 most x) l; omega
end
def kids5 (k : Int) : Nat := if k = 4 ∨ k = 6 then 2 else if k = 5 ∨ k = 7 ∨ k = 8 then 1 else 0
def text5 (k : Int) : Bool := decide (k = 1)
def user5 (k : Int) : Bool := decide (k = 2 ∨ k = 3 ∨ k = 7 ∨ k = 8)
def num5 (k : Int) : Bool := decide (k = 2 ∨ k = 8)
/-- Whether a term's fields may be. -/
def plain5 (k u n : Int) (t : List UInt8) (m : Nat) : Bool :=
  decide (1 ≤ k ∧ k ≤ 8) && (decide (m = kids5 k) && decide (t.length ≤ 64) && (text5 k || decide (t = [])) && ((user5 k && decide (1 ≤ u) && decide (u ≤ 6)) || (!user5 k && decide (u = 0))) && ((num5 k && decide (0 ≤ n) && decide (n ≤ 65535)) || (!num5 k && decide (n = 0))))
mutual
/-- Whether a term may be, but for its size. -/
def may5 : Int → Tm → Bool
  | deep, .mk k u n t l => decide (deep < 60) && plain5 k u n t l.length && may5L (deep + 1) l
def may5L : Int → List Tm → Bool
  | _, [] => true
  | deep, x :: l => may5 deep x && may5L deep l
end
theorem may5_mk (deep k u n : Int) (t : List UInt8) (l : List Tm) : may5 deep (.mk k u n t l) = (decide (deep < 60) && plain5 k u n t l.length && may5L (deep + 1) l) := by rw [may5]
theorem may5L_nil (deep : Int) : may5L deep [] = true := by rw [may5L]
theorem may5L_cons (deep : Int) (x : Tm) (l : List Tm) : may5L deep (x :: l) = (may5 deep x && may5L deep l) := by rw [may5L]
theorem may5L_app (deep : Int) (a b : List Tm) : may5L deep (a ++ b) = (may5L deep a && may5L deep b) := by
  induction a with
  | nil => rw [may5L_nil]; simp
  | cons x a ih => rw [List.cons_append, may5L_cons, may5L_cons, ih, Bool.and_assoc]
mutual
def beqT : Tm → Tm → Bool
  | .mk k u n t l, .mk k' u' n' t' l' => decide (k = k') && decide (u = u') && decide (n = n') && decide (t = t') && beqTL l l'
def beqTL : List Tm → List Tm → Bool
  | [], [] => true
  | x :: l, y :: m => beqT x y && beqTL l m
  | _, _ => false
end
mutual
theorem beqT_iff : ∀ (x y : Tm), beqT x y = true ↔ x = y
  | .mk k u n t l, .mk k' u' n' t' l' => by
    rw [beqT]
    simp only [Bool.and_eq_true, decide_eq_true_eq, beqTL_iff l l', Tm.mk.injEq, and_assoc]
theorem beqTL_iff : ∀ (l m : List Tm), beqTL l m = true ↔ l = m
  | [], [] => by simp [beqTL]
  | x :: l, y :: m => by rw [beqTL, Bool.and_eq_true, beqT_iff x y, beqTL_iff l m]; simp
  | [], y :: m => by simp [beqTL]
  | x :: l, [] => by simp [beqTL]
end
instance : DecidableEq Tm := fun x y => decidable_of_iff (beqT x y = true) (beqT_iff x y)
end Go.Proofs.Sl
