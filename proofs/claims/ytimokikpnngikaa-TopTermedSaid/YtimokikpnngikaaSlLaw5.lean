/- What is read is what was laid, and may be. No program in sight. -/
import Derived.Test.YtimokikpnngikaaSlRdP
import Derived.Test.YtimokikpnngikaaSlCmp
namespace Go.Proofs.Sl
open Go
theorem u8I_nat {n : Nat} {x : UInt8} (h : n % 256 = x.toNat) : u8I (n : Int) = x := by
  apply UInt8.toNat_inj.1
  unfold u8I
  have := x.toNat_lt
  simp; omega
theorem u8I_self (x : UInt8) : u8I (x.toNat : Int) = x := u8I_nat (Nat.mod_eq_of_lt x.toNat_lt)
theorem rdL_ok {rdk : Int → List UInt8 → RR} {deep : Int} (hk : ∀ left b T rest l, rdk left b = .ok T rest l → wk deep left T = (true, l) ∧ b = putB T ++ rest ∧ (0 ≤ left → 0 ≤ l)) :
    ∀ (n : Nat) (left : Int) (b : List UInt8) (acc L : List Tm) (rest : List UInt8) (l : Int), rdL rdk n left b acc = .ok L rest l →
      ∃ L2, L = acc ++ L2 ∧ L2.length = n ∧ wkL deep left L2 = (true, l) ∧ b = putBL L2 ++ rest ∧ (0 ≤ left → 0 ≤ l)
  | 0, left, b, acc, L, rest, l, h => by
    rw [rdL] at h; cases h
    exact ⟨[], by simp, rfl, by rw [wkL_nil], by rw [putBL]; rfl, fun h => h⟩
  | n + 1, left, b, acc, L, rest, l, h => by
    rw [rdL] at h
    cases h1 : rdk left b with
    | err c => rw [h1] at h; cases h
    | ok T b2 left2 =>
      rw [h1] at h
      simp only at h
      obtain ⟨a1, a2, a3⟩ := hk _ _ _ _ _ h1
      obtain ⟨L2, rfl, c2, c3, c4, c5⟩ := rdL_ok hk n left2 b2 (acc ++ [T]) L rest l h
      refine ⟨T :: L2, by simp, by simp [c2], ?_, ?_, fun h => c5 (a3 h)⟩
      · rw [wkL_cons, a1, if_pos rfl, c3]
      · rw [a2, c4, putBL, List.append_assoc]
section
variable {rdk : Int → List UInt8 → RR} {deep left l k u n : Int} {t b rest : List UInt8} {T : Tm}
  (hk : ∀ left b T rest l, rdk left b = .ok T rest l → wk deep left T = (true, l) ∧ b = putB T ++ rest ∧ (0 ≤ left → 0 ≤ l))
def P3 (k n : Int) : List UInt8 := if fieldsN k &&& 4 ≠ 0 then [u8I (n / 256), u8I n] else []
def P2 (k u : Int) : List UInt8 := if fieldsN k &&& 2 ≠ 0 then [u8I u] else []
def P1 (k : Int) (t : List UInt8) : List UInt8 := if fieldsN k &&& 1 ≠ 0 then u8I t.length :: t else []
theorem putB_P (k u n : Int) (t : List UInt8) (l : List Tm) : putB (.mk k u n t l) = [u8I k] ++ P1 k t ++ P2 k u ++ P3 k n ++ putBL l := putB_mk k u n t l
include hk
theorem rd4_ok (h : rd4 rdk k left t u n b = .ok T rest l) : ∃ L, T = .mk k u n t L ∧ L.length = kidsN (fieldsN k) ∧ wkL deep left L = (true, l) ∧ b = putBL L ++ rest ∧ (0 ≤ left → 0 ≤ l) := by
  unfold rd4 at h
  cases h1 : rdL rdk (kidsN (fieldsN k)) left b [] with
  | err c => rw [h1, rdF] at h; cases h
  | ok L b2 l2 =>
    rw [h1, rdF] at h; cases h
    obtain ⟨L2, rfl, c2, c3, c4, c5⟩ := rdL_ok hk _ _ _ _ _ _ _ h1
    exact ⟨L, rfl, c2, c3, c4, c5⟩
theorem rd3_ok (h : rd3 rdk k left t u b = .ok T rest l) : ∃ n L, T = .mk k u n t L ∧ L.length = kidsN (fieldsN k) ∧ wkL deep left L = (true, l) ∧ b = P3 k n ++ (putBL L ++ rest) ∧ (0 ≤ left → 0 ≤ l) ∧ ((fieldsN k &&& 4 ≠ 0 ∧ 0 ≤ n ∧ n ≤ 65535) ∨ (¬ fieldsN k &&& 4 ≠ 0 ∧ n = 0)) := by
  unfold rd3 at h
  by_cases hf : fieldsN k &&& 4 ≠ 0
  · rw [if_pos hf] at h
    by_cases hl : b.length < 2
    · rw [if_pos hl] at h; cases h
    · rw [if_neg hl] at h
      obtain ⟨L, h1, h2, h3, h4, h5⟩ := rd4_ok hk h
      match b, hl with
      | x :: y :: b, _ =>
        have hx := x.toNat_lt
        have hy := y.toNat_lt
        have hn : (num ((x :: y :: b).take 2) : Int) = ((256 * x.toNat + y.toNat : Nat) : Int) := by simp [num]
        refine ⟨_, L, h1, h2, h3, ?_, h5, .inl ⟨hf, by omega, by omega⟩⟩
        rw [hn]
        unfold P3
        rw [if_pos hf]
        have e1 : u8I (((256 * x.toNat + y.toNat : Nat) : Int) / 256) = x := by
          rw [show ((256 * x.toNat + y.toNat : Nat) : Int) / 256 = (x.toNat : Int) by omega]; exact u8I_self x
        have e2 : u8I ((256 * x.toNat + y.toNat : Nat) : Int) = y := u8I_nat (by omega)
        rw [e1, e2, ← h4]; rfl
      | [], hl => simp at hl
      | [x], hl => simp at hl
  · rw [if_neg hf] at h
    obtain ⟨L, h1, h2, h3, h4, h5⟩ := rd4_ok hk h
    exact ⟨0, L, h1, h2, h3, by unfold P3; rw [if_neg hf, ← h4]; rfl, h5, .inr ⟨hf, rfl⟩⟩
theorem rd2_ok (h : rd2 rdk k left t b = .ok T rest l) : ∃ u n L, T = .mk k u n t L ∧ L.length = kidsN (fieldsN k) ∧ wkL deep left L = (true, l) ∧ b = P2 k u ++ (P3 k n ++ (putBL L ++ rest)) ∧ (0 ≤ left → 0 ≤ l) ∧ ((fieldsN k &&& 2 ≠ 0 ∧ knownB u = true) ∨ (¬ fieldsN k &&& 2 ≠ 0 ∧ u = 0)) ∧ ((fieldsN k &&& 4 ≠ 0 ∧ 0 ≤ n ∧ n ≤ 65535) ∨ (¬ fieldsN k &&& 4 ≠ 0 ∧ n = 0)) := by
  by_cases hf : fieldsN k &&& 2 ≠ 0
  · cases b with
    | nil => rw [rd2_nil hf] at h; cases h
    | cons y b =>
      rw [rd2_cons hf] at h
      by_cases hkn : knownB y.toNat = true
      · rw [if_pos hkn] at h
        obtain ⟨n, L, h1, h2, h3, h4, h5, h6⟩ := rd3_ok hk h
        exact ⟨y.toNat, n, L, h1, h2, h3, by unfold P2; rw [if_pos hf, u8I_self, ← h4]; rfl, h5, .inl ⟨hf, hkn⟩, h6⟩
      · rw [if_neg hkn] at h; cases h
  · rw [rd2_no hf] at h
    obtain ⟨n, L, h1, h2, h3, h4, h5, h6⟩ := rd3_ok hk h
    exact ⟨0, n, L, h1, h2, h3, by unfold P2; rw [if_neg hf, ← h4]; rfl, h5, .inr ⟨hf, rfl⟩, h6⟩
theorem rd1_ok (h : rd1 rdk k left b = .ok T rest l) : ∃ t u n L, T = .mk k u n t L ∧ L.length = kidsN (fieldsN k) ∧ wkL deep left L = (true, l) ∧ b = P1 k t ++ (P2 k u ++ (P3 k n ++ (putBL L ++ rest))) ∧ (0 ≤ left → 0 ≤ l) ∧ (t.length ≤ 64 ∧ (fieldsN k &&& 1 ≠ 0 ∨ t = [])) ∧
    ((fieldsN k &&& 2 ≠ 0 ∧ knownB u = true) ∨ (¬ fieldsN k &&& 2 ≠ 0 ∧ u = 0)) ∧ ((fieldsN k &&& 4 ≠ 0 ∧ 0 ≤ n ∧ n ≤ 65535) ∨ (¬ fieldsN k &&& 4 ≠ 0 ∧ n = 0)) := by
  by_cases hf : fieldsN k &&& 1 ≠ 0
  · cases b with
    | nil => rw [rd1_nil hf] at h; cases h
    | cons y b =>
      rw [rd1_cons hf] at h
      by_cases h64 : 64 < y.toNat
      · rw [if_pos h64] at h; cases h
      · rw [if_neg h64] at h
        by_cases hl : b.length < y.toNat
        · rw [if_pos hl] at h; cases h
        · rw [if_neg hl] at h
          obtain ⟨u, n, L, h1, h2, h3, h4, h5, h6, h7⟩ := rd2_ok hk h
          have hlen : (b.take y.toNat).length = y.toNat := by simp; omega
          refine ⟨b.take y.toNat, u, n, L, h1, h2, h3, ?_, h5, ⟨by omega, .inl hf⟩, h6, h7⟩
          unfold P1
          rw [if_pos hf, hlen, u8I_self, ← h4, List.cons_append, List.take_append_drop]
  · rw [rd1_no hf] at h
    obtain ⟨u, n, L, h1, h2, h3, h4, h5, h6, h7⟩ := rd2_ok hk h
    exact ⟨[], u, n, L, h1, h2, h3, by unfold P1; rw [if_neg hf, ← h4]; rfl, h5, ⟨by simp, .inr rfl⟩, h6, h7⟩
end
theorem plainB_iff {k u n : Int} {t : List UInt8} {m : Nat} : plainB k u n t m = true ↔ fieldsN k ≠ 0 ∧ m = kidsN (fieldsN k) ∧ t.length ≤ 64 ∧ (fieldsN k &&& 1 ≠ 0 ∨ t = []) ∧ ((fieldsN k &&& 2 ≠ 0 ∧ knownB u = true) ∨ (¬ fieldsN k &&& 2 ≠ 0 ∧ u = 0)) ∧ ((fieldsN k &&& 4 ≠ 0 ∧ 0 ≤ n ∧ n ≤ 65535) ∨ (¬ fieldsN k &&& 4 ≠ 0 ∧ n = 0)) := by
  unfold plainB
  simp only [Bool.and_eq_true, Bool.or_eq_true, decide_eq_true_eq, Bool.not_eq_true', decide_eq_false_iff_not, and_assoc]
/-- What is read may be, and its bytes are those that were read. -/
theorem rd_ok : ∀ (N : Nat) (deep left : Int) (b : List UInt8) (T : Tm) (rest : List UInt8) (l : Int), rd N deep left b = .ok T rest l → wk deep left T = (true, l) ∧ b = putB T ++ rest ∧ (0 ≤ left → 0 ≤ l)
  | 0, _, _, _, _, _, _, h => by rw [rd] at h; cases h
  | N + 1, deep, left, b, T, rest, l, h => by
    cases b with
    | nil => rw [rd_nil] at h; cases h
    | cons x b =>
      rw [rd_cons] at h
      by_cases hc : fieldsN (x.toNat : Int) ≠ 0 ∧ 0 ≤ left - 1 ∧ deep ≤ 60
      · rw [if_pos hc] at h
        obtain ⟨t, u, n, L, rfl, h2, h3, h4, h5, ⟨h6, h6b⟩, h7, h8⟩ := rd1_ok (deep := deep + 1) (fun left b T rest l => rd_ok N (deep + 1) left b T rest l) h
        have hp : plainB (x.toNat : Int) u n t L.length = true := plainB_iff.2 ⟨hc.1, h2, h6, h6b, h7, h8⟩
        refine ⟨?_, ?_, fun _ => h5 (by omega)⟩
        · rw [wk_mk, if_neg (by rw [hp]; simp; omega), h3]
        · rw [putB_P, u8I_self, h4]; simp [List.append_assoc]
      · rw [if_neg hc] at h; cases h
theorem szP_of {T : Tm} {l : Int} (h : wk 1 1200 T = (true, l)) : szP T = 1200 - l := by unfold szP; rw [h, if_pos rfl]
end Go.Proofs.Sl
