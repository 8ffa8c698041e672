/- Operations that yield a value and do nothing else. -/
import Derived.Test.YtimokikpnngikaaSlB
import Derived.Laws.Cells
import Derived.Laws.IdiomCopy
import Derived.Laws.BytesArg
namespace Go.Proofs.Sl
open Go

/-! ### Facts on types -/
def Inf (P : Program) (t : TypeId) (sz bytes : Nat) (z : Value) : Prop := (P.info? t).map (fun i => (i.zero, i.size, i.bytes)) = some (some z, sz, bytes)
def AggB (P : Program) (t : TypeId) (b : Bool) : Prop := (P.underlying t).map (fun | .struct _ | .array _ _ => true | _ => false) = some b
def Und (P : Program) (t : TypeId) (d : TypeDesc) : Prop := P.underlying t = some d

section
variable {P : Program} {w : World}
theorem Und.run {t : TypeId} {d : TypeDesc} (h : Und P t d) : (underlying t).run P w = .ok d w := run_underlying h w
theorem AggB.run {t : TypeId} {b : Bool} (h : AggB P t b) : (isAgg t).run P w = .ok b w := by
  unfold AggB at h
  cases hu : P.underlying t with
  | none => rw [hu] at h; cases h
  | some d =>
    rw [hu] at h
    simp only [Option.map_some, Option.some.injEq] at h
    unfold isAgg
    simp only [Sem.run_bind, run_underlying hu, Result.andThen]
    cases d <;> simp_all
theorem Inf.info {t : TypeId} {sz b : Nat} {z : Value} (h : Inf P t sz b z) : ∃ i, P.info? t = some i ∧ i.zero = some z ∧ i.size = sz ∧ i.bytes = b := by
  unfold Inf at h
  cases hi : P.info? t with
  | none => rw [hi] at h; cases h
  | some i => rw [hi] at h; simp at h; exact ⟨i, rfl, h.1, h.2.1, h.2.2⟩
theorem Inf.size {t : TypeId} {sz b : Nat} {z : Value} (h : Inf P t sz b z) : (sizeOf t).run P w = .ok sz w := by
  obtain ⟨i, hi, _, hs, _⟩ := h.info
  simp [sizeOf, typeInfo, hi, hs]
theorem Inf.zero {t : TypeId} {sz b : Nat} {z : Value} (h : Inf P t sz b z) : (zeroValue t).run P w = .ok z w := by
  obtain ⟨i, hi, hz, _, _⟩ := h.info
  simp [zeroValue, typeInfo, hi, hz]
end

section
variable {C : Cx} {e : Env} {own : List SP} {K : PH → Prop} {ty : TypeId}

theorem q_move {x : Operand} {v : Value} (hx : ev e x = some v) : QO C (.move x) ty e own K v :=
  ⟨by simp, fun a w hA _ => by simp [execOp, op0, hA.ev hx]⟩
theorem q_assign {x : Operand} {v : Value} (hx : ev e x = some v) : QO C (.assign x) ty e own K v :=
  ⟨by simp, fun a w hA _ => by simp [execOp, op0, hA.ev hx]⟩

theorem q_pickT {c x y : Operand} {v : Value} {t : Bool} (hc : ev e c = some (.bool t)) (ht : t = true) (hx : ev e x = some v) : QO C (.pick c x y) ty e own K v :=
  ⟨by simp, fun a w hA _ => by subst ht; simp [execOp, op0, hA.ev hc, hA.ev hx, asBool]⟩
theorem q_pickF {c x y : Operand} {v : Value} {t : Bool} (hc : ev e c = some (.bool t)) (ht : t = false) (hy : ev e y = some v) : QO C (.pick c x y) ty e own K v :=
  ⟨by simp, fun a w hA _ => by subst ht; simp [execOp, op0, hA.ev hc, hA.ev hy, asBool]⟩

/-! ### Numbers -/
section
variable {t u : TypeId} {x y : Operand} {k : IntKind} {m n : Int}

theorem q_arith {op : BinOp} {r : Int} (hx : ev e x = some (.int k m)) (hy : ev e y = some (.int k n))
    (h : (op = .add ∧ r = k.wrap (m + n)) ∨ (op = .sub ∧ r = k.wrap (m - n)) ∨ (op = .mul ∧ r = k.wrap (m * n))) : QO C (.binOp op t x y u) ty e own K (.int k r) := by
  refine ⟨by simp, fun a w hA _ => ?_⟩
  rcases h with ⟨rfl, rfl⟩ | ⟨rfl, rfl⟩ | ⟨rfl, rfl⟩ <;> simp [execOp, op0, hA.ev hx, hA.ev hy, binOp, eqGuard, Op.intArith]

theorem wrap_id {k : IntKind} {n : Int} (h : k.min ≤ n ∧ n ≤ k.max) : k.wrap n = n := by
  obtain ⟨h1, h2⟩ := h
  cases k <;> simp [IntKind.min, IntKind.max, IntKind.wrap, IntKind.bits, IntKind.signed] at * <;> omega

theorem wrap64' {n : Int} (h : -9223372036854775808 ≤ n ∧ n ≤ 9223372036854775807) : IntKind.i64.wrap n = n := wrap_id h
theorem wrapu64' {n : Int} (h : 0 ≤ n ∧ n ≤ 18446744073709551615) : IntKind.u64.wrap n = n := wrap_id h
theorem wrapu8' {n : Int} (h : 0 ≤ n ∧ n ≤ 255) : IntKind.u8.wrap n = n := wrap_id h

theorem q_add (hx : ev e x = some (.int k m)) (hy : ev e y = some (.int k n)) : QO C (.binOp .add t x y u) ty e own K (.int k (k.wrap (m + n))) := q_arith hx hy (.inl ⟨rfl, rfl⟩)
theorem q_sub (hx : ev e x = some (.int k m)) (hy : ev e y = some (.int k n)) : QO C (.binOp .sub t x y u) ty e own K (.int k (k.wrap (m - n))) := q_arith hx hy (.inr (.inl ⟨rfl, rfl⟩))
theorem q_mul (hx : ev e x = some (.int k m)) (hy : ev e y = some (.int k n)) : QO C (.binOp .mul t x y u) ty e own K (.int k (k.wrap (m * n))) := q_arith hx hy (.inr (.inr ⟨rfl, rfl⟩))
/-- 'int', where nothing wraps. -/
theorem q_add64 (hx : ev e x = some (.int .i64 m)) (hy : ev e y = some (.int .i64 n)) (h : -9223372036854775808 ≤ m + n ∧ m + n ≤ 9223372036854775807) : QO C (.binOp .add t x y u) ty e own K (.int .i64 (m + n)) := by
  have := q_add (C := C) (own := own) (K := K) (t := t) (u := u) (ty := ty) hx hy; rwa [wrap64' h] at this
theorem q_sub64 (hx : ev e x = some (.int .i64 m)) (hy : ev e y = some (.int .i64 n)) (h : -9223372036854775808 ≤ m - n ∧ m - n ≤ 9223372036854775807) : QO C (.binOp .sub t x y u) ty e own K (.int .i64 (m - n)) := by
  have := q_sub (C := C) (own := own) (K := K) (t := t) (u := u) (ty := ty) hx hy; rwa [wrap64' h] at this
theorem q_mul64 (hx : ev e x = some (.int .i64 m)) (hy : ev e y = some (.int .i64 n)) (h : -9223372036854775808 ≤ m * n ∧ m * n ≤ 9223372036854775807) : QO C (.binOp .mul t x y u) ty e own K (.int .i64 (m * n)) := by
  have := q_mul (C := C) (own := own) (K := K) (t := t) (u := u) (ty := ty) hx hy; rwa [wrap64' h] at this

theorem q_quo (hx : ev e x = some (.int k m)) (hy : ev e y = some (.int k n)) (h : n ≠ 0) : QO C (.binOp .quo t x y u) ty e own K (.int k (k.wrap (m.tdiv n))) :=
  ⟨by simp, fun a w hA _ => by simp [execOp, op0, hA.ev hx, hA.ev hy, binOp, eqGuard, Op.intDiv, h]⟩
theorem q_rem (hx : ev e x = some (.int k m)) (hy : ev e y = some (.int k n)) (h : n ≠ 0) : QO C (.binOp .rem t x y u) ty e own K (.int k (m.tmod n)) :=
  ⟨by simp, fun a w hA _ => by simp [execOp, op0, hA.ev hx, hA.ev hy, binOp, eqGuard, Op.intDiv, h]⟩
/-- Of numbers that are not below nought. -/
theorem q_rem0 (hx : ev e x = some (.int k m)) (hy : ev e y = some (.int k n)) (h : 0 ≤ m ∧ 0 < n) : QO C (.binOp .rem t x y u) ty e own K (.int k (m % n)) := by
  have := q_rem (C := C) (own := own) (K := K) (t := t) (u := u) (ty := ty) hx hy (by omega)
  rwa [Int.tmod_eq_emod_of_nonneg h.1] at this
theorem q_quo0 (hx : ev e x = some (.int k m)) (hy : ev e y = some (.int k n)) (h : 0 ≤ m ∧ m ≤ k.max ∧ 0 < n) : QO C (.binOp .quo t x y u) ty e own K (.int k (m / n)) := by
  have := q_quo (C := C) (own := own) (K := K) (t := t) (u := u) (ty := ty) hx hy (by omega)
  have h1 : m.tdiv n = m / n := Int.tdiv_eq_ediv_of_nonneg h.1
  have h2 : k.wrap (m / n) = m / n := wrap_id ⟨by
      have : 0 ≤ m / n := Int.ediv_nonneg h.1 (by omega)
      have : k.min ≤ 0 := by cases k <;> simp [IntKind.min, IntKind.signed, IntKind.bits]
      omega, by
      have : m / n ≤ m := Int.ediv_le_self _ h.1
      omega⟩
  rwa [h1, h2] at this

theorem beq_dec (m n : Int) : (m == n) = decide (m = n) := by by_cases h : m = n <;> simp [h]
theorem q_eql (hx : ev e x = some (.int k m)) (hy : ev e y = some (.int k n)) : QO C (.binOp .eql t x y u) ty e own K (.bool (decide (m = n))) :=
  ⟨by simp, fun a w hA _ => by simp [execOp, op0, hA.ev hx, hA.ev hy, binOp, eqGuard, Op.intCmp, beq_dec]⟩
theorem q_neq (hx : ev e x = some (.int k m)) (hy : ev e y = some (.int k n)) : QO C (.binOp .neq t x y u) ty e own K (.bool (decide (m ≠ n))) :=
  ⟨by simp, fun a w hA _ => by
    simp [execOp, op0, hA.ev hx, hA.ev hy, binOp, eqGuard, Op.intCmp, bne, beq_dec]⟩
theorem q_lss (hx : ev e x = some (.int k m)) (hy : ev e y = some (.int k n)) : QO C (.binOp .lss t x y u) ty e own K (.bool (decide (m < n))) :=
  ⟨by simp, fun a w hA _ => by simp [execOp, op0, hA.ev hx, hA.ev hy, binOp, eqGuard, Op.intCmp]⟩
theorem q_leq (hx : ev e x = some (.int k m)) (hy : ev e y = some (.int k n)) : QO C (.binOp .leq t x y u) ty e own K (.bool (decide (m ≤ n))) :=
  ⟨by simp, fun a w hA _ => by simp [execOp, op0, hA.ev hx, hA.ev hy, binOp, eqGuard, Op.intCmp]⟩
theorem q_gtr (hx : ev e x = some (.int k m)) (hy : ev e y = some (.int k n)) : QO C (.binOp .gtr t x y u) ty e own K (.bool (decide (n < m))) :=
  ⟨by simp, fun a w hA _ => by simp [execOp, op0, hA.ev hx, hA.ev hy, binOp, eqGuard, Op.intCmp]⟩
theorem q_geq (hx : ev e x = some (.int k m)) (hy : ev e y = some (.int k n)) : QO C (.binOp .geq t x y u) ty e own K (.bool (decide (n ≤ m))) :=
  ⟨by simp, fun a w hA _ => by simp [execOp, op0, hA.ev hx, hA.ev hy, binOp, eqGuard, Op.intCmp]⟩

theorem q_conv {P : Program} {s d : TypeId} {k' : IntKind} (hP : C.P = P) (hs : Und P s (.int k)) (hd : Und P d (.int k')) (hx : ev e x = some (.int k m)) : QO C (.convert s d x) ty e own K (.int k' (k'.wrap m)) :=
  ⟨by simp, fun a w hA _ => by
    subst hP
    simp [execOp, op0, hA.ev hx, convert, hs.run, hd.run, Conv.intToInt]⟩
end

theorem q_not {t : TypeId} {x : Operand} {b : Bool} (hx : ev e x = some (.bool b)) : QO C (.unOp .not t x) ty e own K (.bool (!b)) :=
  ⟨by simp, fun a w hA _ => by simp [execOp, op0, hA.ev hx, Op.unary]⟩
theorem q_extract {x : Operand} {i : Nat} {vs : Array Value} {v : Value} (hx : ev e x = some (.tuple vs)) (hv : vs[i]? = some v) : QO C (.extract x i) ty e own K v :=
  ⟨by simp, fun a w hA _ => by simp [execOp, op0, hA.ev hx, Instr.extract, hv]⟩

end
end Go.Proofs.Sl
