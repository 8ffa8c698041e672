/- Arrays of bytes compared. -/
import Derived.Test.YtimokikpnngikaaSlM
import Derived.Laws.StructEq
namespace Go.Proofs.Sl
open Go
section
variable {C : Cx} {e : Env} {own : List SP} {K : PH → Prop} {ty : TypeId}
theorem bv_inj {a b : UInt8} (h : bv a = bv b) : a = b := by
  unfold bv at h
  injection h with _ h2
  exact UInt8.toNat_inj.1 (by omega)
theorem run_eqBytes {P : Program} {t el : TypeId} {by_ n : Nat} {z : Value} (ht : Und P t (.array n el)) (he : Und P el (.int .u8)) (hi : Inf P el 1 by_ z) (ha : AggB P el false) (w : World) (xs ys : List UInt8) (hx : xs.length = n) (hy : ys.length = n) (d : Nat) :
    (Op.equalIn (d + 1 + 1) t (.agg (xs.map bv).toArray) (.agg (ys.map bv).toArray)).run P w = .ok (decide (xs = ys)) w := by
  rw [Op.equalIn]
  simp only [Sem.run_bind, ht.run, Result.andThen_ok, hi.size, Std.Legacy.Range.forIn_eq_forIn_range', Std.Legacy.Range.size, Nat.sub_zero, Nat.add_sub_cancel, Nat.div_one]
  have key : ∀ (k i : Nat), i + k = n → xs.take i = ys.take i →
      Sem.run P (forIn (List.range' i k) ((none, ()) : Option Bool × Unit) fun i (_ : Option Bool × Unit) => do
            let a ← part el (List.map bv xs).toArray (i * 1)
            let b ← part el (List.map bv ys).toArray (i * 1)
            let r ← Op.equalIn (d + 1) el a b
            if (!r) = true then pure (ForInStep.done (some false, ())) else pure (ForInStep.yield (none, ()))) w =
        .ok (if xs = ys then (none, ()) else (some false, ())) w := by
    intro k
    induction k with
    | zero =>
      intro i hik ht
      have : xs = ys := by
        rw [List.take_of_length_le (by omega), List.take_of_length_le (by omega)] at ht
        exact ht
      simp [this]
    | succ k ih =>
      intro i hik ht
      have h1 : i < xs.length := by omega
      have h2 : i < ys.length := by omega
      have p1 : (part el (List.map bv xs).toArray (i * 1)).run P w = .ok (bv xs[i]) w := by simp [part, ha.run, Result.andThen, h1]
      have p2 : (part el (List.map bv ys).toArray (i * 1)).run P w = .ok (bv ys[i]) w := by simp [part, ha.run, Result.andThen, h2]
      have p3 : (Op.equalIn (d + 1) el (bv xs[i]) (bv ys[i])).run P w = .ok ((xs[i].toNat : Int) == (ys[i].toNat : Int)) w := run_equalIn_int w d el .u8 .u8 _ _ he
      rw [List.range'_succ, List.forIn_cons]
      simp only [Sem.run_bind, p1, p2, p3, Result.andThen_ok]
      by_cases hc : xs[i] = ys[i]
      · have hb : ((xs[i].toNat : Int) == (ys[i].toNat : Int)) = true := by simp [hc]
        simp only [hb, Bool.not_true, Bool.false_eq_true, if_false, Sem.run_pure, Result.andThen_ok]
        exact ih (i + 1) (by omega) (by rw [List.take_succ_eq_append_getElem h1, List.take_succ_eq_append_getElem h2, ht, hc])
      · have hb : ((xs[i].toNat : Int) == (ys[i].toNat : Int)) = false := by
          simp only [beq_eq_false_iff_ne]
          intro h; exact hc (UInt8.toNat_inj.1 (by omega))
        have hne : xs ≠ ys := fun h => hc (by subst h; rfl)
        simp only [hb, Bool.not_false, if_true, Sem.run_pure, Result.andThen_ok, if_neg hne]
  rw [key n 0 (by omega) (by simp)]
  by_cases h : xs = ys <;> simp [h]
section
variable {t u el : TypeId} {x y : Operand} {by_ n : Nat} {z : Value} {a b : List UInt8}
theorem q_eqlA (hx : ev e x = some (.agg (a.map bv).toArray)) (hy : ev e y = some (.agg (b.map bv).toArray)) (ht : Und C.P t (.array n el)) (he : Und C.P el (.int .u8)) (hi : Inf C.P el 1 by_ z) (ha : AggB C.P el false) (hg : C.P.eqGuardType C.P.depth t = false)
    (hla : a.length = n) (hlb : b.length = n) : QO C (.binOp .eql t x y u) ty e own K (.bool (decide (a = b))) :=
  ⟨by simp, fun s w hA _ => by
    have h1 := run_eqBytes (P := C.P) ht he hi ha w a b hla hlb 9998
    simp [execOp, op0, hA.ev hx, hA.ev hy, run_eqGuard_agg, hg, run_eql_struct, h1, Result.andThen]⟩
theorem q_neqA (hx : ev e x = some (.agg (a.map bv).toArray)) (hy : ev e y = some (.agg (b.map bv).toArray)) (ht : Und C.P t (.array n el)) (he : Und C.P el (.int .u8)) (hi : Inf C.P el 1 by_ z) (ha : AggB C.P el false) (hg : C.P.eqGuardType C.P.depth t = false)
    (hla : a.length = n) (hlb : b.length = n) : QO C (.binOp .neq t x y u) ty e own K (.bool (decide (a ≠ b))) :=
  ⟨by simp, fun s w hA _ => by
    have h1 := run_eqBytes (P := C.P) ht he hi ha w a b hla hlb 9998
    simp [execOp, op0, hA.ev hx, hA.ev hy, run_eqGuard_agg, hg, run_neq_struct, h1, Result.andThen]⟩
end
end
end Go.Proofs.Sl
