/- Bytes and strings compared. -/
import Derived.Test.YtimokikpnngikaaSlOct
import Derived.Laws.Externs
import Derived.Lib.Bytealg
import Derived.Lib.BytesEntry
namespace Go.Proofs.Sl
open Go
theorem less_iff : ∀ (a b : List UInt8), Lib.compareBytes a b < 0 ↔ Op.bytesLess a b = true
  | [], [] => by simp [Lib.compareBytes, Op.bytesLess]
  | [], y :: b => by simp [Lib.compareBytes, Op.bytesLess]
  | x :: a, [] => by simp [Lib.compareBytes, Op.bytesLess]
  | x :: a, y :: b => by
    have ih := less_iff a b
    unfold Lib.compareBytes Op.bytesLess
    by_cases h : x < y
    · simp [h]
    · by_cases h2 : y < x
      · have hne : ¬ x = y := fun e => by subst e; exact h h2
        simp [h, h2, hne]
      · have he : x = y := UInt8.le_antisymm (UInt8.not_lt.1 h2) (UInt8.not_lt.1 h)
        subst he
        rw [if_neg h, if_neg h2, ih]; simp [h]
section
variable {C : Cx} {e : Env} {own : List SP} {K : PH → Prop} {ty t u : TypeId} {x y : Operand} {a b : List UInt8}
theorem q_lssS (hx : ev e x = some (.string (bs a))) (hy : ev e y = some (.string (bs b))) : QO C (.binOp .lss t x y u) ty e own K (.bool (Op.bytesLess a b)) :=
  ⟨by simp, fun _ w hA hS => by
    simp [execOp, op0, hA.ev hx, hA.ev hy, binOp, eqGuard, Op.stringOp, toList_bs]⟩
/-- A slice of bytes: what its cells hold. -/
def Bts (own : List SP) (K : PH → Prop) (A : Option Addr) (l : List UInt8) : Prop :=
  ∀ g w, HS g own K w → (l = [] ∧ ∀ a, A = some a → a.spot = none) ∨ ∃ b o, A = some (ad b o) ∧ ∀ j x, (l.map bv)[j]? = some x → w.cell? (ad b (o + j)) = some x
theorem Bts.row {A : Option Addr} {l : List UInt8} (hr : Ent K (Row A (l.map bv))) : Bts own K A l := fun g w hS => (Row.look hr hS).imp (fun ⟨a, b⟩ => ⟨by simpa using a, b⟩) id
theorem Bts.orow (i : Nat) {A : Option Addr} {cap : Nat} {T : TypeId} {l : List UInt8} (hi : own[i]? = some (ORow A cap T 1 (l.map bv))) : Bts own K A l := fun g w hS => (hS.orowSrc i hi).imp (fun ⟨a, b⟩ => ⟨by simpa using a, b⟩) id
theorem run_bytesOf {P : Program} {g : Os × Array (Nat × ByteArray)} {w : World} {A : Option Addr} {l : List UInt8} {cap : Nat} (h : Bts own K A l) (hS : HS g own K w) : (Extern.Bytes.bytesOf (.slice A l.length cap)).run P w = .ok (bs l) w := by
  rcases h g w hS with ⟨rfl, _⟩ | ⟨b, o, rfl, hc⟩
  · cases A with
    | none => rfl
    | some a => rfl
  · have := Lib.run_loadBytesX (P := P) (w := w) (l.map fun x => (x.toNat : Int)) (ad b o) .empty (fun j x hx => by
      rw [List.getElem?_map] at hx
      cases hl : l[j]? with
      | none => rw [hl] at hx; cases hx
      | some z =>
        rw [hl] at hx; simp at hx; subst hx
        rw [add_mk]; exact hc j (bv z) (by simp [hl]))
    rw [List.length_map] at this
    simp only [Extern.Bytes.bytesOf]
    rw [this]
    congr 1
    have : Lib.bytesOf (l.map fun x => (x.toNat : Int)) = l := by
      simp only [Lib.bytesOf, List.map_map]
      rw [show ((fun n : Int => UInt8.ofNat n.toNat) ∘ fun x : UInt8 => (x.toNat : Int)) = id from by funext b; simp]; simp
    rw [this]; simp [bs]
/-- internal/bytealg.Compare. -/
theorem q_cmp {A B : Option Addr} {ca cb : Nat} {ats : Array TypeId} (hP : C.P = Try.prog) (hx : ev e x = some (.slice A a.length ca)) (hy : ev e y = some (.slice B b.length cb)) (ha : Bts own K A a) (hb : Bts own K B b) :
    QO C (.call { callee := .value (.func 230), args := #[x, y], argTypes := ats }) ty e own K (.int .i64 (Lib.compareBytes a b)) :=
  ⟨by simp, fun s w hA hS => by
    have h1 := run_callFunc_extern (P := C.P) (f := 230) (fn := Try.f230) (e := Extern.BytealgCompare.compare) (by rw [hP]; exact Try.func230) (by kernel_rfl) (by kernel_rfl) (by kernel_rfl) (by kernel_rfl) #[.slice A a.length ca, .slice B b.length cb] w
    have h2 : (Extern.BytealgCompare.compare #[.slice A a.length ca, .slice B b.length cb]).run C.P w = .ok (.int .i64 (Lib.compareBytes a b)) w := by
      change Sem.run C.P (do pure (goInt (Extern.BytealgCompare.cmp (← Extern.Bytes.bytesOf (.slice A a.length ca)) (← Extern.Bytes.bytesOf (.slice B b.length cb))))) w = _
      simp only [Sem.run_bind, run_bytesOf ha hS, run_bytesOf hb hS, Result.andThen_ok, Sem.run_pure]
      rw [Lib.cmp_eq]; rfl
    rw [h2] at h1
    have hm : (#[x, y] : Array Operand).map s.eval = #[.slice A a.length ca, .slice B b.length cb] := by
      rw [show (#[x, y] : Array Operand) = [x, y].toArray from rfl, List.map_toArray, hA.evs (vs := [.slice A a.length ca, .slice B b.length cb]) (by simp [evs, hx, hy])]
    unfold execOp
    simp only [op0, resolve, hm, Deferred.ofValue, Act.eval]
    simp only [invoke]
    simpa [Result.andThen] using h1⟩
end
end Go.Proofs.Sl
