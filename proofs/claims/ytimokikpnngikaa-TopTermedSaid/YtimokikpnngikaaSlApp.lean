/- Appending to a row that is full: what was there is laid anew. -/
import Derived.Test.YtimokikpnngikaaSlQ2
namespace Go.Proofs.Sl
open Go
theorem q_slice3 {C : Cx} {e : Env} {own : List SP} {K : PH → Prop} {ty t el : TypeId} {sz by_ : Nat} {z : Value} {x y y2 : Operand} {A : Option Addr} {n cap h m : Nat} {k k2 : IntKind} {i i2 : Int} (hx : ev e x = some (.slice A n cap))
    (hy : ev e y = some (.int k i)) (hy2 : ev e y2 = some (.int k2 i2)) (hu : Und C.P t (.slice el)) (hs : Inf C.P el sz by_ z) (hi : i = (h : Int)) (hi2 : i2 = (m : Int)) (hle : h ≤ m ∧ m ≤ cap) :
    QO C (.slice t x none (some y) (some y2)) ty e own K (.slice (cutA A m sz 0) h m) := by
  subst hi hi2
  refine ⟨by simp, fun _ w hA hS => ?_⟩
  obtain ⟨h1, h2⟩ := hle
  simp [execOp, op0, hA.ev hx, hA.ev hy, hA.ev hy2, Instr.sliceAt, Instr.slice, Instr.sliceBounds, Instr.sliceBound, asIntOf, hu.run, hs.size, cutA, h1, h2]
theorem run_appendF {C : Cx} {own : List SP} {K : PH → Prop} (i : Nat) {t u el : TypeId} {ty : TypeId} {v : Value} {A : Option Addr} {n cap sz by_ k : Nat} {z : Value} {cs new : List Value} {w : World}
    (hS : HS C.g own K w) (hsrc : Src C.P own K sz v k new) (hi : own[i]? = some (ORow A cap el sz cs)) (hu : Und C.P t (.slice el)) (hu2 : (∃ el', Und C.P u (.slice el')) ∨ Und C.P u .string)
    (hinf : Inf C.P el sz by_ z) (hz : z.cells.size = sz) (hlen : n * sz ≤ cs.length) (hnew : new.length = k * sz) (hk : 0 < k) (hb : (n + k) * by_ ≤ 140737488355328 ∧ n + k ≤ 4611686018427387904) :
    ∃ A' cap' w', (Builtin.append_ #[t, u] ty #[.slice (cutA A n sz 0) n n, v]).run C.P w = .ok (.slice A' (n + k) cap') w' ∧ HS C.g (own.set i (ORow A' cap' el sz (cs.take (n * sz) ++ new))) K w' ∧ n + k ≤ cap' := by
  obtain ⟨j, hj, hjz, hjs, hjb⟩ := hinf.info
  have h2 := hsrc.2 _ _ hS
  have h3 := hsrc.1 w
  have hroom : ¬ n + k ≤ n := by omega
  have hcap := nextcap_le (need := n + k) (cap := n) (by omega)
  have hnc : ¬ (2 ^ 48 < Builtin.nextslicecap (n + k) n * by_) := by
    have : Builtin.nextslicecap (n + k) n * by_ ≤ 2 * (n + k) * by_ := Nat.mul_le_mul_right _ hcap
    have h5 : 2 * (n + k) * by_ = 2 * ((n + k) * by_) := by rw [Nat.mul_assoc]
    omega
  have hnn : ¬ (9223372036854775807 < (n : Int) + (k : Int) ∧ j.bytes = 0) := by omega
  have hold : ∀ w', HS C.g own K w' → (Builtin.firstCells sz n (.slice (cutA A n sz 0) n n)).run C.P w' = .ok (cs.take (n * sz)).toArray w' := fun w' hS' => by
    rcases (hS'.focus hi).orow with ⟨rfl, rfl, rfl, h'⟩ | ⟨b, pad, fr, rfl, hl, hf, h'⟩
    · have hn0 : n * sz = 0 := by simpa using hlen
      have hc : cutA none n sz 0 = none := by unfold cutA; split <;> rfl
      rw [hc]
      simp [Builtin.firstCells]
    · have hc : cutA (some (ad b 0)) n sz 0 = some (ad b 0) := by
        unfold cutA
        split
        · rfl
        · rw [Option.map_some, add_mk]; simp
      have := run_loadCells_list (P := C.P) w' (ad b 0) (cs.take (n * sz)) (fun q x hx => by
        have hq : q < (cs.take (n * sz)).length := by
          rcases Nat.lt_or_ge q (cs.take (n * sz)).length with h | h
          · exact h
          · rw [List.getElem?_eq_none h] at hx; cases hx
        have hq2 : q < cs.length := by rw [List.length_take] at hq; omega
        have hx2 : cs[q]? = some x := by
          rw [List.getElem?_take] at hx
          split at hx
          · exact hx
          · cases hx
        rw [add_mk]
        exact cell_of h'.pt (by simp [List.getElem?_append_left hq2, hx2]))
      rw [List.length_take, Nat.min_eq_left hlen] at this
      rw [hc]
      simpa [Builtin.firstCells] using this
  obtain ⟨newCap, hnew1, hnew2⟩ : ∃ q, q = (Question.appendCap (n + k) n el).cut (w.tape w.drawn (.appendCap (n + k) n el)) ∧ n + k ≤ q := ⟨_, rfl, by simp [Question.cut]⟩
  have hSd : HS C.g own K w.drew := hS.same rfl rfl rfl
  have ho := hold _ hSd
  have h2d := hsrc.2 _ _ hSd
  let w' : World := World.alloc w.drew (.cells ((cs.take (n * sz)).toArray ++ (new.toArray ++ Builtin.zeroCells z.cells (newCap - (n + k)))) el)
  refine ⟨some (ad w.heap.size 0), newCap, w', ?_, ?_, hnew2⟩
  · have hnc' : ¬ (2 ^ 48 < Builtin.nextslicecap (n + k) n * j.bytes) := by rw [hjb]; exact hnc
    simp only [Builtin.append_]
    rcases hu2 with ⟨el', hu2⟩ | hu2 <;>
      (simp [run_underlying hu, run_underlying hu2, sizeOf, typeInfo, zeroValue, hj, hjz, h3, hjs, hnc', hnn, Question.forced, ← hnew1, ho, h2d, newRow, w']; exact fun h => absurd h hroom)
  · have h4 := ((hSd.focus hi).alloc (.cells ((cs.take (n * sz)).toArray ++ (new.toArray ++ Builtin.zeroCells z.cells (newCap - (n + k)))) el))
    have h5 := (h4.perm (List.Perm.swap _ _ _)).drop
    have hzs := zeroCells_size z.cells (newCap - (n + k))
    rw [hz] at hzs
    have e1 : (cs.take (n * sz)).toArray ++ (new.toArray ++ Builtin.zeroCells z.cells (newCap - (n + k))) = ((cs.take (n * sz) ++ new) ++ (Builtin.zeroCells z.cells (newCap - (n + k))).toList).toArray := by
      apply Array.ext'; simp
    have h6 : HS C.g (Pt w.heap.size (.cells ((cs.take (n * sz) ++ new) ++ (Builtin.zeroCells z.cells (newCap - (n + k))).toList).toArray el (0, 0)) :: own.eraseIdx i) K w' := by
      rw [← e1]; exact h5
    refine HS.unfocus hi (HS.orowOf (pad := (Builtin.zeroCells z.cells (newCap - (n + k))).toList) (fr := (0, 0)) ?_ (.inl rfl) h6)
    simp only [List.length_append, Array.length_toList, hzs, List.length_take, Nat.min_eq_left hlen, hnew]
    rw [← Nat.add_mul, ← Nat.add_mul]
    congr 1; omega
theorem e_appendFull {C : Cx} {e : Env} {own : List SP} {K : PH → Prop} (i : Nat) {t u el ty : TypeId} {x y : Operand} {v : Value} {A : Option Addr} {n cap sz by_ k : Nat} {z : Value} {cs new : List Value}
    (hx : ev e x = some (.slice (cutA A n sz 0) n n)) (hy : ev e y = some v) (hsrc : Src C.P own K sz v k new) (hi : own[i]? = some (ORow A cap el sz cs)) (hu : Und C.P t (.slice el)) (hu2 : (∃ el', Und C.P u (.slice el')) ∨ Und C.P u .string)
    (hinf : Inf C.P el sz by_ z) (hz : z.cells.size = sz) (hlen : n * sz ≤ cs.length) (hnew : new.length = k * sz) (hk : 0 < k) (hb : (n + k) * by_ ≤ 140737488355328 ∧ n + k ≤ 4611686018427387904) :
    EO C (.call { callee := .builtin .append, args := #[x, y], argTypes := #[t, u] }) ty e own K
      (fun r own' K' => ∃ A' cap', r = .slice A' (n + k) cap' ∧ own' = own.set i (ORow A' cap' el sz (cs.take (n * sz) ++ new)) ∧ K = K' ∧ n + k ≤ cap') :=
  EO.of_run (by simp) fun a w hA hS => by
    obtain ⟨A', cap', w', hr, hS', hle⟩ := run_appendF (ty := ty) i hS hsrc hi hu hu2 hinf hz hlen hnew hk hb
    refine ⟨_, _, _, w', ⟨A', cap', rfl, rfl, rfl, hle⟩, hS', .inl ?_⟩
    simp only [execOp, op0]
    simp [resolve, invoke, builtin, hA.ev hx, hA.ev hy, hr]
/-! .. and the old row is kept -/
theorem run_appendG {C : Cx} {own : List SP} {K : PH → Prop} (i : Nat) {t u el : TypeId} {ty : TypeId} {v : Value} {A : Option Addr} {n cap sz by_ k : Nat} {z : Value} {cs new : List Value} {w : World}
    (hS : HS C.g own K w) (hsrc : Src C.P own K sz v k new) (hi : own[i]? = some (ORow A cap el sz cs)) (hu : Und C.P t (.slice el)) (hu2 : (∃ el', Und C.P u (.slice el')) ∨ Und C.P u .string)
    (hinf : Inf C.P el sz by_ z) (hz : z.cells.size = sz) (hlen : n * sz ≤ cs.length) (hnew : new.length = k * sz) (hk : 0 < k) (hb : (n + k) * by_ ≤ 140737488355328 ∧ n + k ≤ 4611686018427387904) :
    ∃ A' cap' w', (Builtin.append_ #[t, u] ty #[.slice (cutA A n sz 0) n n, v]).run C.P w = .ok (.slice A' (n + k) cap') w' ∧ HS C.g (ORow A' cap' el sz (cs.take (n * sz) ++ new) :: own) K w' ∧ n + k ≤ cap' := by
  obtain ⟨j, hj, hjz, hjs, hjb⟩ := hinf.info
  have h2 := hsrc.2 _ _ hS
  have h3 := hsrc.1 w
  have hroom : ¬ n + k ≤ n := by omega
  have hcap := nextcap_le (need := n + k) (cap := n) (by omega)
  have hnc : ¬ (2 ^ 48 < Builtin.nextslicecap (n + k) n * by_) := by
    have : Builtin.nextslicecap (n + k) n * by_ ≤ 2 * (n + k) * by_ := Nat.mul_le_mul_right _ hcap
    have h5 : 2 * (n + k) * by_ = 2 * ((n + k) * by_) := by rw [Nat.mul_assoc]
    omega
  have hnn : ¬ (9223372036854775807 < (n : Int) + (k : Int) ∧ j.bytes = 0) := by omega
  have hold : ∀ w', HS C.g own K w' → (Builtin.firstCells sz n (.slice (cutA A n sz 0) n n)).run C.P w' = .ok (cs.take (n * sz)).toArray w' := fun w' hS' => by
    rcases (hS'.focus hi).orow with ⟨rfl, rfl, rfl, h'⟩ | ⟨b, pad, fr, rfl, hl, hf, h'⟩
    · have hn0 : n * sz = 0 := by simpa using hlen
      have hc : cutA none n sz 0 = none := by unfold cutA; split <;> rfl
      rw [hc]
      simp [Builtin.firstCells]
    · have hc : cutA (some (ad b 0)) n sz 0 = some (ad b 0) := by
        unfold cutA
        split
        · rfl
        · rw [Option.map_some, add_mk]; simp
      have := run_loadCells_list (P := C.P) w' (ad b 0) (cs.take (n * sz)) (fun q x hx => by
        have hq : q < (cs.take (n * sz)).length := by
          rcases Nat.lt_or_ge q (cs.take (n * sz)).length with h | h
          · exact h
          · rw [List.getElem?_eq_none h] at hx; cases hx
        have hq2 : q < cs.length := by rw [List.length_take] at hq; omega
        have hx2 : cs[q]? = some x := by
          rw [List.getElem?_take] at hx
          split at hx
          · exact hx
          · cases hx
        rw [add_mk]
        exact cell_of h'.pt (by simp [List.getElem?_append_left hq2, hx2]))
      rw [List.length_take, Nat.min_eq_left hlen] at this
      rw [hc]
      simpa [Builtin.firstCells] using this
  obtain ⟨newCap, hnew1, hnew2⟩ : ∃ q, q = (Question.appendCap (n + k) n el).cut (w.tape w.drawn (.appendCap (n + k) n el)) ∧ n + k ≤ q := ⟨_, rfl, by simp [Question.cut]⟩
  have hSd : HS C.g own K w.drew := hS.same rfl rfl rfl
  have ho := hold _ hSd
  have h2d := hsrc.2 _ _ hSd
  let w' : World := World.alloc w.drew (.cells ((cs.take (n * sz)).toArray ++ (new.toArray ++ Builtin.zeroCells z.cells (newCap - (n + k)))) el)
  refine ⟨some (ad w.heap.size 0), newCap, w', ?_, ?_, hnew2⟩
  · have hnc' : ¬ (2 ^ 48 < Builtin.nextslicecap (n + k) n * j.bytes) := by rw [hjb]; exact hnc
    simp only [Builtin.append_]
    rcases hu2 with ⟨el', hu2⟩ | hu2 <;>
      (simp [run_underlying hu, run_underlying hu2, sizeOf, typeInfo, zeroValue, hj, hjz, h3, hjs, hnc', hnn, Question.forced, ← hnew1, ho, h2d, newRow, w']; exact fun h => absurd h hroom)
  · have h5 := hSd.alloc (.cells ((cs.take (n * sz)).toArray ++ (new.toArray ++ Builtin.zeroCells z.cells (newCap - (n + k)))) el)
    have hzs := zeroCells_size z.cells (newCap - (n + k))
    rw [hz] at hzs
    have e1 : (cs.take (n * sz)).toArray ++ (new.toArray ++ Builtin.zeroCells z.cells (newCap - (n + k))) = ((cs.take (n * sz) ++ new) ++ (Builtin.zeroCells z.cells (newCap - (n + k))).toList).toArray := by
      apply Array.ext'; simp
    have h6 : HS C.g (Pt w.heap.size (.cells ((cs.take (n * sz) ++ new) ++ (Builtin.zeroCells z.cells (newCap - (n + k))).toList).toArray el (0, 0)) :: own) K w' := by
      rw [← e1]; exact h5
    refine HS.orowOf (pad := (Builtin.zeroCells z.cells (newCap - (n + k))).toList) (fr := (0, 0)) ?_ (.inl rfl) h6
    simp only [List.length_append, Array.length_toList, hzs, List.length_take, Nat.min_eq_left hlen, hnew]
    rw [← Nat.add_mul, ← Nat.add_mul]
    congr 1; omega
theorem e_appendKeep {C : Cx} {e : Env} {own : List SP} {K : PH → Prop} (i : Nat) {t u el ty : TypeId} {x y : Operand} {v : Value} {A : Option Addr} {n cap sz by_ k : Nat} {z : Value} {cs new : List Value}
    (hx : ev e x = some (.slice (cutA A n sz 0) n n)) (hy : ev e y = some v) (hsrc : Src C.P own K sz v k new) (hi : own[i]? = some (ORow A cap el sz cs)) (hu : Und C.P t (.slice el)) (hu2 : (∃ el', Und C.P u (.slice el')) ∨ Und C.P u .string)
    (hinf : Inf C.P el sz by_ z) (hz : z.cells.size = sz) (hlen : n * sz ≤ cs.length) (hnew : new.length = k * sz) (hk : 0 < k) (hb : (n + k) * by_ ≤ 140737488355328 ∧ n + k ≤ 4611686018427387904) :
    EO C (.call { callee := .builtin .append, args := #[x, y], argTypes := #[t, u] }) ty e own K
      (fun r own' K' => ∃ A' cap', r = .slice A' (n + k) cap' ∧ own' = ORow A' cap' el sz (cs.take (n * sz) ++ new) :: own ∧ K = K' ∧ n + k ≤ cap') :=
  EO.of_run (by simp) fun a w hA hS => by
    obtain ⟨A', cap', w', hr, hS', hle⟩ := run_appendG (ty := ty) i hS hsrc hi hu hu2 hinf hz hlen hnew hk hb
    refine ⟨_, _, _, w', ⟨A', cap', rfl, rfl, rfl, hle⟩, hS', .inl ?_⟩
    simp only [execOp, op0]
    simp [resolve, invoke, builtin, hA.ev hx, hA.ev hy, hr]
end Go.Proofs.Sl
