/- More of the framework: stores over whole blocks, rows of one's own read in part, contracts at a place. -/
import Derived.Test.YtimokikpnngikaaSlQ
namespace Go.Proofs.Sl
open Go
set_option linter.unusedVariables false

theorem e_storeAll {C : Cx} {e : Env} {own : List SP} {K : PH → Prop} {ty : TypeId} (i : Nat) {t : TypeId} {n by_ : Nat} {z : Value} {x y : Operand} {b : Nat} {cs vs : List Value} {T : TypeId} {v : Value} (hx : ev e x = some (.pointer (some (ad b 0)))) (hy : ev e y = some v)
    (hi : own[i]? = some (Pt b (.cells cs.toArray T (0, 0)))) (ht : Inf C.P t n by_ z) (hv : v.cells = vs.toArray) (hn : vs.length = n) (hl : cs.length = n) (h1 : Ones vs) :
    EO C (.store t x y) ty e own K (Ret undef (own.set i (Pt b (.cells vs.toArray T (0, 0)))) K) := by
  have h := e_storeN (K := K) (ty := ty) i hx hy hi ht hv hn (by omega) h1
  have e1 : cs.take 0 ++ vs ++ cs.drop (0 + n) = vs := by
    rw [List.take_zero, List.nil_append, Nat.zero_add, List.drop_of_length_le (by omega), List.append_nil]
  rwa [e1] at h
theorem Cells.orowAt {own : List SP} {K : PH → Prop} {α : Type} {f : α → List Value} {n : Nat} (i : Nat) {A : Option Addr} {cap : Nat} {T : TypeId} {l : List α} (hi : own[i]? = some (ORow A cap T n (l.flatMap f))) (hf : ∀ x, (f x).length = n) {j : Nat} (h : j < l.length) : Cells own K (adr A (j * n)) (f l[j]) := by
  intro k v hv
  have h1 : (l.flatMap f)[j * n + k]? = some v := by
    have h2 := flat_at f n hf l j h
    have h3 : ((l.flatMap f).drop (j * n)).take n = f l[j] := h2
    rw [← h3] at hv
    obtain ⟨h4, h5⟩ := List.getElem?_eq_some_iff.1 hv
    have hk : k < n := by simp at h4; omega
    rw [List.getElem?_take_of_lt hk, List.getElem?_drop] at hv
    exact hv
  have h6 := Cell.orow (own := own) (K := K) i hi h1
  cases A with
  | none => 
    intro g w hS
    have := h6 g w hS
    rcases (hS.focus hi).orow with ⟨_, _, he, _⟩ | ⟨b, pad, fr, he, _⟩
    · rw [he] at h1; simp at h1
    · cases he
  | some a =>
    show Cell own K ((a.add (j * n)).add k) v
    have e : (a.add (j * n)).add k = a.add (j * n + k) := by
      obtain ⟨ab, ao, sp⟩ := a
      unfold Addr.add
      split <;> split <;> simp_all <;> omega
    rw [e]; exact h6
theorem QO.eq {C : Cx} {op : Op} {ty : TypeId} {e : Env} {own : List SP} {K : PH → Prop} {v v' : Value} (h : QO C op ty e own K v) (q : v = v') : QO C op ty e own K v' := q ▸ h
theorem SpecAt.pre {g : Os × Array (Nat × ByteArray)} {P : Program} {f : FuncId} {args : List Value} {own own' : List SP} {K K' : PH → Prop} {Φ : Value → List SP → (PH → Prop) → Prop} (i : Imp own K own' K') (h : SpecAt g P f args own' K' Φ) : SpecAt g P f args own K Φ :=
  ⟨h.1, fun w hS => h.2 w (i _ _ hS)⟩

theorem WS.effL {C : Cx} {ops : Array Oper} {W : List Nat} {fuel : Nat} {listed : Array Bool} {π : List (Nat × Nat)} {fin : Bool} {L : List SP} {KL : PH → Prop} {e : Env} {own : List SP} {K : PH → Prop} {Q : Exit → Act → World → Prop} {op : Op} {ty : TypeId} {pos : String} {af : Array Edge}
    (i : Nat) {d : Nat} {Φ : Value → List SP → (PH → Prop) → Prop} (hi : ops[i]? = some ⟨some d, op, ty, pos, af, none⟩) (hq : EO C op ty e own K Φ) (hd : Nat.blt d C.N = true)
    (h : ∀ v own' K', Φ v own' K' → Imp own' K' L KL ∧ WS C ops W fuel (listed.setIfInBounds i true) π fin L KL ((d, v) :: e) own' K' Q) : WS C ops W (fuel + 1) listed ((i, 2) :: π) fin L KL e own K Q := fun hs =>
  have hs := sched2 hs
  WD.one i hs.1 fun hQ a w hA hS hL => by
    unfold wpOpIn
    simp only [hi]
    rw [if_pos (by rfl)]
    refine wpIn_of_e hq hA hS rfl rfl fun v own' K' w' hΦ hS' => ?_
    obtain ⟨h1, h2⟩ := h v own' K' hΦ
    exact ⟨fun x => HS C.g L KL x, fun _ x hx => hx, fun x hx => HS.t0 hx, h1 _ _ hS', h2 hs.2 hQ _ _ (hA.put v hd) hS' (h1 _ _ hS')⟩
theorem setsL_eq : ∀ (vs cs : List Value) (off : Nat), off + vs.length ≤ cs.length → setsL cs off vs = cs.take off ++ vs ++ cs.drop (off + vs.length)
  | [], cs, off, h => by simp [setsL]
  | v :: r, cs, off, h => by
    simp only [List.length_cons] at h
    unfold setsL
    rw [setsL_eq r (cs.set off v) (off + 1) (by simp; omega)]
    have h1 : (cs.set off v).take (off + 1) = cs.take off ++ [v] := by
      rw [List.set_eq_take_append_cons_drop, if_pos (by omega), List.take_append]
      simp [Nat.min_eq_left (show off ≤ cs.length by omega)]
      rw [List.take_of_length_le (by simp; omega)]
    have h2 : (cs.set off v).drop (off + 1 + r.length) = cs.drop (off + (r.length + 1)) := by
      rw [List.drop_set_of_lt (by omega)]; congr 1; omega
    rw [h1, h2]; simp
theorem fill1 {place : Nat → Option (Nat × Nat)} {i off sz : Nat} {v : Value} {r : List (Nat × Value)} {cs vs : List Value} (hp : place i = some (off, sz)) (hv : cellsL v = vs) (hl : vs.length = sz) (hb : off + sz ≤ cs.length) :
    fillL place cs ((i, v) :: r) = fillL place (cs.take off ++ vs ++ cs.drop (off + sz)) r := by
  have h1 : (Nat.beq (cellsL v).length sz && Nat.ble (off + sz) cs.length) = true := by
    rw [hv, hl, Bool.and_eq_true]; exact ⟨Nat.beq_refl _, Nat.ble_eq_true_of_le hb⟩
  conv => lhs; unfold fillL
  rw [hp]
  simp only [h1]
  rw [hv, setsL_eq vs cs off (by omega), hl]
theorem fillOne {sz : Nat} (vs zs : List Value) (h : vs.length = sz) (hz : zs.length = sz) : fillL (fun i => some (i * sz, sz)) ((List.replicate 1 zs).flatten) [(0, .agg vs.toArray)] = some vs := by
  rw [fill1 (off := 0) (sz := sz) (vs := vs) (by simp) rfl h (by simp [hz])]
  unfold fillL
  simp [hz]
theorem Cell.row0 {own : List SP} {K : PH → Prop} {b o : Nat} {cs : List Value} (hr : Ent K (Row (some (ad b o)) cs)) {j : Nat} {v : Value} (hv : cs[j]? = some v) : Cell own K (ad b (o + j)) v := by
  have := Cell.row (own := own) hr hv
  simpa only [adr, add_mk] using this

def mleft (n : Nat) (done : List Nat) : Nat := ((List.range n).filter fun j => !done.contains j).length
theorem mleft_step {n j : Nat} {done : List Nat} (hj : j < n) (hd : j ∉ done) : mleft n (done ++ [j]) < mleft n done := by
  unfold mleft
  have h1 : ((List.range n).filter fun i => !(done ++ [j]).contains i) = ((List.range n).filter fun i => !done.contains i).filter fun i => !(i == j) := by
    rw [List.filter_filter]
    apply List.filter_congr
    intro i _
    simp only [List.contains_eq_mem, List.mem_append, List.mem_singleton]
    by_cases h : i = j <;> simp [h]
  rw [h1]
  have h2 := List.length_filter_le (fun i => !(i == j)) ((List.range n).filter fun i => !done.contains i)
  rcases Nat.lt_or_ge ((((List.range n).filter fun i => !done.contains i).filter fun i => !(i == j)).length) (((List.range n).filter fun i => !done.contains i).length) with h | h
  · exact h
  · exfalso
    have h3 := List.filter_eq_self.1 (List.Sublist.eq_of_length_le List.filter_sublist h) j (List.mem_filter.2 ⟨List.mem_range.2 hj, by simpa using hd⟩)
    simp at h3

theorem e_makeSliceZ {C : Cx} {e : Env} {own : List SP} {K : PH → Prop} {ty : TypeId} {t el : TypeId} {sz by_ : Nat} {z : Value} {x y : Operand} {n c : Nat} (hx : ev e x = some (.int .i64 n)) (hy : ev e y = some (.int .i64 c)) (hu : Und C.P t (.slice el)) (hi : Inf C.P el sz by_ z)
    (hz : z.cells.size = sz) (hsz : 0 < sz) (hn : n ≤ c) (hc : c * by_ ≤ 140737488355328 ∧ c ≤ 4611686018427387904) :
    EO C (.makeSlice t x y) ty e own K (fun v own' K' => ∃ A Z, v = .slice A n c ∧ own' = ORow A c el sz Z :: own ∧ K = K' ∧ Z.length = n * sz) :=
  (e_makeSlice hx hy hu hi hz hsz hn hc).weak fun v o k ⟨A, h1, h2, h3⟩ => ⟨o, k, Imp.refl _ _, A, _, h1, h2, h3, by simp [hz]⟩
theorem e_copyAll {C : Cx} {e : Env} {own : List SP} {K : PH → Prop} {ty : TypeId} (i : Nat) {t u el : TypeId} {x y : Operand} {v : Value} {A : Option Addr} {n cap sz by_ : Nat} {z : Value} {cs new : List Value} (hx : ev e x = some (.slice A n cap)) (hy : ev e y = some v)
    (hsrc : Src C.P own K sz v n new) (hi : own[i]? = some (ORow A cap el sz cs)) (hu : Und C.P t (.slice el)) (hinf : Inf C.P el sz by_ z) (hlen : cs.length = n * sz) (hnew : new.length = n * sz) (h1 : Ones new) :
    EO C (.call { callee := .builtin .copy, args := #[x, y], argTypes := #[t, u] }) ty e own K (Ret (.int .i64 n) (own.set i (ORow A cap el sz new)) K) := by
  have h := e_copy (C := C) (own := own) (K := K) (ty := ty) (u := u) i hx hy hsrc hi hu hinf hlen hnew (Nat.le_refl _) h1
  rwa [List.drop_eq_nil_of_le (by omega), List.append_nil] at h
theorem repflat_len (n : Nat) (z : List Value) : ((List.replicate n z).flatten).length = n * z.length := by simp
theorem adr_add (a : Addr) (x y : Nat) : (a.add x).add y = a.add (x + y) := by
  obtain ⟨ab, ao, sp⟩ := a
  unfold Addr.add
  split <;> split <;> simp_all <;> omega

theorem e_buildSliceO {C : Cx} {e : Env} {own : List SP} {K : PH → Prop} {ty : TypeId} {t el : TypeId} {sz by_ n : Nat} {z : Value} {ps : List (Nat × Operand)} {vs : List (Nat × Value)} {zs cs : List Value} (hp : evp e ps = some vs) (hu : Und C.P t (.slice el)) (hi : Inf C.P el sz by_ z) (hz : z.cells = zs.toArray) (hzs : Nat.beq zs.length sz = true) (hsz : Nat.blt 0 sz = true)
    (hn : Nat.ble (n * sz) 16777216 = true) (hf : fillL (fun i => some (i * sz, sz)) ((List.replicate n zs).flatten) vs = some cs) (hl : cs.length = n * sz) :
    EO C (.buildSlice t n ps.toArray) ty e own K (fun v own' K' => ∃ b, v = .slice (some (ad b 0)) n n ∧ own' = ORow (some (ad b 0)) n el sz cs :: own ∧ K = K') :=
  (e_buildSliceL hp hu hi hz hzs hsz hn hf).weak fun v o k ⟨b, h1, h2, h3⟩ => ⟨ORow (some (ad b 0)) n el sz cs :: own, k, by
    subst h2 h3
    exact fun g w h => HS.orowOf (pad := []) (by simpa using hl) (.inl rfl) (by simpa using h), b, h1, rfl, h3⟩
theorem q_max2 {C : Cx} {e : Env} {own : List SP} {K : PH → Prop} {ty : TypeId} {ats : Array TypeId} {x y : Operand} {k : IntKind} {m n : Int} (hx : ev e x = some (.int k m)) (hy : ev e y = some (.int k n)) :
    QO C (.call { callee := .builtin .max, args := #[x, y], argTypes := ats }) ty e own K (.int k (max m n)) :=
  ⟨by simp, fun s w hA _ => by
    have h : (if n > m then n else m) = max m n := by rw [Int.max_def]; split <;> split <;> omega
    simp [execOp, op0, hA.ev hx, hA.ev hy, resolve, invoke, builtin, Builtin.max_, Builtin.max2, h]⟩
theorem flat_get' {α : Type} (f : α → List Value) {n : Nat} (hf : ∀ x, (f x).length = n) : ∀ (l : List α) {j : Nat} {y : Value}, (l.flatMap f)[j]? = some y → ∃ (i k : Nat) (x : α), l[i]? = some x ∧ k < n ∧ j = i * n + k ∧ (f x)[k]? = some y
  | [], j, y, h => by simp at h
  | x :: l, j, y, h => by
    rw [List.flatMap_cons] at h
    by_cases hj : j < n
    · rw [List.getElem?_append_left (by rw [hf]; exact hj)] at h
      exact ⟨0, j, x, rfl, hj, by omega, h⟩
    · rw [List.getElem?_append_right (by rw [hf]; omega), hf] at h
      obtain ⟨i, k, z, h1, h2, h3, h4⟩ := flat_get' f hf l h
      exact ⟨i + 1, k, z, by simpa using h1, h2, by rw [Nat.succ_mul]; omega, h4⟩
section
variable {own : List SP} {K : PH → Prop} {α : Type} {f : α → List Value} {n : Nat}
theorem ORow.cap {g : Os × Array (Nat × ByteArray)} {w : World} {A : Option Addr} {cap : Nat} {T : TypeId} {l : List α} (i : Nat) (hi : own[i]? = some (ORow A cap T n (l.flatMap f))) (hf : ∀ x, (f x).length = n) (hn : 0 < n) (h : HS g own K w) : l.length ≤ cap := by
  rcases (h.focus hi).orow with ⟨_, rfl, h, _⟩ | ⟨b, pad, fr, rfl, hl, _⟩
  · have := congrArg List.length h
    rw [flat_len f n hf] at this
    rcases Nat.eq_zero_or_pos l.length with h0 | h0
    · omega
    · have := Nat.mul_pos h0 hn; simp at *; omega
  · rw [List.length_append, flat_len f n hf] at hl
    exact Nat.le_of_mul_le_mul_right (by omega) hn
theorem Cells.orowCut {A : Option Addr} {cap l0 : Nat} {T : TypeId} {l : List α} (i : Nat) (hi : own[i]? = some (ORow A cap T n (l.flatMap f))) (hf : ∀ x, (f x).length = n) (hn : 0 < n) {j : Nat} (h : l0 + j < l.length) : Cells own K (adr (cutA A cap n l0) (j * n)) (f l[l0 + j]) := by
  intro k v hv g w hS
  have hc := ORow.cap (K := K) i hi hf hn hS
  have h1 := Cells.orowAt (K := K) i hi hf h k v hv g w hS
  have hcut : cutA A cap n l0 = A.map (·.add (l0 * n)) := by unfold cutA; rw [if_neg (by omega)]
  rw [hcut]
  rcases (hS.focus hi).orow with ⟨_, _, h0, _⟩ | ⟨b, pad, fr, rfl, _⟩
  · exfalso
    have := congrArg List.length h0
    rw [flat_len f n hf] at this
    have := Nat.mul_pos (show 0 < l.length by omega) hn
    simp at *; omega
  · simp only [Option.map_some, adr, adr_add] at h1 ⊢
    rw [show l0 * n + j * n + k = (l0 + j) * n + k by rw [Nat.add_mul]]
    exact h1
theorem Based.orowCut {A : Option Addr} {cap l0 : Nat} {T : TypeId} {l : List α} (i : Nat) (hi : own[i]? = some (ORow A cap T n (l.flatMap f))) (hf : ∀ x, (f x).length = n) (hn : 0 < n) (h : l0 < l.length) : Based own K (cutA A cap n l0) := fun g w hS => by
  have hc := ORow.cap (K := K) i hi hf hn hS
  have hcut : cutA A cap n l0 = A.map (·.add (l0 * n)) := by unfold cutA; rw [if_neg (by omega)]
  rcases (hS.focus hi).orow with ⟨_, _, h0, _⟩ | ⟨b, pad, fr, rfl, _⟩
  · exfalso
    have := congrArg List.length h0
    rw [flat_len f n hf] at this
    have := Nat.mul_pos (show 0 < l.length by omega) hn
    simp at *; omega
  · rw [hcut]; exact ⟨b, 0 + l0 * n, by simp [add_mk]⟩
theorem Src.orowCut {P : Program} {A : Option Addr} {cap cap' l0 k m : Nat} {T : TypeId} {l : List α} (i : Nat) (hi : own[i]? = some (ORow A cap T n (l.flatMap f))) (hf : ∀ x, (f x).length = n) (hn : 0 < n) (h : l0 + k ≤ l.length) (hm : m = k) : Src P own K n (.slice (cutA A cap n l0) m cap') k (((l.drop l0).take k).flatMap f) := by
  subst hm
  refine ⟨fun w => by simp [Builtin.lenOf], fun g w hS => ?_⟩
  by_cases h0 : m = 0
  · subst h0
    have : (0 : Nat) * n = 0 := by omega
    cases hA : cutA A cap n l0 <;> simp [Builtin.firstCells, loadCells, loadCellsFrom]
  · obtain ⟨b, o, hb⟩ := Based.orowCut (K := K) i hi hf hn (show l0 < l.length by omega) g w hS
    have hlen : (((l.drop l0).take m).flatMap f).length = m * n := by rw [flat_len f n hf]; congr 1; simp; omega
    have := run_loadCells_list (P := P) w (ad b o) (((l.drop l0).take m).flatMap f) (fun q x hx => by
      obtain ⟨j, k, z, g1, g2, g3, g4⟩ := flat_get' f hf _ hx
      have hj : j < m := by
        have := (List.getElem?_eq_some_iff.1 g1).1; simp at this; omega
      rw [List.getElem?_take_of_lt hj, List.getElem?_drop] at g1
      have hz : z = l[l0 + j]'(by omega) := by
        rw [List.getElem?_eq_getElem (show l0 + j < l.length by omega)] at g1; cases g1; rfl
      subst hz
      have h2 := Cells.orowCut (K := K) (l0 := l0) (j := j) i hi hf hn (by omega) k x g4 g w hS
      rw [hb] at h2
      simp only [adr, adr_add] at h2
      rw [g3]; exact h2)
    rw [hlen] at this
    rw [hb]
    simpa [Builtin.firstCells] using this
end
section
variable {g : Os × Array (Nat × ByteArray)} {P : Program} {f : FuncId} {args : List Value} {own own' R : List SP} {K : PH → Prop} {Φ : Value → List SP → (PH → Prop) → Prop}
/-- A contract that takes the first of one's own, at another place. -/
theorem SpecAt.at_ {A B : SP} (i : Nat) (hi : own[i]? = some A) {v : Value} (h : SpecAt g P f args (A :: own.eraseIdx i) K (Ret v (B :: own.eraseIdx i) K)) : SpecAt g P f args own K (Ret v (own.set i B) K) :=
  (h.pre (Imp.front i hi)).weak fun v' o k ⟨h1, h2, h3⟩ => ⟨_, _, by subst h2 h3; exact fun _ _ h => h.unfocus hi, h1, rfl, rfl⟩
theorem Spec.at_ {A B : SP} (i : Nat) (hi : own[i]? = some A) {v : Value} (h : Spec P f args (A :: own.eraseIdx i) K (Ret v (B :: own.eraseIdx i) K)) : Spec P f args own K (Ret v (own.set i B) K) :=
  Spec.all fun g => SpecAt.at_ i hi (h.at g)
theorem SpecAt.ret {v v' : Value} (hv : v = v') (h : SpecAt g P f args own K (Ret v own' K)) : SpecAt g P f args own K (Ret v' own' K) := hv ▸ h
end
end Go.Proofs.Sl
