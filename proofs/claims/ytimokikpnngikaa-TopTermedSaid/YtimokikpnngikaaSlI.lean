/- Effects whose outcome stays, truth values compared, rows of things. -/
import Derived.Test.YtimokikpnngikaaSlH
import Derived.Laws.Small
namespace Go.Proofs.Sl
open Go
section
variable {C : Cx} {e : Env} {own own' : List SP} {K K' : PH → Prop} {ty : TypeId}
theorem Imp.front {own : List SP} {K : PH → Prop} {A : SP} (i : Nat) (hi : own[i]? = some A) : Imp own K (A :: own.eraseIdx i) K := fun _ _ h => h.focus hi
theorem Imp.keepRest {own own' : List SP} {K K' : PH → Prop} (s : own'.Sublist own) (e : Ent K K') : Imp own K own' K' := fun _ _ h => (h.sublist s).ent e
theorem flat_at {α : Type} (f : α → List Value) (n : Nat) (hf : ∀ x, (f x).length = n) : ∀ (l : List α) (i : Nat) (h : i < l.length), ((l.flatMap f).drop (i * n)).take n = f l[i]
  | x :: l, 0, _ => by simp [List.take_append, hf x]
  | x :: l, i + 1, h => by
    rw [List.flatMap_cons, Nat.succ_mul, List.drop_append, hf x]
    rw [List.drop_eq_nil_of_le (by rw [hf x]; omega), List.nil_append, show i * n + n - n = i * n by omega]
    have := flat_at f n hf l i (by simpa using h)
    simpa using this
theorem flat_len {α : Type} (f : α → List Value) (n : Nat) (hf : ∀ x, (f x).length = n) : ∀ (l : List α), (l.flatMap f).length = l.length * n
  | [] => by simp
  | x :: l => by rw [List.flatMap_cons, List.length_append, hf x, flat_len f n hf l, List.length_cons, Nat.succ_mul, Nat.add_comm]
theorem Cells.at {own : List SP} {K : PH → Prop} {α : Type} {f : α → List Value} {n : Nat} {A : Option Addr} {l : List α} (hr : Ent K (Row A (l.flatMap f))) (hf : ∀ x, (f x).length = n) {i : Nat} (h : i < l.length) : Cells own K (adr A (i * n)) (f l[i]) := by
  have := Cells.row (own := own) (o := i * n) (n := n) hr
  rwa [flat_at f n hf l i h] at this
theorem EO.weak {op : Op} {Φ Ψ : Value → List SP → (PH → Prop) → Prop} (h : EO C op ty e own K Φ) (hi : ∀ v o k, Φ v o k → ∃ o' k', Imp o k o' k' ∧ Ψ v o' k') : EO C op ty e own K Ψ :=
  ⟨h.1, fun a w hA hS o next Q ho ht hn => h.2 a w hA hS o next Q ho ht fun v o' k' w' hΦ hS' => by
    obtain ⟨o2, k2, hI, hΨ⟩ := hi v o' k' hΦ
    exact hn v o2 k2 w' hΨ (hI _ _ hS')⟩
theorem Spec.cast {P : Program} {f : FuncId} {args args' : List Value} {Φ : Value → List SP → (PH → Prop) → Prop} (h : Spec P f args own K Φ) (e : args' = args) : Spec P f args' own K Φ := e ▸ h
theorem Imp.ptStay {b : Nat} {cs : List Value} {T : TypeId} {fr : Nat × Nat} : Imp (Pt b (.cells cs.toArray T fr) :: own) K own (K ∩ Row (some (ad b 0)) cs) := fun _ _ h =>
  h.freeze fun x hx H hs => .inr ⟨b, 0, rfl, cs.toArray, T, fr, hs b _ (by rw [show x = PH.one b _ from hx]; simp [PH.one]), fun j y hy => by simpa using hy⟩
/-! What is built, as a list: so that it is reckoned cheaply. -/
def cellsL (v : Value) : List Value := v.cells.toList
def setsL : List Value → Nat → List Value → List Value
  | cs, _, [] => cs
  | cs, off, c :: r => setsL (cs.set off c) (off + 1) r
def fillL (place : Nat → Option (Nat × Nat)) : List Value → List (Nat × Value) → Option (List Value)
  | cs, [] => some cs
  | cs, (i, v) :: r => match place i with
    | none => none
    | some (off, sz) => match Nat.beq (cellsL v).length sz && Nat.ble (off + sz) cs.length with
      | true => fillL place (setsL cs off (cellsL v)) r
      | false => none
theorem sets_go (off : Nat) : ∀ (l : List Value) (k : Nat) (cs : List Value), ((l.zipIdx k).foldl (fun (a : Array Value) (p : Value × Nat) => a.setIfInBounds (off + p.2) p.1) cs.toArray) = (setsL cs (off + k) l).toArray
  | [], k, cs => rfl
  | c :: l, k, cs => by
    rw [List.zipIdx_cons, List.foldl_cons, List.setIfInBounds_toArray, sets_go off l (k + 1)]; rfl
theorem fill_L {place : Nat → Option (Nat × Nat)} : ∀ {ps : List (Nat × Value)} {cs cs' : List Value}, fillL place cs ps = some cs' → Instr.fill place cs.toArray ps = some cs'.toArray
  | [], cs, cs', h => by simp only [fillL, Option.some.injEq] at h; subst h; rfl
  | (i, v) :: r, cs, cs', h => by
    unfold fillL at h
    unfold Instr.fill
    cases hp : place i with
    | none => rw [hp] at h; cases h
    | some q =>
      obtain ⟨off, sz⟩ := q
      rw [hp] at h
      simp only at h
      cases hb : (Nat.beq (cellsL v).length sz && Nat.ble (off + sz) cs.length) with
      | false => rw [hb] at h; cases h
      | true =>
        rw [hb] at h
        rw [Bool.and_eq_true] at hb
        have h2 : v.cells.size = sz := by simpa [cellsL] using Nat.eq_of_beq_eq_true hb.1
        have h2b := Nat.le_of_ble_eq_true hb.2
        have h3 := sets_go off v.cells.toList 0 cs
        have h4 := fill_L (ps := r) h
        simp only
        rw [if_neg (by simp [h2]; omega)]
        rw [← h4]
        congr 1
        rw [Nat.add_zero] at h3
        show _ = (setsL cs off v.cells.toList).toArray
        rw [← h3, ← Array.foldl_toList]
        simp
theorem toArr {z : Value} {zs : List Value} (h : z.cells = zs.toArray) (n : Nat) : ((List.replicate n z.cells.toList).flatten).toArray = ((List.replicate n zs).flatten).toArray := by rw [h]
theorem q_buildL {t : TypeId} {ps : List (Nat × Operand)} {vs : List (Nat × Value)} {pl : List (Nat × Nat)} {n by_ : Nat} {z : Value} {zs cs : List Value} (hp : evp e ps = some vs) (hpl : Places C.P t pl) (hi : Inf C.P t n by_ z) (hz : z.cells = zs.toArray)
    (hf : fillL (pl[·]?) zs vs = some cs) : QO C (.build t ps.toArray) ty e own K (.agg cs.toArray) :=
  q_build hp hpl hi (by rw [hz]; have := fill_L hf; simpa using this)
theorem e_buildSliceL {t el : TypeId} {sz by_ n : Nat} {z : Value} {ps : List (Nat × Operand)} {vs : List (Nat × Value)} {zs cs : List Value} (hp : evp e ps = some vs) (hu : Und C.P t (.slice el)) (hi : Inf C.P el sz by_ z) (hz : z.cells = zs.toArray) (hzs : Nat.beq zs.length sz = true) (hsz : Nat.blt 0 sz = true)
    (hn : Nat.ble (n * sz) 16777216 = true) (hf : fillL (fun i => some (i * sz, sz)) ((List.replicate n zs).flatten) vs = some cs) :
    EO C (.buildSlice t n ps.toArray) ty e own K (fun v own' K' => ∃ b, v = .slice (some (ad b 0)) n n ∧ own' = Pt b (.cells cs.toArray el (0, 0)) :: own ∧ K = K') :=
  e_buildSlice hp hu hi (by rw [hz]; simpa using Nat.eq_of_beq_eq_true hzs) (Nat.le_of_ble_eq_true hsz) (Nat.le_of_ble_eq_true hn) (by rw [toArr hz]; exact fill_L hf)
theorem e_buildSliceK {t el : TypeId} {sz by_ n : Nat} {z : Value} {ps : List (Nat × Operand)} {vs : List (Nat × Value)} {zs cs : List Value} (hp : evp e ps = some vs) (hu : Und C.P t (.slice el)) (hi : Inf C.P el sz by_ z) (hz : z.cells = zs.toArray) (hzs : Nat.beq zs.length sz = true) (hsz : Nat.blt 0 sz = true)
    (hn : Nat.ble (n * sz) 16777216 = true) (hf : fillL (fun i => some (i * sz, sz)) ((List.replicate n zs).flatten) vs = some cs) :
    EO C (.buildSlice t n ps.toArray) ty e own K (fun v own' K' => ∃ b, v = .slice (some (ad b 0)) n n ∧ own = own' ∧ K' = K ∩ Row (some (ad b 0)) cs) :=
  (e_buildSliceL hp hu hi hz hzs hsz hn hf).weak fun v o k ⟨b, h1, h2, h3⟩ => ⟨own, _, by subst h2 h3; exact Imp.ptStay, b, h1, rfl, rfl⟩
theorem e_s2bK {s d el : TypeId} {x : Operand} {l : List UInt8} {by_ : Nat} {z : Value} (hx : ev e x = some (.string (bs l))) (hs : Und C.P s .string) (hd : Und C.P d (.slice el)) (he : Und C.P el (.int .u8)) (hi : Inf C.P el 1 by_ z) (hl : l.length ≤ 4611686018427387904) :
    EO C (.convert s d x) ty e own K (fun r own' K' => ∃ A cap, r = .slice A l.length cap ∧ own = own' ∧ K' = K ∩ Row A (l.map bv) ∧ l.length ≤ cap) :=
  (e_s2b hx hs hd he hi hl).weak fun v o k ⟨A, cap, h1, h2, h3, h4⟩ => ⟨own, _, by subst h2 h3; exact Imp.orowStay, A, cap, h1, rfl, rfl, h4⟩
theorem e_appendNK {t u el : TypeId} {x y : Operand} {v : Value} {sz by_ k : Nat} {z : Value} {new : List Value}
    (hx : ev e x = some (.slice none 0 0)) (hy : ev e y = some v) (hsrc : Src C.P own K sz v k new) (hu : Und C.P t (.slice el)) (hu2 : (∃ el', Und C.P u (.slice el')) ∨ Und C.P u .string)
    (hinf : Inf C.P el sz by_ z) (hz : z.cells.size = sz) (hnew : new.length = k * sz) (h1 : Ones new) (hb : k * by_ ≤ 140737488355328 ∧ k ≤ 4611686018427387904) :
    EO C (.call { callee := .builtin .append, args := #[x, y], argTypes := #[t, u] }) ty e own K
      (fun r own' K' => ∃ A' cap', r = .slice A' k cap' ∧ own = own' ∧ K' = K ∩ Row A' new ∧ k ≤ cap') :=
  (e_appendN hx hy hsrc hu hu2 hinf hz hnew h1 hb).weak fun v o k ⟨A, cap, h1, h2, h3, h4⟩ => ⟨own, _, by subst h2 h3; exact Imp.orowStay, A, cap, h1, rfl, rfl, h4⟩
theorem rep1 (z : Value) : ∀ n : Nat, (List.replicate n (#[z] : Array Value).toList).flatten = List.replicate n z
  | 0 => rfl
  | n + 1 => by rw [List.replicate_succ, List.flatten_cons, rep1 z n]; rfl
theorem e_makeSlice1K {t el : TypeId} {by_ : Nat} {z : Value} {x y : Operand} {a b : Int} (n : Nat) (hx : ev e x = some (.int .i64 a)) (hy : ev e y = some (.int .i64 b)) (ha : a = n) (hb : b = n) (hu : Und C.P t (.slice el)) (hi : Inf C.P el 1 by_ z)
    (hz : z.cells = #[z]) (hc : n * by_ ≤ 140737488355328 ∧ n ≤ 4611686018427387904) (h4 : n ≤ 4611686018427387904) :
    EO C (.makeSlice t x y) ty e own K (fun v own' K' => ∃ A, v = .slice A n n ∧ own = own' ∧ K' = K ∩ Row A (List.replicate n z)) := by
  subst ha hb
  refine (e_makeSlice hx hy hu hi (by rw [hz]; rfl) (by decide) (Nat.le_refl _) hc).weak fun v o k ⟨A, h1, h2, h3⟩ => ⟨own, _, ?_, A, h1, rfl, rfl⟩
  have e1 : (List.replicate n z.cells.toList).flatten = List.replicate n z := by
    rw [hz]; exact rep1 z n
  subst h2 h3
  rw [e1]; exact Imp.orowStay
theorem wrapU {k : IntKind} (hk : k.signed = false) (a : Nat) : k.wrap (a : Int) = ((a % 2 ^ k.bits : Nat) : Int) := by
  simp [IntKind.wrap, hk]
theorem q_convN {s d : TypeId} {x : Operand} {k k' : IntKind} {a : Nat} (hs : Und C.P s (.int k)) (hd : Und C.P d (.int k')) (hx : ev e x = some (.int k a)) (hk : k'.signed = false) : QO C (.convert s d x) ty e own K (.int k' ((a % 2 ^ k'.bits : Nat) : Int)) := by
  have := q_conv (C := C) (e := e) (own := own) (K := K) (ty := ty) rfl hs hd hx
  rwa [wrapU hk] at this
section
variable {t u : TypeId} {x y : Operand} {a b : Bool}
theorem q_eqlB (hx : ev e x = some (.bool a)) (hy : ev e y = some (.bool b)) (hu : Und C.P t .bool) : QO C (.binOp .eql t x y u) ty e own K (.bool (a == b)) :=
  ⟨by simp, fun s w hA _ => by simp [execOp, op0, hA.ev hx, hA.ev hy, binOp, eqGuard, run_equal_bool (w := w) t a b hu]⟩
theorem q_neqB (hx : ev e x = some (.bool a)) (hy : ev e y = some (.bool b)) (hu : Und C.P t .bool) : QO C (.binOp .neq t x y u) ty e own K (.bool (a != b)) :=
  ⟨by simp, fun s w hA _ => by simp [execOp, op0, hA.ev hx, hA.ev hy, binOp, eqGuard, run_equal_bool (w := w) t a b hu]; cases a <;> cases b <;> rfl⟩
end
end
theorem vsl {A : Option Addr} {n m c : Nat} (h : n = m) : some (Value.slice A n c) = some (Value.slice A m c) := by rw [h]
theorem vint {k : IntKind} {n m : Int} (h : n = m) : some (Value.int k n) = some (Value.int k m) := by rw [h]
theorem vbool {a b : Bool} (h : a = b) : some (Value.bool a) = some (Value.bool b) := by rw [h]
theorem vstr {a b : List UInt8} (h : a = b) : some (Value.string (bs a)) = some (Value.string (bs b)) := by rw [h]
end Go.Proofs.Sl
