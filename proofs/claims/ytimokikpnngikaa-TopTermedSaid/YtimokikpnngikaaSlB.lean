/- The walk: frames as rows of slots, worlds behind what is known of them. -/
import Derived.Test.YtimokikpnngikaaSlA
namespace Go.Proofs.Sl
open Go

abbrev Env := List (Nat × Value)
def look : Env → Nat → Option Value
  | [], _ => none
  | (i, v) :: l, j => match Nat.beq i j with
    | true => some v
    | false => look l j

def ev (e : Env) : Operand → Option Value
  | .tmp t => look e t
  | .const v => some v
  | .global g => some (.pointer (some ⟨g, 0, none⟩))
  | .func f => some (.func (.func f) #[] #[])

def evs (e : Env) : List Operand → Option (List Value)
  | [] => some []
  | x :: l => match ev e x with
    | some v => match evs e l with
      | some vs => some (v :: vs)
      | none => none
    | none => none

/-- What a walk has about it: the program, the loop of whose round it is, the frame's size, its deferred calls, the world outside. -/
structure Cx where
  P : Program
  r : Option Nat
  N : Nat
  ds : List Deferred
  g : Os × Array (Nat × ByteArray)

structure Ag (C : Cx) (e : Env) (a : Act) : Prop where
  size : a.tmps.size = C.N
  get : ∀ i v, look e i = some v → a.tmps[i]? = some v
  ds : a.defers = C.ds

theorem beq_eq {i j : Nat} (h : Nat.beq i j = true) : i = j := Nat.eq_of_beq_eq_true h
theorem beq_ne {i j : Nat} (h : Nat.beq i j = false) : i ≠ j := Nat.ne_of_beq_eq_false h

theorem look_cons_same (e : Env) (i : Nat) (v : Value) : look ((i, v) :: e) i = some v := by
  simp [look]
theorem look_cons {e : Env} {i j : Nat} {v u : Value} (h : look ((i, v) :: e) j = some u) : (i = j ∧ v = u) ∨ (i ≠ j ∧ look e j = some u) := by
  unfold look at h
  cases hb : Nat.beq i j with
  | true => rw [hb] at h; cases h; exact .inl ⟨beq_eq hb, rfl⟩
  | false => rw [hb] at h; exact .inr ⟨beq_ne hb, h⟩

section
variable {C : Cx} {e e' : Env} {a : Act}

theorem Ag.ev (h : Ag C e a) : ∀ {x : Operand} {v : Value}, ev e x = some v → a.eval x = v
  | .tmp t, v, hx => by
    have := h.get t v hx
    simp [Act.eval, this]
  | .const _, _, hx => by cases hx; rfl
  | .global _, _, hx => by cases hx; rfl
  | .func _, _, hx => by cases hx; rfl

theorem Ag.evs (h : Ag C e a) : ∀ {l : List Operand} {vs : List Value}, evs e l = some vs → l.map a.eval = vs
  | [], _, hx => by cases hx; rfl
  | x :: l, vs, hx => by
    unfold Sl.evs at hx
    cases h1 : Sl.ev e x with
    | none => rw [h1] at hx; cases hx
    | some v =>
      cases h2 : Sl.evs e l with
      | none => rw [h1, h2] at hx; cases hx
      | some us =>
        rw [h1, h2] at hx; cases hx
        simp [h.ev h1, h.evs h2]

theorem Ag.put (h : Ag C e a) {d : Nat} (v : Value) (hd : Nat.blt d C.N = true) : Ag C ((d, v) :: e) (a.put (some d) v) := by
  have hlt : d < a.tmps.size := by rw [h.size]; exact Nat.le_of_ble_eq_true hd
  refine ⟨by simp [Act.put, h.size], fun i u hi => ?_, h.ds⟩
  simp only [Act.put]
  rcases look_cons hi with ⟨rfl, rfl⟩ | ⟨hne, hl⟩
  · simp [hlt]
  · rw [Array.getElem?_setIfInBounds_ne hne]; exact h.get i u hl

def memN : List Nat → Nat → Bool
  | [], _ => false
  | i :: l, j => match Nat.beq i j with
    | true => true
    | false => memN l j

/-- Each slot of the one row is in the other one; 's': slots that have been seen. -/
def SubE (s : List Nat) : Env → Env → Prop
  | [], _ => True
  | (i, v) :: l, e => match memN s i with
    | true => SubE s l e
    | false => look e i = some v ∧ SubE (i :: s) l e

theorem memN_mem : ∀ {s : List Nat} {i : Nat}, memN s i = true → i ∈ s
  | j :: l, i, h => by
    unfold memN at h
    cases hb : Nat.beq j i with
    | true => rw [beq_eq hb]; exact List.mem_cons_self
    | false => rw [hb] at h; exact List.mem_cons_of_mem _ (memN_mem h)

theorem SubE.get : ∀ {s : List Nat} {l e : Env}, SubE s l e → ∀ i v, i ∉ s → look l i = some v → look e i = some v
  | _, [], _, _, _, _, _, h => by cases h
  | s, (j, u) :: l, e, h, i, v, hs, hl => by
    unfold SubE at h
    cases hm : memN s j with
    | true =>
      rw [hm] at h
      rcases look_cons hl with ⟨rfl, rfl⟩ | ⟨hne, hl'⟩
      · exact absurd (memN_mem hm) hs
      · exact SubE.get h i v hs hl'
    | false =>
      rw [hm] at h
      rcases look_cons hl with ⟨rfl, rfl⟩ | ⟨hne, hl'⟩
      · exact h.1
      · exact SubE.get h.2 i v (by simp [hs, Ne.symm hne]) hl'

theorem SubE.refl (e : Env) : ∀ i v, look e i = some v → look e i = some v := fun _ _ h => h

theorem Ag.sub (s : SubE [] e' e) (h : Ag C e a) : Ag C e' a :=
  ⟨h.size, fun i v hl => h.get i v (s.get i v (by simp) hl), h.ds⟩

/-- Those of some slots that are known. -/
def restr (e : Env) : List Nat → Env
  | [] => []
  | i :: l => match look e i with
    | some v => (i, v) :: restr e l
    | none => restr e l
end

/-- The fence: everything, in a round or not. -/
def FW (r : Option Nat) : Fence := { Fence.wide with round := r }

def op0 (op : Op) (ty : TypeId) : Oper := { dst := none, op, type := ty, pos := "", after := #[], guard := none }

section
variable (C : Cx)

def WL (ops : Array Oper) (l : List Oper) (e : Env) (own : List SP) (K : PH → Prop) (Q : Exit → Act → World → Prop) : Prop :=
  ∀ a w, Ag C e a → HS C.g own K w → wpListIn (FW C.r) 0 C.P ops Q l a w
def WC (c : Code) (e : Env) (own : List SP) (K : PH → Prop) (Q : Exit → Act → World → Prop) : Prop :=
  ∀ a w, Ag C e a → HS C.g own K w → c.wpIn (FW C.r) 0 C.P Q a w
def AT (x : Exit) (e : Env) (own : List SP) (K : PH → Prop) (Q : Exit → Act → World → Prop) : Prop :=
  ∀ a w, Ag C e a → HS C.g own K w → Q x a w
/-- An operation yields a value, and does nothing else. -/
def QO (op : Op) (ty : TypeId) (e : Env) (own : List SP) (K : PH → Prop) (v : Value) : Prop :=
  (∀ c, op ≠ .defer c) ∧ ∀ a w, Ag C e a → HS C.g own K w → (execOp a.eval (op0 op ty)).run C.P w = .ok (.value v) w
/-- An operation does something: what it yields, and what is known then, is as Φ says. -/
def EO (op : Op) (ty : TypeId) (e : Env) (own : List SP) (K : PH → Prop) (Φ : Value → List SP → (PH → Prop) → Prop) : Prop :=
  (∀ c, op ≠ .defer c) ∧ ∀ a w, Ag C e a → HS C.g own K w → ∀ (o : Oper) (next : Act → World → Prop) (Q : Exit → Act → World → Prop), o.op = op → o.type = ty →
    (∀ v own' K' w', Φ v own' K' → HS C.g own' K' w' → next (a.put o.dst v) w') → o.uponIn (FW C.r) 0 C.P a next Q ((execOp a.eval o).run C.P w)
end

section
variable {C : Cx} {ops : Array Oper} {rest : List Oper} {e : Env} {own : List SP} {K : PH → Prop} {Q : Exit → Act → World → Prop} {op : Op} {ty : TypeId} {pos : String} {af : Array Edge}

theorem exec_op0 (ρ : Operand → Value) (o : Oper) : execOp ρ o = execOp ρ (op0 o.op o.type) := rfl

theorem wide_fn (r : Option Nat) (f : FuncId) : (FW r).fn f := trivial

theorem EO.of_run {Φ : Value → List SP → (PH → Prop) → Prop} (hd : ∀ c, op ≠ .defer c)
    (h : ∀ a w, Ag C e a → HS C.g own K w → ∃ v own' K' w', Φ v own' K' ∧ HS C.g own' K' w' ∧
      ((execOp a.eval (op0 op ty)).run C.P w = .ok (.value v) w' ∨ ((execOp a.eval (op0 op ty)).run C.P w = .ok .skip w' ∧ v = undef))) : EO C op ty e own K Φ := by
  refine ⟨hd, fun a w hA hS o next Q ho ht hn => ?_⟩
  obtain ⟨v, own', K', w', hΦ, hS', hr⟩ := h a w hA hS
  rw [exec_op0, ho, ht]
  rcases hr with hr | ⟨hr, rfl⟩
  · rw [hr]; exact hn _ _ _ _ hΦ hS'
  · rw [hr]; exact hn _ _ _ _ hΦ hS'

theorem wpIn_of_q {v : Value} (hq : QO C op ty e own K v) {a : Act} {w : World} (hA : Ag C e a) (hS : HS C.g own K w) {o : Oper} (ho : o.op = op) (ht : o.type = ty)
    {next : Act → World → Prop} (h : next (a.put o.dst v) w) : o.wpIn (FW C.r) 0 C.P a w next Q := by
  refine ⟨fun f _ => wide_fn C.r f, ?_⟩
  have hs : o.semAt (FW C.r).round a.eval = execOp a.eval o := Oper.semAt_eq _ _ _ (by rw [ho]; exact hq.1)
  rw [hs, exec_op0, ho, ht, hq.2 a w hA hS]
  exact h

theorem wpIn_of_e {Φ : Value → List SP → (PH → Prop) → Prop} (hq : EO C op ty e own K Φ) {a : Act} {w : World} (hA : Ag C e a) (hS : HS C.g own K w) {o : Oper} (ho : o.op = op) (ht : o.type = ty)
    {next : Act → World → Prop} (h : ∀ v own' K' w', Φ v own' K' → HS C.g own' K' w' → next (a.put o.dst v) w') : o.wpIn (FW C.r) 0 C.P a w next Q := by
  refine ⟨fun f _ => wide_fn C.r f, ?_⟩
  have hs : o.semAt (FW C.r).round a.eval = execOp a.eval o := Oper.semAt_eq _ _ _ (by rw [ho]; exact hq.1)
  rw [hs]
  exact hq.2 a w hA hS o next Q ho ht h

theorem WL.q {d : Nat} {v : Value} (hq : QO C op ty e own K v) (hd : Nat.blt d C.N = true) (h : WL C ops rest ((d, v) :: e) own K Q) :
    WL C ops (⟨some d, op, ty, pos, af, none⟩ :: rest) e own K Q := by
  intro a w hA hS
  unfold wpListIn
  rw [if_pos (by rfl)]
  exact wpIn_of_q hq hA hS rfl rfl (h _ _ (hA.put v hd) hS)

theorem WL.qn {v : Value} (hq : QO C op ty e own K v) (h : WL C ops rest e own K Q) :
    WL C ops (⟨none, op, ty, pos, af, none⟩ :: rest) e own K Q := by
  intro a w hA hS
  unfold wpListIn
  rw [if_pos (by rfl)]
  exact wpIn_of_q hq hA hS rfl rfl (h _ _ hA hS)

theorem WL.eff {d : Nat} {Φ : Value → List SP → (PH → Prop) → Prop} (hq : EO C op ty e own K Φ) (hd : Nat.blt d C.N = true)
    (h : ∀ v own' K', Φ v own' K' → WL C ops rest ((d, v) :: e) own' K' Q) : WL C ops (⟨some d, op, ty, pos, af, none⟩ :: rest) e own K Q := by
  intro a w hA hS
  unfold wpListIn
  rw [if_pos (by rfl)]
  exact wpIn_of_e hq hA hS rfl rfl fun v own' K' w' hΦ hS' => h v own' K' hΦ _ _ (hA.put v hd) hS'

theorem WL.effn {Φ : Value → List SP → (PH → Prop) → Prop} (hq : EO C op ty e own K Φ)
    (h : ∀ v own' K', Φ v own' K' → WL C ops rest e own' K' Q) : WL C ops (⟨none, op, ty, pos, af, none⟩ :: rest) e own K Q := by
  intro a w hA hS
  unfold wpListIn
  rw [if_pos (by rfl)]
  exact wpIn_of_e hq hA hS rfl rfl fun v own' K' w' hΦ hS' => h v own' K' hΦ _ _ hA hS'

def dstOf (ops : Array Oper) (j : Nat) : Option Tmp := (ops[j]?).bind (·.dst)

theorem yielded_of {a : Act} (hA : Ag C e a) {j d : Nat} {b : Bool} (hj : dstOf ops j = some d) (hb : look e d = some (.bool b)) : yielded ops a.tmps j = some b := by
  unfold yielded
  have : (ops[j]?).bind (·.dst) = some d := hj
  rw [this]
  simp [hA.get d _ hb]

/-- The guard says yes. -/
theorem WL.on {dst : Option Tmp} {j d : Nat} {b b' : Bool} (hj : dstOf ops j = some d) (hb : look e d = some (.bool b')) (hbb : b' = b)
    (h : WL C ops (⟨dst, op, ty, pos, af, none⟩ :: rest) e own K Q) : WL C ops (⟨dst, op, ty, pos, af, some (j, b)⟩ :: rest) e own K Q := by
  intro a w hA hS
  subst hbb
  have h1 := h a w hA hS
  unfold wpListIn at h1 ⊢
  rw [if_pos (by rfl)] at h1
  rw [if_pos (by simp [Region.wanted, yielded_of hA hj hb])]
  exact h1

/-- The guard says no. -/
theorem WL.off {d' j d : Nat} {b b' : Bool} (hj : dstOf ops j = some d) (hb : look e d = some (.bool b')) (hne : b' = !b) (hd : Nat.blt d' C.N = true)
    (h : WL C ops rest ((d', undef) :: e) own K Q) : WL C ops (⟨some d', op, ty, pos, af, some (j, b)⟩ :: rest) e own K Q := by
  intro a w hA hS
  unfold wpListIn
  rw [if_neg (by simp [Region.wanted, yielded_of hA hj hb, hne])]
  exact ⟨fun f _ => wide_fn C.r f, h _ _ (hA.put undef hd) hS⟩

theorem WL.offn {j d : Nat} {b b' : Bool} (hj : dstOf ops j = some d) (hb : look e d = some (.bool b')) (hne : b' = !b)
    (h : WL C ops rest e own K Q) : WL C ops (⟨none, op, ty, pos, af, some (j, b)⟩ :: rest) e own K Q := by
  intro a w hA hS
  unfold wpListIn
  rw [if_neg (by simp [Region.wanted, yielded_of hA hj hb, hne])]
  exact ⟨fun f _ => wide_fn C.r f, h _ _ hA hS⟩

theorem WL.nil (h : AT C .normal e own K Q) : WL C ops [] e own K Q := h

/-! ### Code -/
theorem WC.region {id : Nat} {l : List Oper} (h : WL C l.toArray l e own K Q) : WC C (.region id l.toArray false) e own K Q :=
  fun a w hA hS => wpIn_region_lit (h a w hA hS)
theorem WC.seq {x y : Code} (h : WC C x e own K (Exit.then (y.wpIn (FW C.r) 0 C.P Q) Q)) : WC C (.seq x y) e own K Q :=
  fun a w hA hS => wpIn_seq (h a w hA hS)
theorem WC.skip (h : AT C .normal e own K Q) : WC C .skip e own K Q := fun a w hA hS => wpIn_skip (h a w hA hS)
theorem WC.ret (h : AT C .ret e own K Q) : WC C .ret e own K Q := fun a w hA hS => wpIn_ret (h a w hA hS)
theorem WC.exit {i : Nat} (h : AT C (.exit i) e own K Q) : WC C (.exit i) e own K Q := fun a w hA hS => wpIn_exit (h a w hA hS)
theorem WC.block {i : Nat} {c : Code} (h : WC C c e own K (Exit.inBlock i Q)) : WC C (.block i c) e own K Q := fun a w hA hS => wpIn_block (h a w hA hS)
theorem WC.cond {c : Operand} {x y : Code} {t : Bool} (hc : ev e c = some (.bool t)) (ht : t = true → WC C x e own K Q) (hf : t = false → WC C y e own K Q) : WC C (.cond c x y) e own K Q :=
  fun a w hA hS => wpIn_cond_split (hA.ev hc) (fun h => ht h a w hA hS) (fun h => hf h a w hA hS)
theorem WC.condT {c : Operand} {x y : Code} (hc : ev e c = some (.bool true)) (h : WC C x e own K Q) : WC C (.cond c x y) e own K Q :=
  fun a w hA hS => wpIn_cond_true (hA.ev hc) (h a w hA hS)
theorem WC.condF {c : Operand} {x y : Code} (hc : ev e c = some (.bool false)) (h : WC C y e own K Q) : WC C (.cond c x y) e own K Q :=
  fun a w hA hS => wpIn_cond_false (hA.ev hc) (h a w hA hS)
/-- A test on a proposition. -/
theorem WC.condP {c : Operand} {x y : Code} {p : Prop} [Decidable p] (hc : ev e c = some (.bool (decide p))) (ht : p → WC C x e own K Q) (hf : ¬ p → WC C y e own K Q) : WC C (.cond c x y) e own K Q :=
  WC.cond hc (fun h => ht (of_decide_eq_true h)) (fun h => hf (of_decide_eq_false h))

theorem WC.condHT {c : Operand} {x y : Code} {t : Bool} (hc : ev e c = some (.bool t)) (ht : t = true) (h : WC C x e own K Q) : WC C (.cond c x y) e own K Q := by subst ht; exact WC.condT hc h
theorem WC.condHF {c : Operand} {x y : Code} {t : Bool} (hc : ev e c = some (.bool t)) (ht : t = false) (h : WC C y e own K Q) : WC C (.cond c x y) e own K Q := by subst ht; exact WC.condF hc h
theorem WC.condPT {c : Operand} {x y : Code} {p : Prop} [Decidable p] (hc : ev e c = some (.bool (decide p))) (hp : p) (h : WC C x e own K Q) : WC C (.cond c x y) e own K Q := WC.condHT hc (decide_eq_true hp) h
theorem WC.condPF {c : Operand} {x y : Code} {p : Prop} [Decidable p] (hc : ev e c = some (.bool (decide p))) (hp : ¬ p) (h : WC C y e own K Q) : WC C (.cond c x y) e own K Q := WC.condHF hc (decide_eq_false hp) h

/-! ### Ways out -/
theorem AT.then_n {y : Code} (h : WC C y e own K Q) : AT C .normal e own K (Exit.then (y.wpIn (FW C.r) 0 C.P Q) Q) := h
theorem AT.then_e {n : Act → World → Prop} {i : Nat} (h : AT C (.exit i) e own K Q) : AT C (.exit i) e own K (Exit.then n Q) := h
theorem AT.then_r {n : Act → World → Prop} (h : AT C .ret e own K Q) : AT C .ret e own K (Exit.then n Q) := h
theorem AT.blk_n {i : Nat} (h : AT C .normal e own K Q) : AT C .normal e own K (Exit.inBlock i Q) := h
theorem AT.blk_r {i : Nat} (h : AT C .ret e own K Q) : AT C .ret e own K (Exit.inBlock i Q) := h
theorem AT.blk_e {i : Nat} (h : AT C .normal e own K Q) : AT C (.exit i) e own K (Exit.inBlock i Q) := fun a w hA hS => by
  simp only [Exit.inBlock, if_true]; exact h a w hA hS
theorem AT.blk_x {i j : Nat} (hne : Nat.beq j i = false) (h : AT C (.exit j) e own K Q) : AT C (.exit j) e own K (Exit.inBlock i Q) := fun a w hA hS => by
  simp only [Exit.inBlock, beq_ne hne, if_false]; exact h a w hA hS

/-- A state among several. -/
def Mid (C : Cx) {σ : Type} (I : σ → Prop) (ef : σ → Env) (of : σ → List SP) (Kf : σ → PH → Prop) : Act → World → Prop :=
  fun a w => ∃ s, I s ∧ Ag C (ef s) a ∧ HS C.g (of s) (Kf s) w

theorem AT.mid {σ : Type} {I : σ → Prop} {ef : σ → Env} {of : σ → List SP} {Kf : σ → PH → Prop} (s : σ) (hI : I s) (hs : SubE [] (ef s) e) (hi : Imp own K (of s) (Kf s)) :
    AT C .normal e own K (Exit.then (Mid C I ef of Kf) Q) :=
  fun a w hA hS => ⟨s, hI, hA.sub hs, hi _ _ hS⟩

theorem WC.cut {σ : Type} (I : σ → Prop) (ef : σ → Env) (of : σ → List SP) (Kf : σ → PH → Prop) {x y : Code}
    (h : WC C x e own K (Exit.then (Mid C I ef of Kf) Q)) (h2 : ∀ s, I s → WC C y (ef s) (of s) (Kf s) Q) : WC C (.seq x y) e own K Q :=
  fun a w hA hS => wpIn_seq (wpIn_mono (h a w hA hS) (by
    intro x' a' w' hq
    cases x' with
    | normal => obtain ⟨s, hI, hA', hS'⟩ := hq; exact h2 s hI a' w' hA' hS'
    | _ => exact hq))

theorem least {p : Nat → Prop} (h : ∃ n, p n) : ∃ n, p n ∧ ∀ m, p m → n ≤ m := by
  obtain ⟨n, hn⟩ := h
  induction n using Nat.strongRecOn with
  | _ n ih =>
    by_cases hx : ∃ m, m < n ∧ p m
    · obtain ⟨m, hm, hp⟩ := hx; exact ih m hm hp
    · exact ⟨n, hn, fun m hm => Nat.le_of_not_lt fun hlt => hx ⟨m, hlt, hm⟩⟩

theorem WC.loop {σ : Type} (I : σ → Prop) (ef : σ → Env) (of : σ → List SP) (Kf : σ → PH → Prop) (μ : σ → Nat) (s0 : σ) {body : Code}
    (h0 : I s0) (hs : SubE [] (ef s0) e) (hi : Imp own K (of s0) (Kf s0))
    (round : ∀ s, I s → WC C body (ef s) (of s) (Kf s) (Exit.then (Mid C (fun s' => I s' ∧ μ s' < μ s) ef of Kf) Q)) : WC C (.loop body) e own K Q := by
  intro a w hA hS
  classical
  let T : Act → World → Nat → Prop := fun a w n => ∃ s, I s ∧ Ag C (ef s) a ∧ HS C.g (of s) (Kf s) w ∧ μ s = n
  let M : Act → World → Nat := fun a w => if h : ∃ n, T a w n then Classical.choose (least h) else 0
  have hM : ∀ {a w} (h : ∃ n, T a w n), T a w (M a w) ∧ ∀ m, T a w m → M a w ≤ m := by
    intro a w h
    have : M a w = Classical.choose (least h) := by simp only [M]; rw [dif_pos h]
    rw [this]
    exact Classical.choose_spec (least h)
  refine wpIn_loop (fun a w => ∃ n, T a w n) M ⟨_, s0, h0, hA.sub hs, hi _ _ hS, rfl⟩ ?_
  intro a w hI
  obtain ⟨⟨s, h1, h2, h3, h4⟩, _⟩ := hM hI
  refine wpIn_mono (round s h1 a w h2 h3) ?_
  intro x a' w' hq
  cases x with
  | normal =>
    obtain ⟨s', ⟨k1, k2⟩, k3, k4⟩ := hq
    have hT : T a' w' (μ s') := ⟨s', k1, k3, k4, rfl⟩
    refine ⟨⟨_, hT⟩, ?_⟩
    have := (hM ⟨_, hT⟩).2 _ hT
    omega
  | _ => exact hq
end

/-! ### Calls -/
def Enters (P : Program) (f : FuncId) : Prop := ∀ args w, (callFunc f args).run P w = .ok (.enter f args) w

theorem Enters.of {P : Program} {f : FuncId} {fn : Func} {c : Code} (hf : P.funcs[f]? = some fn) (hname : (fn.name == "runtime.NumGoroutine") = false) (hb : fn.body = some c) : Enters P f := fun args w => by
  have h1 : fn.name ≠ "runtime.NumGoroutine" := by simpa using hname
  simp [callFunc, hf, h1, hb]

/-- What a call of a function comes to, where this is known. -/
def Spec (P : Program) (f : FuncId) (args : List Value) (own : List SP) (K : PH → Prop) (Φ : Value → List SP → (PH → Prop) → Prop) : Prop :=
  Enters P f ∧ ∀ g w, HS g own K w → Calls P f args.toArray w fun x w' => ∃ v own' K', x = .returned v ∧ Φ v own' K' ∧ HS g own' K' w'

def Ret (v : Value) (own : List SP) (K : PH → Prop) : Value → List SP → (PH → Prop) → Prop := fun v' own' K' => v = v' ∧ own = own' ∧ K = K'

theorem callsFW {P : Program} {f : FuncId} {args : Array Value} {w : World} {R : Ending → World → Prop} (r : Option Nat) {n : Nat} (h : Calls P f args w R) : CallsIn (FW r) n P f args w R := by
  have h0 : CallsIn Fence.wide n P f args w R := callsIn_wide.2 h
  cases r with
  | none => exact h0
  | some l => exact ⟨h0.1, h0.2⟩

section
variable {C : Cx} {e : Env} {own : List SP} {K : PH → Prop}

theorem upon_call {f : FuncId} {args : List Value} {Φ : Value → List SP → (PH → Prop) → Prop} (hs : Spec C.P f args own K Φ) {a : Act} {w : World} (hS : HS C.g own K w) {o : Oper}
    {next : Act → World → Prop} {Q : Exit → Act → World → Prop} (h : ∀ v own' K' w', Φ v own' K' → HS C.g own' K' w' → next (a.put o.dst v) w') :
    o.uponIn (FW C.r) 0 C.P a next Q (.ok (.enter f args.toArray) w) := by
  rw [Oper.uponIn_enter]
  refine ⟨fun hd => (by cases hd), ?_⟩
  have hc : CallsIn (FW C.r) (0 - 1) C.P f args.toArray w _ := callsFW C.r (hs.2 C.g w hS)
  refine hc.mono ?_
  rintro x w' ⟨v, own', K', rfl, hΦ, hS'⟩
  exact h v own' K' w' hΦ hS'


theorem e_call {f : FuncId} {as : List Operand} {ats : Array TypeId} {ty : TypeId} {args : List Value} {Φ : Value → List SP → (PH → Prop) → Prop} (ha : evs e as = some args) (hs : Spec C.P f args own K Φ) :
    EO C (.call { callee := .value (.func f), args := as.toArray, argTypes := ats }) ty e own K Φ := by
  refine ⟨by simp, fun a w hA hS o next Q ho ht h => ?_⟩
  have hr : (execOp a.eval o).run C.P w = .ok (.enter f args.toArray) w := by
    have hm : (as.toArray).map a.eval = args.toArray := by rw [List.map_toArray, hA.evs ha]
    unfold execOp
    rw [ho]
    simp only [resolve, hm, Act.eval, Deferred.ofValue]
    simp [Sem.run_bind, invoke, hs.1 _ w]
  rw [hr]
  exact upon_call hs hS h

theorem e_callv {f : FuncId} {x : Operand} {first cap : List Value} {as : List Operand} {ats : Array TypeId} {ty : TypeId} {args : List Value} {Φ : Value → List SP → (PH → Prop) → Prop}
    (hx : ev e x = some (.func (.func f) first.toArray cap.toArray)) (ha : evs e as = some args) (hs : Spec C.P f (first ++ args ++ cap) own K Φ) :
    EO C (.call { callee := .value x, args := as.toArray, argTypes := ats }) ty e own K Φ := by
  refine ⟨by simp, fun a w hA hS o next Q ho ht h => ?_⟩
  have hr : (execOp a.eval o).run C.P w = .ok (.enter f (first ++ args ++ cap).toArray) w := by
    have hm : (as.toArray).map a.eval = args.toArray := by rw [List.map_toArray, hA.evs ha]
    unfold execOp
    rw [ho]
    simp only [resolve, hm, hA.ev hx, Deferred.ofValue]
    have := hs.1 (first ++ args ++ cap).toArray w
    simp only [List.append_assoc] at this
    simp [Sem.run_bind, invoke, this]
  rw [hr]
  exact upon_call hs hS h
end

/-! ### A function's contract out of its body's walk -/
def envOf : Nat → List Value → Env
  | _, [] => []
  | i, v :: l => (i, v) :: envOf (i + 1) l

theorem envOf_look : ∀ (l : List Value) (n i : Nat) (v : Value), look (envOf n l) i = some v → n ≤ i ∧ l[i - n]? = some v
  | [], _, _, _, h => by cases h
  | u :: l, n, i, v, h => by
    rcases look_cons h with ⟨rfl, rfl⟩ | ⟨hne, h'⟩
    · simp
    · obtain ⟨h1, h2⟩ := envOf_look l (n + 1) i v h'
      refine ⟨by omega, ?_⟩
      have : i - n = (i - (n + 1)) + 1 := by omega
      rw [this]; simpa using h2

def RG (Φ : Value → List SP → (PH → Prop) → Prop) (g : Os × Array (Nat × ByteArray)) : Ending → World → Prop :=
  fun x w' => ∃ v own' K', x = .returned v ∧ Φ v own' K' ∧ HS g own' K' w'

theorem Spec.of {P : Program} {f : FuncId} {fn : Func} {c : Code} {args : List Value} {own : List SP} {K : PH → Prop} {Φ : Value → List SP → (PH → Prop) → Prop}
    (hen : Enters P f) (hf : P.funcs[f]? = some fn) (hb : fn.body = some c) (hn : Nat.ble args.length fn.ntmps = true)
    (h : ∀ g, WC ⟨P, none, fn.ntmps, [], g⟩ c (envOf 0 args) own K (bodyPost P fn (RG Φ g))) : Spec P f args own K Φ := by
  refine ⟨hen, fun g w hS => callsIn_wide.1 (callsIn_of_wp (F := Fence.wide) (n := 0) hf hb trivial (h g _ w ⟨?_, ?_, rfl⟩ hS) rfl)⟩
  · have := Nat.le_of_ble_eq_true hn
    simp; omega
  · intro i v hl
    obtain ⟨_, h2⟩ := envOf_look args 0 i v hl
    simp at h2
    obtain ⟨hlt, hv⟩ := List.getElem?_eq_some_iff.1 h2
    simp [Array.getElem?_append, hlt, hv]

/-- What a function's results are, at the way out. -/
def RO (C : Cx) (fn : Func) (e : Env) (own : List SP) (K : PH → Prop) (v : Value) : Prop :=
  ∀ a w, Ag C e a → HS C.g own K w → (results fn a.tmps).run C.P w = .ok v w

section
variable {C : Cx} {e : Env} {own own' : List SP} {K K' : PH → Prop} {fn : Func}
theorem RO.one {t : Tmp} {v : Value} (h : fn.results = #[.tmp t]) (hl : look e t = some v) : RO C fn e own K v := fun a w hA _ => by
  have := hA.get t v hl
  simp [results, h, this]
theorem RO.none (h : fn.results = #[]) : RO C fn e own K (.tuple #[]) := fun a w _ _ => by simp [results, h]
theorem RO.two {t u : Tmp} {v x : Value} (h : fn.results = #[.tmp t, .tmp u]) (hl : look e t = some v) (hl' : look e u = some x) : RO C fn e own K (.tuple #[v, x]) := fun a w hA _ => by
  have h1 := hA.get t v hl
  have h2 := hA.get u x hl'
  simp [results, h, h1, h2]
theorem RO.three {t u s : Tmp} {v x y : Value} (h : fn.results = #[.tmp t, .tmp u, .tmp s]) (hl : look e t = some v) (hl' : look e u = some x) (hl2 : look e s = some y) : RO C fn e own K (.tuple #[v, x, y]) := fun a w hA _ => by
  have h1 := hA.get t v hl
  have h2 := hA.get u x hl'
  have h3 := hA.get s y hl2
  simp [results, h, h1, h2, h3]
theorem RO.four {t u s q : Tmp} {v x y z : Value} (h : fn.results = #[.tmp t, .tmp u, .tmp s, .tmp q]) (hl : look e t = some v) (hl' : look e u = some x) (hl2 : look e s = some y) (hl3 : look e q = some z) : RO C fn e own K (.tuple #[v, x, y, z]) := fun a w hA _ => by
  have h1 := hA.get t v hl
  have h2 := hA.get u x hl'
  have h3 := hA.get s y hl2
  have h4 := hA.get q z hl3
  simp [results, h, h1, h2, h3, h4]

theorem AT.done {Φ : Value → List SP → (PH → Prop) → Prop} {v : Value} (hd : C.ds = []) (hr : RO C fn e own K v) (hΦ : Φ v own' K') (hi : Imp own K own' K') : AT C .ret e own K (bodyPost C.P fn (RG Φ C.g)) :=
  fun a w hA hS => ⟨hA.ds.trans hd, v, hr a w hA hS, v, own', K', rfl, hΦ, hi _ _ hS⟩
theorem AT.doneN {Φ : Value → List SP → (PH → Prop) → Prop} {v : Value} (hd : C.ds = []) (hr : RO C fn e own K v) (hΦ : Φ v own' K') (hi : Imp own K own' K') : AT C .normal e own K (bodyPost C.P fn (RG Φ C.g)) :=
  fun a w hA hS => ⟨hA.ds.trans hd, v, hr a w hA hS, v, own', K', rfl, hΦ, hi _ _ hS⟩
end
end Go.Proofs.Sl
