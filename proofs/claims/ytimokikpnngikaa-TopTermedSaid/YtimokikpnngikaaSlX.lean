/- Operations under guards, without parting the walk: what is yielded under a guard is known in a layer of its own. -/
import Derived.Test.YtimokikpnngikaaSlQ
namespace Go.Proofs.Sl
open Go
def keyIn (d : Nat) : Env → Bool
  | [] => false
  | (i, _) :: l => match Nat.beq i d with
    | true => true
    | false => keyIn d l
/-- A layer: whether its guard is met, the operation that the guard asks, its slot; what is known if it is met: out of the layer that holds it, and of its own. -/
structure Ly where
  c : Bool
  j : Nat
  dj : Nat
  want : Bool
  up : Env
  own : Env
abbrev Ly.env (L : Ly) (e : Env) : Env := L.own ++ (L.up ++ e)
structure GL (C : Cx) (ops : Array Oper) (e : Env) (L : Ly) (a : Act) : Prop where
  on : L.c = true → Ag C (L.env e) a
  off : L.c = false → ∀ d v, look L.own d = some v → a.tmps[d]? = some undef
  dst : dstOf ops L.j = some L.dj
  asks : (yielded ops a.tmps L.j == some L.want) = L.c
def GA (C : Cx) (ops : Array Oper) (e : Env) : List Ly → Act → Prop
  | [], _ => True
  | L :: G, a => GL C ops e L a ∧ GA C ops e G a
def freshL (d : Nat) (L : Ly) : Bool := !keyIn d L.own && (!keyIn d L.up && !Nat.beq d L.dj)
def fresh (d : Nat) : List Ly → Bool
  | [] => true
  | L :: G => freshL d L && fresh d G

theorem look_ne {k i : Nat} {u : Value} {l : Env} (h : Nat.beq k i = false) : look ((k, u) :: l) i = look l i := by
  show (match Nat.beq k i with | true => some u | false => look l i) = _
  rw [h]
theorem look_eq {k i : Nat} {u : Value} {l : Env} (h : Nat.beq k i = true) : look ((k, u) :: l) i = some u := by
  show (match Nat.beq k i with | true => some u | false => look l i) = _
  rw [h]
theorem keyIn_ne {k i : Nat} {u : Value} {l : Env} (h : Nat.beq k i = false) : keyIn i ((k, u) :: l) = keyIn i l := by
  show (match Nat.beq k i with | true => true | false => keyIn i l) = _
  rw [h]
theorem keyIn_eq {k i : Nat} {u : Value} {l : Env} (h : Nat.beq k i = true) : keyIn i ((k, u) :: l) = true := by
  show (match Nat.beq k i with | true => true | false => keyIn i l) = _
  rw [h]
theorem beq_of_ne {d i : Nat} (h : d ≠ i) : Nat.beq d i = false := by
  cases hb : Nat.beq d i with
  | true => exact absurd (Nat.eq_of_beq_eq_true hb) h
  | false => rfl
theorem keyIn_one {d i : Nat} {v : Value} (h : d ≠ i) : keyIn i [(d, v)] = false := by rw [keyIn_ne (beq_of_ne h)]; rfl
theorem keyIn_look : ∀ {e : Env} {d : Nat} {v : Value}, keyIn d e = false → look e d ≠ some v
  | [], _, _, _, h => by cases h
  | (i, u) :: l, d, v, h, hl => by
    cases hb : Nat.beq i d with
    | true => rw [keyIn_eq hb] at h; cases h
    | false => rw [keyIn_ne hb] at h; rw [look_ne hb] at hl; exact keyIn_look h hl
theorem look_app : ∀ {x y : Env} {i : Nat} {v : Value}, look (x ++ y) i = some v → look x i = some v ∨ (keyIn i x = false ∧ look y i = some v)
  | [], y, i, v, h => .inr ⟨rfl, h⟩
  | (k, u) :: x, y, i, v, h => by
    rw [List.cons_append] at h
    cases hb : Nat.beq k i with
    | true => rw [look_eq hb] at h ⊢; exact .inl h
    | false => rw [look_ne hb] at h ⊢; rw [keyIn_ne hb]; exact look_app h
theorem look_left {x y : Env} {i : Nat} {v : Value} (h : look x i = some v) : look (x ++ y) i = some v := by
  induction x with
  | nil => cases h
  | cons p x ih =>
    obtain ⟨k, u⟩ := p
    rw [List.cons_append]
    cases hb : Nat.beq k i with
    | true => rw [look_eq hb] at h ⊢; exact h
    | false => rw [look_ne hb] at h ⊢; exact ih h
theorem look_right {x y : Env} {i : Nat} {v : Value} (hk : keyIn i x = false) (h : look y i = some v) : look (x ++ y) i = some v := by
  induction x with
  | nil => exact h
  | cons p x ih =>
    obtain ⟨k, u⟩ := p
    rw [List.cons_append]
    cases hb : Nat.beq k i with
    | true => rw [keyIn_eq hb] at hk; cases hk
    | false => rw [keyIn_ne hb] at hk; rw [look_ne hb]; exact ih hk

section
variable {C : Cx} {ops : Array Oper} {e : Env} {a : Act} {L : Ly} {G : List Ly} {d : Nat} {v : Value}
theorem Ag.skip (h : Ag C e a) (hk : keyIn d e = false) (v : Value) : Ag C e (a.put (some d) v) := by
  refine ⟨by simp [Act.put, h.size], fun i u hi => ?_, h.ds⟩
  simp only [Act.put]
  have hne : d ≠ i := fun he => by subst he; exact keyIn_look hk hi
  rw [Array.getElem?_setIfInBounds_ne hne]; exact h.get i u hi
theorem keyIn_app {x y : Env} (hx : keyIn d x = false) (hy : keyIn d y = false) : keyIn d (x ++ y) = false := by
  induction x with
  | nil => exact hy
  | cons p x ih =>
    obtain ⟨k, u⟩ := p
    rw [List.cons_append]
    cases hb : Nat.beq k d with
    | true => rw [keyIn_eq hb] at hx; cases hx
    | false => rw [keyIn_ne hb] at hx ⊢; exact ih hx
theorem freshL_spec (h : freshL d L = true) : keyIn d L.own = false ∧ keyIn d L.up = false ∧ d ≠ L.dj := by
  unfold freshL at h
  simp only [Bool.and_eq_true, Bool.not_eq_true'] at h
  exact ⟨h.1, h.2.1, Nat.ne_of_beq_eq_false h.2.2⟩
theorem yielded_keep {j dj : Nat} (hj : dstOf ops j = some dj) (hne : d ≠ dj) (a : Act) (v : Value) : yielded ops (a.put (some d) v).tmps j = yielded ops a.tmps j := by
  unfold yielded
  rw [show (ops[j]?).bind (·.dst) = some dj from hj]
  simp only [Option.bind_some, Act.put]
  rw [Array.getElem?_setIfInBounds_ne hne]
theorem off_keep (hk : keyIn d L.own = false) {a : Act} (h : ∀ d' v, look L.own d' = some v → a.tmps[d']? = some undef) (u : Value) : ∀ d' v, look L.own d' = some v → (a.put (some d) u).tmps[d']? = some undef := fun d' v hl => by
  have hne : d ≠ d' := fun he => by subst he; exact keyIn_look hk hl
  simp only [Act.put]
  rw [Array.getElem?_setIfInBounds_ne hne]; exact h d' v hl
/-- A slot below all layers is written. -/
theorem GL.put (h : GL C ops e L a) (hf : freshL d L = true) (hd : Nat.blt d C.N = true) (v : Value) : GL C ops ((d, v) :: e) L (a.put (some d) v) := by
  obtain ⟨f1, f2, f3⟩ := freshL_spec hf
  refine ⟨fun hc => ?_, fun hc => off_keep f1 (h.off hc) v, h.dst, by rw [yielded_keep h.dst f3]; exact h.asks⟩
  have h1 := (h.on hc).put v hd
  refine ⟨h1.size, fun i u hi => h1.get i u ?_, h1.ds⟩
  rcases look_app hi with h2 | ⟨k2, h2⟩
  · have hne : d ≠ i := fun he => by subst he; exact keyIn_look f1 h2
    exact look_right (x := [(d, v)]) (keyIn_one hne) (look_left h2)
  · rcases look_app h2 with h3 | ⟨k3, h3⟩
    · have hne : d ≠ i := fun he => by subst he; exact keyIn_look f2 h3
      exact look_right (x := [(d, v)]) (keyIn_one hne) (look_right k2 (look_left h3))
    · rcases look_cons h3 with ⟨rfl, rfl⟩ | ⟨hne, h4⟩
      · exact look_cons_same _ _ _
      · exact look_right (x := [(d, v)]) (keyIn_one hne) (look_right k2 (look_right k3 h4))
/-- A slot of another layer is written. -/
theorem GL.skip (h : GL C ops e L a) (hk : keyIn d e = false) (hf : freshL d L = true) (v : Value) : GL C ops e L (a.put (some d) v) := by
  obtain ⟨f1, f2, f3⟩ := freshL_spec hf
  exact ⟨fun hc => (h.on hc).skip (keyIn_app f1 (keyIn_app f2 hk)) v, fun hc => off_keep f1 (h.off hc) v, h.dst, by rw [yielded_keep h.dst f3]; exact h.asks⟩
theorem GL.own (h : GL C ops e L a) (hA : Ag C e a) (hf : freshL d L = true) (hd : Nat.blt d C.N = true) {v u : Value} (h1 : L.c = true → u = v) (h2 : L.c = false → u = undef) : GL C ops e { L with own := (d, v) :: L.own } (a.put (some d) u) := by
  obtain ⟨f1, f2, f3⟩ := freshL_spec hf
  refine ⟨fun hc => ?_, fun hc d' v' hl => ?_, h.dst, by rw [yielded_keep h.dst f3]; exact h.asks⟩
  · rw [h1 hc]; exact (h.on hc).put v hd
  · have hc' : L.c = false := hc
    rw [h2 hc']
    rcases look_cons hl with ⟨rfl, rfl⟩ | ⟨hne, hl'⟩
    · have hlt : d < a.tmps.size := by rw [hA.size]; exact Nat.le_of_ble_eq_true hd
      simp [Act.put, hlt]
    · simp only [Act.put]
      rw [Array.getElem?_setIfInBounds_ne hne]; exact h.off hc' d' v' hl'
theorem GA.put (hd : Nat.blt d C.N = true) (v : Value) : ∀ {G : List Ly}, GA C ops e G a → fresh d G = true → GA C ops ((d, v) :: e) G (a.put (some d) v)
  | [], _, _ => trivial
  | L :: G, h, hf => by
    rw [fresh, Bool.and_eq_true] at hf
    exact ⟨h.1.put hf.1 hd v, GA.put hd v h.2 hf.2⟩
theorem GA.own (hA : Ag C e a) (hk : keyIn d e = false) (hd : Nat.blt d C.N = true) {v u : Value} : ∀ {G : List Ly} {i : Nat} {L : Ly}, G[i]? = some L → GA C ops e G a → fresh d G = true → (L.c = true → u = v) → (L.c = false → u = undef) →
    GA C ops e (G.set i { L with own := (d, v) :: L.own }) (a.put (some d) u)
  | [], _, _, hi, _, _, _, _ => by simp at hi
  | L' :: G, 0, L, hi, h, hf, h1, h2 => by
    simp at hi; subst hi
    rw [fresh, Bool.and_eq_true] at hf
    exact ⟨h.1.own hA hf.1 hd h1 h2, GA.skip hk h.2 hf.2⟩
  | L' :: G, i + 1, L, hi, h, hf, h1, h2 => by
    rw [fresh, Bool.and_eq_true] at hf
    exact ⟨h.1.skip hk hf.1 u, GA.own hA hk hd (by simpa using hi) h.2 hf.2 h1 h2⟩
where
  GA.skip {a : Act} {u : Value} (hk : keyIn d e = false) : ∀ {G : List Ly}, GA C ops e G a → fresh d G = true → GA C ops e G (a.put (some d) u)
  | [], _, _ => trivial
  | L :: G, h, hf => by
    rw [fresh, Bool.and_eq_true] at hf
    exact ⟨h.1.skip hk hf.1 u, GA.skip hk h.2 hf.2⟩
theorem GA.at {i : Nat} : ∀ {G : List Ly} {i : Nat} {L : Ly}, G[i]? = some L → GA C ops e G a → GL C ops e L a
  | [], _, _, hi, _ => by simp at hi
  | L' :: G, 0, L, hi, h => by simp at hi; subst hi; exact h.1
  | L' :: G, i + 1, L, hi, h => GA.at (i := i) (by simpa using hi) h.2
/-- A layer is opened. -/
theorem GL.open0 {j dj : Nat} {want x : Bool} (hA : Ag C e a) (hj : dstOf ops j = some dj) (hb : look e dj = some (.bool x)) : GL C ops e ⟨x == want, j, dj, want, [], []⟩ a :=
  ⟨fun _ => hA, fun _ d v h => (by cases h), hj, by rw [yielded_of hA hj hb]; cases x <;> cases want <;> rfl⟩
theorem yielded_off {j dj : Nat} (hj : dstOf ops j = some dj) (h : a.tmps[dj]? = some undef) : yielded ops a.tmps j = none := by
  unfold yielded
  rw [show (ops[j]?).bind (·.dst) = some dj from hj]
  simp [h, undef]
theorem GL.openN {j dj : Nat} {want x : Bool} (h : GL C ops e L a) (hj : dstOf ops j = some dj) (hb : look L.own dj = some (.bool x)) : GL C ops e ⟨L.c && (x == want), j, dj, want, L.own ++ L.up, []⟩ a := by
  refine ⟨fun hc => ?_, fun _ d v h => (by cases h), hj, ?_⟩
  · simp only [Bool.and_eq_true] at hc
    have := h.on hc.1
    simpa [Ly.env, List.append_assoc] using this
  · cases hc : L.c with
    | true => rw [yielded_of (h.on hc) hj (look_left hb)]; cases x <;> cases want <;> rfl
    | false => rw [yielded_off hj (h.off hc _ _ hb)]; simp
end

/-! ### Rows of operations -/
section
variable (C : Cx)
def WLy (ops : Array Oper) (l : List Oper) (G : List Ly) (e : Env) (own : List SP) (K : PH → Prop) (Q : Exit → Act → World → Prop) : Prop :=
  ∀ a w, Ag C e a → GA C ops e G a → HS C.g own K w → wpListIn (FW C.r) 0 C.P ops Q l a w
end
section
variable {C : Cx} {ops : Array Oper} {rest l : List Oper} {G : List Ly} {e : Env} {own own' : List SP} {K K' : PH → Prop} {Q : Exit → Act → World → Prop} {op : Op} {ty : TypeId} {pos : String} {af : Array Edge} {L : Ly} {d : Nat} {v : Value}
theorem WLy.enter (h : WLy C ops l [] e own K Q) : WL C ops l e own K Q := fun a w hA hS => h a w hA trivial hS
theorem WLy.done (h : AT C .normal e own K Q) : WLy C ops [] G e own K Q := fun a w hA _ hS => h a w hA hS
theorem WLy.imp (i : Imp own K own' K') (h : WLy C ops l G e own' K' Q) : WLy C ops l G e own K Q := fun a w hA hG hS => h a w hA hG (i _ _ hS)
theorem WLy.q (hq : QO C op ty e own K v) (hd : Nat.blt d C.N = true) (hf : fresh d G = true) (h : WLy C ops rest G ((d, v) :: e) own K Q) : WLy C ops (⟨some d, op, ty, pos, af, none⟩ :: rest) G e own K Q := by
  intro a w hA hG hS
  unfold wpListIn
  rw [if_pos (by rfl)]
  exact wpIn_of_q hq hA hS rfl rfl (h _ _ (hA.put v hd) (hG.put hd v hf) hS)
theorem WLy.qn (hq : QO C op ty e own K v) (h : WLy C ops rest G e own K Q) : WLy C ops (⟨none, op, ty, pos, af, none⟩ :: rest) G e own K Q := by
  intro a w hA hG hS
  unfold wpListIn
  rw [if_pos (by rfl)]
  exact wpIn_of_q hq hA hS rfl rfl (h _ _ hA hG hS)
theorem WLy.eff {Φ : Value → List SP → (PH → Prop) → Prop} (hq : EO C op ty e own K Φ) (hd : Nat.blt d C.N = true) (hf : fresh d G = true) (h : ∀ v own' K', Φ v own' K' → WLy C ops rest G ((d, v) :: e) own' K' Q) : WLy C ops (⟨some d, op, ty, pos, af, none⟩ :: rest) G e own K Q := by
  intro a w hA hG hS
  unfold wpListIn
  rw [if_pos (by rfl)]
  exact wpIn_of_e hq hA hS rfl rfl fun v own' K' w' hΦ hS' => h v own' K' hΦ _ _ (hA.put v hd) (hG.put hd v hf) hS'
theorem WLy.effn {Φ : Value → List SP → (PH → Prop) → Prop} (hq : EO C op ty e own K Φ) (h : ∀ v own' K', Φ v own' K' → WLy C ops rest G e own' K' Q) : WLy C ops (⟨none, op, ty, pos, af, none⟩ :: rest) G e own K Q := by
  intro a w hA hG hS
  unfold wpListIn
  rw [if_pos (by rfl)]
  exact wpIn_of_e hq hA hS rfl rfl fun v own' K' w' hΦ hS' => h v own' K' hΦ _ _ hA hG hS'
theorem WLy.off {j dj : Nat} {b b' : Bool} (hj : dstOf ops j = some dj) (hb : look e dj = some (.bool b')) (hne : b' = !b) (hd : Nat.blt d C.N = true) (hf : fresh d G = true)
    (h : WLy C ops rest G ((d, undef) :: e) own K Q) : WLy C ops (⟨some d, op, ty, pos, af, some (j, b)⟩ :: rest) G e own K Q := by
  intro a w hA hG hS
  unfold wpListIn
  rw [if_neg (by simp [Region.wanted, yielded_of hA hj hb, hne])]
  exact ⟨fun f _ => wide_fn C.r f, h _ _ (hA.put undef hd) (hG.put hd undef hf) hS⟩
theorem WLy.on {dst : Option Tmp} {j dj : Nat} {b b' : Bool} (hj : dstOf ops j = some dj) (hb : look e dj = some (.bool b')) (hbb : b' = b)
    (h : WLy C ops (⟨dst, op, ty, pos, af, none⟩ :: rest) G e own K Q) : WLy C ops (⟨dst, op, ty, pos, af, some (j, b)⟩ :: rest) G e own K Q := by
  intro a w hA hG hS
  subst hbb
  have h1 := h a w hA hG hS
  unfold wpListIn at h1 ⊢
  rw [if_pos (by rfl)] at h1
  rw [if_pos (by simp [Region.wanted, yielded_of hA hj hb])]
  exact h1
theorem WLy.open0 (j dj : Nat) (want : Bool) {x : Bool} (hj : dstOf ops j = some dj) (hb : look e dj = some (.bool x)) (h : WLy C ops l (⟨x == want, j, dj, want, [], []⟩ :: G) e own K Q) : WLy C ops l G e own K Q :=
  fun a w hA hG hS => h a w hA ⟨GL.open0 hA hj hb, hG⟩ hS
theorem WLy.openN (i j dj : Nat) (want : Bool) {x : Bool} (hi : G[i]? = some L) (hj : dstOf ops j = some dj) (hb : look L.own dj = some (.bool x)) (h : WLy C ops l (⟨L.c && (x == want), j, dj, want, L.own ++ L.up, []⟩ :: G) e own K Q) : WLy C ops l G e own K Q :=
  fun a w hA hG hS => h a w hA ⟨(hG.at (i := i) hi).openN hj hb, hG⟩ hS
theorem wanted_ly {j : Nat} {want : Bool} {a : Act} {o : Oper} (h : GL C ops e L a) (hj : L.j = j) (hw : L.want = want) (ho : o.guard = some (j, want)) : Region.wanted o (yielded ops a.tmps) = L.c := by
  subst hj hw
  rw [← h.asks]
  unfold Region.wanted
  rw [ho]
/-- An operation under a layer's guard. -/
theorem WLy.qg (i : Nat) {j : Nat} {want : Bool} (hi : G[i]? = some L) (hj : L.j = j) (hw : L.want = want) (hq : QO C op ty (L.env e) own K v) (hd : Nat.blt d C.N = true) (hk : keyIn d e = false) (hf : fresh d G = true)
    (h : WLy C ops rest (G.set i { L with own := (d, v) :: L.own }) e own K Q) : WLy C ops (⟨some d, op, ty, pos, af, some (j, want)⟩ :: rest) G e own K Q := by
  intro a w hA hG hS
  have hL := hG.at (i := i) hi
  have hwa := wanted_ly (o := ⟨some d, op, ty, pos, af, some (j, want)⟩) hL hj hw rfl
  unfold wpListIn
  rw [hwa]
  cases hc : L.c with
  | true =>
    rw [if_pos rfl]
    exact wpIn_of_q hq (hL.on hc) hS rfl rfl (h _ _ (hA.skip hk v) (hG.own hA hk hd hi hf (fun _ => rfl) (fun h' => by rw [hc] at h'; cases h')) hS)
  | false =>
    rw [if_neg (by simp)]
    exact ⟨fun f _ => wide_fn C.r f, h _ _ (hA.skip hk undef) (hG.own hA hk hd hi hf (fun h' => by rw [hc] at h'; cases h') (fun _ => rfl)) hS⟩
/-- A call under a layer's guard that only yields a value. -/
theorem WLy.eg (i : Nat) {j : Nat} {want : Bool} (hi : G[i]? = some L) (hj : L.j = j) (hw : L.want = want) (hq : EO C op ty (L.env e) own K (Ret v own K)) (hd : Nat.blt d C.N = true) (hk : keyIn d e = false) (hf : fresh d G = true)
    (h : WLy C ops rest (G.set i { L with own := (d, v) :: L.own }) e own K Q) : WLy C ops (⟨some d, op, ty, pos, af, some (j, want)⟩ :: rest) G e own K Q := by
  intro a w hA hG hS
  have hL := hG.at (i := i) hi
  have hwa := wanted_ly (o := ⟨some d, op, ty, pos, af, some (j, want)⟩) hL hj hw rfl
  unfold wpListIn
  rw [hwa]
  cases hc : L.c with
  | true =>
    rw [if_pos rfl]
    refine wpIn_of_e hq (hL.on hc) hS rfl rfl fun v' own' K' w' hΦ hS' => ?_
    obtain ⟨rfl, rfl, rfl⟩ := hΦ
    exact h _ _ (hA.skip hk v) (hG.own hA hk hd hi hf (fun _ => rfl) (fun h' => by rw [hc] at h'; cases h')) hS'
  | false =>
    rw [if_neg (by simp)]
    exact ⟨fun f _ => wide_fn C.r f, h _ _ (hA.skip hk undef) (hG.own hA hk hd hi hf (fun h' => by rw [hc] at h'; cases h') (fun _ => rfl)) hS⟩

theorem pick_run {c x y : Operand} {a : Act} {w : World} {b : Bool} {v : Value} (hc : a.eval c = .bool b) (h : (if b then a.eval x else a.eval y) = v) : (execOp a.eval (op0 (.pick c x y) ty)).run C.P w = .ok (.value v) w := by
  cases b <;> simp_all [execOp, op0, asBool]
theorem wp_val {o : Oper} {a : Act} {w : World} {v : Value} {next : Act → World → Prop} (hd : ∀ c, o.op ≠ .defer c) (hr : (execOp a.eval (op0 o.op o.type)).run C.P w = .ok (.value v) w) (h : next (a.put o.dst v) w) : o.wpIn (FW C.r) 0 C.P a w next Q := by
  refine ⟨fun f _ => wide_fn C.r f, ?_⟩
  have hs : o.semAt (FW C.r).round a.eval = execOp a.eval o := Oper.semAt_eq _ _ _ hd
  rw [hs, exec_op0, hr]
  exact h
/-- What 'and', 'or' come to: the other side is known in a layer. -/
theorem pickA {x y z : Operand} {a : Act} {p b : Bool} {M : Env} (hA : Ag C M a) (hc : ev M x = some (.bool p)) (hy : ev M z = some (.bool false)) (hL : GL C ops e L a) (hLc : p = true → L.c = true) (hx : ev (L.env e) y = some (.bool b)) :
    a.eval x = .bool p ∧ (if p then a.eval y else a.eval z) = .bool (p && b) := by
  refine ⟨hA.ev hc, ?_⟩
  cases p with
  | true => simpa using (hL.on (hLc rfl)).ev hx
  | false => simpa using hA.ev hy
theorem pickO {x y z : Operand} {a : Act} {p b : Bool} {M : Env} (hA : Ag C M a) (hc : ev M x = some (.bool p)) (hy : ev M y = some (.bool true)) (hL : GL C ops e L a) (hLc : p = false → L.c = true) (hx : ev (L.env e) z = some (.bool b)) :
    a.eval x = .bool p ∧ (if p then a.eval y else a.eval z) = .bool (p || b) := by
  refine ⟨hA.ev hc, ?_⟩
  cases p with
  | false => simpa using (hL.on (hLc rfl)).ev hx
  | true => simpa using hA.ev hy
theorem WLy.and0 (i : Nat) {x y z : Operand} {p b : Bool} (hc : ev e x = some (.bool p)) (hy : ev e z = some (.bool false)) (hi : G[i]? = some L) (hLc : L.c = (p == true)) (hx : ev (L.env e) y = some (.bool b)) (hd : Nat.blt d C.N = true) (hf : fresh d G = true)
    (h : WLy C ops rest G ((d, .bool (p && b)) :: e) own K Q) : WLy C ops (⟨some d, .pick x y z, ty, pos, af, none⟩ :: rest) G e own K Q := by
  intro a w hA hG hS
  obtain ⟨h1, h2⟩ := pickA hA hc hy (hG.at (i := i) hi) (fun hp => by rw [hLc, hp]; rfl) hx
  unfold wpListIn
  rw [if_pos (by rfl)]
  exact wp_val (by simp) (pick_run h1 h2) (h _ _ (hA.put _ hd) (hG.put hd _ hf) hS)
theorem WLy.or0 (i : Nat) {x y z : Operand} {p b : Bool} (hc : ev e x = some (.bool p)) (hy : ev e y = some (.bool true)) (hi : G[i]? = some L) (hLc : L.c = (p == false)) (hx : ev (L.env e) z = some (.bool b)) (hd : Nat.blt d C.N = true) (hf : fresh d G = true)
    (h : WLy C ops rest G ((d, .bool (p || b)) :: e) own K Q) : WLy C ops (⟨some d, .pick x y z, ty, pos, af, none⟩ :: rest) G e own K Q := by
  intro a w hA hG hS
  obtain ⟨h1, h2⟩ := pickO hA hc hy (hG.at (i := i) hi) (fun hp => by rw [hLc, hp]; rfl) hx
  unfold wpListIn
  rw [if_pos (by rfl)]
  exact wp_val (by simp) (pick_run h1 h2) (h _ _ (hA.put _ hd) (hG.put hd _ hf) hS)
theorem WLy.pickN (i : Nat) {j : Nat} {want : Bool} {x y z : Operand} {v : Value} (hi : G[i]? = some L) (hj : L.j = j) (hw : L.want = want) (hd : Nat.blt d C.N = true) (hk : keyIn d e = false) (hf : fresh d G = true)
    (hp : ∀ a, GA C ops e G a → L.c = true → ∃ p, a.eval x = .bool p ∧ (if p then a.eval y else a.eval z) = v)
    (h : WLy C ops rest (G.set i { L with own := (d, v) :: L.own }) e own K Q) : WLy C ops (⟨some d, .pick x y z, ty, pos, af, some (j, want)⟩ :: rest) G e own K Q := by
  intro a w hA hG hS
  have hL := hG.at (i := i) hi
  have hwa := wanted_ly (o := ⟨some d, .pick x y z, ty, pos, af, some (j, want)⟩) hL hj hw rfl
  unfold wpListIn
  rw [hwa]
  cases hc : L.c with
  | true =>
    rw [if_pos rfl]
    obtain ⟨p, h1, h2⟩ := hp a hG hc
    exact wp_val (by simp) (pick_run h1 h2) (h _ _ (hA.skip hk v) (hG.own hA hk hd hi hf (fun _ => rfl) (fun h' => by rw [hc] at h'; cases h')) hS)
  | false =>
    rw [if_neg (by simp)]
    exact ⟨fun f _ => wide_fn C.r f, h _ _ (hA.skip hk undef) (hG.own hA hk hd hi hf (fun h' => by rw [hc] at h'; cases h') (fun _ => rfl)) hS⟩
theorem andP (i k : Nat) {L M : Ly} {x y z : Operand} {p b : Bool} (hi : G[i]? = some L) (hm : G[k]? = some M) (hc : ev (L.env e) x = some (.bool p)) (hy : ev (L.env e) z = some (.bool false)) (hMc : M.c = (L.c && (p == true))) (hx : ev (M.env e) y = some (.bool b)) :
    ∀ a, GA C ops e G a → L.c = true → ∃ q, a.eval x = .bool q ∧ (if q then a.eval y else a.eval z) = .bool (p && b) := fun a hG hLc =>
  ⟨p, pickA ((hG.at (i := i) hi).on hLc) hc hy (hG.at (i := k) hm) (fun hp => by rw [hMc, hLc, hp]; rfl) hx⟩
theorem orP (i k : Nat) {L M : Ly} {x y z : Operand} {p b : Bool} (hi : G[i]? = some L) (hm : G[k]? = some M) (hc : ev (L.env e) x = some (.bool p)) (hy : ev (L.env e) y = some (.bool true)) (hMc : M.c = (L.c && (p == false))) (hx : ev (M.env e) z = some (.bool b)) :
    ∀ a, GA C ops e G a → L.c = true → ∃ q, a.eval x = .bool q ∧ (if q then a.eval y else a.eval z) = .bool (p || b) := fun a hG hLc =>
  ⟨p, pickO ((hG.at (i := i) hi).on hLc) hc hy (hG.at (i := k) hm) (fun hp => by rw [hMc, hLc, hp]; rfl) hx⟩
end
end Go.Proofs.Sl
