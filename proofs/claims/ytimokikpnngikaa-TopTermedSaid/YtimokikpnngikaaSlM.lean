/- Calls of values; a range over a function; scopes. -/
import Derived.Test.YtimokikpnngikaaSlK
import Derived.RangeFuncLeaves
import Derived.Scope
namespace Go.Proofs.Sl
open Go

theorem stepR_scope {P : Program} {b : Frame} {a : Act} {k : List Item} {cs : List Frame} {w : World} {c : Code} : step P (lone (b.atR a (.code (.scope c) :: k)) cs w) = .next (lone (b.atR a (.code c :: .inScope c :: k)) cs w) :=
  step_lone_go (by simp [stepG, stepG.exec, Frame.atR])
theorem stepR_inScope {P : Program} {b : Frame} {a : Act} {k : List Item} {cs : List Frame} {w : World} {c : Code} : step P (lone (b.atR a (.inScope c :: k)) cs w) = .next (lone (b.atR a k) cs w) :=
  step_lone_go (by simp [stepG, stepG.exec, Frame.atR])
theorem wpIn_scope {F : Fence} {n : Nat} {P : Program} {Q : Exit → Act → World → Prop} {a : Act} {w : World} {c : Code} (h : c.wpIn F n P (Exit.noGoto Q) a w) : (Code.scope c).wpIn F n P Q a w := by
  intro b k cs hro hb hr
  have h0 : (lone (b.atR a (.code (.scope c) :: k)) cs w).fenced P F := fenced_calm hb hr rfl
  obtain ⟨e, a₁, w₁, hq, harr⟩ := h b (.inScope c :: k) cs hro hb hr
  cases e with
  | normal => exact ⟨.normal, a₁, w₁, hq, .head h0 stepR_scope (StepsIn.trans harr (.one (fenced_calm hb hr rfl) stepR_inScope))⟩
  | exit id =>
    have hx : exitTo id (.inScope c :: k) = exitTo id k := by simp [exitTo]
    exact ⟨.exit id, a₁, w₁, hq, fun k' hk => .head h0 stepR_scope (harr.1 k' (by rw [hx]; exact hk)),
      fun hr' hk => let ⟨k₁, h1, h2⟩ := harr.2 hr' (by rw [hx]; exact hk); ⟨k₁, h1, .head h0 stepR_scope h2⟩⟩
  | goto l => exact hq.elim
  | ret => exact ⟨_, a₁, w₁, hq, .of_steps (.one h0 stepR_scope) harr⟩
  | panic ch => exact ⟨_, a₁, w₁, hq, .of_steps (.one h0 stepR_scope) harr⟩
  | outgrown => exact ⟨_, a₁, w₁, hq, .of_steps (.one h0 stepR_scope) harr⟩

section
variable {C : Cx} {e : Env} {own own' : List SP} {K K' : PH → Prop} {Q : Exit → Act → World → Prop}
theorem WC.scope {c : Code} (h : WC C c e own K (Exit.noGoto Q)) : WC C (.scope c) e own K Q := fun a w hA hS => wpIn_scope (h a w hA hS)
theorem WC.label {l : Nat} (h : AT C .normal e own K Q) : WC C (.label l) e own K Q := fun a w hA hS => wpIn_label (h a w hA hS)
theorem AT.sc_n (h : AT C .normal e own K Q) : AT C .normal e own K (Exit.noGoto Q) := h
theorem AT.sc_r (h : AT C .ret e own K Q) : AT C .ret e own K (Exit.noGoto Q) := h
theorem AT.sc_e {i : Nat} (h : AT C (.exit i) e own K Q) : AT C (.exit i) e own K (Exit.noGoto Q) := h
theorem NoPan.sc (h : NoPan Q) : NoPan (Exit.noGoto Q) := fun c d v a w hq => h c d v a w hq

/-! ### Calls of values, the world outside named -/
def SpecAt (g : Os × Array (Nat × ByteArray)) (P : Program) (f : FuncId) (args : List Value) (own : List SP) (K : PH → Prop) (Φ : Value → List SP → (PH → Prop) → Prop) : Prop :=
  Enters P f ∧ ∀ w, HS g own K w → Calls P f args.toArray w (RG Φ g)
theorem Spec.at {P : Program} {f : FuncId} {args : List Value} {Φ : Value → List SP → (PH → Prop) → Prop} (h : Spec P f args own K Φ) (g : Os × Array (Nat × ByteArray)) : SpecAt g P f args own K Φ := ⟨h.1, h.2 g⟩
theorem Spec.all {P : Program} {f : FuncId} {args : List Value} {Φ : Value → List SP → (PH → Prop) → Prop} (h : ∀ g, SpecAt g P f args own K Φ) : Spec P f args own K Φ := ⟨(h (default, #[])).1, fun g => (h g).2⟩
theorem SpecAt.mono {g : Os × Array (Nat × ByteArray)} {P : Program} {f : FuncId} {args : List Value} {Φ Ψ : Value → List SP → (PH → Prop) → Prop} (h : SpecAt g P f args own K Φ) (hi : ∀ v o k, Φ v o k → Ψ v o k) : SpecAt g P f args own K Ψ :=
  ⟨h.1, fun w hS => (h.2 w hS).mono fun x w' ⟨v, o, k, e, hΦ, hS'⟩ => ⟨v, o, k, e, hi v o k hΦ, hS'⟩⟩

theorem upon_callAt {f : FuncId} {args : List Value} {Φ : Value → List SP → (PH → Prop) → Prop} (hs : SpecAt C.g C.P f args own K Φ) {a : Act} {w : World} (hS : HS C.g own K w) {o : Oper}
    {next : Act → World → Prop} {Q : Exit → Act → World → Prop} (h : ∀ v own' K' w', Φ v own' K' → HS C.g own' K' w' → next (a.put o.dst v) w') :
    o.uponIn (FW C.r) 0 C.P a next Q (.ok (.enter f args.toArray) w) := by
  rw [Oper.uponIn_enter]
  refine ⟨fun hd => (by cases hd), ?_⟩
  have hc : CallsIn (FW C.r) (0 - 1) C.P f args.toArray w _ := callsFW C.r (hs.2 w hS)
  refine hc.mono ?_
  rintro x w' ⟨v, own', K', rfl, hΦ, hS'⟩
  exact h v own' K' w' hΦ hS'
/-- What a call of a value comes to. -/
def VS (P : Program) (g : Os × Array (Nat × ByteArray)) (v : Value) (args : List Value) (own : List SP) (K : PH → Prop) (Φ : Value → List SP → (PH → Prop) → Prop) : Prop :=
  ∀ (C : Cx), C.P = P → C.g = g → ∀ (e : Env) (x : Operand) (as : List Operand) (ats : Array TypeId) (ty : TypeId), ev e x = some v → evs e as = some args → EO C (.call { callee := .value x, args := as.toArray, argTypes := ats }) ty e own K Φ
theorem VS.fn {P : Program} {g : Os × Array (Nat × ByteArray)} {f : FuncId} {first cap args : List Value} {Φ : Value → List SP → (PH → Prop) → Prop} (hs : SpecAt g P f (first ++ args ++ cap) own K Φ) : VS P g (.func (.func f) first.toArray cap.toArray) args own K Φ := by
  rintro C rfl rfl e x as ats ty hx ha
  refine ⟨by simp, fun a w hA hS o next Q ho ht h => ?_⟩
  have hr : (execOp a.eval o).run C.P w = .ok (.enter f (first ++ args ++ cap).toArray) w := by
    have hm : (as.toArray).map a.eval = args.toArray := by rw [List.map_toArray, hA.evs ha]
    unfold execOp
    rw [ho]
    simp only [resolve, hm, hA.ev hx, Deferred.ofValue]
    have := hs.1 (first ++ args ++ cap).toArray w
    simp only [List.append_assoc] at this
    simp [Sem.run_bind, invoke, this]
  rw [hr]
  exact upon_callAt hs hS h
theorem e_callV {v : Value} {x : Operand} {as : List Operand} {ats : Array TypeId} {ty : TypeId} {args : List Value} {Φ : Value → List SP → (PH → Prop) → Prop} (hx : ev e x = some v) (ha : evs e as = some args) (h : VS C.P C.g v args own K Φ) :
    EO C (.call { callee := .value x, args := as.toArray, argTypes := ats }) ty e own K Φ := h C rfl rfl e x as ats ty hx ha
theorem e_callAt {f : FuncId} {as : List Operand} {ats : Array TypeId} {ty : TypeId} {args : List Value} {Φ : Value → List SP → (PH → Prop) → Prop} (ha : evs e as = some args) (hs : SpecAt C.g C.P f args own K Φ) :
    EO C (.call { callee := .value (.func f), args := as.toArray, argTypes := ats }) ty e own K Φ :=
  e_callV (v := .func (.func f) #[] #[]) rfl ha (VS.fn (first := []) (cap := []) (by simpa using hs))
theorem SpecAt.of {g : Os × Array (Nat × ByteArray)} {P : Program} {f : FuncId} {fn : Func} {c : Code} {args : List Value} {Φ : Value → List SP → (PH → Prop) → Prop}
    (hen : Enters P f) (hf : P.funcs[f]? = some fn) (hb : fn.body = some c) (hn : Nat.ble args.length fn.ntmps = true)
    (h : WC ⟨P, none, fn.ntmps, [], g⟩ c (envOf 0 args) own K (bodyPost P fn (RG Φ g))) : SpecAt g P f args own K Φ := by
  refine ⟨hen, fun w hS => callsIn_wide.1 (callsIn_of_wp (F := Fence.wide) (n := 0) hf hb trivial (h _ w ⟨?_, ?_, rfl⟩ hS) rfl)⟩
  · have := Nat.le_of_ble_eq_true hn
    simp; omega
  · intro i v hl
    obtain ⟨_, h2⟩ := envOf_look args 0 i v hl
    simp at h2
    obtain ⟨hlt, hv⟩ := List.getElem?_eq_some_iff.1 h2
    simp [Array.getElem?_append, hlt, hv]
/-- What the body of a function that holds a range over a function must come to: no panic. -/
def bodyM (P : Program) (fn : Func) (R : Ending → World → Prop) : Exit → Act → World → Prop
  | .panic _, _, _ => False
  | x, a, w => bodyPostM (FW none) 0 P fn R x a w
theorem bodyM_post {P : Program} {fn : Func} {R : Ending → World → Prop} (x : Exit) (a : Act) (w : World) (h : bodyM P fn R x a w) : bodyPostM (FW none) 0 P fn R x a w := by
  cases x <;> first | exact h | exact h.elim
theorem NoPan.bodyM {P : Program} {fn : Func} {R : Ending → World → Prop} : NoPan (bodyM P fn R) := fun c d v a w hq => hq.elim
theorem NoPan.rd {P : Program} {l : Nat} {R : Ending → World → Prop} : NoPan (roundPost P l R) := fun c d v a w hq => hq.elim
theorem NoPan.no : NoPan (fun _ _ _ => False) := fun c d v a w hq => hq.elim
/-- .. of a function that holds a range over a function. -/
theorem SpecAt.ofM {g : Os × Array (Nat × ByteArray)} {P : Program} {f : FuncId} {fn : Func} {c : Code} {args : List Value} {Φ : Value → List SP → (PH → Prop) → Prop}
    (hen : Enters P f) (hf : P.funcs[f]? = some fn) (hb : fn.body = some c) (hn : Nat.ble args.length fn.ntmps = true)
    (h : WC ⟨P, none, fn.ntmps, [], g⟩ c (envOf 0 args) own K (bodyM P fn (RG Φ g))) : SpecAt g P f args own K Φ := by
  refine ⟨hen, fun w hS => callsIn_wide.1 (callsIn_of_wp_marks (F := Fence.wide) (n := 0) hf hb trivial (wpIn_mono (h _ w ⟨?_, ?_, rfl⟩ hS) bodyM_post) rfl)⟩
  · have := Nat.le_of_ble_eq_true hn
    simp; omega
  · intro i v hl
    obtain ⟨_, h2⟩ := envOf_look args 0 i v hl
    simp at h2
    obtain ⟨hlt, hv⟩ := List.getElem?_eq_some_iff.1 h2
    simp [Array.getElem?_append, hlt, hv]
end

/-! ### A range over a function -/
def LpObj (st : LoopState) (pend : Option Code) (fn : FuncId) (tmps : Array Value) (ps : Array Tmp) (assign body : Code) (d : Nat) : Obj :=
  .loop { state := st, pending := pend, fn, tmps, params := ps, assign, body, defers := d }
def envP : List (Tmp × Value) → Env → Env
  | [], e => e
  | (t, v) :: r, e => envP r ((t, v) :: e)
theorem envP_ag (N : Nat) : ∀ (l : List (Tmp × Value)) (tm : Array Value) (e : Env), tm.size = N → (∀ p ∈ l, p.1 < N) → (∀ i v, look e i = some v → tm[i]? = some v) →
    (l.foldl (fun (a : Array Value) (p : Tmp × Value) => a.setIfInBounds p.1 p.2) tm).size = N ∧ ∀ i v, look (envP l e) i = some v → (l.foldl (fun (a : Array Value) (p : Tmp × Value) => a.setIfInBounds p.1 p.2) tm)[i]? = some v
  | [], tm, e, hN, _, h => ⟨hN, h⟩
  | (t, u) :: r, tm, e, hN, hl, h => by
    refine envP_ag N r (tm.setIfInBounds t u) ((t, u) :: e) (by simp [hN]) (fun p hp => hl p (by simp [hp])) fun i v hi => ?_
    have ht : t < tm.size := by rw [hN]; exact hl (t, u) (by simp)
    rcases look_cons hi with ⟨rfl, rfl⟩ | ⟨hne, hl'⟩
    · simp [ht]
    · rw [Array.getElem?_setIfInBounds_ne hne]; exact h i v hl'

section
variable {C : Cx} {e : Env} {own own' : List SP} {K K' : PH → Prop} {Q : Exit → Act → World → Prop}
variable {st : LoopState} {pend : Option Code} {fn : FuncId} {tmps : Array Value} {ps : Array Tmp} {assign body : Code} {d l : Nat}
theorem run_getLoop {P : Program} {w : World} (h : w.heap[l]? = some (LpObj st pend fn tmps ps assign body d)) : (Instr.getLoop l).run P w = .ok { state := st, pending := pend, fn, tmps, params := ps, assign, body, defers := d } w := by
  simp [Instr.getLoop, getObj, Sem.run, h, LpObj, Result.andThen]
theorem run_setLoop {P : Program} {w : World} (h : w.heap[l]? = some (LpObj st pend fn tmps ps assign body d)) (o : Obj) : (setObj l o).run P w = .ok () { w with heap := w.heap.setIfInBounds l o } := by
  simp [setObj, Sem.run, h, LpObj]
theorem HS.setLp {g : Os × Array (Nat × ByteArray)} {w : World} (i : Nat) {o o' : Obj} (hS : HS g own K w) (hi : own[i]? = some (Pt l o)) : HS g (own.set i (Pt l o')) K { w with heap := w.heap.setIfInBounds l o' } := by
  have hb := hS.ptAt hi
  exact ((hS.focus hi).turn (w' := { w with heap := w.heap.setIfInBounds l o' }) rfl rfl (MapKept.heap_set hb).1 fun c hc => (MapKept.heap_set hb).2 c hc).unfocus hi
/-- The call of a loop's yield: a round. -/
theorem VS.yield {P : Program} {g : Os × Array (Nat × ByteArray)} {args : List Value} {Φ : Value → List SP → (PH → Prop) → Prop} {N : Nat} {e0 : Env} (i : Nat) (hi : own[i]? = some (Pt l (LpObj .ready pend fn tmps ps assign body d)))
    (hp : ps.size = args.length) (hN : tmps.size = N) (he0 : ∀ i v, look e0 i = some v → tmps[i]? = some v) (hps : ps.toList.all (fun t => Nat.blt t N) = true)
    (h : WC ⟨P, some l, N, [], g⟩ assign (envP (ps.toList.zip args) e0) own K (Exit.then (fun a₁ w₁ => ∃ w₂, (Instr.beginRound l).run P w₁ = .ok () w₂ ∧ body.wpIn (FW (some l)) 0 P (roundPost P l (RG Φ g)) a₁ w₂) (fun _ _ _ => False))) :
    VS P g (.func (.yield l) #[] #[]) args own K Φ := by
  rintro C rfl rfl e x as ats ty hx ha
  refine ⟨by simp, fun a w hA hS o next Q ho ht hn => ?_⟩
  have hb := hS.ptAt hi
  have hr : (execOp a.eval o).run C.P w = .ok (.round l fn ((ps.zip args.toArray).foldl (fun tmps (t, a) => tmps.setIfInBounds t a) tmps) assign body) w := by
    have hm : (as.toArray).map a.eval = args.toArray := by rw [List.map_toArray, hA.evs ha]
    unfold execOp
    rw [ho]
    simp only [resolve, hm, hA.ev hx, Deferred.ofValue]
    simp [Sem.run_bind, invoke, Instr.yield, run_getLoop hb, Result.andThen, hp]
  rw [hr, Oper.uponIn_round]
  refine ⟨fun hd => (by cases hd), ?_⟩
  have hfold : (ps.zip args.toArray).foldl (fun (tmps : Array Value) (x : Tmp × Value) => tmps.setIfInBounds x.1 x.2) tmps = (ps.toList.zip args).foldl (fun (a : Array Value) (p : Tmp × Value) => a.setIfInBounds p.1 p.2) tmps := by
    rw [← Array.foldl_toList]; simp
  obtain ⟨q1, q2⟩ := envP_ag N (ps.toList.zip args) tmps e0 hN (fun p hp => by
    have h1 := List.all_eq_true.1 hps p.1 (List.of_mem_zip hp).1
    exact Nat.le_of_ble_eq_true h1) he0
  have hrd : RoundIn (FW C.r) (0 - 1) C.P l fn ((ps.zip args.toArray).foldl (fun tmps (t, a) => tmps.setIfInBounds t a) tmps) assign body w (RG Φ C.g) := by
    refine roundIn_of_wpIn (F := FW C.r) (n := 0) trivial ?_
    refine h { tmps := _, defers := [] } w ⟨?_, ?_, rfl⟩ hS
    · rw [hfold]; exact q1
    · intro i v hl; rw [hfold]; exact q2 i v hl
  refine hrd.mono ?_
  rintro x w' ⟨v, own', K', rfl, hΦ, hS'⟩
  exact hn v own' K' w' hΦ hS'
/-- The round begins. -/
theorem AT.begin {R : Ending → World → Prop} (i : Nat) (hr : C.r = some l) (hi : own[i]? = some (Pt l (LpObj .ready pend fn tmps ps assign body d)))
    (h : WC C body e (own.set i (Pt l (LpObj .busy pend fn tmps ps assign body d))) K (roundPost C.P l R)) :
    AT C .normal e own K (Exit.then (fun a₁ w₁ => ∃ w₂, (Instr.beginRound l).run C.P w₁ = .ok () w₂ ∧ body.wpIn (FW (some l)) 0 C.P (roundPost C.P l R) a₁ w₂) (fun _ _ _ => False)) := fun a w hA hS => by
  have hb := hS.ptAt hi
  refine ⟨{ w with heap := w.heap.setIfInBounds l (LpObj .busy pend fn tmps ps assign body d) }, ?_, ?_⟩
  · simp [Instr.beginRound, Sem.run_bind, run_getLoop hb, run_setLoop hb, Result.andThen, LpObj]
  · have := h a _ hA (hS.setLp i hi (o' := LpObj .busy pend fn tmps ps assign body d))
    rw [hr] at this
    exact this
theorem AT.rdN {Φ : Value → List SP → (PH → Prop) → Prop} (i : Nat) (hi : own[i]? = some (Pt l (LpObj st pend fn tmps ps assign body d))) (hΦ : Φ (.bool true) own' K')
    (hI : Imp (own.set i (Pt l (LpObj .ready none fn tmps ps assign body d))) K own' K') : AT C .normal e own K (roundPost C.P l (RG Φ C.g)) := fun a w hA hS => by
  have hb := hS.ptAt hi
  refine ⟨.bool true, { w with heap := w.heap.setIfInBounds l (LpObj .ready none fn tmps ps assign body d) }, ?_, _, own', K', rfl, hΦ, hI _ _ (hS.setLp i hi)⟩
  simp [Instr.endRound, Sem.run_bind, run_getLoop hb, run_setLoop hb, Result.andThen, LpObj]
theorem AT.rdE {Φ : Value → List SP → (PH → Prop) → Prop} {id : Nat} (i : Nat) (hi : own[i]? = some (Pt l (LpObj st pend fn tmps ps assign body d))) (hΦ : Φ (.bool false) own' K')
    (hI : Imp (own.set i (Pt l (LpObj .done (some (.exit id)) fn tmps ps assign body d))) K own' K') : AT C (.exit id) e own K (roundPost C.P l (RG Φ C.g)) := fun a w hA hS => by
  have hb := hS.ptAt hi
  refine ⟨.bool false, { w with heap := w.heap.setIfInBounds l (LpObj .done (some (.exit id)) fn tmps ps assign body d) }, ?_, _, own', K', rfl, hΦ, hI _ _ (hS.setLp i hi)⟩
  simp [Instr.endRound, Sem.run_bind, run_getLoop hb, run_setLoop hb, Result.andThen, LpObj]
theorem AT.rdR {Φ : Value → List SP → (PH → Prop) → Prop} (i : Nat) (hi : own[i]? = some (Pt l (LpObj st pend fn tmps ps assign body d))) (hΦ : Φ (.bool false) own' K')
    (hI : Imp (own.set i (Pt l (LpObj .done (some .ret) fn tmps ps assign body d))) K own' K') : AT C .ret e own K (roundPost C.P l (RG Φ C.g)) := fun a w hA hS => by
  have hb := hS.ptAt hi
  refine ⟨.bool false, { w with heap := w.heap.setIfInBounds l (LpObj .done (some .ret) fn tmps ps assign body d) }, ?_, _, own', K', rfl, hΦ, hI _ _ (hS.setLp i hi)⟩
  simp [Instr.endRound, Sem.run_bind, run_getLoop hb, run_setLoop hb, Result.andThen, LpObj]

/-- The context behind an outermost range over a function: one mark more. -/
def Cx.mark (C : Cx) (d : Nat) : Cx := { C with ds := { target := .collected d, args := #[] } :: C.ds }
def Jumps (C : Cx) (e : Env) (own : List SP) (K : PH → Prop) (Q : Exit → Act → World → Prop) : Option Code → Prop
  | none => AT C .normal e own K Q
  | some c => WC C c e own K Q
theorem WC.rangeFunc {x : Operand} {f : FuncId} {first cap : List Value} (Φ : Nat → Nat → FuncId → Array Value → Value → List SP → (PH → Prop) → Prop) (hr : C.r = none) (hx : ev e x = some (.func (.func f) first.toArray cap.toArray))
    (hcall : ∀ l d fn tmps, tmps.size = C.N → (∀ i v, look e i = some v → tmps[i]? = some v) →
      SpecAt C.g C.P f (first ++ [.func (.yield l) #[] #[]] ++ cap) (Pt l (LpObj .ready none fn tmps ps assign body d) :: Pt d (.deferred (some [])) :: own) K (Φ l d fn tmps))
    (hend : ∀ l d fn tmps v own' K', Φ l d fn tmps v own' K' → ∃ i st pend, own'[i]? = some (Pt l (LpObj st pend fn tmps ps assign body d)) ∧ (st == .busy) = false ∧ Jumps (C.mark d) e (own'.eraseIdx i) K' Q pend) :
    WC C (.rangeFunc x ps assign body) e own K Q := fun a w hA hS => by
  refine wpIn_rangeFunc fun fn _ => ?_
  have hS1 := hS.alloc (.deferred (some []))
  have hS2 := hS1.alloc (LpObj .ready none fn a.tmps ps assign body w.heap.size)
  have hsz : (w.alloc (.deferred (some []))).heap.size = w.heap.size + 1 := by
    show (w.heap.push _).size = _
    simp
  rw [hsz] at hS2
  have hc := hcall (w.heap.size + 1) w.heap.size fn a.tmps hA.size hA.get
  refine ⟨w.heap.size + 1, [{ target := .collected w.heap.size, args := #[] }], (w.alloc (.deferred (some []))).alloc (LpObj .ready none fn a.tmps ps assign body w.heap.size),
    { target := .fn (.func f) cap.toArray, args := first.toArray ++ #[.func (.yield (w.heap.size + 1)) #[] #[]] }, (w.alloc (.deferred (some []))).alloc (LpObj .ready none fn a.tmps ps assign body w.heap.size), f, (first ++ [Value.func (.yield (w.heap.size + 1)) #[] #[]] ++ cap).toArray, (w.alloc (.deferred (some []))).alloc (LpObj .ready none fn a.tmps ps assign body w.heap.size), ?_, ?_, ?_, ?_, fun hd => (by cases hd), ?_⟩
  · show (Instr.enterLoop fn a.tmps ps assign body C.r).run C.P w = _
    rw [hr]
    have e1 : (Instr.enterLoop fn a.tmps ps assign body none).run C.P w = .ok ((w.alloc (.deferred (some []))).heap.size, [{ target := .collected w.heap.size, args := #[] }]) ((w.alloc (.deferred (some []))).alloc (LpObj .ready none fn a.tmps ps assign body w.heap.size)) := rfl
    rw [hsz] at e1
    exact e1
  · simp only [resolve, Deferred.ofValue, hA.ev hx]
    simp [Act.eval]
  · exact fun _ _ => trivial
  · have := hc.1 (first ++ [Value.func (.yield (w.heap.size + 1)) #[] #[]] ++ cap).toArray ((w.alloc (.deferred (some []))).alloc (LpObj .ready none fn a.tmps ps assign body w.heap.size))
    simp only [List.append_assoc] at this
    simp [invoke]
    exact this
  · refine (callsFW C.r (hc.2 _ hS2)).mono ?_
    rintro y w' ⟨v, own', K', rfl, hΦ, hS'⟩
    obtain ⟨i, st, pend, hi, hst, hJ⟩ := hend _ _ _ _ v own' K' hΦ
    have hb := hS'.ptAt hi
    have hS4 : HS C.g (own'.eraseIdx i) K' _ := ((hS'.focus hi).turn (w' := { w' with heap := w'.heap.setIfInBounds (w.heap.size + 1) (LpObj .exhausted pend fn a.tmps ps assign body w.heap.size) }) rfl rfl (MapKept.heap_set hb).1 fun c hc => (MapKept.heap_set hb).2 c hc).drop
    refine ⟨pend, { w' with heap := w'.heap.setIfInBounds (w.heap.size + 1) (LpObj .exhausted pend fn a.tmps ps assign body w.heap.size) }, ?_, ?_⟩
    · have hst' : st ≠ .busy := fun h => by subst h; cases hst
      simp [Instr.endLoop, Sem.run_bind, run_getLoop hb, run_setLoop hb, Result.andThen, LpObj]
      exact fun h => absurd h hst'
    · have hA' : Ag (C.mark w.heap.size) e { a with defers := [{ target := .collected w.heap.size, args := #[] }] ++ a.defers } := ⟨hA.size, hA.get, by simp [Cx.mark, hA.ds]⟩
      cases pend with
      | none => exact hJ _ _ hA' hS4
      | some c => exact hJ _ _ hA' hS4

/-- .. the loop's record behind a name. -/
theorem WC.rangeFuncL {x : Operand} {f : FuncId} {first cap : List Value} (Φ : (LoopState → Option Code → SP) → Nat → Value → List SP → (PH → Prop) → Prop) (hr : C.r = none) (hx : ev e x = some (.func (.func f) first.toArray cap.toArray))
    (hcall : ∀ l d fn tmps (Lp : LoopState → Option Code → SP), (∀ st pend, Lp st pend = Pt l (LpObj st pend fn tmps ps assign body d)) → tmps.size = C.N → (∀ i v, look e i = some v → tmps[i]? = some v) →
      SpecAt C.g C.P f (first ++ [Value.func (.yield l) #[] #[]] ++ cap) (Lp .ready none :: Pt d (.deferred (some [])) :: own) K (Φ Lp d))
    (hend : ∀ l d fn tmps (Lp : LoopState → Option Code → SP), (∀ st pend, Lp st pend = Pt l (LpObj st pend fn tmps ps assign body d)) → ∀ v own' K', Φ Lp d v own' K' →
      ∃ i st pend, own'[i]? = some (Lp st pend) ∧ (st == .busy) = false ∧ Jumps (C.mark d) e (own'.eraseIdx i) K' Q pend) :
    WC C (.rangeFunc x ps assign body) e own K Q :=
  WC.rangeFunc (fun l d fn tmps => Φ (fun st pend => Pt l (LpObj st pend fn tmps ps assign body d)) d) hr hx (fun l d fn tmps hN he => hcall l d fn tmps _ (fun _ _ => rfl) hN he) (fun l d fn tmps v o k h => hend l d fn tmps _ (fun _ _ => rfl) v o k h)
/-- The way out of a function that has gone through a range over a function once: the block for deferred calls is taken up, and is empty. -/
theorem takeD {P : Program} {w : World} (h : w.heap[d]? = some (.deferred (some []))) : (Instr.takeDeferred d).run P w = .ok [] { w with heap := w.heap.setIfInBounds d (.deferred none) } := by
  simp [Instr.takeDeferred, Sem.run_bind, getObj, setObj, Sem.run, h, Result.andThen]
theorem leavesM {fn : Func} {Φ : Value → List SP → (PH → Prop) → Prop} {v : Value} {a : Act} {w : World} (i : Nat) (hA : Ag C e a) (hS : HS C.g own K w) (hd : C.ds = [{ target := .collected d, args := #[] }]) (hi : own[i]? = some (Pt d (.deferred (some []))))
    (hr : RO C fn e (own.eraseIdx i) K v) (hΦ : Φ v own' K') (hI : Imp (own.eraseIdx i) K own' K') : LeavesInM (FW none) 0 C.P fn a.tmps (RG Φ C.g) a.defers .returning w := by
  have hb := hS.ptAt hi
  have hS4 : HS C.g (own.eraseIdx i) K { w with heap := w.heap.setIfInBounds d (.deferred none) } := ((hS.focus hi).turn (o' := .deferred none) (w' := { w with heap := w.heap.setIfInBounds d (.deferred none) }) rfl rfl (MapKept.heap_set hb).1 fun c hc => (MapKept.heap_set hb).2 c hc).drop
  rw [hA.ds, hd]
  exact ⟨by simp, .inl ⟨d, _, rfl, takeD hb, v, hr a _ hA hS4, v, own', K', rfl, hΦ, hI _ _ hS4⟩⟩
theorem AT.doneM {fn : Func} {Φ : Value → List SP → (PH → Prop) → Prop} {v : Value} (i : Nat) (hd : C.ds = [{ target := .collected d, args := #[] }]) (hi : own[i]? = some (Pt d (.deferred (some []))))
    (hr : RO C fn e (own.eraseIdx i) K v) (hΦ : Φ v own' K') (hI : Imp (own.eraseIdx i) K own' K') : AT C .ret e own K (bodyM C.P fn (RG Φ C.g)) := fun a w hA hS => leavesM i hA hS hd hi hr hΦ hI
theorem AT.doneMN {fn : Func} {Φ : Value → List SP → (PH → Prop) → Prop} {v : Value} (i : Nat) (hd : C.ds = [{ target := .collected d, args := #[] }]) (hi : own[i]? = some (Pt d (.deferred (some []))))
    (hr : RO C fn e (own.eraseIdx i) K v) (hΦ : Φ v own' K') (hI : Imp (own.eraseIdx i) K own' K') : AT C .normal e own K (bodyM C.P fn (RG Φ C.g)) := fun a w hA hS => leavesM i hA hS hd hi hr hΦ hI
theorem AT.doneM0 {fn : Func} {Φ : Value → List SP → (PH → Prop) → Prop} {v : Value} (hd : C.ds = []) (hr : RO C fn e own K v) (hΦ : Φ v own' K') (hI : Imp own K own' K') : AT C .ret e own K (bodyM C.P fn (RG Φ C.g)) := fun a w hA hS => by
  show LeavesInM (FW none) 0 C.P fn a.tmps (RG Φ C.g) a.defers .returning w
  rw [hA.ds, hd]
  exact ⟨v, hr a w hA hS, v, own', K', rfl, hΦ, hI _ _ hS⟩
end
end Go.Proofs.Sl
