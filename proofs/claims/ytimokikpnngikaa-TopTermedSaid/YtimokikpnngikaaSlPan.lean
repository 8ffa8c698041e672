/- Calls that may end in a panic; functions that put a call off and take the panic up. -/
import Derived.Test.YtimokikpnngikaaSlY
import Derived.Test.YtimokikpnngikaaSlQ2
import Derived.Test.YtimokikpnngikaaSlM
import Derived.RecoverIn
namespace Go.Proofs.Sl
open Go
abbrev PanP := List PanicEntry → List SP → (PH → Prop) → Prop
def RP (Φ : Value → List SP → (PH → Prop) → Prop) (Ψ : PanP) (g : Os × Array (Nat × ByteArray)) : Ending → World → Prop :=
  fun x w' => RG Φ g x w' ∨ ∃ ch own' K', x = .panicked ch ∧ Ψ ch own' K' ∧ HS g own' K' w'
/-- What a call comes to that returns or panics. -/
def SpecP (P : Program) (f : FuncId) (args : List Value) (own : List SP) (K : PH → Prop) (Φ : Value → List SP → (PH → Prop) → Prop) (Ψ : PanP) : Prop :=
  Enters P f ∧ ∀ g w, HS g own K w → Calls P f args.toArray w (RP Φ Ψ g)
theorem SpecP.of {P : Program} {f : FuncId} {fn : Func} {c : Code} {args : List Value} {own : List SP} {K : PH → Prop} {Φ : Value → List SP → (PH → Prop) → Prop} {Ψ : PanP}
    (hen : Enters P f) (hf : P.funcs[f]? = some fn) (hb : fn.body = some c) (hn : Nat.ble args.length fn.ntmps = true)
    (h : ∀ g, WC ⟨P, none, fn.ntmps, [], g⟩ c (envOf 0 args) own K (bodyPost P fn (RP Φ Ψ g))) : SpecP P f args own K Φ Ψ := by
  refine ⟨hen, fun g w hS => callsIn_wide.1 (callsIn_of_wp (F := Fence.wide) (n := 0) hf hb trivial (h g _ w ⟨?_, ?_, rfl⟩ hS) rfl)⟩
  · have := Nat.le_of_ble_eq_true hn
    simp; omega
  · intro i v hl
    obtain ⟨_, h2⟩ := envOf_look args 0 i v hl
    simp at h2
    obtain ⟨hlt, hv⟩ := List.getElem?_eq_some_iff.1 h2
    simp [Array.getElem?_append, hlt, hv]
theorem SpecP.mono {P : Program} {f : FuncId} {args : List Value} {own : List SP} {K : PH → Prop} {Φ Φ' : Value → List SP → (PH → Prop) → Prop} {Ψ Ψ' : PanP} (h : SpecP P f args own K Φ Ψ) (hi : ∀ v o k, Φ v o k → Φ' v o k) (hp : ∀ c o k, Ψ c o k → Ψ' c o k) : SpecP P f args own K Φ' Ψ' :=
  ⟨h.1, fun g w hS => (h.2 g w hS).mono fun x w' hx => by
    rcases hx with ⟨v, o, k, e, hΦ, hS'⟩ | ⟨ch, o, k, e, hΨ, hS'⟩
    · exact .inl ⟨v, o, k, e, hi v o k hΦ, hS'⟩
    · exact .inr ⟨ch, o, k, e, hp ch o k hΨ, hS'⟩⟩
theorem SpecP.pre {P : Program} {f : FuncId} {args : List Value} {own own' : List SP} {K K' : PH → Prop} {Φ : Value → List SP → (PH → Prop) → Prop} {Ψ : PanP} (i : Imp own K own' K') (h : SpecP P f args own' K' Φ Ψ) : SpecP P f args own K Φ Ψ :=
  ⟨h.1, fun g w hS => h.2 g w (i _ _ hS)⟩
/-- An operation does something, or panics. -/
def EOP (C : Cx) (op : Op) (ty : TypeId) (e : Env) (own : List SP) (K : PH → Prop) (Φ : Value → List SP → (PH → Prop) → Prop) (Ψ : PanP) : Prop :=
  (∀ c, op ≠ .defer c) ∧ ∀ a w, Ag C e a → HS C.g own K w → ∀ (o : Oper) (next : Act → World → Prop) (Q : Exit → Act → World → Prop), o.op = op → o.type = ty →
    (∀ v own' K' w', Φ v own' K' → HS C.g own' K' w' → next (a.put o.dst v) w') → (∀ ch own' K' w', Ψ ch own' K' → HS C.g own' K' w' → Q (.panic ch) a w') →
    o.uponIn (FW C.r) 0 C.P a next Q ((execOp a.eval o).run C.P w)
section
variable {C : Cx} {ops : Array Oper} {rest : List Oper} {e : Env} {own own' : List SP} {K K' : PH → Prop} {Q : Exit → Act → World → Prop} {op : Op} {ty : TypeId} {pos : String} {af : Array Edge} {Φ : Value → List SP → (PH → Prop) → Prop} {Ψ : PanP}
theorem e_callP {f : FuncId} {as : List Operand} {ats : Array TypeId} {args : List Value} (ha : evs e as = some args) (hs : SpecP C.P f args own K Φ Ψ) :
    EOP C (.call { callee := .value (.func f), args := as.toArray, argTypes := ats }) ty e own K Φ Ψ := by
  refine ⟨by simp, fun a w hA hS o next Q ho ht h hp => ?_⟩
  have hr : (execOp a.eval o).run C.P w = .ok (.enter f args.toArray) w := by
    have hm : (as.toArray).map a.eval = args.toArray := by rw [List.map_toArray, hA.evs ha]
    unfold execOp
    rw [ho]
    simp only [resolve, hm, Act.eval, Deferred.ofValue]
    simp [Sem.run_bind, invoke, hs.1 _ w]
  rw [hr, Oper.uponIn_enter]
  refine ⟨fun hd => (by cases hd), ?_⟩
  have hc : CallsIn (FW C.r) (0 - 1) C.P f args.toArray w _ := callsFW C.r (hs.2 C.g w hS)
  refine hc.mono ?_
  rintro x w' (⟨v, own', K', rfl, hΦ, hS'⟩ | ⟨ch, own', K', rfl, hΨ, hS'⟩)
  · exact h v own' K' w' hΦ hS'
  · exact hp ch own' K' w' hΨ hS'
theorem e_panic {x : Operand} {t : TypeId} {v : Value} (hx : ev e x = some (.iface t v)) : EOP C (.panic x) ty e own K (fun _ _ _ => False) (fun ch o k => ch = [{ v := .iface t v, recovered := false }] ∧ own = o ∧ K = k) := by
  refine ⟨by simp, fun a w hA hS o next Q ho ht h hp => ?_⟩
  have hr : (execOp a.eval o).run C.P w = .halt (.panic (.iface t v)) w := by
    unfold execOp
    rw [ho]
    simp only [hA.ev hx]
    rfl
  rw [hr, Oper.uponIn_panic]
  exact hp _ _ _ _ ⟨rfl, rfl, rfl⟩ hS
/-- Whether a type is an interface. -/
def IsI (P : Program) (t : TypeId) (b : Bool) : Prop := (P.underlying t).map (fun d => match d with | .interface _ => true | _ => false) = some b
theorem IsI.get {P : Program} {t : TypeId} {b : Bool} (h : IsI P t b) : ∃ d, Und P t d ∧ (match d with | .interface _ => true | _ => false) = b := by
  unfold IsI at h
  cases hu : P.underlying t with
  | none => rw [hu] at h; cases h
  | some d => rw [hu] at h; exact ⟨d, hu, by simpa using h⟩
theorem q_iface {x : Operand} {t : TypeId} {v : Value} (hi : IsI C.P t false) (hx : ev e x = some v) : QO C (.makeInterface t x) ty e own K (.iface t v) :=
  ⟨by simp, fun a w hA hS => by
    obtain ⟨d, hu, hd⟩ := hi.get
    simp only [execOp, op0, hA.ev hx]
    simp only [Instr.makeInterface]
    cases d <;> first | (simp at hd; done) | simp [Sem.run_bind, hu.run, Result.andThen]⟩
theorem IsI.ms {P : Program} {t : TypeId} (h : IsI P t true) : ∃ ms, P.underlying t = some (.interface ms) := by
  obtain ⟨d, hu, hd⟩ := h.get
  cases d <;> first | exact ⟨_, hu⟩ | (simp at hd; done)
theorem run_neq_nil0 {P : Program} (w : World) {ti : TypeId} {ms : Array (String × TypeId)} (hi : P.underlying ti = some (.interface ms)) : (binOp .neq ti .nilIface .nilIface).run P w = .ok (.bool false) w := by
  have h : ∀ d : Nat, (Op.equalIn (d + 1) ti .nilIface .nilIface).run P w = .ok true w := fun d => by simp [Op.equalIn, run_underlying hi]
  simp only [binOp]
  simp [Op.equal, Op.maxDepth, h 9999]
theorem run_neq_nil1 {P : Program} (w : World) {ti tp : TypeId} {v : Value} {ms : Array (String × TypeId)} (hi : P.underlying ti = some (.interface ms)) : (binOp .neq ti (.iface tp v) .nilIface).run P w = .ok (.bool true) w := by
  have h : ∀ d : Nat, (Op.equalIn (d + 1) ti (.iface tp v) .nilIface).run P w = .ok false w := fun d => by simp [Op.equalIn, run_underlying hi]
  simp only [binOp]
  simp [Op.equal, Op.maxDepth, h 9999]
theorem q_neqI0 {i : Nat} {t u : TypeId} (hi : IsI C.P t true) (hx : look e i = some .nilIface) : QO C (.binOp .neq t (.tmp i) (.const .nilIface) u) ty e own K (.bool false) :=
  ⟨by simp, fun a w hA hS => by
    obtain ⟨ms, hu⟩ := hi.ms
    have h1 := run_neq_nil0 (P := C.P) w hu
    simp only [execOp, op0, hA.ev (x := .tmp i) hx, show a.eval (.const .nilIface) = .nilIface from rfl]
    simp [eqGuard, h1]⟩
theorem q_neqI1 {i : Nat} {t u s : TypeId} {v : Value} (hi : IsI C.P t true) (hx : look e i = some (.iface s v)) : QO C (.binOp .neq t (.tmp i) (.const .nilIface) u) ty e own K (.bool true) :=
  ⟨by simp, fun a w hA hS => by
    obtain ⟨ms, hu⟩ := hi.ms
    have h1 := run_neq_nil1 (P := C.P) (tp := s) (v := v) w hu
    simp only [execOp, op0, hA.ev (x := .tmp i) hx, show a.eval (.const .nilIface) = .nilIface from rfl]
    simp [eqGuard, h1]⟩
theorem q_assertOk {x : Operand} {s t : TypeId} {v : Value} (hi : IsI C.P t false) (hx : ev e x = some (.iface t v)) : QO C (.typeAssert x s t true) ty e own K (.tuple #[v, .bool true]) :=
  ⟨by simp, fun a w hA hS => by
    obtain ⟨d, hu, hd⟩ := hi.get
    simp only [execOp, op0, hA.ev hx, Instr.typeAssert]
    cases d <;> first | (simp at hd; done) | simp [Sem.run_bind, hu.run, Result.andThen]⟩
theorem wpIn_of_eP (hq : EOP C op ty e own K Φ Ψ) {a : Act} {w : World} (hA : Ag C e a) (hS : HS C.g own K w) {o : Oper} (ho : o.op = op) (ht : o.type = ty)
    {next : Act → World → Prop} (h : ∀ v own' K' w', Φ v own' K' → HS C.g own' K' w' → next (a.put o.dst v) w') (hp : ∀ ch own' K' w', Ψ ch own' K' → HS C.g own' K' w' → Q (.panic ch) a w') : o.wpIn (FW C.r) 0 C.P a w next Q := by
  refine ⟨fun f _ => wide_fn C.r f, ?_⟩
  have hs : o.semAt (FW C.r).round a.eval = execOp a.eval o := Oper.semAt_eq _ _ _ (by rw [ho]; exact hq.1)
  rw [hs]
  exact hq.2 a w hA hS o next Q ho ht h hp
theorem WL.effP {d : Nat} (hq : EOP C op ty e own K Φ Ψ) (hd : Nat.blt d C.N = true) (hp : ∀ ch own' K', Ψ ch own' K' → AT C (.panic ch) e own' K' Q)
    (h : ∀ v own' K', Φ v own' K' → WL C ops rest ((d, v) :: e) own' K' Q) : WL C ops (⟨some d, op, ty, pos, af, none⟩ :: rest) e own K Q := by
  intro a w hA hS
  unfold wpListIn
  rw [if_pos (by rfl)]
  exact wpIn_of_eP hq hA hS rfl rfl (fun v own' K' w' hΦ hS' => h v own' K' hΦ _ _ (hA.put v hd) hS') fun ch own' K' w' hΨ hS' => hp ch own' K' hΨ _ _ hA hS'
theorem WL.effPn (hq : EOP C op ty e own K Φ Ψ) (hp : ∀ ch own' K', Ψ ch own' K' → AT C (.panic ch) e own' K' Q)
    (h : ∀ v own' K', Φ v own' K' → WL C ops rest e own' K' Q) : WL C ops (⟨none, op, ty, pos, af, none⟩ :: rest) e own K Q := by
  intro a w hA hS
  unfold wpListIn
  rw [if_pos (by rfl)]
  exact wpIn_of_eP hq hA hS rfl rfl (fun v own' K' w' hΦ hS' => h v own' K' hΦ _ _ hA hS') fun ch own' K' w' hΨ hS' => hp ch own' K' hΨ _ _ hA hS'
theorem WS.effP {W : List Nat} {fuel : Nat} {listed : Array Bool} {π : List (Nat × Nat)} {fin : Bool} {L : List SP} {KL : PH → Prop}
    (i : Nat) {d : Nat} (hi : ops[i]? = some ⟨some d, op, ty, pos, af, none⟩) (hq : EOP C op ty e own K Φ Ψ) (hd : Nat.blt d C.N = true) (hp : ∀ ch own' K', Ψ ch own' K' → AT C (.panic ch) e own' K' Q)
    (h : ∀ v own' K', Φ v own' K' → Imp own' K' L KL ∧ WS C ops W fuel (listed.setIfInBounds i true) π fin L KL ((d, v) :: e) own' K' Q) : WS C ops W (fuel + 1) listed ((i, 2) :: π) fin L KL e own K Q := fun hs =>
  have hs := sched2 hs
  WD.one i hs.1 fun hQ a w hA hS hL => by
    unfold wpOpIn
    simp only [hi]
    rw [if_pos (by rfl)]
    refine wpIn_of_eP hq hA hS rfl rfl (fun v own' K' w' hΦ hS' => ?_) (fun ch own' K' w' hΨ hS' => hp ch own' K' hΨ _ _ hA hS')
    obtain ⟨h1, h2⟩ := h v own' K' hΦ
    exact ⟨fun x => HS C.g L KL x, fun _ x hx => hx, fun x hx => HS.t0 hx, h1 _ _ hS', h2 hs.2 hQ _ _ (hA.put v hd) hS' (h1 _ _ hS')⟩
theorem WLy.effP {G : List Ly} {d : Nat} (hq : EOP C op ty e own K Φ Ψ) (hd : Nat.blt d C.N = true) (hf : fresh d G = true) (hp : ∀ ch own' K', Ψ ch own' K' → AT C (.panic ch) e own' K' Q)
    (h : ∀ v own' K', Φ v own' K' → WLy C ops rest G ((d, v) :: e) own' K' Q) : WLy C ops (⟨some d, op, ty, pos, af, none⟩ :: rest) G e own K Q := by
  intro a w hA hG hS
  unfold wpListIn
  rw [if_pos (by rfl)]
  exact wpIn_of_eP hq hA hS rfl rfl (fun v own' K' w' hΦ hS' => h v own' K' hΦ _ _ (hA.put v hd) (hG.put hd v hf) hS') fun ch own' K' w' hΨ hS' => hp ch own' K' hΨ _ _ hA hS'
/-! ### Ways out by a panic -/
theorem AT.then_p {n : Act → World → Prop} {ch : List PanicEntry} (h : AT C (.panic ch) e own K Q) : AT C (.panic ch) e own K (Exit.then n Q) := h
theorem AT.blk_p {i : Nat} {ch : List PanicEntry} (h : AT C (.panic ch) e own K Q) : AT C (.panic ch) e own K (Exit.inBlock i Q) := h
theorem AT.doneP {fn : Func} {v : Value} (hd : C.ds = []) (hr : RO C fn e own K v) (hΦ : Φ v own' K') (hi : Imp own K own' K') : AT C .ret e own K (bodyPost C.P fn (RP Φ Ψ C.g)) :=
  fun a w hA hS => ⟨hA.ds.trans hd, v, hr a w hA hS, .inl ⟨v, own', K', rfl, hΦ, hi _ _ hS⟩⟩
theorem AT.donePN {fn : Func} {v : Value} (hd : C.ds = []) (hr : RO C fn e own K v) (hΦ : Φ v own' K') (hi : Imp own K own' K') : AT C .normal e own K (bodyPost C.P fn (RP Φ Ψ C.g)) :=
  fun a w hA hS => ⟨hA.ds.trans hd, v, hr a w hA hS, .inl ⟨v, own', K', rfl, hΦ, hi _ _ hS⟩⟩
theorem AT.panics {fn : Func} {ch : List PanicEntry} (hd : C.ds = []) (hΨ : Ψ ch own' K') (hi : Imp own K own' K') : AT C (.panic ch) e own K (bodyPost C.P fn (RP Φ Ψ C.g)) :=
  fun a w hA hS => ⟨hA.ds.trans hd, .inr ⟨ch, own', K', rfl, hΨ, hi _ _ hS⟩⟩
theorem WC.strong {c : Code} {Q' : Exit → Act → World → Prop} (h : WC C c e own K Q') (hi : ∀ x a w, Q' x a w → Q x a w) : WC C c e own K Q := fun a w hA hS => wpIn_mono (h a w hA hS) hi

/-! ### Calls put off -/
theorem WL.defer {x : Operand} {f : FuncId} {first cap args : List Value} {as : List Operand} {ats : Array TypeId} (hr : C.r = none) (hx : ev e x = some (.func (.func f) first.toArray cap.toArray)) (ha : evs e as = some args)
    (h : WL { C with ds := { target := .fn (.func f) cap.toArray, args := (first ++ args).toArray } :: C.ds } ops rest e own K Q) :
    WL C ops (⟨none, .defer { callee := .value x, args := as.toArray, argTypes := ats }, ty, pos, af, none⟩ :: rest) e own K Q := by
  intro a w hA hS
  unfold wpListIn
  rw [if_pos (by rfl)]
  refine ⟨fun f _ => wide_fn C.r f, ?_⟩
  have hm : (as.toArray).map a.eval = args.toArray := by rw [List.map_toArray, hA.evs ha]
  have hs : (Oper.semAt (FW C.r).round a.eval (⟨none, .defer { callee := .value x, args := as.toArray, argTypes := ats }, ty, pos, af, none⟩ : Oper)).run C.P w = .ok (.defer { target := .fn (.func f) cap.toArray, args := (first ++ args).toArray }) w := by
    rw [show (FW C.r).round = none from hr, Oper.semAt_none]
    simp only [execOp, resolve, hm, hA.ev hx, Deferred.ofValue]
    simp
  rw [hs, Oper.uponIn_defer]
  have hA2 : Ag { C with ds := { target := .fn (.func f) cap.toArray, args := (first ++ args).toArray } :: C.ds } e { a with defers := { target := .fn (.func f) cap.toArray, args := (first ++ args).toArray } :: a.defers } := ⟨hA.size, hA.get, by simp [hA.ds]⟩
  exact h _ _ hA2 hS
/-- What a call that was put off comes to: how its caller stands before and behind. -/
def SpecD (g : Os × Array (Nat × ByteArray)) (P : Program) (f : FuncId) (args : List Value) (u u' : FrameMode) (own : List SP) (K : PH → Prop) (own' : List SP) (K' : PH → Prop) : Prop :=
  Enters P f ∧ ∀ w, HS g own K w → CallsDIn (FW none) 0 P f args.toArray u w (fun x u2 w' => (∃ v, x = .returned v) ∧ u2 = u' ∧ HS g own' K' w')
theorem leavesD {fn : Func} {f : FuncId} {first cap : List Value} {u u' : FrameMode} {v : Value} {own'' : List SP} {K'' : PH → Prop} {a : Act} {w : World} (hA : Ag C e a) (hS : HS C.g own K w) (hds : C.ds = [{ target := .fn (.func f) cap.toArray, args := first.toArray }])
    (hu : u ≠ .run) (hD : SpecD C.g C.P f (first ++ cap) u u' own K own' K') (hu' : settle u' = .returning) (hr : RO C fn e own' K' v) (hΦ : Φ v own'' K'') (hi : Imp own' K' own'' K'') :
    LeavesIn (FW none) 0 C.P fn a.tmps (RG Φ C.g) a.defers u w := by
  rw [hA.ds, hds]
  refine ⟨hu, fun hd => (by cases hd), .func f, cap.toArray, f, (first ++ cap).toArray, rfl, ?_, fun _ _ => trivial, ?_⟩
  · have := hD.1 (first ++ cap).toArray w
    simp [invoke]
    simpa using this
  · obtain ⟨h1, h2⟩ := hD.2 w hS
    refine ⟨h1, fun c cs hm hroom => ?_⟩
    obtain ⟨x, u2, w', fr, ⟨⟨v2, rfl⟩, rfl, hS'⟩, hc, hk, hf, hg⟩ := h2 c cs hm hroom
    refine ⟨_, u2, w', fr, ?_, hc, hk, hf, hg⟩
    simp only [hu']
    exact ⟨v, hr a w' hA hS', v, _, _, rfl, hΦ, hi _ _ hS'⟩
theorem AT.leave {fn : Func} {f : FuncId} {first cap : List Value} {u' : FrameMode} {v : Value} {own'' : List SP} {K'' : PH → Prop} (hds : C.ds = [{ target := .fn (.func f) cap.toArray, args := first.toArray }])
    (hD : SpecD C.g C.P f (first ++ cap) .returning u' own K own' K') (hu' : settle u' = .returning) (hr : RO C fn e own' K' v) (hΦ : Φ v own'' K'') (hi : Imp own' K' own'' K'') : AT C .ret e own K (bodyPostDIn (FW none) 0 C.P fn (RG Φ C.g)) :=
  fun _ _ hA hS => leavesD hA hS hds (by simp) hD hu' hr hΦ hi
theorem AT.leaveP {fn : Func} {f : FuncId} {first cap : List Value} {u' : FrameMode} {v : Value} {own'' : List SP} {K'' : PH → Prop} {ch : List PanicEntry} (hds : C.ds = [{ target := .fn (.func f) cap.toArray, args := first.toArray }])
    (hD : SpecD C.g C.P f (first ++ cap) (.panicking ch) u' own K own' K') (hu' : settle u' = .returning) (hr : RO C fn e own' K' v) (hΦ : Φ v own'' K'') (hi : Imp own' K' own'' K'') : AT C (.panic ch) e own K (bodyPostDIn (FW none) 0 C.P fn (RG Φ C.g)) :=
  fun _ _ hA hS => leavesD hA hS hds (by simp) hD hu' hr hΦ hi
end
/-- .. without a way out by a panic. -/
def bodyD (P : Program) (fn : Func) (R : Ending → World → Prop) : Exit → Act → World → Prop
  | .panic _, _, _ => False
  | x, a, w => bodyPostDIn (FW none) 0 P fn R x a w
theorem bodyD_post {P : Program} {fn : Func} {R : Ending → World → Prop} (x : Exit) (a : Act) (w : World) (h : bodyD P fn R x a w) : bodyPostDIn (FW none) 0 P fn R x a w := by
  cases x <;> first | exact h | exact h.elim
theorem NoPan.bodyD {P : Program} {fn : Func} {R : Ending → World → Prop} : NoPan (bodyD P fn R) := fun c d v a w hq => hq.elim
theorem Spec.ofD {P : Program} {f : FuncId} {fn : Func} {c : Code} {args : List Value} {own : List SP} {K : PH → Prop} {Φ : Value → List SP → (PH → Prop) → Prop}
    (hen : Enters P f) (hf : P.funcs[f]? = some fn) (hb : fn.body = some c) (hn : Nat.ble args.length fn.ntmps = true)
    (h : ∀ g, WC ⟨P, none, fn.ntmps, [], g⟩ c (envOf 0 args) own K (bodyPostDIn (FW none) 0 P fn (RG Φ g))) : Spec P f args own K Φ := by
  refine ⟨hen, fun g w hS => callsIn_wide.1 (callsIn_of_wp_defers (F := Fence.wide) (n := 0) hf hb trivial (h g _ w ⟨?_, ?_, rfl⟩ hS) rfl)⟩
  · have := Nat.le_of_ble_eq_true hn
    simp; omega
  · intro i v hl
    obtain ⟨_, h2⟩ := envOf_look args 0 i v hl
    simp at h2
    obtain ⟨hlt, hv⟩ := List.getElem?_eq_some_iff.1 h2
    simp [Array.getElem?_append, hlt, hv]
/-- A function that begins by taking a panic up, if there is one. -/
theorem SpecD.recover {P : Program} {g : Os × Array (Nat × ByteArray)} {f : FuncId} {fn : Func} {rest : Code} {args : List Value} {own own' : List SP} {K K' : PH → Prop} {id d d2 : Nat} {ty ty2 : TypeId} {pos pos2 : String} {af af2 : Array Edge} {u u' : FrameMode} (rv : Value)
    (hen : Enters P f) (hf : P.funcs[f]? = some fn) (hb : fn.body = some (.seq (.region id #[⟨some d, .call { callee := .builtin .recover, args := #[], argTypes := #[] }, ty, pos, af, none⟩, ⟨some d2, .assign (.tmp d), ty2, pos2, af2, none⟩] false) rest)) (hn : Nat.ble args.length fn.ntmps = true)
    (hu : (u = .returning ∧ u' = .returning ∧ rv = .nilIface) ∨ (u = .panicking [{ v := rv, recovered := false }] ∧ u' = .panicking [{ v := rv, recovered := true }])) (hd : Nat.blt d fn.ntmps = true) (hd2 : Nat.blt d2 fn.ntmps = true)
    (h : WC ⟨P, none, fn.ntmps, [], g⟩ rest ((d2, rv) :: (d, rv) :: envOf 0 args) own K (bodyPost P fn (RG (fun _ o k => o = own' ∧ k = K') g))) : SpecD g P f args u u' own K own' K' := by
  refine ⟨hen, fun w hS => callsDIn_of_wpSIn hf hb trivial fun c₀ cs hc => ?_⟩
  have hA : Ag ⟨P, none, fn.ntmps, [], g⟩ (envOf 0 args) { tmps := args.toArray ++ Array.replicate (fn.ntmps - args.toArray.size) undef, defers := [] } := by
    refine ⟨?_, ?_, rfl⟩
    · have := Nat.le_of_ble_eq_true hn
      simp; omega
    · intro i v hl
      obtain ⟨_, h2⟩ := envOf_look args 0 i v hl
      simp at h2
      obtain ⟨hlt, hv⟩ := List.getElem?_eq_some_iff.1 h2
      simp [Array.getElem?_append, hlt, hv]
  generalize ({ tmps := args.toArray ++ Array.replicate (fn.ntmps - args.toArray.size) undef, defers := [] } : Act) = a0 at hA ⊢
  have hA1 := hA.put rv hd
  have hA2 := hA1.put rv hd2
  have hrec : (recoverD (c₀ :: cs) = none ∧ rv = .nilIface ∧ u' = u) ∨ recoverD (c₀ :: cs) = some (rv, { c₀ with mode := u' } :: cs) := by
    rcases hu with ⟨h1, h2, h3⟩ | ⟨h1, h2⟩
    · exact .inl ⟨by simp [recoverD, hc, h1], h3, by rw [h1, h2]⟩
    · exact .inr (by simp [recoverD, hc, h1, h2])
  have hev : ∀ a : Act, Ag ⟨P, none, fn.ntmps, [], g⟩ ((d, rv) :: envOf 0 args) a → a.eval (.tmp d) = rv := fun a ha => ha.ev (by simp [ev, look])
  have hgo : ∀ cs', cs' = { c₀ with mode := u' } :: cs → ∀ a, Ag ⟨P, none, fn.ntmps, [], g⟩ ((d2, rv) :: (d, rv) :: envOf 0 args) a →
      rest.wpSIn (FW none) 0 P (bodyPostS P fn c₀ cs fun x u2 w' => (∃ v, x = .returned v) ∧ u2 = u' ∧ HS g own' K' w') a cs' w := by
    intro cs' hcs a ha
    refine wpSIn_of_wpIn rfl (wpIn_mono (h a w ha hS) ?_)
    intro x a' w' hq
    cases x with
    | normal => obtain ⟨h1, v, hv, v2, o, k, hx, ⟨rfl, rfl⟩, hS'⟩ := hq; exact ⟨h1, u', hcs, v, hv, ⟨v, rfl⟩, rfl, hS'⟩
    | ret => obtain ⟨h1, v, hv, v2, o, k, hx, ⟨rfl, rfl⟩, hS'⟩ := hq; exact ⟨h1, u', hcs, v, hv, ⟨v, rfl⟩, rfl, hS'⟩
    | panic ch => obtain ⟨_, v2, o, k, hx, _⟩ := hq; cases hx
    | outgrown => obtain ⟨v2, o, k, hx, _⟩ := hq; cases hx
    | _ => exact hq.elim
  refine wpSIn_seq (wpSIn_region ?_)
  have e0 : List.range (#[(⟨some d, .call { callee := .builtin .recover, args := #[], argTypes := #[] }, ty, pos, af, none⟩ : Oper), ⟨some d2, .assign (.tmp d), ty2, pos2, af2, none⟩]).size = [0, 1] := rfl
  rw [e0]
  have hr0 : ∀ (ρ : Operand → Value) (w : World), (execOp ρ (⟨some d, .call { callee := .builtin .recover, args := #[], argTypes := #[] }, ty, pos, af, none⟩ : Oper)).run P w = .ok .recover w := fun ρ w => by
    simp [execOp, resolve, invoke, builtin]
  have hr1 : ∀ (ρ : Operand → Value) (w : World), (execOp ρ (⟨some d2, .assign (.tmp d), ty2, pos2, af2, none⟩ : Oper)).run P w = .ok (.value (ρ (.tmp d))) w := fun ρ w => by
    simp [execOp]
  simp only [wpOpsSIn]
  refine ⟨fun _ _ => trivial, ?_⟩
  simp only [Region.wanted, if_true, hr0, hr1, List.getElem?_toArray, List.getElem?_cons_zero, List.getElem?_cons_succ]
  rcases hrec with ⟨h1, h2, h3⟩ | h1
  · rw [h1]
    simp only
    refine ⟨fun _ _ => trivial, ?_⟩
    rw [← h2]
    change rest.wpSIn (FW none) 0 P _ ((a0.put (some d) rv).put (some d2) ((a0.put (some d) rv).eval (.tmp d))) (c₀ :: cs) w
    rw [hev _ hA1]
    refine hgo _ ?_ _ hA2
    rw [h3, ← hc]
  · rw [h1]
    simp only
    refine ⟨fun _ _ => trivial, ?_⟩
    change rest.wpSIn (FW none) 0 P _ ((a0.put (some d) rv).put (some d2) ((a0.put (some d) rv).eval (.tmp d))) ({ c₀ with mode := u' } :: cs) w
    rw [hev _ hA1]
    exact hgo _ rfl _ hA2
end Go.Proofs.Sl
