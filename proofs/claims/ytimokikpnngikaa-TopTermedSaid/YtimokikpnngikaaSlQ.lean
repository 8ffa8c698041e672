/- Rows of assertions as one; results of both kinds; weakening of contracts. -/
import Derived.Test.YtimokikpnngikaaSlN
namespace Go.Proofs.Sl
open Go
section
variable {g : Os × Array (Nat × ByteArray)} {own own' : List SP} {K K' : PH → Prop} {w : World} {P : Program} {f : FuncId} {args : List Value} {Φ Ψ : Value → List SP → (PH → Prop) → Prop}

theorem HS.empty : HS g ((fun h => h = PH.emp) :: own) K w ↔ HS g own K w := by
  constructor
  · exact HS.drop
  · intro h
    obtain ⟨H, k, d, s, t, u, v⟩ := h.ex
    exact ⟨h.os, h.out, H, k, d, s, t, u, PH.emp, k, fun _ => .inl rfl, (PH.emp_un k).symm, rfl, v⟩
theorem HS.sep {l : List SP} : ∀ {own : List SP}, HS g (Sep l :: own) K w ↔ HS g (l ++ own) K w := by
  induction l with
  | nil => exact HS.empty
  | cons A l ih =>
    intro own
    have h1 : HS g (Sep (A :: l) :: own) K w ↔ HS g (A :: Sep l :: own) K w := HS.two (A := A) (B := Sep l)
    have h2 : HS g (A :: Sep l :: own) K w ↔ HS g (Sep l :: A :: own) K w := ⟨HS.perm (List.Perm.swap _ _ _), HS.perm (List.Perm.swap _ _ _)⟩
    have h4 : HS g (l ++ A :: own) K w ↔ HS g (A :: l ++ own) K w := ⟨HS.perm List.perm_middle, HS.perm List.perm_middle.symm⟩
    exact h1.trans (h2.trans ((ih (own := A :: own)).trans h4))
/-- What there is, as one assertion. -/
def ExS {α : Type} (F : α → List SP) : SP := fun h => ∃ x, Sep (F x) h
theorem HS.exS {α : Type} {F : α → List SP} : HS g (ExS F :: own) K w ↔ ∃ x, HS g (F x ++ own) K w := by
  constructor
  · intro h
    obtain ⟨x, hx⟩ := HS.exists_head (A := fun x => Sep (F x)) h
    exact ⟨x, HS.sep.1 hx⟩
  · rintro ⟨x, hx⟩
    exact (HS.sep.2 hx).head fun h hs => ⟨x, hs⟩
theorem Imp.exS {α : Type} {F : α → List SP} (x : α) (h : Imp own K (F x ++ own') K') : Imp own K (ExS F :: own') K' := fun g w hS => HS.exS.2 ⟨x, h g w hS⟩

theorem SpecAt.weak (h : SpecAt g P f args own K Φ) (hi : ∀ v o k, Φ v o k → ∃ o' k', Imp o k o' k' ∧ Ψ v o' k') : SpecAt g P f args own K Ψ :=
  ⟨h.1, fun w hS => (h.2 w hS).mono fun x w' ⟨v, o, k, e, hΦ, hS'⟩ => by
    obtain ⟨o', k', hI, hΨ⟩ := hi v o k hΦ
    exact ⟨v, o', k', e, hΨ, hI _ _ hS'⟩⟩
theorem Spec.weak (h : Spec P f args own K Φ) (hi : ∀ v o k, Φ v o k → ∃ o' k', Imp o k o' k' ∧ Ψ v o' k') : Spec P f args own K Ψ :=
  Spec.all fun g => (h.at g).weak hi
theorem SpecAt.exS {α : Type} {F : α → List SP} (x0 : α) (h : ∀ x, SpecAt g P f args (F x ++ own) K Φ) : SpecAt g P f args (ExS F :: own) K Φ :=
  ⟨(h x0).1, fun w hS => by obtain ⟨x, hx⟩ := HS.exS.1 hS; exact (h x).2 w hx⟩
theorem Spec.exS {α : Type} {F : α → List SP} (x0 : α) (h : ∀ x, Spec P f args (F x ++ own) K Φ) : Spec P f args (ExS F :: own) K Φ := Spec.all fun g => SpecAt.exS x0 fun x => (h x).at g
theorem Spec.pre (i : Imp own K own' K') (h : Spec P f args own' K' Φ) : Spec P f args own K Φ := ⟨h.1, fun g w hS => h.2 g w (i _ _ hS)⟩
/-- What holds of every world that is meant. -/
theorem Spec.pure {p : Prop} (hp : ∀ g w, HS g own K w → p) (he : Enters P f) (h : p → Spec P f args own K Φ) : Spec P f args own K Φ := ⟨he, fun g w hS => (h (hp g w hS)).2 g w hS⟩
end

section
variable {C : Cx} {e : Env} {own own' : List SP} {K K' : PH → Prop} {Q : Exit → Act → World → Prop} {fn : Func}
theorem WC.pureOwn {p : Prop} {c : Code} (hp : ∀ g w, HS g own K w → p) (h : p → WC C c e own K Q) : WC C c e own K Q := fun a w hA hS => h (hp _ _ hS) a w hA hS
theorem WL.pureOwn {p : Prop} {ops : Array Oper} {l : List Oper} (hp : ∀ g w, HS g own K w → p) (h : p → WL C ops l e own K Q) : WL C ops l e own K Q := fun a w hA hS => h (hp _ _ hS) a w hA hS
theorem AT.pureOwn {p : Prop} {x : Exit} (hp : ∀ g w, HS g own K w → p) (h : p → AT C x e own K Q) : AT C x e own K Q := fun a w hA hS => h (hp _ _ hS) a w hA hS
theorem WC.openS {α : Type} {F : α → List SP} {c : Code} (h : ∀ x, WC C c e (F x ++ own) K Q) : WC C c e (ExS F :: own) K Q := fun a w hA hS => by
  obtain ⟨x, hx⟩ := HS.exS.1 hS; exact h x a w hA hx
theorem WL.openS {α : Type} {F : α → List SP} {ops : Array Oper} {l : List Oper} (h : ∀ x, WL C ops l e (F x ++ own) K Q) : WL C ops l e (ExS F :: own) K Q := fun a w hA hS => by
  obtain ⟨x, hx⟩ := HS.exS.1 hS; exact h x a w hA hx

theorem q_buildArr {ty t el : TypeId} {len sz by2 : Nat} {z2 : Value} {ps : List (Nat × Operand)} {vs : List (Nat × Value)} {n by_ : Nat} {z : Value} {zs cs : List Value} (hp : evp e ps = some vs) (hu : Und C.P t (.array len el)) (hi : Inf C.P t n by_ z) (hie : Inf C.P el sz by2 z2) (hz : z.cells = zs.toArray)
    (hf : fillL (fun i => some (i * sz, sz)) zs vs = some cs) : QO C (.build t ps.toArray) ty e own K (.agg cs.toArray) := by
  refine ⟨by simp, fun a w hA hS => ?_⟩
  obtain ⟨i, hi1, hi2, _, _⟩ := hi.info
  obtain ⟨j, hj1, _, hj3, _⟩ := hie.info
  have hb : C.P.built t vs = some cs.toArray := by
    unfold Program.built
    rw [hi1, show C.P.underlying t = some (.array len el) from hu]
    simp only [hi2, hj1, hj3, hz]
    exact fill_L hf
  have hm : ps.toArray.map (fun (i, x) => (i, a.eval x)) = vs.toArray := by rw [List.map_toArray, hA.evp hp]
  have h1 := run_build (P := C.P) w t vs.toArray cs.toArray (by simpa using hb)
  simp only [execOp, op0]
  rw [hm]
  simp [h1]
theorem Spec.permR {P : Program} {f : FuncId} {args : List Value} {v : Value} (p : own.Perm own') (h : Spec P f args own' K (Ret v own' K)) : Spec P f args own K (Ret v own K) :=
  ⟨h.1, fun g w hS => (h.2 g w (hS.perm p)).mono fun x w' ⟨v', o, k, e, ⟨h1, h2, h3⟩, hS'⟩ => ⟨v', own, K, e, ⟨h1, rfl, rfl⟩, by subst h2 h3; exact hS'.perm p.symm⟩⟩
theorem setsLq : ∀ (vs cs : List Value) (off : Nat), off + vs.length ≤ cs.length → setsL cs off vs = cs.take off ++ vs ++ cs.drop (off + vs.length)
  | [], cs, off, h => by simp [setsL]
  | v :: r, cs, off, h => by
    simp only [List.length_cons] at h
    unfold setsL
    rw [setsLq r (cs.set off v) (off + 1) (by simp; omega)]
    have h1 : (cs.set off v).take (off + 1) = cs.take off ++ [v] := by
      rw [List.set_eq_take_append_cons_drop, if_pos (by omega), List.take_append]
      simp [Nat.min_eq_left (show off ≤ cs.length by omega)]
      rw [List.take_of_length_le (by simp; omega)]
    have h2 : (cs.set off v).drop (off + 1 + r.length) = cs.drop (off + (r.length + 1)) := by
      rw [List.drop_set_of_lt (by omega)]; congr 1; omega
    rw [h1, h2]; simp
theorem fill1q {place : Nat → Option (Nat × Nat)} {i off sz : Nat} {v : Value} {r : List (Nat × Value)} {cs vs : List Value} (hp : place i = some (off, sz)) (hv : cellsL v = vs) (hl : vs.length = sz) (hb : off + sz ≤ cs.length) :
    fillL place cs ((i, v) :: r) = fillL place (cs.take off ++ vs ++ cs.drop (off + sz)) r := by
  have h1 : (Nat.beq (cellsL v).length sz && Nat.ble (off + sz) cs.length) = true := by
    rw [hv, hl, Bool.and_eq_true]; exact ⟨Nat.beq_refl _, Nat.ble_eq_true_of_le hb⟩
  conv => lhs; unfold fillL
  rw [hp]
  simp only [h1]
  rw [hv, setsLq vs cs off (by omega), hl]
/-- Parts one behind the other. -/
def seqFrom (k : Nat) : List (Nat × Value) → Bool
  | [] => true
  | (i, _) :: l => Nat.beq i k && seqFrom (k + 1) l
theorem fill_seq {sz : Nat} : ∀ (ps : List (Nat × Value)) (k : Nat) (pre post : List Value), pre.length = k * sz → post.length = ps.length * sz → seqFrom k ps = true → (ps.all fun p => Nat.beq (cellsL p.2).length sz) = true →
    fillL (fun i => some (i * sz, sz)) (pre ++ post) ps = some (pre ++ ps.flatMap fun p => cellsL p.2)
  | [], k, pre, post, h1, h2, _, _ => by
    have : post = [] := by simpa using h2
    subst this; simp [fillL]
  | (i, v) :: ps, k, pre, post, h1, h2, h3, h4 => by
    unfold seqFrom at h3
    rw [Bool.and_eq_true] at h3
    rw [List.all_cons, Bool.and_eq_true] at h4
    obtain rfl := Nat.eq_of_beq_eq_true h3.1
    have hv := Nat.eq_of_beq_eq_true h4.1
    simp only at hv
    simp only [List.length_cons, Nat.succ_mul] at h2
    rw [fill1q (place := fun i => some (i * sz, sz)) (off := i * sz) (sz := sz) (vs := cellsL v) rfl rfl hv (by rw [List.length_append]; omega)]
    have e1 : (pre ++ post).take (i * sz) = pre := by rw [← h1]; simp
    have e2 : (pre ++ post).drop (i * sz + sz) = post.drop sz := by rw [← h1, List.drop_append]; simp
    rw [e1, e2]
    have h5 := fill_seq ps (i + 1) (pre ++ cellsL v) (post.drop sz) (by rw [List.length_append, h1, hv, Nat.succ_mul]) (by simp; omega) h3.2 h4.2
    rw [h5]; simp
theorem e_buildSliceSeq {t el ty : TypeId} {sz by_ n : Nat} {z : Value} {ps : List (Nat × Operand)} {vs : List (Nat × Value)} (cs : List Value) (hp : evp e ps = some vs) (hu : Und C.P t (.slice el)) (hi : Inf C.P el sz by_ z) (hz : z.cells.size = sz) (hsz : Nat.blt 0 sz = true)
    (hn : Nat.ble (n * sz) 16777216 = true) (hl : vs.length = n) (hix : seqFrom 0 vs = true) (hlen : (vs.all fun p => Nat.beq (cellsL p.2).length sz) = true) (hcs : (vs.flatMap fun p => cellsL p.2) = cs) :
    EO C (.buildSlice t n ps.toArray) ty e own K (fun v own' K' => ∃ b, v = .slice (some (ad b 0)) n n ∧ own = own' ∧ K' = K ∩ Row (some (ad b 0)) cs) := by
  have hf : Instr.fill (fun i => some (i * sz, sz)) ((List.replicate n z.cells.toList).flatten).toArray vs = some cs.toArray := fill_L (by
    have h := fill_seq (sz := sz) vs 0 [] ((List.replicate n z.cells.toList).flatten) (by simp) (by simp [hl, hz]) hix hlen
    rw [List.nil_append, List.nil_append, hcs] at h
    exact h)
  exact (e_buildSlice hp hu hi hz (Nat.le_of_ble_eq_true hsz) (Nat.le_of_ble_eq_true hn) hf).weak fun v o k h => by
    obtain ⟨b, h1, h2, h3⟩ := h
    exact ⟨own, _, by subst h2 h3; exact Imp.ptStay, b, h1, rfl, rfl⟩
/-- One who comes up alone, under a guard; what has been looked at hangs on L, and L stays. -/
theorem WS.effonL {ops : Array Oper} {W : List Nat} {fuel : Nat} {listed : Array Bool} {π : List (Nat × Nat)} {fin : Bool} {L : List SP} {KL : PH → Prop} {op : Op} {ty : TypeId} {pos : String} {af : Array Edge}
    (i : Nat) {d j dj : Nat} {b b' : Bool} {Φ : Value → List SP → (PH → Prop) → Prop} (hi : ops[i]? = some ⟨some d, op, ty, pos, af, some (j, b)⟩) (hj : dstOf ops j = some dj) (hb : look e dj = some (.bool b')) (hbb : b' = b) (hq : EO C op ty e own K Φ) (hd : Nat.blt d C.N = true)
    (h : ∀ v own' K', Φ v own' K' → Imp own' K' L KL ∧ WS C ops W fuel (listed.setIfInBounds i true) π fin L KL ((d, v) :: e) own' K' Q) : WS C ops W (fuel + 1) listed ((i, 2) :: π) fin L KL e own K Q := fun hs =>
  have hs := sched2 hs
  WD.one i hs.1 fun hQ a w hA hS hL => by
    unfold wpOpIn
    simp only [hi]
    rw [if_pos (by simp [Region.wanted, yielded_of hA hj hb, hbb])]
    refine wpIn_of_e hq hA hS rfl rfl fun v own' K' w' hΦ hS' => ?_
    obtain ⟨h1, h2⟩ := h v own' K' hΦ
    exact ⟨fun x => HS C.g L KL x, fun _ x hx => hx, fun x hx => HS.t0 hx, h1 _ _ hS', h2 hs.2 hQ _ _ (hA.put v hd) hS' (h1 _ _ hS')⟩
/-- .. that yields nothing. -/
theorem WS.effnL {ops : Array Oper} {W : List Nat} {fuel : Nat} {listed : Array Bool} {π : List (Nat × Nat)} {fin : Bool} {L : List SP} {KL : PH → Prop} {op : Op} {ty : TypeId} {pos : String} {af : Array Edge}
    (i : Nat) {Φ : Value → List SP → (PH → Prop) → Prop} (hi : ops[i]? = some ⟨none, op, ty, pos, af, none⟩) (hq : EO C op ty e own K Φ)
    (h : ∀ v own' K', Φ v own' K' → Imp own' K' L KL ∧ WS C ops W fuel (listed.setIfInBounds i true) π fin L KL e own' K' Q) : WS C ops W (fuel + 1) listed ((i, 2) :: π) fin L KL e own K Q := fun hs =>
  have hs := sched2 hs
  WD.one i hs.1 fun hQ a w hA hS hL => by
    unfold wpOpIn
    simp only [hi]
    rw [if_pos (by rfl)]
    refine wpIn_of_e hq hA hS rfl rfl fun v own' K' w' hΦ hS' => ?_
    obtain ⟨h1, h2⟩ := h v own' K' hΦ
    exact ⟨fun x => HS C.g L KL x, fun _ x hx => hx, fun x hx => HS.t0 hx, h1 _ _ hS', h2 hs.2 hQ _ _ hA hS' (h1 _ _ hS')⟩
theorem Src.rowW {P : Program} {sz k n cap : Nat} {A : Option Addr} {cs : List Value} (hr : cs ≠ [] → Ent K (Row A cs)) (hk : cs.length = k * sz) (hn : n = k) : Src P own K sz (.slice A n cap) k cs := by
  by_cases h : cs = []
  · subst hn h
    refine ⟨fun w => by simp [Builtin.lenOf], fun g w hS => ?_⟩
    have h0 : n * sz = 0 := by simpa using hk.symm
    cases A <;> simp [Builtin.firstCells, h0, loadCells, loadCellsFrom]
  · exact Src.row (hr h) hk hn
/-- Results, each out of a slot or a variable. -/
def RV (C : Cx) (e : Env) (own : List SP) (K : PH → Prop) : ResultVar → Value → Prop
  | .tmp t, v => look e t = some v
  | .cell t T, v => ∃ b o, look e t = some (.pointer (some (ad b o))) ∧
      ((AggB C.P T false ∧ Cell own K (ad b o) v) ∨ ∃ vs n by_ z, v = .agg vs.toArray ∧ AggB C.P T true ∧ Inf C.P T n by_ z ∧ Cells own K (ad b o) vs ∧ vs.length = n)
def RVs (C : Cx) (e : Env) (own : List SP) (K : PH → Prop) : List ResultVar → List Value → Prop
  | [], [] => True
  | r :: rs, v :: vs => RV C e own K r v ∧ RVs C e own K rs vs
  | _, _ => False
def rvS (a : Act) : ResultVar → Sem Value
  | .tmp t => pure (a.tmps.getD t undef)
  | .cell x t => do loadVar t (← asAddr (a.tmps.getD x undef))
theorem RV.run {r : ResultVar} {v : Value} (h : RV C e own K r v) {a : Act} {w : World} (hA : Ag C e a) (hS : HS C.g own K w) : (rvS a r).run C.P w = .ok v w := by
  cases r with
  | tmp t =>
    have h1 := hA.get t v h
    simp [rvS, h1]
  | cell t T =>
    obtain ⟨b, o, hl, hc⟩ := h
    have h1 := hA.get t _ hl
    rcases hc with ⟨ht, hc⟩ | ⟨us, n, by_, z, rfl, ht, hi, hc, hn⟩
    · have h3 := hc _ _ hS
      simp [rvS, h1, asAddr, loadVar, ht.run, run_load, h3]
    · have h3 := run_loadCells_list (P := C.P) w (ad b o) us (fun j v hv => hc j v hv _ _ hS)
      rw [hn] at h3
      simp [rvS, h1, asAddr, loadVar, ht.run, hi.size, h3]
theorem RVs.run : ∀ {rs : List ResultVar} {vs : List Value}, RVs C e own K rs vs → ∀ a w, Ag C e a → HS C.g own K w → (rs.mapM (rvS a)).run C.P w = .ok vs w
  | [], [], _, a, w, _, _ => rfl
  | r :: rs, v :: vs, h, a, w, hA, hS => by
    have h2 := RVs.run h.2 a w hA hS
    have h1 := RV.run h.1 hA hS
    rw [List.mapM_cons, Sem.run_bind, h1, Result.andThen_ok, Sem.run_bind, h2, Result.andThen_ok, Sem.run_pure]
theorem RO.list {rs : List ResultVar} {vs : List Value} (hr : fn.results = rs.toArray) (h : RVs C e own K rs vs) (hn : vs.length ≠ 1) : RO C fn e own K (.tuple vs.toArray) := fun a w hA hS => by
  have h1 := RVs.run h a w hA hS
  have h2 : results fn a.tmps = (do
      let vs ← fn.results.mapM (rvS a)
      pure (if h : vs.size = 1 then vs[0] else .tuple vs)) := rfl
  rw [h2, hr, List.mapM_toArray]
  simp only [map_eq_pure_bind, Sem.run_bind, h1, Result.andThen_ok, Sem.run_pure]
  have hs : ¬ (vs.toArray.size = 1) := by simpa using hn
  rw [dif_neg hs]
theorem RV.tmp {t : Tmp} {v : Value} (h : look e t = some v) : RV C e own K (.tmp t) v := h
theorem RV.c1 {t : Tmp} {T : TypeId} {b o : Nat} {v : Value} (hl : look e t = some (.pointer (some (ad b o)))) (ht : AggB C.P T false) (hc : Cell own K (ad b o) v) : RV C e own K (.cell t T) v := ⟨b, o, hl, .inl ⟨ht, hc⟩⟩
theorem RV.cA {t : Tmp} {T : TypeId} {b o n by_ : Nat} {z : Value} {vs : List Value} (hl : look e t = some (.pointer (some (ad b o)))) (ht : AggB C.P T true) (hi : Inf C.P T n by_ z) (hc : Cells own K (ad b o) vs) (hn : vs.length = n) : RV C e own K (.cell t T) (.agg vs.toArray) :=
  ⟨b, o, hl, .inr ⟨vs, n, by_, z, rfl, ht, hi, hc, hn⟩⟩
end
end Go.Proofs.Sl
