/- Regions whose order is open. 'S': what holds of the world at every stop, as far as what has been looked at hangs on it. -/
import Derived.Test.YtimokikpnngikaaSlF
namespace Go.Proofs.Sl
open Go

section
variable {F : Fence} {P : Program} {ops : Array Oper} {Q : Exit → Act → World → Prop}

/-- An operation yields a value in every world of a class, and does nothing else. -/
def Yv (P : Program) (ops : Array Oper) (S : World → Prop) (o : Oper) (v : Value) (a : Act) : Prop :=
  (∀ c, o.op ≠ .defer c) ∧ (∀ cs b, o.op ≠ .select cs b) ∧
  ((Region.wanted o (yielded ops a.tmps) = true ∧ ∀ w, S w → (execOp a.eval o).run P w = .ok (.value v) w) ∨
   (Region.wanted o (yielded ops a.tmps) = false ∧ v = undef))

/-- Whoever it is that comes up is ahead of, or behind, everybody else. -/
def alone (ops : Array Oper) (W : List Nat) (j : Nat) : Bool :=
  (List.range ops.size).all fun i => i == j || W.contains i ||
    (match ops[j]? with | some o => o.after.any (fun x => Region.binds .any x && x.on == i) | none => false) ||
    (match ops[i]? with | some o => o.after.any (fun x => Region.binds .any x && x.on == j) | none => false)

/-- Whatever order is picked from here on; what is known of the world may grow, and is let go where nobody is left whom it may concern. -/
def wpS (F : Fence) (P : Program) (ops : Array Oper) (W : List Nat) (T : World → Prop) (Q : Exit → Act → World → Prop) : (World → Prop) → Nat → Array Bool → Act → World → Prop
  | _, 0, listed, a, w => Region.ready .any ops listed = [] ∧ Q .normal a w
  | S, fuel + 1, listed, a, w =>
    (Region.ready .any ops listed = [] → Q .normal a w) ∧
    ∀ i ∈ Region.ready .any ops listed, wpOpIn F 0 P ops Q i (fun a' w' => ∃ S' : World → Prop, (alone ops W i = false → ∀ x, S' x → S x) ∧ (∀ x, S' x → T x) ∧ S' w' ∧
      wpS F P ops W T Q S' fuel (listed.setIfInBounds i true) a' w') a w

theorem wpAnyIn_of_wpS {W : List Nat} {T : World → Prop} : ∀ (fuel : Nat) (S : World → Prop) (listed : Array Bool) (a : Act) (w : World), wpS F P ops W T Q S fuel listed a w → wpAnyIn F 0 P .any ops Q fuel listed a w
  | 0, _, _, _, _, h => h
  | fuel + 1, _, _, _, _, h => ⟨h.1, fun i hi => wpOpIn_mono (fun a' w' ⟨S', _, _, _, h'⟩ => wpAnyIn_of_wpS fuel S' _ a' w' h') (h.2 i hi)⟩

variable {S : World → Prop}

theorem Yv.wpOp (hF : ∀ f, F.fn f) {i : Nat} {o : Oper} {v : Value} {a : Act} (hi : ops[i]? = some o) (hy : Yv P ops S o v a) {N : Act → World → Prop} {w : World} (hS : S w) (h : N (a.put o.dst v) w) : wpOpIn F 0 P ops Q i N a w := by
  unfold wpOpIn
  simp only [hi]
  have hs : o.semAt F.round a.eval = execOp a.eval o := Oper.semAt_eq _ _ _ hy.1
  rcases hy.2.2 with ⟨hw, hv⟩ | ⟨hw, rfl⟩
  · simp only [hw, if_true, Oper.wpIn, hs, hv w hS]; exact ⟨fun f _ => hF f, h⟩
  · simp only [hw, Bool.false_eq_true, if_false]; exact ⟨fun f _ => hF f, h⟩

theorem Yv.same {o : Oper} {v : Value} {a a' : Act} (hy : Yv P ops S o v a) (he : execOp a'.eval o = execOp a.eval o)
    (hw : Region.wanted o (yielded ops a'.tmps) = Region.wanted o (yielded ops a.tmps)) : Yv P ops S o v a' := by
  unfold Yv at *
  rw [he, hw]
  exact hy

/-- An operation that is apart from one whose value is settled: it may as well come first. -/
theorem wpOpIn_settled {j : Nat} {oi oj : Oper} {v : Value} (hj : ops[j]? = some oj) (hap : oi.apart ops oj = true) (hsj : ∀ cs b, oj.op ≠ .select cs b)
    (hQ : ∀ c a w, Q (.panic c) (a.put oi.dst v) w → Q (.panic c) a w) {N : Act → World → Prop} {a : Act} {w : World}
    (hy : Yv P ops S oi v a) (h : wpOpIn F 0 P ops Q j N (a.put oi.dst v) w) :
    wpOpIn F 0 P ops Q j (fun a' w' => Yv P ops S oi v a' ∧ N (a'.put oi.dst v) w') a w := by
  obtain ⟨h1, h2, h3⟩ := Oper.apart_spec hap
  have keep : ∀ (a : Act), Yv P ops S oi v a → ∀ u, Yv P ops S oi v (a.put oj.dst u) := fun a hy u =>
    hy.same (execOp_put oi hy.2.1 a oj.dst u h3) (wanted_put oi a oj.dst u h3)
  have keepD : ∀ d, Yv P ops S oi v { a with defers := d :: a.defers } := fun d => hy.same rfl rfl
  have hab := about_put (P := P) (ops := ops) oj w a oi.dst v h1
  unfold wpOpIn at *
  simp only [hj] at *
  rw [wanted_put oj a oi.dst v h1, hab] at h
  have hsem : oj.semAt F.round (a.put oi.dst v).eval = oj.semAt F.round a.eval := by
    have hcong := execOp_put oj hsj a oi.dst v h1
    have hres : ∀ c, oj.op = .defer c → resolve (a.put oi.dst v).eval c oj.type = resolve a.eval c oj.type := fun c hc => by
      refine resolve_congr c _ fun x hx => Act.eval_put fun d hd hxd => h1 d hd ?_
      subst hxd
      exact List.mem_append_left _ (List.mem_filterMap.2 ⟨.tmp d, by rw [hc]; simpa [Op.operands] using hx, rfl⟩)
    unfold Oper.semAt
    cases F.round with
    | none => exact hcong
    | some l =>
      cases ho : oj.op <;> simp only <;> first | exact hcong | skip
      rename_i c
      rw [hres c ho]
  split
  · rename_i hw
    simp only [hw, if_true] at h
    unfold Oper.wpIn at *
    rw [hab] at h
    refine ⟨h.1, ?_⟩
    have h := h.2
    rw [hsem] at h
    generalize (oj.semAt F.round a.eval).run P w = r at *
    cases r with
    | ok x w' =>
      cases x <;> simp only [Oper.uponIn] at h ⊢
      case value u => exact ⟨keep a hy u, by rw [← Act.put_comm a v u h2]; exact h⟩
      case skip => exact ⟨keep a hy _, by rw [← Act.put_comm a v undef h2]; exact h⟩
      case defer d =>
        refine ⟨keep _ (keepD d) _, ?_⟩
        rw [← Act.put_comm _ v undef h2, ← Act.put_defers]
        exact h
      case enter f args =>
        refine ⟨h.1, h.2.mono fun x w'' he => ?_⟩
        cases x with
        | returned u => exact ⟨keep a hy u, by rw [← Act.put_comm a v u h2]; exact he⟩
        | panicked c => exact hQ _ _ _ he
        | outgrown => exact he
      case row row args => exact ⟨h.1, h.2.mono fun u w'' he => ⟨keep a hy u, by rw [← Act.put_comm a v u h2]; exact he⟩⟩
      case round l f tmps assign body =>
        refine ⟨h.1, h.2.mono fun x w'' he => ?_⟩
        cases x with
        | returned u => exact ⟨keep a hy u, by rw [← Act.put_comm a v u h2]; exact he⟩
        | panicked c => exact hQ _ _ _ he
        | outgrown => exact he
    | halt x w' =>
      cases x <;> simp only [Oper.uponIn] at h ⊢
      case panic u => exact hQ _ _ _ h
  · rename_i hw
    simp only [hw] at h
    exact ⟨h.1, keep a hy _, by rw [← Act.put_comm a v undef h2]; exact h.2⟩

theorem alone_no {W : List Nat} {i j : Nat} {listed : Array Bool} (hi : i ∈ Region.ready .any ops listed) (hj : j ∈ Region.ready .any ops listed) (hne : i ≠ j) (hW : W.contains i = false) : alone ops W j = false := by
  cases hal : alone ops W j with
  | false => rfl
  | true =>
    exfalso
    obtain ⟨hiu, oi, hoi, halli⟩ := mem_ready.1 hi
    obtain ⟨hju, oj, hoj, hallj⟩ := mem_ready.1 hj
    unfold alone at hal
    rw [List.all_eq_true] at hal
    have h1 := hal i (List.mem_range.2 (Array.getElem?_eq_some_iff.1 hoi).1)
    rw [hoi, hoj] at h1
    simp only [Bool.or_eq_true, beq_iff_eq, hne, false_or, hW, Bool.false_eq_true, Array.any_eq_true', Bool.and_eq_true] at h1
    have clash : ∀ {k : Nat}, listed.getD k true = false → listed.getD k false = true → False := fun {k} a b => by
      rcases Nat.lt_or_ge k listed.size with h | h
      · simp [h] at a b; rw [a] at b; cases b
      · simp [Array.getElem?_eq_none h] at b
    rcases h1 with ⟨x, hx, hb, hon⟩ | ⟨x, hx, hb, hon⟩
    · have := hallj x hx hb
      rw [hon] at this
      exact clash hiu this
    · have := halli x hx hb
      rw [hon] at this
      exact clash hju this

/-- One that yields its value whatever the world may be may be taken first. -/
theorem wpS_first {W : List Nat} {T : World → Prop} (hF : ∀ f, F.fn f) {i : Nat} {oi : Oper} {v : Value} (hi : ops[i]? = some oi) (hsel : ∀ (j : Nat) (o : Oper) cs b, ops[j]? = some o → o.op ≠ .select cs b)
    (hQ : ∀ c a w, Q (.panic c) (a.put oi.dst v) w → Q (.panic c) a w) :
    ∀ (fuel : Nat) (S : World → Prop) (listed : Array Bool) (a : Act) (w : World),
      (∀ j oj, ops[j]? = some oj → j ≠ i → listed.getD j true = false → (∀ x ∈ oj.after, Region.binds .any x = true → x.on ≠ i) → oi.apart ops oj = true) →
      i ∈ Region.ready .any ops listed → Yv P ops (if W.contains i = true then T else S) oi v a → (∀ x, S x → T x) → S w →
      wpS F P ops W T Q S fuel (listed.setIfInBounds i true) (a.put oi.dst v) w → wpS F P ops W T Q S (fuel + 1) listed a w := by
  intro fuel
  induction fuel with
  | zero =>
    intro S listed a w _ hr hy hT hS H
    refine ⟨fun h => (by rw [h] at hr; cases hr), fun j hj => ?_⟩
    by_cases hji : j = i
    · subst hji; exact hy.wpOp hF hi (by split; exact hT _ hS; exact hS) ⟨S, fun _ _ h => h, hT, hS, H⟩
    · have := ready_mono hj hji
      rw [H.1] at this
      cases this
  | succ fuel ih =>
    intro S listed a w hfree hr hy hT hS H
    refine ⟨fun h => (by rw [h] at hr; cases hr), fun j hj => ?_⟩
    by_cases hji : j = i
    · subst hji; exact hy.wpOp hF hi (by split; exact hT _ hS; exact hS) ⟨S, fun _ _ h => h, hT, hS, H⟩
    · have h1 := H.2 j (ready_mono hj hji)
      obtain ⟨hjun, oj, hoj, hall⟩ := mem_ready.1 hj
      have hnot : ∀ x ∈ oj.after, Region.binds .any x = true → x.on ≠ i := fun x hx hb heq => by
        have h1 := hall x hx hb
        have h0 := (mem_ready.1 hr).1
        rw [heq] at h1
        rcases Nat.lt_or_ge i listed.size with h' | h'
        · simp [h'] at h0 h1; rw [h0] at h1; cases h1
        · simp [Array.getElem?_eq_none h'] at h1
      have h2 := wpOpIn_settled hoj (hfree j oj hoj hji hjun hnot) (fun cs b => hsel j oj cs b hoj) hQ hy h1
      have hfree' : ∀ k ok, ops[k]? = some ok → k ≠ i → (listed.setIfInBounds j true).getD k true = false →
          (∀ x ∈ ok.after, Region.binds .any x = true → x.on ≠ i) → oi.apart ops ok = true := fun k ok hk hki hun hno => by
        refine hfree k ok hk hki ?_ hno
        by_cases hjk : j = k
        · subst hjk; exact hjun
        · rw [getD_set_ne true hjk] at hun; exact hun
      refine wpOpIn_mono (fun a' w' h3 => ?_) h2
      obtain ⟨hy3, S', hS', hS'T, hS'w, h4⟩ := h3
      refine ⟨S', hS', hS'T, hS'w, ih S' (listed.setIfInBounds j true) a' w' hfree' (ready_mono hr (Ne.symm hji)) ?_ hS'T hS'w ?_⟩
      · obtain ⟨y1, y2, y3⟩ := hy3
        cases hW : W.contains i with
        | true => rw [hW] at y3; exact ⟨y1, y2, y3⟩
        | false =>
          have hmono := hS' (alone_no hr hj (Ne.symm hji) hW)
          rw [hW] at y3
          exact ⟨y1, y2, y3.imp (fun ⟨p, q⟩ => ⟨p, fun w hw => q w (hmono w hw)⟩) id⟩
      · rw [Array.setIfInBounds_comm _ _ hji]; exact h4
end

/-- A way out by a panic does not hang on the slots. -/
def NoPan (Q : Exit → Act → World → Prop) : Prop := ∀ c d v a w, Q (.panic c) (Act.put a d v) w → Q (.panic c) a w
theorem NoPan.then {n : Act → World → Prop} {Q : Exit → Act → World → Prop} (h : NoPan Q) : NoPan (Exit.then n Q) := fun c d v a w hq => h c d v a w hq
theorem NoPan.blk {i : Nat} {Q : Exit → Act → World → Prop} (h : NoPan Q) : NoPan (Exit.inBlock i Q) := fun c d v a w hq => h c d v a w hq
theorem NoPan.body {P : Program} {fn : Func} {R : Ending → World → Prop} : NoPan (bodyPost P fn R) := fun c d v a w hq => by
  cases d <;> exact hq

def okq (ops : Array Oper) (listed : Array Bool) (i : Nat) : Bool := Region.noSelect ops && Region.free .any ops listed i && (Region.ready .any ops listed).contains i

/-- The walk of a region whose order is open: who has come up; 'L': of what is one's own, that on which what has been looked at hangs. -/
def T0 (g : Os × Array (Nat × ByteArray)) : World → Prop := fun w => HS g [] (fun _ => True) w
theorem HS.t0 {g : Os × Array (Nat × ByteArray)} {own : List SP} {K : PH → Prop} {w : World} (h : HS g own K w) : T0 g w := (h.sublist (List.nil_sublist _)).ent fun _ _ => trivial
/-- What an operation's value may hang on: nothing but the world outside, for those of W. -/
def sel : Bool → List SP → List SP
  | true, _ => []
  | false, l => l
def selK : Bool → (PH → Prop) → PH → Prop
  | true, _ => fun _ => True
  | false, k => k
def WD (C : Cx) (ops : Array Oper) (W : List Nat) (fuel : Nat) (listed : Array Bool) (L : List SP) (KL : PH → Prop) (e : Env) (own : List SP) (K : PH → Prop) (Q : Exit → Act → World → Prop) : Prop :=
  NoPan Q → ∀ a w, Ag C e a → HS C.g own K w → HS C.g L KL w → wpS (FW C.r) C.P ops W (T0 C.g) Q (fun x => HS C.g L KL x) fuel listed a w
/-- One who comes up. -/
def WB (C : Cx) (ops : Array Oper) (W : List Nat) (i : Nat) (fuel : Nat) (listed : Array Bool) (L : List SP) (KL : PH → Prop) (e : Env) (own : List SP) (K : PH → Prop) (Q : Exit → Act → World → Prop) : Prop :=
  NoPan Q → ∀ a w, Ag C e a → HS C.g own K w → HS C.g L KL w →
    wpOpIn (FW C.r) 0 C.P ops Q i (fun a' w' => ∃ S' : World → Prop, (alone ops W i = false → ∀ x, S' x → HS C.g L KL x) ∧ (∀ x, S' x → T0 C.g x) ∧ S' w' ∧ wpS (FW C.r) C.P ops W (T0 C.g) Q S' fuel (listed.setIfInBounds i true) a' w') a w

section
variable {C : Cx} {ops : Array Oper} {W : List Nat} {fuel : Nat} {listed : Array Bool} {L : List SP} {KL : PH → Prop} {e : Env} {own : List SP} {K : PH → Prop} {Q : Exit → Act → World → Prop}
  {op : Op} {ty : TypeId} {pos : String} {af : Array Edge}

theorem WC.draw {id : Nat} (L : List SP) (KL : PH → Prop) (hm : C.P.follows .mixedOrders = true) (hq : NoPan Q) (hi : Imp own K L KL)
    (h : WD C ops W ops.size (Array.replicate ops.size false) L KL e own K Q) : WC C (.region id ops true) e own K Q := fun a w hA hS =>
  have hSd : HS C.g own K { w with drawn := w.drawn + 1 } := hS.same rfl rfl rfl
  wpIn_region_any hm (wpAnyIn_of_wpS _ _ _ _ _ (h hq a _ hA hSd (hi _ _ hSd)))
theorem WC.draw1 {id : Nat} (hm : C.P.follows .mixedOrders = true) (hq : NoPan Q) (h : WD C ops W ops.size (Array.replicate ops.size false) own K e own K Q) : WC C (.region id ops true) e own K Q :=
  WC.draw own K hm hq (Imp.refl _ _) h

theorem WD.first {i : Nat} {o : Oper} {v : Value} {e' : Env} (hi : ops[i]? = some o) (hok : okq ops listed i = true)
    (hy : ∀ a, Ag C e a → Yv C.P ops (fun x => HS C.g (sel (W.contains i) L) (selK (W.contains i) KL) x) o v a) (he : ∀ a, Ag C e a → Ag C e' (a.put o.dst v))
    (h : WD C ops W fuel (listed.setIfInBounds i true) L KL e' own K Q) : WD C ops W (fuel + 1) listed L KL e own K Q := fun hQ a w hA hS hL => by
  simp only [okq, Bool.and_eq_true] at hok
  obtain ⟨⟨h1, h2⟩, h3⟩ := hok
  exact wpS_first (wide_fn C.r) hi (Region.noSelect_spec h1) (fun c a w => hQ c _ _ a w) fuel _ listed a w (Region.free_spec hi h2) (by simpa using h3) (by
      have e1 : (if W.contains i = true then T0 C.g else fun x => HS C.g L KL x) = fun x => HS C.g (sel (W.contains i) L) (selK (W.contains i) KL) x := by
        cases W.contains i <;> rfl
      rw [e1]; exact hy a hA) (fun x hx => HS.t0 hx) hL
    (h hQ _ _ (he a hA) hS hL)

theorem Yv.of {S : World → Prop} {a : Act} {o : Oper} {v : Value} (hd : ∀ c, o.op ≠ .defer c) (hs : ∀ cs b, o.op ≠ .select cs b) (hw : Region.wanted o (yielded ops a.tmps) = true)
    (h : ∀ w, S w → (execOp a.eval (op0 o.op o.type)).run C.P w = .ok (.value v) w) : Yv C.P ops S o v a := ⟨hd, hs, .inl ⟨hw, fun w hS => by rw [exec_op0]; exact h w hS⟩⟩

theorem noSel {i : Nat} {o : Oper} (hi : ops[i]? = some o) (hok : okq ops listed i = true) : ∀ cs b, o.op ≠ .select cs b := by
  simp only [okq, Bool.and_eq_true] at hok
  exact fun cs b => Region.noSelect_spec hok.1.1 i o cs b hi

theorem WD.q (i : Nat) {d : Nat} {v : Value} (hi : ops[i]? = some ⟨some d, op, ty, pos, af, none⟩) (hok : okq ops listed i = true) (hq : QO C op ty e (sel (W.contains i) L) (selK (W.contains i) KL) v) (hd : Nat.blt d C.N = true)
    (h : WD C ops W fuel (listed.setIfInBounds i true) L KL ((d, v) :: e) own K Q) : WD C ops W (fuel + 1) listed L KL e own K Q :=
  WD.first hi hok (fun a hA => Yv.of hq.1 (noSel hi hok) rfl fun w hS => hq.2 a w hA hS) (fun a hA => hA.put v hd) h
theorem WD.qn (i : Nat) {v : Value} (hi : ops[i]? = some ⟨none, op, ty, pos, af, none⟩) (hok : okq ops listed i = true) (hq : QO C op ty e (sel (W.contains i) L) (selK (W.contains i) KL) v)
    (h : WD C ops W fuel (listed.setIfInBounds i true) L KL e own K Q) : WD C ops W (fuel + 1) listed L KL e own K Q :=
  WD.first hi hok (fun a hA => Yv.of hq.1 (noSel hi hok) rfl fun w hS => hq.2 a w hA hS) (fun a hA => hA) h
theorem WD.qon (i : Nat) {d j dj : Nat} {b b' : Bool} {v : Value} (hi : ops[i]? = some ⟨some d, op, ty, pos, af, some (j, b)⟩) (hok : okq ops listed i = true) (hj : dstOf ops j = some dj) (hb : look e dj = some (.bool b')) (hbb : b' = b)
    (hq : QO C op ty e (sel (W.contains i) L) (selK (W.contains i) KL) v) (hd : Nat.blt d C.N = true) (h : WD C ops W fuel (listed.setIfInBounds i true) L KL ((d, v) :: e) own K Q) : WD C ops W (fuel + 1) listed L KL e own K Q :=
  WD.first hi hok (fun a hA => Yv.of hq.1 (noSel hi hok) (by simp [Region.wanted, yielded_of hA hj hb, hbb]) fun w hS => hq.2 a w hA hS) (fun a hA => hA.put v hd) h
/-- The guard says no: whoever it is, it may be passed by first. -/
theorem WD.qoff (i : Nat) {d j dj : Nat} {b b' : Bool} (hi : ops[i]? = some ⟨some d, op, ty, pos, af, some (j, b)⟩) (hok : okq ops listed i = true) (hnd : ∀ c, op ≠ .defer c) (hj : dstOf ops j = some dj) (hb : look e dj = some (.bool b')) (hbb : b' = !b)
    (hd : Nat.blt d C.N = true) (h : WD C ops W fuel (listed.setIfInBounds i true) L KL ((d, undef) :: e) own K Q) : WD C ops W (fuel + 1) listed L KL e own K Q :=
  WD.first hi hok (fun a hA => ⟨hnd, noSel hi hok, .inr ⟨by simp [Region.wanted, yielded_of hA hj hb, hbb], rfl⟩⟩) (fun a hA => hA.put undef hd) h
theorem WD.qoffn (i : Nat) {j dj : Nat} {b b' : Bool} (hi : ops[i]? = some ⟨none, op, ty, pos, af, some (j, b)⟩) (hok : okq ops listed i = true) (hnd : ∀ c, op ≠ .defer c) (hj : dstOf ops j = some dj) (hb : look e dj = some (.bool b')) (hbb : b' = !b)
    (h : WD C ops W fuel (listed.setIfInBounds i true) L KL e own K Q) : WD C ops W (fuel + 1) listed L KL e own K Q :=
  WD.first hi hok (fun a hA => ⟨hnd, noSel hi hok, .inr ⟨by simp [Region.wanted, yielded_of hA hj hb, hbb], rfl⟩⟩) (fun a hA => hA) h

theorem WD.split (d : Nat) {b : Bool} (hb : look e d = some (.bool b)) (ht : b = true → WD C ops W fuel listed L KL e own K Q) (hf : b = false → WD C ops W fuel listed L KL e own K Q) : WD C ops W fuel listed L KL e own K Q := by
  cases b with
  | true => exact ht rfl
  | false => exact hf rfl
theorem WL.split {l : List Oper} (d : Nat) {b : Bool} (hb : look e d = some (.bool b)) (ht : b = true → WL C ops l e own K Q) (hf : b = false → WL C ops l e own K Q) : WL C ops l e own K Q := by
  cases b with
  | true => exact ht rfl
  | false => exact hf rfl

theorem WD.done (hr : Region.ready .any ops listed = []) (h : AT C .normal e own K Q) : WD C ops W fuel listed L KL e own K Q := fun _ a w hA hS _ => by
  cases fuel with
  | zero => exact ⟨hr, h a w hA hS⟩
  | succ n => exact ⟨fun _ => h a w hA hS, by rw [hr]; simp⟩

theorem WD.one (i : Nat) (hr : Region.ready .any ops listed = [i]) (h : WB C ops W i fuel listed L KL e own K Q) : WD C ops W (fuel + 1) listed L KL e own K Q := fun hQ a w hA hS hL =>
  ⟨fun h0 => (by rw [hr] at h0; cases h0), fun k hk => by rw [hr] at hk; simp at hk; subst hk; exact h hQ a w hA hS hL⟩
theorem WD.two (i j : Nat) (hr : Region.ready .any ops listed = [i, j]) (h : WB C ops W i fuel listed L KL e own K Q) (h2 : WB C ops W j fuel listed L KL e own K Q) : WD C ops W (fuel + 1) listed L KL e own K Q := fun hQ a w hA hS hL =>
  ⟨fun h0 => (by rw [hr] at h0; cases h0), fun k hk => by
    rw [hr] at hk; simp at hk
    rcases hk with rfl | rfl
    · exact h hQ a w hA hS hL
    · exact h2 hQ a w hA hS hL⟩

theorem WB.eff {i d : Nat} {Φ : Value → List SP → (PH → Prop) → Prop} (hi : ops[i]? = some ⟨some d, op, ty, pos, af, none⟩) (hq : EO C op ty e own K Φ) (hd : Nat.blt d C.N = true)
    (h : ∀ v own' K', Φ v own' K' → (alone ops W i = true ∨ Imp own' K' L KL) ∧ WD C ops W fuel (listed.setIfInBounds i true) own' K' ((d, v) :: e) own' K' Q) : WB C ops W i fuel listed L KL e own K Q := fun hQ a w hA hS hL => by
  unfold wpOpIn
  simp only [hi]
  rw [if_pos (by rfl)]
  refine wpIn_of_e hq hA hS rfl rfl fun v own' K' w' hΦ hS' => ?_
  obtain ⟨h1, h2⟩ := h v own' K' hΦ
  refine ⟨fun x => HS C.g own' K' x, fun hal x hx => ?_, fun x hx => HS.t0 hx, hS', h2 hQ _ _ (hA.put v hd) hS' hS'⟩
  rcases h1 with h1 | h1
  · rw [h1] at hal; cases hal
  · exact h1 _ _ hx
theorem WB.effn {i : Nat} {Φ : Value → List SP → (PH → Prop) → Prop} (hi : ops[i]? = some ⟨none, op, ty, pos, af, none⟩) (hq : EO C op ty e own K Φ)
    (h : ∀ v own' K', Φ v own' K' → (alone ops W i = true ∨ Imp own' K' L KL) ∧ WD C ops W fuel (listed.setIfInBounds i true) own' K' e own' K' Q) : WB C ops W i fuel listed L KL e own K Q := fun hQ a w hA hS hL => by
  unfold wpOpIn
  simp only [hi]
  rw [if_pos (by rfl)]
  refine wpIn_of_e hq hA hS rfl rfl fun v own' K' w' hΦ hS' => ?_
  obtain ⟨h1, h2⟩ := h v own' K' hΦ
  refine ⟨fun x => HS C.g own' K' x, fun hal x hx => ?_, fun x hx => HS.t0 hx, hS', h2 hQ _ _ hA hS' hS'⟩
  rcases h1 with h1 | h1
  · rw [h1] at hal; cases hal
  · exact h1 _ _ hx
theorem WB.effon {i d j dj : Nat} {b b' : Bool} {Φ : Value → List SP → (PH → Prop) → Prop} (hi : ops[i]? = some ⟨some d, op, ty, pos, af, some (j, b)⟩) (hj : dstOf ops j = some dj) (hb : look e dj = some (.bool b')) (hbb : b' = b)
    (hq : EO C op ty e own K Φ) (hd : Nat.blt d C.N = true)
    (h : ∀ v own' K', Φ v own' K' → (alone ops W i = true ∨ Imp own' K' L KL) ∧ WD C ops W fuel (listed.setIfInBounds i true) own' K' ((d, v) :: e) own' K' Q) : WB C ops W i fuel listed L KL e own K Q := fun hQ a w hA hS hL => by
  unfold wpOpIn
  simp only [hi]
  rw [if_pos (by simp [Region.wanted, yielded_of hA hj hb, hbb])]
  refine wpIn_of_e hq hA hS rfl rfl fun v own' K' w' hΦ hS' => ?_
  obtain ⟨h1, h2⟩ := h v own' K' hΦ
  refine ⟨fun x => HS C.g own' K' x, fun hal x hx => ?_, fun x hx => HS.t0 hx, hS', h2 hQ _ _ (hA.put v hd) hS' hS'⟩
  rcases h1 with h1 | h1
  · rw [h1] at hal; cases hal
  · exact h1 _ _ hx
end
end Go.Proofs.Sl
