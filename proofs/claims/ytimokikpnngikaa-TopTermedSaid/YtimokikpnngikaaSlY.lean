/- Regions whose order is open, with layers for what is yielded under guards. -/
import Derived.Test.YtimokikpnngikaaSlX
namespace Go.Proofs.Sl
open Go
section
variable (C : Cx)
def WDy (ops : Array Oper) (W : List Nat) (fuel : Nat) (listed : Array Bool) (L : List SP) (KL : PH → Prop) (G : List Ly) (e : Env) (own : List SP) (K : PH → Prop) (Q : Exit → Act → World → Prop) : Prop :=
  NoPan Q → ∀ a w, Ag C e a → GA C ops e G a → HS C.g own K w → HS C.g L KL w → wpS (FW C.r) C.P ops W (T0 C.g) Q (fun x => HS C.g L KL x) fuel listed a w
def WSy (ops : Array Oper) (W : List Nat) (fuel : Nat) (listed : Array Bool) (π : List (Nat × Nat)) (fin : Bool) (L : List SP) (KL : PH → Prop) (G : List Ly) (e : Env) (own : List SP) (K : PH → Prop) (Q : Exit → Act → World → Prop) : Prop :=
  Sl.sched ops W fin listed π = true → WDy C ops W fuel listed L KL G e own K Q
end
section
variable {C : Cx} {ops : Array Oper} {W : List Nat} {fuel : Nat} {listed : Array Bool} {π : List (Nat × Nat)} {fin : Bool} {L : List SP} {KL : PH → Prop} {G : List Ly} {e : Env} {own own' : List SP} {K K' : PH → Prop} {Q : Exit → Act → World → Prop}
  {op : Op} {ty : TypeId} {pos : String} {af : Array Edge} {Z : Ly} {d : Nat} {v : Value}
theorem WC.drawY {id n : Nat} (W : List Nat) (L : List SP) (KL : PH → Prop) (π : List (Nat × Nat)) (hm : C.P.follows .mixedOrders = true) (hq : NoPan Q) (hi : Imp own K L KL) (hn : ops.size = n) (hs : Sl.sched ops W true (Array.replicate n false) π = true)
    (h : WSy C ops W n (Array.replicate n false) π true L KL [] e own K Q) : WC C (.region id ops true) e own K Q :=
  WC.draw L KL hm hq hi (by rw [hn]; exact fun hQ a w hA hS hL => h hs hQ a w hA trivial hS hL)
theorem WSy.done (h : AT C .normal e own K Q) : WSy C ops W fuel listed [] true L KL G e own K Q := fun hs hQ a w hA hG hS hL =>
  WD.done (W := W) (fuel := fuel) (L := L) (KL := KL) (by simpa [Sl.sched] using hs) h hQ a w hA hS hL
theorem WSy.open0 (j dj : Nat) (want : Bool) {x : Bool} (hj : dstOf ops j = some dj) (hb : look e dj = some (.bool x)) (h : WSy C ops W fuel listed π fin L KL (⟨x == want, j, dj, want, [], []⟩ :: G) e own K Q) : WSy C ops W fuel listed π fin L KL G e own K Q :=
  fun hs hQ a w hA hG hS hL => h hs hQ a w hA ⟨GL.open0 hA hj hb, hG⟩ hS hL
theorem WSy.openN (i j dj : Nat) (want : Bool) {x : Bool} (hi : G[i]? = some Z) (hj : dstOf ops j = some dj) (hb : look Z.own dj = some (.bool x)) (h : WSy C ops W fuel listed π fin L KL (⟨Z.c && (x == want), j, dj, want, Z.own ++ Z.up, []⟩ :: G) e own K Q) : WSy C ops W fuel listed π fin L KL G e own K Q :=
  fun hs hQ a w hA hG hS hL => h hs hQ a w hA ⟨(hG.at (i := i) hi).openN hj hb, hG⟩ hS hL
/-- One that only yields a value comes first. -/
theorem wpS_q {i : Nat} {o : Oper} {u : Value} {a : Act} {w : World} (hi : ops[i]? = some o) (hok : okq ops listed i = true) (hQ : NoPan Q) (hy : Yv C.P ops (fun x => HS C.g (sel (W.contains i) L) (selK (W.contains i) KL) x) o u a) (hL : HS C.g L KL w)
    (h : wpS (FW C.r) C.P ops W (T0 C.g) Q (fun x => HS C.g L KL x) fuel (listed.setIfInBounds i true) (a.put o.dst u) w) : wpS (FW C.r) C.P ops W (T0 C.g) Q (fun x => HS C.g L KL x) (fuel + 1) listed a w := by
  simp only [okq, Bool.and_eq_true] at hok
  obtain ⟨⟨h1, h2⟩, h3⟩ := hok
  exact wpS_first (wide_fn C.r) hi (Region.noSelect_spec h1) (fun c a w => hQ c _ _ a w) fuel _ listed a w (Region.free_spec hi h2) (by simpa using h3) (by
      have e1 : (if W.contains i = true then T0 C.g else fun x => HS C.g L KL x) = fun x => HS C.g (sel (W.contains i) L) (selK (W.contains i) KL) x := by
        cases W.contains i <;> rfl
      rw [e1]; exact hy) (fun x hx => HS.t0 hx) hL h
theorem sched0 {i : Nat} (hs : Sl.sched ops W fin listed ((i, 0) :: π) = true) : okq ops listed i = true ∧ Sl.sched ops W fin (listed.setIfInBounds i true) π = true := by
  rw [Sl.sched, Bool.and_eq_true] at hs; exact hs
theorem sched1 {i : Nat} (hs : Sl.sched ops W fin listed ((i, 1) :: π) = true) : (Region.ready .any ops listed = [i] ∧ alone ops W i = true) ∧ Sl.sched ops W fin (listed.setIfInBounds i true) π = true := by
  rw [Sl.sched, Bool.and_eq_true, Bool.and_eq_true] at hs; exact ⟨⟨by simpa using hs.1.1, hs.1.2⟩, hs.2⟩
theorem WSy.q (i : Nat) (hi : ops[i]? = some ⟨some d, op, ty, pos, af, none⟩) (hq : QO C op ty e (sel (W.contains i) L) (selK (W.contains i) KL) v) (hd : Nat.blt d C.N = true) (hf : fresh d G = true)
    (h : WSy C ops W fuel (listed.setIfInBounds i true) π fin L KL G ((d, v) :: e) own K Q) : WSy C ops W (fuel + 1) listed ((i, 0) :: π) fin L KL G e own K Q := fun hs hQ a w hA hG hS hL => by
  have hs := sched0 hs
  exact wpS_q hi hs.1 hQ (Yv.of hq.1 (noSel hi hs.1) rfl fun w hS => hq.2 a w hA hS) hL (h hs.2 hQ _ _ (hA.put v hd) (hG.put hd v hf) hS hL)
theorem WSy.qn (i : Nat) (hi : ops[i]? = some ⟨none, op, ty, pos, af, none⟩) (hq : QO C op ty e (sel (W.contains i) L) (selK (W.contains i) KL) v)
    (h : WSy C ops W fuel (listed.setIfInBounds i true) π fin L KL G e own K Q) : WSy C ops W (fuel + 1) listed ((i, 0) :: π) fin L KL G e own K Q := fun hs hQ a w hA hG hS hL => by
  have hs := sched0 hs
  exact wpS_q hi hs.1 hQ (Yv.of hq.1 (noSel hi hs.1) rfl fun w hS => hq.2 a w hA hS) hL (h hs.2 hQ _ _ hA hG hS hL)
theorem WSy.qon (i : Nat) {j dj : Nat} {b b' : Bool} (hi : ops[i]? = some ⟨some d, op, ty, pos, af, some (j, b)⟩) (hj : dstOf ops j = some dj) (hb : look e dj = some (.bool b')) (hbb : b' = b) (hq : QO C op ty e (sel (W.contains i) L) (selK (W.contains i) KL) v) (hd : Nat.blt d C.N = true) (hf : fresh d G = true)
    (h : WSy C ops W fuel (listed.setIfInBounds i true) π fin L KL G ((d, v) :: e) own K Q) : WSy C ops W (fuel + 1) listed ((i, 0) :: π) fin L KL G e own K Q := fun hs hQ a w hA hG hS hL => by
  have hs := sched0 hs
  exact wpS_q hi hs.1 hQ (Yv.of hq.1 (noSel hi hs.1) (by simp [Region.wanted, yielded_of hA hj hb, hbb]) fun w hS => hq.2 a w hA hS) hL (h hs.2 hQ _ _ (hA.put v hd) (hG.put hd v hf) hS hL)
theorem WSy.qoff (i : Nat) {j dj : Nat} {b b' : Bool} (hi : ops[i]? = some ⟨some d, op, ty, pos, af, some (j, b)⟩) (hnd : ∀ c, op ≠ .defer c) (hj : dstOf ops j = some dj) (hb : look e dj = some (.bool b')) (hbb : b' = !b) (hd : Nat.blt d C.N = true) (hf : fresh d G = true)
    (h : WSy C ops W fuel (listed.setIfInBounds i true) π fin L KL G ((d, undef) :: e) own K Q) : WSy C ops W (fuel + 1) listed ((i, 0) :: π) fin L KL G e own K Q := fun hs hQ a w hA hG hS hL => by
  have hs := sched0 hs
  exact wpS_q hi hs.1 hQ ⟨hnd, noSel hi hs.1, .inr ⟨by simp [Region.wanted, yielded_of hA hj hb, hbb], rfl⟩⟩ hL (h hs.2 hQ _ _ (hA.put undef hd) (hG.put hd undef hf) hS hL)
/-- Under a layer's guard. -/
theorem WSy.gen (i k : Nat) {j : Nat} {want : Bool} (hi : ops[i]? = some ⟨some d, op, ty, pos, af, some (j, want)⟩) (hnd : ∀ c, op ≠ .defer c) (hz : G[k]? = some Z) (hj : Z.j = j) (hw : Z.want = want) (hd : Nat.blt d C.N = true) (hk : keyIn d e = false) (hf : fresh d G = true)
    (hr : ∀ a, Ag C e a → GA C ops e G a → Z.c = true → ∀ w, HS C.g (sel (W.contains i) L) (selK (W.contains i) KL) w → (execOp a.eval (op0 op ty)).run C.P w = .ok (.value v) w)
    (h : WSy C ops W fuel (listed.setIfInBounds i true) π fin L KL (G.set k { Z with own := (d, v) :: Z.own }) e own K Q) : WSy C ops W (fuel + 1) listed ((i, 0) :: π) fin L KL G e own K Q := fun hs hQ a w hA hG hS hL => by
  have hs := sched0 hs
  have hZ := hG.at (i := k) hz
  have hwa := wanted_ly (o := ⟨some d, op, ty, pos, af, some (j, want)⟩) hZ hj hw rfl
  cases hc : Z.c with
  | true =>
    exact wpS_q hi hs.1 hQ (Yv.of hnd (noSel hi hs.1) (by rw [hwa, hc]) fun w hS => hr a hA hG hc w hS) hL
      (h hs.2 hQ _ _ (hA.skip hk v) (hG.own hA hk hd hz hf (fun _ => rfl) (fun h' => by rw [hc] at h'; cases h')) hS hL)
  | false =>
    exact wpS_q hi hs.1 hQ ⟨hnd, noSel hi hs.1, .inr ⟨by rw [hwa, hc], rfl⟩⟩ hL
      (h hs.2 hQ _ _ (hA.skip hk undef) (hG.own hA hk hd hz hf (fun h' => by rw [hc] at h'; cases h') (fun _ => rfl)) hS hL)
theorem WSy.qg (i k : Nat) {j : Nat} {want : Bool} (hi : ops[i]? = some ⟨some d, op, ty, pos, af, some (j, want)⟩) (hz : G[k]? = some Z) (hj : Z.j = j) (hw : Z.want = want) (hq : QO C op ty (Z.env e) (sel (W.contains i) L) (selK (W.contains i) KL) v) (hd : Nat.blt d C.N = true) (hk : keyIn d e = false) (hf : fresh d G = true)
    (h : WSy C ops W fuel (listed.setIfInBounds i true) π fin L KL (G.set k { Z with own := (d, v) :: Z.own }) e own K Q) : WSy C ops W (fuel + 1) listed ((i, 0) :: π) fin L KL G e own K Q :=
  WSy.gen i k hi hq.1 hz hj hw hd hk hf (fun a _ hG hc w hS => hq.2 a w ((hG.at (i := k) hz).on hc) hS) h
theorem WSy.pickN (i k : Nat) {j : Nat} {want : Bool} {x y z : Operand} (hi : ops[i]? = some ⟨some d, .pick x y z, ty, pos, af, some (j, want)⟩) (hz : G[k]? = some Z) (hj : Z.j = j) (hw : Z.want = want) (hd : Nat.blt d C.N = true) (hk : keyIn d e = false) (hf : fresh d G = true)
    (hp : ∀ a, GA C ops e G a → Z.c = true → ∃ p, a.eval x = .bool p ∧ (if p then a.eval y else a.eval z) = v)
    (h : WSy C ops W fuel (listed.setIfInBounds i true) π fin L KL (G.set k { Z with own := (d, v) :: Z.own }) e own K Q) : WSy C ops W (fuel + 1) listed ((i, 0) :: π) fin L KL G e own K Q :=
  WSy.gen i k hi (by simp) hz hj hw hd hk hf (fun a _ hG hc w _ => by obtain ⟨p, h1, h2⟩ := hp a hG hc; exact pick_run h1 h2) h
theorem WSy.pick0 (i : Nat) {x y z : Operand} (hi : ops[i]? = some ⟨some d, .pick x y z, ty, pos, af, none⟩) (hd : Nat.blt d C.N = true) (hf : fresh d G = true)
    (hp : ∀ a, Ag C e a → GA C ops e G a → ∃ p, a.eval x = .bool p ∧ (if p then a.eval y else a.eval z) = v)
    (h : WSy C ops W fuel (listed.setIfInBounds i true) π fin L KL G ((d, v) :: e) own K Q) : WSy C ops W (fuel + 1) listed ((i, 0) :: π) fin L KL G e own K Q := fun hs hQ a w hA hG hS hL => by
  have hs := sched0 hs
  obtain ⟨p, h1, h2⟩ := hp a hA hG
  exact wpS_q hi hs.1 hQ (Yv.of (by simp) (noSel hi hs.1) rfl fun w _ => pick_run h1 h2) hL (h hs.2 hQ _ _ (hA.put v hd) (hG.put hd v hf) hS hL)
theorem and0P (k : Nat) {x y z : Operand} {p b : Bool} (hc : ev e x = some (.bool p)) (hy : ev e z = some (.bool false)) (hz : G[k]? = some Z) (hZc : Z.c = (p == true)) (hx : ev (Z.env e) y = some (.bool b)) :
    ∀ a, Ag C e a → GA C ops e G a → ∃ q, a.eval x = .bool q ∧ (if q then a.eval y else a.eval z) = .bool (p && b) := fun a hA hG => ⟨p, pickA hA hc hy (hG.at (i := k) hz) (fun hp => by rw [hZc, hp]; rfl) hx⟩
theorem or0P (k : Nat) {x y z : Operand} {p b : Bool} (hc : ev e x = some (.bool p)) (hy : ev e y = some (.bool true)) (hz : G[k]? = some Z) (hZc : Z.c = (p == false)) (hx : ev (Z.env e) z = some (.bool b)) :
    ∀ a, Ag C e a → GA C ops e G a → ∃ q, a.eval x = .bool q ∧ (if q then a.eval y else a.eval z) = .bool (p || b) := fun a hA hG => ⟨p, pickO hA hc hy (hG.at (i := k) hz) (fun hp => by rw [hZc, hp]; rfl) hx⟩
/-- An effect, alone ready, ahead of, or behind, everybody. -/
theorem WSy.eff (i : Nat) {Φ : Value → List SP → (PH → Prop) → Prop} (hi : ops[i]? = some ⟨some d, op, ty, pos, af, none⟩) (hq : EO C op ty e own K Φ) (hd : Nat.blt d C.N = true) (hf : fresh d G = true)
    (h : ∀ v own' K', Φ v own' K' → WSy C ops W fuel (listed.setIfInBounds i true) π fin own' K' G ((d, v) :: e) own' K' Q) : WSy C ops W (fuel + 1) listed ((i, 1) :: π) fin L KL G e own K Q := fun hs hQ a w hA hG hS hL => by
  have hs := sched1 hs
  refine ⟨fun h0 => (by rw [hs.1.1] at h0; cases h0), fun k hk => ?_⟩
  rw [hs.1.1] at hk; simp at hk; subst hk
  unfold wpOpIn
  simp only [hi]
  rw [if_pos (by rfl)]
  refine wpIn_of_e hq hA hS rfl rfl fun v own' K' w' hΦ hS' => ?_
  exact ⟨fun x => HS C.g own' K' x, fun hal => (by rw [hs.1.2] at hal; cases hal), fun x hx => HS.t0 hx, hS', h v own' K' hΦ hs.2 hQ _ _ (hA.put v hd) (hG.put hd v hf) hS' hS'⟩
theorem WSy.effn (i : Nat) {Φ : Value → List SP → (PH → Prop) → Prop} (hi : ops[i]? = some ⟨none, op, ty, pos, af, none⟩) (hq : EO C op ty e own K Φ)
    (h : ∀ v own' K', Φ v own' K' → WSy C ops W fuel (listed.setIfInBounds i true) π fin own' K' G e own' K' Q) : WSy C ops W (fuel + 1) listed ((i, 1) :: π) fin L KL G e own K Q := fun hs hQ a w hA hG hS hL => by
  have hs := sched1 hs
  refine ⟨fun h0 => (by rw [hs.1.1] at h0; cases h0), fun k hk => ?_⟩
  rw [hs.1.1] at hk; simp at hk; subst hk
  unfold wpOpIn
  simp only [hi]
  rw [if_pos (by rfl)]
  refine wpIn_of_e hq hA hS rfl rfl fun v own' K' w' hΦ hS' => ?_
  exact ⟨fun x => HS C.g own' K' x, fun hal => (by rw [hs.1.2] at hal; cases hal), fun x hx => HS.t0 hx, hS', h v own' K' hΦ hs.2 hQ _ _ hA hG hS' hS'⟩
/-- .. that is alone ready, though others may come up in any order with it: what has been looked at hangs on L, and L stays. -/
theorem WSy.effL (i : Nat) {Φ : Value → List SP → (PH → Prop) → Prop} (hi : ops[i]? = some ⟨some d, op, ty, pos, af, none⟩) (hq : EO C op ty e own K Φ) (hd : Nat.blt d C.N = true) (hf : fresh d G = true)
    (h : ∀ v own' K', Φ v own' K' → Imp own' K' L KL ∧ WSy C ops W fuel (listed.setIfInBounds i true) π fin L KL G ((d, v) :: e) own' K' Q) : WSy C ops W (fuel + 1) listed ((i, 2) :: π) fin L KL G e own K Q := fun hs hQ a w hA hG hS hL => by
  have hs := sched2 hs
  refine ⟨fun h0 => (by rw [hs.1] at h0; cases h0), fun k hk => ?_⟩
  rw [hs.1] at hk; simp at hk; subst hk
  unfold wpOpIn
  simp only [hi]
  rw [if_pos (by rfl)]
  refine wpIn_of_e hq hA hS rfl rfl fun v own' K' w' hΦ hS' => ?_
  obtain ⟨h1, h2⟩ := h v own' K' hΦ
  exact ⟨fun x => HS C.g L KL x, fun _ x hx => hx, fun x hx => HS.t0 hx, h1 _ _ hS', h2 hs.2 hQ _ _ (hA.put v hd) (hG.put hd v hf) hS' (h1 _ _ hS')⟩
theorem WSy.effnL (i : Nat) {Φ : Value → List SP → (PH → Prop) → Prop} (hi : ops[i]? = some ⟨none, op, ty, pos, af, none⟩) (hq : EO C op ty e own K Φ)
    (h : ∀ v own' K', Φ v own' K' → Imp own' K' L KL ∧ WSy C ops W fuel (listed.setIfInBounds i true) π fin L KL G e own' K' Q) : WSy C ops W (fuel + 1) listed ((i, 2) :: π) fin L KL G e own K Q := fun hs hQ a w hA hG hS hL => by
  have hs := sched2 hs
  refine ⟨fun h0 => (by rw [hs.1] at h0; cases h0), fun k hk => ?_⟩
  rw [hs.1] at hk; simp at hk; subst hk
  unfold wpOpIn
  simp only [hi]
  rw [if_pos (by rfl)]
  refine wpIn_of_e hq hA hS rfl rfl fun v own' K' w' hΦ hS' => ?_
  obtain ⟨h1, h2⟩ := h v own' K' hΦ
  exact ⟨fun x => HS C.g L KL x, fun _ x hx => hx, fun x hx => HS.t0 hx, h1 _ _ hS', h2 hs.2 hQ _ _ hA hG hS' (h1 _ _ hS')⟩
/-- A call under a layer's guard that only yields a value. -/
theorem WSy.eg (i k : Nat) {j : Nat} {want : Bool} (hi : ops[i]? = some ⟨some d, op, ty, pos, af, some (j, want)⟩) (hz : G[k]? = some Z) (hj : Z.j = j) (hw : Z.want = want) (hq : EO C op ty (Z.env e) own K (Ret v own K)) (hd : Nat.blt d C.N = true) (hk : keyIn d e = false) (hf : fresh d G = true) (hI : Imp own K L KL)
    (h : WSy C ops W fuel (listed.setIfInBounds i true) π fin L KL (G.set k { Z with own := (d, v) :: Z.own }) e own K Q) : WSy C ops W (fuel + 1) listed ((i, 2) :: π) fin L KL G e own K Q := fun hs hQ a w hA hG hS hL => by
  have hs := sched2 hs
  have hZ := hG.at (i := k) hz
  have hwa := wanted_ly (o := ⟨some d, op, ty, pos, af, some (j, want)⟩) hZ hj hw rfl
  refine ⟨fun h0 => (by rw [hs.1] at h0; cases h0), fun k' hk' => ?_⟩
  rw [hs.1] at hk'; simp at hk'; subst hk'
  unfold wpOpIn
  simp only [hi, hwa]
  cases hc : Z.c with
  | true =>
    rw [if_pos rfl]
    refine wpIn_of_e hq (hZ.on hc) hS rfl rfl fun v' own' K' w' hΦ hS' => ?_
    obtain ⟨rfl, rfl, rfl⟩ := hΦ
    exact ⟨fun x => HS C.g L KL x, fun _ x hx => hx, fun x hx => HS.t0 hx, hI _ _ hS', h hs.2 hQ _ _ (hA.skip hk v) (hG.own hA hk hd hz hf (fun _ => rfl) (fun h' => by rw [hc] at h'; cases h')) hS' (hI _ _ hS')⟩
  | false =>
    rw [if_neg (by simp)]
    exact ⟨fun f _ => wide_fn C.r f, fun x => HS C.g L KL x, fun _ x hx => hx, fun x hx => HS.t0 hx, hL, h hs.2 hQ _ _ (hA.skip hk undef) (hG.own hA hk hd hz hf (fun h' => by rw [hc] at h'; cases h') (fun _ => rfl)) hS hL⟩
theorem WSy.effonL (i : Nat) {j dj : Nat} {b b' : Bool} {Φ : Value → List SP → (PH → Prop) → Prop} (hi : ops[i]? = some ⟨some d, op, ty, pos, af, some (j, b)⟩) (hj : dstOf ops j = some dj) (hb : look e dj = some (.bool b')) (hbb : b' = b) (hq : EO C op ty e own K Φ) (hd : Nat.blt d C.N = true) (hf : fresh d G = true)
    (h : ∀ v own' K', Φ v own' K' → Imp own' K' L KL ∧ WSy C ops W fuel (listed.setIfInBounds i true) π fin L KL G ((d, v) :: e) own' K' Q) : WSy C ops W (fuel + 1) listed ((i, 2) :: π) fin L KL G e own K Q := fun hs hQ a w hA hG hS hL => by
  have hs := sched2 hs
  refine ⟨fun h0 => (by rw [hs.1] at h0; cases h0), fun k hk => ?_⟩
  rw [hs.1] at hk; simp at hk; subst hk
  unfold wpOpIn
  simp only [hi]
  rw [if_pos (by simp [Region.wanted, yielded_of hA hj hb, hbb])]
  refine wpIn_of_e hq hA hS rfl rfl fun v own' K' w' hΦ hS' => ?_
  obtain ⟨h1, h2⟩ := h v own' K' hΦ
  exact ⟨fun x => HS C.g L KL x, fun _ x hx => hx, fun x hx => HS.t0 hx, h1 _ _ hS', h2 hs.2 hQ _ _ (hA.put v hd) (hG.put hd v hf) hS' (h1 _ _ hS')⟩
end
end Go.Proofs.Sl
