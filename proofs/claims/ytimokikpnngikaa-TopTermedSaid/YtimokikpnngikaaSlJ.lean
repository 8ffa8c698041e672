/- Regions whose order is open, along a schedule that is checked once. -/
import Derived.Test.YtimokikpnngikaaSlI
namespace Go.Proofs.Sl
open Go

/-- Who comes up after whom: 0: nothing but a value; 1: the only one ready, and ahead of, or behind, everybody; 2: the only one ready. -/
def sched (ops : Array Oper) (W : List Nat) (fin : Bool) : Array Bool → List (Nat × Nat) → Bool
  | listed, [] => !fin || (Region.ready .any ops listed).isEmpty
  | listed, (i, 0) :: r => okq ops listed i && sched ops W fin (listed.setIfInBounds i true) r
  | listed, (i, 1) :: r => (Region.ready .any ops listed == [i]) && alone ops W i && sched ops W fin (listed.setIfInBounds i true) r
  | listed, (i, _) :: r => (Region.ready .any ops listed == [i]) && sched ops W fin (listed.setIfInBounds i true) r

def WS (C : Cx) (ops : Array Oper) (W : List Nat) (fuel : Nat) (listed : Array Bool) (π : List (Nat × Nat)) (fin : Bool) (L : List SP) (KL : PH → Prop) (e : Env) (own : List SP) (K : PH → Prop) (Q : Exit → Act → World → Prop) : Prop :=
  sched ops W fin listed π = true → WD C ops W fuel listed L KL e own K Q

section
variable {C : Cx} {ops : Array Oper} {W : List Nat} {fuel : Nat} {listed : Array Bool} {π : List (Nat × Nat)} {fin : Bool} {L : List SP} {KL : PH → Prop} {e : Env} {own : List SP} {K : PH → Prop} {Q : Exit → Act → World → Prop}
  {op : Op} {ty : TypeId} {pos : String} {af : Array Edge}

theorem WD.sched (π : List (Nat × Nat)) (fin : Bool) (hs : Sl.sched ops W fin listed π = true) (h : WS C ops W fuel listed π fin L KL e own K Q) : WD C ops W fuel listed L KL e own K Q := h hs
theorem WC.drawS {id n : Nat} (W : List Nat) (L : List SP) (KL : PH → Prop) (hm : C.P.follows .mixedOrders = true) (hq : NoPan Q) (hi : Imp own K L KL) (hn : ops.size = n)
    (h : WD C ops W n (Array.replicate n false) L KL e own K Q) : WC C (.region id ops true) e own K Q := WC.draw L KL hm hq hi (by rw [hn]; exact h)
theorem WS.back (h : WD C ops W fuel listed L KL e own K Q) : WS C ops W fuel listed [] false L KL e own K Q := fun _ => h
theorem WS.done (h : AT C .normal e own K Q) : WS C ops W fuel listed [] true L KL e own K Q := fun hs => WD.done (by simpa [Sl.sched] using hs) h

theorem WS.q (i : Nat) {d : Nat} {v : Value} (hi : ops[i]? = some ⟨some d, op, ty, pos, af, none⟩) (hq : QO C op ty e (sel (W.contains i) L) (selK (W.contains i) KL) v) (hd : Nat.blt d C.N = true)
    (h : WS C ops W fuel (listed.setIfInBounds i true) π fin L KL ((d, v) :: e) own K Q) : WS C ops W (fuel + 1) listed ((i, 0) :: π) fin L KL e own K Q := fun hs => by
  rw [Sl.sched, Bool.and_eq_true] at hs; exact WD.q i hi hs.1 hq hd (h hs.2)
theorem WS.qn (i : Nat) {v : Value} (hi : ops[i]? = some ⟨none, op, ty, pos, af, none⟩) (hq : QO C op ty e (sel (W.contains i) L) (selK (W.contains i) KL) v)
    (h : WS C ops W fuel (listed.setIfInBounds i true) π fin L KL e own K Q) : WS C ops W (fuel + 1) listed ((i, 0) :: π) fin L KL e own K Q := fun hs => by
  rw [Sl.sched, Bool.and_eq_true] at hs; exact WD.qn i hi hs.1 hq (h hs.2)
theorem WS.qon (i : Nat) {d j dj : Nat} {b b' : Bool} {v : Value} (hi : ops[i]? = some ⟨some d, op, ty, pos, af, some (j, b)⟩) (hj : dstOf ops j = some dj) (hb : look e dj = some (.bool b')) (hbb : b' = b)
    (hq : QO C op ty e (sel (W.contains i) L) (selK (W.contains i) KL) v) (hd : Nat.blt d C.N = true) (h : WS C ops W fuel (listed.setIfInBounds i true) π fin L KL ((d, v) :: e) own K Q) : WS C ops W (fuel + 1) listed ((i, 0) :: π) fin L KL e own K Q := fun hs => by
  rw [Sl.sched, Bool.and_eq_true] at hs; exact WD.qon i hi hs.1 hj hb hbb hq hd (h hs.2)
theorem WS.qoff (i : Nat) {d j dj : Nat} {b b' : Bool} (hi : ops[i]? = some ⟨some d, op, ty, pos, af, some (j, b)⟩) (hnd : ∀ c, op ≠ .defer c) (hj : dstOf ops j = some dj) (hb : look e dj = some (.bool b')) (hbb : b' = !b)
    (hd : Nat.blt d C.N = true) (h : WS C ops W fuel (listed.setIfInBounds i true) π fin L KL ((d, undef) :: e) own K Q) : WS C ops W (fuel + 1) listed ((i, 0) :: π) fin L KL e own K Q := fun hs => by
  rw [Sl.sched, Bool.and_eq_true] at hs; exact WD.qoff i hi hs.1 hnd hj hb hbb hd (h hs.2)
theorem WS.qoffn (i : Nat) {j dj : Nat} {b b' : Bool} (hi : ops[i]? = some ⟨none, op, ty, pos, af, some (j, b)⟩) (hnd : ∀ c, op ≠ .defer c) (hj : dstOf ops j = some dj) (hb : look e dj = some (.bool b')) (hbb : b' = !b)
    (h : WS C ops W fuel (listed.setIfInBounds i true) π fin L KL e own K Q) : WS C ops W (fuel + 1) listed ((i, 0) :: π) fin L KL e own K Q := fun hs => by
  rw [Sl.sched, Bool.and_eq_true] at hs; exact WD.qoffn i hi hs.1 hnd hj hb hbb (h hs.2)

/-- One who comes up alone, ahead of, or behind, everybody. -/
theorem WS.eff (i : Nat) {d : Nat} {Φ : Value → List SP → (PH → Prop) → Prop} (hi : ops[i]? = some ⟨some d, op, ty, pos, af, none⟩) (hq : EO C op ty e own K Φ) (hd : Nat.blt d C.N = true)
    (h : ∀ v own' K', Φ v own' K' → WS C ops W fuel (listed.setIfInBounds i true) π fin own' K' ((d, v) :: e) own' K' Q) : WS C ops W (fuel + 1) listed ((i, 1) :: π) fin L KL e own K Q := fun hs => by
  rw [Sl.sched, Bool.and_eq_true, Bool.and_eq_true] at hs
  exact WD.one i (by simpa using hs.1.1) (WB.eff hi hq hd fun v o k hΦ => ⟨.inl hs.1.2, h v o k hΦ hs.2⟩)
theorem WS.effn (i : Nat) {Φ : Value → List SP → (PH → Prop) → Prop} (hi : ops[i]? = some ⟨none, op, ty, pos, af, none⟩) (hq : EO C op ty e own K Φ)
    (h : ∀ v own' K', Φ v own' K' → WS C ops W fuel (listed.setIfInBounds i true) π fin own' K' e own' K' Q) : WS C ops W (fuel + 1) listed ((i, 1) :: π) fin L KL e own K Q := fun hs => by
  rw [Sl.sched, Bool.and_eq_true, Bool.and_eq_true] at hs
  exact WD.one i (by simpa using hs.1.1) (WB.effn hi hq fun v o k hΦ => ⟨.inl hs.1.2, h v o k hΦ hs.2⟩)
theorem WS.effon (i : Nat) {d j dj : Nat} {b b' : Bool} {Φ : Value → List SP → (PH → Prop) → Prop} (hi : ops[i]? = some ⟨some d, op, ty, pos, af, some (j, b)⟩) (hj : dstOf ops j = some dj) (hb : look e dj = some (.bool b')) (hbb : b' = b)
    (hq : EO C op ty e own K Φ) (hd : Nat.blt d C.N = true)
    (h : ∀ v own' K', Φ v own' K' → WS C ops W fuel (listed.setIfInBounds i true) π fin own' K' ((d, v) :: e) own' K' Q) : WS C ops W (fuel + 1) listed ((i, 1) :: π) fin L KL e own K Q := fun hs => by
  rw [Sl.sched, Bool.and_eq_true, Bool.and_eq_true] at hs
  exact WD.one i (by simpa using hs.1.1) (WB.effon hi hj hb hbb hq hd fun v o k hΦ => ⟨.inl hs.1.2, h v o k hΦ hs.2⟩)
/-- One who comes up alone, though others may come up in any order with it: what has been looked at stays. -/
theorem sched2 {i : Nat} (h : Sl.sched ops W fin listed ((i, 2) :: π) = true) : Region.ready .any ops listed = [i] ∧ Sl.sched ops W fin (listed.setIfInBounds i true) π = true := by
  rw [Sl.sched, Bool.and_eq_true] at h
  · exact ⟨by simpa using h.1, h.2⟩
  · intro h; cases h
  · intro h; cases h
theorem WS.eff2 (i : Nat) {d : Nat} {Φ : Value → List SP → (PH → Prop) → Prop} (hi : ops[i]? = some ⟨some d, op, ty, pos, af, none⟩) (hq : EO C op ty e own K Φ) (hd : Nat.blt d C.N = true)
    (h : ∀ v own' K', Φ v own' K' → Imp own' K' L KL ∧ WS C ops W fuel (listed.setIfInBounds i true) π fin own' K' ((d, v) :: e) own' K' Q) : WS C ops W (fuel + 1) listed ((i, 2) :: π) fin L KL e own K Q := fun hs =>
  have hs := sched2 hs
  WD.one i hs.1 (WB.eff hi hq hd fun v o k hΦ => ⟨.inr (h v o k hΦ).1, (h v o k hΦ).2 hs.2⟩)
theorem WS.effn2 (i : Nat) {Φ : Value → List SP → (PH → Prop) → Prop} (hi : ops[i]? = some ⟨none, op, ty, pos, af, none⟩) (hq : EO C op ty e own K Φ)
    (h : ∀ v own' K', Φ v own' K' → Imp own' K' L KL ∧ WS C ops W fuel (listed.setIfInBounds i true) π fin own' K' e own' K' Q) : WS C ops W (fuel + 1) listed ((i, 2) :: π) fin L KL e own K Q := fun hs =>
  have hs := sched2 hs
  WD.one i hs.1 (WB.effn hi hq fun v o k hΦ => ⟨.inr (h v o k hΦ).1, (h v o k hΦ).2 hs.2⟩)
theorem WS.effon2 (i : Nat) {d j dj : Nat} {b b' : Bool} {Φ : Value → List SP → (PH → Prop) → Prop} (hi : ops[i]? = some ⟨some d, op, ty, pos, af, some (j, b)⟩) (hj : dstOf ops j = some dj) (hb : look e dj = some (.bool b')) (hbb : b' = b)
    (hq : EO C op ty e own K Φ) (hd : Nat.blt d C.N = true)
    (h : ∀ v own' K', Φ v own' K' → Imp own' K' L KL ∧ WS C ops W fuel (listed.setIfInBounds i true) π fin own' K' ((d, v) :: e) own' K' Q) : WS C ops W (fuel + 1) listed ((i, 2) :: π) fin L KL e own K Q := fun hs =>
  have hs := sched2 hs
  WD.one i hs.1 (WB.effon hi hj hb hbb hq hd fun v o k hΦ => ⟨.inr (h v o k hΦ).1, (h v o k hΦ).2 hs.2⟩)
end
end Go.Proofs.Sl
