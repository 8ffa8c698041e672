/- Terms: as cells, with the addresses of their parts, and without. -/
import Derived.Test.YtimokikpnngikaaSlQ
import Derived.Test.YtimokikpnngikaaSlTb
namespace Go.Proofs.Sl
open Go
theorem flat_drop {α : Type} (f : α → List Value) (sz : Nat) (hf : ∀ x, (f x).length = sz) : ∀ (l : List α) (n : Nat), (l.drop n).flatMap f = (l.flatMap f).drop (n * sz)
  | [], n => by simp
  | x :: l, 0 => by simp
  | x :: l, n + 1 => by
    rw [List.drop_succ_cons, flat_drop f sz hf l n, List.flatMap_cons, List.drop_append, hf]
    have e1 : (n + 1) * sz = n * sz + sz := Nat.succ_mul n sz
    have e2 : (f x).drop ((n + 1) * sz) = [] := List.drop_eq_nil_of_le (by rw [hf, e1]; omega)
    rw [e2, e1, List.nil_append]; congr 1; omega
theorem flat_take {α : Type} (f : α → List Value) (sz : Nat) (hf : ∀ x, (f x).length = sz) : ∀ (l : List α) (n : Nat), (l.take n).flatMap f = (l.flatMap f).take (n * sz)
  | [], n => by simp
  | x :: l, 0 => by simp
  | x :: l, n + 1 => by
    rw [List.take_succ_cons, List.flatMap_cons, flat_take f sz hf l n, List.flatMap_cons, List.take_append, hf]
    have e1 : (n + 1) * sz = n * sz + sz := Nat.succ_mul n sz
    have e2 : (f x).take ((n + 1) * sz) = f x := List.take_of_length_le (by rw [hf, e1]; omega)
    rw [e2, e1]; congr 2; omega
/-- A term. -/
inductive Tm where
  | mk (k u n : Int) (t : List UInt8) (l : List Tm)
/-- A term, and where its parts lie. -/
inductive Tg where
  | mk (k u n : Int) (t : List UInt8) (A : Option Addr) (cap : Nat) (l : List Tg)
def Tg.cells : Tg → List Value
  | .mk k u n t A cap l => [.int .i64 k, .int .i64 u, .int .i64 n, .string (bs t), .slice A l.length cap]
theorem Tg.len : ∀ (x : Tg), x.cells.length = 5
  | .mk .. => rfl
theorem Tg.ones : ∀ (x : Tg), Ones x.cells
  | .mk k u n t A cap l => fun v hv => by
    simp [Tg.cells] at hv
    rcases hv with rfl | rfl | rfl | rfl | rfl <;> rfl
mutual
def Tg.er : Tg → Tm
  | .mk k u n t _ _ l => .mk k u n t (erL l)
def erL : List Tg → List Tm
  | [] => []
  | x :: l => x.er :: erL l
end
mutual
def Tg.ok : Tg → PH → Prop
  | .mk _ _ _ _ A cap l, H => l.length ≤ cap ∧ Row A (l.flatMap Tg.cells) H ∧ okL l H
def okL : List Tg → PH → Prop
  | [], _ => True
  | x :: l, H => x.ok H ∧ okL l H
end
mutual
/-- No text is long. -/
def Tg.small : Tg → Prop
  | .mk _ _ _ t _ _ l => t.length ≤ 100000 ∧ l.length ≤ 100000 ∧ smallL l
def smallL : List Tg → Prop
  | [] => True
  | x :: l => x.small ∧ smallL l
end
theorem Tg.ind {P : Tg → Prop} (h : ∀ k u n t A cap l, (∀ x ∈ l, P x) → P (.mk k u n t A cap l)) (T : Tg) : P T :=
  Tg.rec (motive_1 := P) (motive_2 := fun l => ∀ x ∈ l, P x) h (fun _ hx => nomatch hx) (fun x l hx hl y hy => by
    rcases List.mem_cons.1 hy with rfl | hy
    · exact hx
    · exact hl y hy) T
theorem Tm.ind {P : Tm → Prop} (h : ∀ k u n t l, (∀ x ∈ l, P x) → P (.mk k u n t l)) (T : Tm) : P T :=
  Tm.rec (motive_1 := P) (motive_2 := fun l => ∀ x ∈ l, P x) h (fun _ hx => nomatch hx) (fun x l hx hl y hy => by
    rcases List.mem_cons.1 hy with rfl | hy
    · exact hx
    · exact hl y hy) T
theorem erL_map : ∀ (l : List Tg), erL l = l.map Tg.er
  | [] => rfl
  | x :: l => by rw [erL, erL_map l]; rfl
theorem okL_iff {H : PH} : ∀ {l : List Tg}, okL l H ↔ ∀ x ∈ l, x.ok H
  | [] => by simp [okL]
  | x :: l => by rw [okL, okL_iff (l := l)]; simp
theorem smallL_iff : ∀ {l : List Tg}, smallL l ↔ ∀ x ∈ l, x.small
  | [] => by simp [smallL]
  | x :: l => by rw [smallL, smallL_iff (l := l)]; simp
theorem Tg.small_mk {k u n : Int} {t : List UInt8} {A : Option Addr} {cap : Nat} {l : List Tg} : (Tg.mk k u n t A cap l).small ↔ t.length ≤ 100000 ∧ l.length ≤ 100000 ∧ ∀ x ∈ l, x.small := by
  rw [Tg.small, smallL_iff]
theorem erL_take (l : List Tg) (i : Nat) : erL (l.take i) = (erL l).take i := by
  induction l generalizing i with
  | nil => simp [erL]
  | cons x l ih =>
    cases i with
    | zero => simp [erL]
    | succ i => simp [erL, ih]
theorem Tg.ok_mk {k u n : Int} {t : List UInt8} {A : Option Addr} {cap : Nat} {l : List Tg} {H : PH} : (Tg.mk k u n t A cap l).ok H ↔ l.length ≤ cap ∧ Row A (l.flatMap Tg.cells) H ∧ ∀ x ∈ l, x.ok H := by
  rw [Tg.ok, okL_iff]
theorem Tg.ok_mono {H H' : PH} (s : PH.sub H H') (x : Tg) : x.ok H → x.ok H' := by
  induction x using Tg.ind with
  | h k u n t A cap l ih =>
    rw [Tg.ok_mk, Tg.ok_mk]
    exact fun ⟨h1, h2, h3⟩ => ⟨h1, h2.mono A _ s, fun x hx => ih x hx (h3 x hx)⟩
theorem Tg.er_mk (k u n : Int) (t : List UInt8) (A : Option Addr) (cap : Nat) (l : List Tg) : (Tg.mk k u n t A cap l).er = .mk k u n t (l.map Tg.er) := by rw [Tg.er, erL_map]
def Tm.kind : Tm → Int | .mk k _ _ _ _ => k
def Tm.user : Tm → Int | .mk _ u _ _ _ => u
def Tm.num : Tm → Int | .mk _ _ n _ _ => n
def Tm.text : Tm → List UInt8 | .mk _ _ _ t _ => t
def Tm.kids : Tm → List Tm | .mk _ _ _ _ l => l
/-- What stays of a row of terms. -/
structure Rows (K : PH → Prop) (A : Option Addr) (l : List Tg) : Prop where
  row : Ent K (Row A (l.flatMap Tg.cells))
  ok : ∀ x ∈ l, Ent K x.ok
theorem Ent.kids {K : PH → Prop} {k u n : Int} {t : List UInt8} {A : Option Addr} {cap : Nat} {l : List Tg} (h : Ent K (Tg.mk k u n t A cap l).ok) : Rows K A l :=
  ⟨fun H hK => (Tg.ok_mk.1 (h H hK)).2.1, fun x hx H hK => (Tg.ok_mk.1 (h H hK)).2.2 x hx⟩
theorem Ent.term {K : PH → Prop} {k u n : Int} {t : List UInt8} {A : Option Addr} {cap : Nat} {l : List Tg} (hc : l.length ≤ cap) (h : Rows K A l) : Ent K (Tg.mk k u n t A cap l).ok :=
  fun H hK => Tg.ok_mk.2 ⟨hc, h.row H hK, fun x hx => h.ok x hx H hK⟩
theorem Rows.weak {K K' : PH → Prop} {A : Option Addr} {l : List Tg} (h : Rows K A l) (e : Ent K' K) : Rows K' A l := ⟨e.trans h.row, fun x hx => e.trans (h.ok x hx)⟩
theorem Rows.left {K p : PH → Prop} {A : Option Addr} {l : List Tg} (h : Rows K A l) : Rows (K ∩ p) A l := ⟨h.row.left, fun x hx => (h.ok x hx).left⟩
theorem Rows.nil {K : PH → Prop} {A : Option Addr} (h : ∀ a, A = some a → a.spot = none) : Rows K A [] := ⟨fun _ _ => .inl ⟨rfl, h⟩, fun _ h => nomatch h⟩
theorem Rows.none {K : PH → Prop} : Rows K none [] := Rows.nil fun a h => nomatch h
theorem Rows.cut {K : PH → Prop} {A : Option Addr} {cap n h : Nat} {l : List Tg} (r : Rows K A l) (hle : n ≤ h ∧ h ≤ l.length ∧ l.length ≤ cap) : Rows K (cutA A cap 5 n) ((l.drop n).take (h - n)) := by
  refine ⟨?_, fun x hx => r.ok x (List.mem_of_mem_drop (List.mem_of_mem_take hx))⟩
  have h1 := Row.cut (sz := 5) (l := n) (h := h) (n := l.length) r.row (flat_len Tg.cells 5 Tg.len l) hle
  have h2 : ((l.drop n).take (h - n)).flatMap Tg.cells = ((l.flatMap Tg.cells).drop (n * 5)).take ((h - n) * 5) := by
    rw [flat_take Tg.cells 5 Tg.len, flat_drop Tg.cells 5 Tg.len]
  rw [h2]; exact h1
end Go.Proofs.Sl
