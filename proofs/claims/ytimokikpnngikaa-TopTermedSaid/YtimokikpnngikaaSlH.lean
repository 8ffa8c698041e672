/- Bits; strings to bytes; results in cells; weakening. -/
import Derived.Test.YtimokikpnngikaaSlG
namespace Go.Proofs.Sl
open Go
section
variable {C : Cx} {e : Env} {own own' : List SP} {K K' : PH → Prop} {ty : TypeId}

theorem WL.imp {ops : Array Oper} {l : List Oper} {Q : Exit → Act → World → Prop} (i : Imp own K own' K') (h : WL C ops l e own' K' Q) : WL C ops l e own K Q := fun a w hA hS => h a w hA (i _ _ hS)
theorem WC.imp {c : Code} {Q : Exit → Act → World → Prop} (i : Imp own K own' K') (h : WC C c e own' K' Q) : WC C c e own K Q := fun a w hA hS => h a w hA (i _ _ hS)
theorem AT.imp {x : Exit} {Q : Exit → Act → World → Prop} (i : Imp own K own' K') (h : AT C x e own' K' Q) : AT C x e own K Q := fun a w hA hS => h a w hA (i _ _ hS)
/-- What is one's own holds something that there is. -/
theorem WC.exHead {α : Sort _} {A : α → SP} {c : Code} {Q : Exit → Act → World → Prop} (h : ∀ x, WC C c e (A x :: own) K Q) : WC C c e ((fun p => ∃ x, A x p) :: own) K Q := fun a w hA hS => by
  obtain ⟨x, hx⟩ := hS.exists_head; exact h x a w hA hx
theorem WL.exHead {α : Sort _} {A : α → SP} {ops : Array Oper} {l : List Oper} {Q : Exit → Act → World → Prop} (h : ∀ x, WL C ops l e (A x :: own) K Q) : WL C ops l e ((fun p => ∃ x, A x p) :: own) K Q := fun a w hA hS => by
  obtain ⟨x, hx⟩ := hS.exists_head; exact h x a w hA hx
/-- What stays holds of something that there is. -/
theorem WC.exK {α : Type} {p : α → PH → Prop} {c : Code} {Q : Exit → Act → World → Prop} (hk : Ent K (fun H => ∃ x, p x H)) (hm : ∀ x H H', PH.sub H H' → p x H → p x H') (h : ∀ x, WC C c e own (K ∩ p x) Q) : WC C c e own K Q := fun a w hA hS => by
  obtain ⟨H, k, d, s, t, u, v⟩ := hS.ex
  obtain ⟨x, hx⟩ := hk H (u H (PH.sub_refl H))
  exact h x a w hA ⟨hS.os, hS.out, H, k, d, s, t, fun H' hh => ⟨u H' hh, hm x H H' hh hx⟩, v⟩
theorem WL.exK {α : Type} {p : α → PH → Prop} {ops : Array Oper} {l : List Oper} {Q : Exit → Act → World → Prop} (hk : Ent K (fun H => ∃ x, p x H)) (hm : ∀ x H H', PH.sub H H' → p x H → p x H') (h : ∀ x, WL C ops l e own (K ∩ p x) Q) : WL C ops l e own K Q := fun a w hA hS => by
  obtain ⟨H, k, d, s, t, u, v⟩ := hS.ex
  obtain ⟨x, hx⟩ := hk H (u H (PH.sub_refl H))
  exact h x a w hA ⟨hS.os, hS.out, H, k, d, s, t, fun H' hh => ⟨u H' hh, hm x H H' hh hx⟩, v⟩
theorem WC.pureK {p : Prop} {c : Code} {Q : Exit → Act → World → Prop} (hk : Ent K (fun _ => p)) (h : p → WC C c e own K Q) : WC C c e own K Q := fun a w hA hS => by
  obtain ⟨H, hK, _⟩ := hS.look
  exact h (hk H hK) a w hA hS

theorem Imp.eq (h : own = own') : Imp own K own' K := by subst h; exact Imp.refl _ _
theorem Imp.both {own' : List SP} {K' : PH → Prop} (h : Imp own K own' K) (e : Ent K K') : Imp own K own' K' := h.trans (Imp.ent e)

/-! ### Bits -/
theorem wrapN {k : IntKind} {a : Nat} (h : (a : Int) ≤ k.max) : k.wrap (a : Int) = a := wrap_id ⟨by
  have : k.min ≤ 0 := by cases k <;> simp [IntKind.min, IntKind.signed, IntKind.bits]
  omega, h⟩
theorem ltb {k : IntKind} {a : Nat} (h : (a : Int) ≤ k.max) : a < 2 ^ (if k.signed then k.bits - 1 else k.bits) := by
  cases k <;> simp [IntKind.max, IntKind.signed, IntKind.bits] at * <;> omega
theorem ltb' {k : IntKind} {a : Nat} (h : a < 2 ^ (if k.signed then k.bits - 1 else k.bits)) : (a : Int) ≤ k.max := by
  cases k <;> simp [IntKind.max, IntKind.signed, IntKind.bits] at * <;> omega
theorem ltbits {k : IntKind} {a : Nat} (h : (a : Int) ≤ k.max) : a < 2 ^ k.bits := by
  cases k <;> simp [IntKind.max, IntKind.signed, IntKind.bits] at * <;> omega

section
variable {t u : TypeId} {x y : Operand} {k : IntKind} {a b : Nat}
theorem q_and (hx : ev e x = some (.int k a)) (hy : ev e y = some (.int k b)) (ha : (a : Int) ≤ k.max) (hb : (b : Int) ≤ k.max) : QO C (.binOp .and t x y u) ty e own K (.int k ((a &&& b : Nat) : Int)) :=
  ⟨by simp, fun s w hA _ => by
    have h2 : k.wrap ((a &&& b : Nat) : Int) = (a &&& b : Nat) := wrapN (by have := Nat.and_le_left (n := a) (m := b); omega)
    simp only [execOp, op0, hA.ev hx, hA.ev hy]
    simp [binOp, eqGuard, Op.intBits]
    rw [Nat.mod_eq_of_lt (ltbits ha), Nat.mod_eq_of_lt (ltbits hb), h2]⟩
theorem q_or (hx : ev e x = some (.int k a)) (hy : ev e y = some (.int k b)) (ha : (a : Int) ≤ k.max) (hb : (b : Int) ≤ k.max) : QO C (.binOp .or t x y u) ty e own K (.int k ((a ||| b : Nat) : Int)) :=
  ⟨by simp, fun s w hA _ => by
    have h2 : k.wrap ((a ||| b : Nat) : Int) = (a ||| b : Nat) := wrapN (ltb' (Nat.or_lt_two_pow (ltb ha) (ltb hb)))
    simp only [execOp, op0, hA.ev hx, hA.ev hy]
    simp [binOp, eqGuard, Op.intBits]
    rw [Nat.mod_eq_of_lt (ltbits ha), Nat.mod_eq_of_lt (ltbits hb), h2]⟩
theorem q_xor (hx : ev e x = some (.int k a)) (hy : ev e y = some (.int k b)) (ha : (a : Int) ≤ k.max) (hb : (b : Int) ≤ k.max) : QO C (.binOp .xor t x y u) ty e own K (.int k ((a ^^^ b : Nat) : Int)) :=
  ⟨by simp, fun s w hA _ => by
    have h2 : k.wrap ((a ^^^ b : Nat) : Int) = (a ^^^ b : Nat) := wrapN (ltb' (Nat.xor_lt_two_pow (ltb ha) (ltb hb)))
    simp only [execOp, op0, hA.ev hx, hA.ev hy]
    simp [binOp, eqGuard, Op.intBits]
    rw [Nat.mod_eq_of_lt (ltbits ha), Nat.mod_eq_of_lt (ltbits hb), h2]⟩
theorem q_shr {k' : IntKind} {n : Nat} (hx : ev e x = some (.int k a)) (hy : ev e y = some (.int k' n)) (hn : n ≤ k.bits) : QO C (.binOp .shr t x y u) ty e own K (.int k ((a / 2 ^ n : Nat) : Int)) :=
  ⟨by simp, fun s w hA _ => by
    have h1 : Int.fdiv (a : Int) (2 ^ n) = ((a / 2 ^ n : Nat) : Int) := by
      rw [Int.fdiv_eq_ediv_of_nonneg _ (by exact Int.pow_nonneg (by omega))]; simp
    have h0 : ¬ ((n : Int) < 0) := by omega
    simp only [execOp, op0, hA.ev hx, hA.ev hy]
    simp [binOp, eqGuard, Op.shift, Nat.min_eq_left hn, h1]
    intro h; omega⟩
theorem q_shl {k' : IntKind} {n : Nat} (hx : ev e x = some (.int k a)) (hy : ev e y = some (.int k' n)) (hn : n ≤ k.bits) : QO C (.binOp .shl t x y u) ty e own K (.int k (k.wrap ((a * 2 ^ n : Nat) : Int))) :=
  ⟨by simp, fun s w hA _ => by
    simp only [execOp, op0, hA.ev hx, hA.ev hy]
    simp [binOp, eqGuard, Op.shift, Nat.min_eq_left hn]
    intro h; omega⟩
end

/-! ### Numbers that fit -/
theorem q_convI {s d : TypeId} {x : Operand} {k k' : IntKind} {m : Int} (lo hi : Int) (hs : Und C.P s (.int k)) (hd : Und C.P d (.int k')) (hx : ev e x = some (.int k m)) (hlo : k'.min = lo) (hhi : k'.max = hi) (h : lo ≤ m ∧ m ≤ hi) :
    QO C (.convert s d x) ty e own K (.int k' m) := by
  have := q_conv (C := C) (e := e) (own := own) (K := K) (ty := ty) rfl hs hd hx
  rwa [wrap_id (by rw [hlo, hhi]; exact h)] at this
theorem wrap8 (a : Nat) : IntKind.u8.wrap (a : Int) = ((UInt8.ofNat a).toNat : Int) := by
  simp [IntKind.wrap, IntKind.bits, IntKind.signed]
/-- To a byte: what is over is lost. -/
theorem q_convB {s d : TypeId} {x : Operand} {k : IntKind} {a : Nat} (hs : Und C.P s (.int k)) (hd : Und C.P d (.int .u8)) (hx : ev e x = some (.int k a)) : QO C (.convert s d x) ty e own K (bv (UInt8.ofNat a)) := by
  have := q_conv (C := C) (e := e) (own := own) (K := K) (ty := ty) rfl hs hd hx
  rwa [wrap8] at this
theorem q_shrI {t u : TypeId} {x y : Operand} {k k' : IntKind} {a : Nat} {s : Int} (n : Nat) (hx : ev e x = some (.int k a)) (hy : ev e y = some (.int k' s)) (hs : s = n) (hn : n ≤ k.bits) : QO C (.binOp .shr t x y u) ty e own K (.int k ((a / 2 ^ n : Nat) : Int)) := by
  subst hs; exact q_shr hx hy hn

theorem q_addR {t u : TypeId} {x y : Operand} {k : IntKind} {m n : Int} (lo hi : Int) (hx : ev e x = some (.int k m)) (hy : ev e y = some (.int k n)) (hlo : k.min = lo) (hhi : k.max = hi) (h : lo ≤ m + n ∧ m + n ≤ hi) : QO C (.binOp .add t x y u) ty e own K (.int k (m + n)) := by
  have := q_add (C := C) (own := own) (K := K) (t := t) (u := u) (ty := ty) hx hy; rwa [wrap_id (by rw [hlo, hhi]; exact h)] at this
theorem q_subR {t u : TypeId} {x y : Operand} {k : IntKind} {m n : Int} (lo hi : Int) (hx : ev e x = some (.int k m)) (hy : ev e y = some (.int k n)) (hlo : k.min = lo) (hhi : k.max = hi) (h : lo ≤ m - n ∧ m - n ≤ hi) : QO C (.binOp .sub t x y u) ty e own K (.int k (m - n)) := by
  have := q_sub (C := C) (own := own) (K := K) (t := t) (u := u) (ty := ty) hx hy; rwa [wrap_id (by rw [hlo, hhi]; exact h)] at this
theorem q_mulR {t u : TypeId} {x y : Operand} {k : IntKind} {m n : Int} (lo hi : Int) (hx : ev e x = some (.int k m)) (hy : ev e y = some (.int k n)) (hlo : k.min = lo) (hhi : k.max = hi) (h : lo ≤ m * n ∧ m * n ≤ hi) : QO C (.binOp .mul t x y u) ty e own K (.int k (m * n)) := by
  have := q_mul (C := C) (own := own) (K := K) (t := t) (u := u) (ty := ty) hx hy; rwa [wrap_id (by rw [hlo, hhi]; exact h)] at this
theorem Imp.perm (p : own.Perm own') : Imp own K own' K := fun _ _ h => h.perm p
theorem Imp.swap {A B : SP} : Imp (A :: B :: own) K (B :: A :: own) K := Imp.perm (List.Perm.swap _ _ _)

/-! ### Appending to nothing; bytes out of strings -/
theorem e_appendN {t u el ty : TypeId} {x y : Operand} {v : Value} {sz by_ k : Nat} {z : Value} {new : List Value}
    (hx : ev e x = some (.slice none 0 0)) (hy : ev e y = some v) (hsrc : Src C.P own K sz v k new) (hu : Und C.P t (.slice el)) (hu2 : (∃ el', Und C.P u (.slice el')) ∨ Und C.P u .string)
    (hinf : Inf C.P el sz by_ z) (hz : z.cells.size = sz) (hnew : new.length = k * sz) (h1 : Ones new) (hb : k * by_ ≤ 140737488355328 ∧ k ≤ 4611686018427387904) :
    EO C (.call { callee := .builtin .append, args := #[x, y], argTypes := #[t, u] }) ty e own K
      (fun r own' K' => ∃ A' cap', r = .slice A' k cap' ∧ own' = ORow A' cap' el sz new :: own ∧ K = K' ∧ k ≤ cap') :=
  EO.of_run (by simp) fun a w hA hS => by
    have hS' : HS C.g (ORow none 0 el sz [] :: own) K w := hS.orowNil el sz
    have hsrc' : Src C.P (ORow none 0 el sz [] :: own) K sz v k new := ⟨hsrc.1, fun g w h => hsrc.2 g w h.drop⟩
    obtain ⟨A', cap', w', hr, hS', hle⟩ := run_append (ty := ty) (n := 0) (k := k) 0 hS' hsrc' rfl hu hu2 hinf hz (by simp) hnew h1 (by simpa using hb)
    refine ⟨_, _, _, w', ⟨A', cap', rfl, rfl, rfl, by omega⟩, hS', .inl ?_⟩
    simp only [execOp, op0]
    simp [resolve, invoke, builtin, hA.ev hx, hA.ev hy, hr]

theorem e_s2b {s d el : TypeId} {x : Operand} {l : List UInt8} {by_ : Nat} {z : Value} (hx : ev e x = some (.string (bs l))) (hs : Und C.P s .string) (hd : Und C.P d (.slice el)) (he : Und C.P el (.int .u8)) (_ : Inf C.P el 1 by_ z) (hl : l.length ≤ 4611686018427387904) :
    EO C (.convert s d x) ty e own K (fun r own' K' => ∃ A cap, r = .slice A l.length cap ∧ own' = ORow A cap el 1 (l.map bv) :: own ∧ K = K' ∧ l.length ≤ cap) := by
  refine EO.of_run (by simp) fun a w hA hS => ?_
  obtain ⟨q, hq1, hq2⟩ : ∃ q, q = (Question.appendCap l.length 0 el).cut (w.tape w.drawn (.appendCap l.length 0 el)) ∧ l.length ≤ q := ⟨_, rfl, by simp [Question.cut]⟩
  have hcs : ((bs l).data.map fun b => (.int .u8 b.toNat : Value)) ++ Array.replicate (q - l.length) (.int .u8 0) = (l.map bv ++ List.replicate (q - l.length) (.int .u8 0 : Value)).toArray := by
    apply Array.ext'; simp [bs]; intro a _; rfl
  have hsz : (l.map bv ++ List.replicate (q - l.length) (.int .u8 0 : Value)).length = q := by simp; omega
  let c : List Value := l.map bv ++ List.replicate (q - l.length) (.int .u8 0)
  let w1 := w.drew.alloc (.cells c.toArray el (0, 0))
  let w2 : World := w1.freeze ⟨w.heap.size, q, none⟩ 1
  have hS1 : HS C.g (Pt w.heap.size (.cells c.toArray el (0, 0)) :: own) K w1 := (hS.same (w' := w.drew) rfl rfl rfl).alloc _
  have hw2 : w2.heap[w.heap.size]? = some (.cells c.toArray el (q, q + 1)) := by
    have h0 := hS1.pt
    simp only [w2, World.freeze, if_neg (by omega : ¬ (1 = 0)), Array.getElem?_modify, if_true, h0]
    simp
  have hx2 : ∀ b, b ≠ w.heap.size → w2.heap[b]? = w1.heap[b]? := fun b hb => by
    simp only [w2, World.freeze, if_neg (by omega : ¬ (1 = 0)), Array.getElem?_modify, if_neg (Ne.symm hb)]
  refine ⟨.slice (some (ad w.heap.size 0)) l.length q, _, K, w2, ⟨_, q, rfl, rfl, rfl, hq2⟩, ?_, .inl ?_⟩
  · have h3 := hS1.turn (w' := w2) rfl rfl hw2 hx2
    exact HS.orowOf (pad := List.replicate (q - l.length) (.int .u8 0)) (fr := (q, q + 1)) (by rw [hsz]; simp) (.inr (by rw [hsz]; exact Nat.le_refl _)) h3
  · have hshape : w1.shape? w.heap.size = some (el, q) := by
      simp only [World.shape?, hS1.pt]; simp only [c]; simp [hsz]
    have hlen : (bs l).size = l.length := rfl
    simp only [execOp, op0, hA.ev hx]
    simp [convert, hs.run, hd.run, he.run, Conv.stringToBytes, Question.forced, hlen, ← hq1, newRow, markStringish, shape, hcs]
    have hrun : (Sem.shape w.heap.size Sem.pure).run C.P w1 = .ok (some (el, q)) w1 := by simp [Sem.run, hshape]
    have hfr : (freeze ⟨w.heap.size, q, none⟩ 1).run C.P w1 = .ok () w2 := by simp [freeze, Sem.run, w2]
    have hw1 : w.drew.alloc (.cells (l.map bv ++ List.replicate (q - l.length) (.int .u8 0 : Value)).toArray el) = w1 := rfl
    rw [hw1, hrun]
    simp only [Result.andThen, hfr]

/-! ### Results in cells -/
theorem RO.cell1 {fn : Func} {t : Tmp} {T : TypeId} {b o : Nat} {v : Value} (h : fn.results = #[.cell t T]) (hl : look e t = some (.pointer (some (ad b o)))) (ht : AggB C.P T false) (hc : Cell own K (ad b o) v) : RO C fn e own K v := fun a w hA hS => by
  have h1 := hA.get t _ hl
  have h2 := hc _ _ hS
  simp [results, h, h1, asAddr, loadVar, ht.run, run_load, h2]
theorem RO.cellA {fn : Func} {t : Tmp} {T : TypeId} {b o n by_ : Nat} {z : Value} {vs : List Value} (h : fn.results = #[.cell t T]) (hl : look e t = some (.pointer (some (ad b o)))) (ht : AggB C.P T true) (hi : Inf C.P T n by_ z) (hc : Cells own K (ad b o) vs) (hn : vs.length = n) : RO C fn e own K (.agg vs.toArray) := fun a w hA hS => by
  have h1 := hA.get t _ hl
  have h2 := run_loadCells_list (P := C.P) w (ad b o) vs (fun j v hv => hc j v hv _ _ hS)
  rw [hn] at h2
  simp [results, h, h1, asAddr, loadVar, ht.run, hi.size, h2]
end
theorem q_lenB {C : Cx} {ty : TypeId} {e : Env} {own : List SP} {K : PH → Prop} {t : TypeId} {x : Operand} {l : List UInt8} (hx : ev e x = some (.string (bs l))) (hu : Und C.P t .string) :
    QO C (.call { callee := .builtin .len, args := #[x], argTypes := #[t] }) ty e own K (.int .i64 l.length) := q_lenS hx hu
theorem q_indexB {C : Cx} {ty : TypeId} {e : Env} {own : List SP} {K : PH → Prop} {t : TypeId} {x ix : Operand} {l : List UInt8} {k : IntKind} {i : Int} {b : UInt8} (hx : ev e x = some (.string (bs l))) (hi : ev e ix = some (.int k i))
    (hu : Und C.P t .string) (h : 0 ≤ i) (hv : l[i.toNat]? = some b) : QO C (.index t x ix) ty e own K (.int .u8 b.toNat) :=
  q_indexS hx hi hu h (by
    obtain ⟨h2, h3⟩ := List.getElem?_eq_some_iff.1 hv
    have h4 : i.toNat < (bs l).size := h2
    rw [getElem?_pos (bs l) i.toNat h4, ← h3]; rfl)
theorem Cell.ptL {own : List SP} {K : PH → Prop} (i : Nat) {b o : Nat} {cs : List Value} {v : Value} {T : TypeId} {fr : Nat × Nat} (hi : own[i]? = some (Pt b (.cells cs.toArray T fr))) (hv : cs[o]? = some v) : Cell own K (ad b o) v :=
  Cell.pt i hi (by simpa using hv)
end Go.Proofs.Sl
