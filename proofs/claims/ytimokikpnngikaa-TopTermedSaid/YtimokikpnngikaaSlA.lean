/- Partial heaps, a small separation logic over the model's memory, and what a world is known to hold. -/
import Derived.TacticsIn
import Derived.OrdersIn
import Derived.Laws.World
namespace Go.Proofs.Sl
open Go

abbrev PH := Nat → Option Obj
abbrev SP := PH → Prop

namespace PH
def sub (h k : PH) : Prop := ∀ b o, h b = some o → k b = some o
def disj (h k : PH) : Prop := ∀ b, h b = none ∨ k b = none
def un (h k : PH) : PH := fun b => match h b with | some o => some o | none => k b
def emp : PH := fun _ => none
def one (b : Nat) (o : Obj) : PH := fun c => if c = b then some o else none

theorem sub_refl (h : PH) : sub h h := fun _ _ e => e
theorem sub_trans {h k l : PH} (a : sub h k) (b : sub k l) : sub h l := fun c o e => b c o (a c o e)
theorem disj_symm {h k : PH} (a : disj h k) : disj k h := fun b => (a b).symm
theorem un_left {h k : PH} : sub h (un h k) := fun b o e => by simp [un, e]
theorem un_right {h k : PH} (d : disj h k) : sub k (un h k) := fun b o e => by
  rcases d b with h0 | k0
  · simp [un, h0, e]
  · rw [k0] at e; cases e
theorem un_sub {h k l : PH} (a : sub h l) (b : sub k l) : sub (un h k) l := fun c o e => by
  unfold un at e
  cases hc : h c with
  | some p => rw [hc] at e; cases e; exact a c _ hc
  | none => rw [hc] at e; exact b c o e
theorem un_emp (h : PH) : un h emp = h := by funext b; unfold un emp; cases h b <;> rfl
theorem emp_un (h : PH) : un emp h = h := by funext b; rfl
theorem un_comm {h k : PH} (d : disj h k) : un h k = un k h := by
  funext b
  unfold un
  rcases d b with e | e <;> rw [e]
  · cases k b <;> rfl
  · cases h b <;> rfl
theorem un_assoc (h k l : PH) : un (un h k) l = un h (un k l) := by
  funext b; unfold un; cases h b <;> rfl
theorem disj_un {h k l : PH} : disj h (un k l) ↔ disj h k ∧ disj h l := by
  constructor
  · intro d
    refine ⟨fun b => (d b).imp id fun e => ?_, fun b => (d b).imp id fun e => ?_⟩
    · unfold un at e; cases hk : k b with
      | none => rfl
      | some o => rw [hk] at e; cases e
    · unfold un at e; cases hk : k b with
      | none => rw [hk] at e; exact e
      | some o => rw [hk] at e; cases e
  · rintro ⟨d, e⟩ b
    rcases d b with x | x
    · exact .inl x
    · rcases e b with y | y
      · exact .inl y
      · exact .inr (by unfold un; rw [x]; exact y)
theorem disj_emp (h : PH) : disj h emp := fun _ => .inr rfl
theorem disj_sub {h k l : PH} (d : disj h l) (s : sub k l) : disj h k := fun b => by
  rcases d b with e | e
  · exact .inl e
  · cases hk : k b with
    | none => exact .inr rfl
    | some o => rw [s b o hk] at e; cases e
end PH
open PH

/-- A row of assertions, each over a heap of its own. -/
def Sep : List SP → PH → Prop
  | [], h => h = emp
  | A :: l, h => ∃ h1 h2, disj h1 h2 ∧ h = un h1 h2 ∧ A h1 ∧ Sep l h2

theorem Sep.swap {A B : SP} {l : List SP} {h : PH} (s : Sep (A :: B :: l) h) : Sep (B :: A :: l) h := by
  obtain ⟨h1, h2, d, rfl, a, h3, h4, d2, rfl, b, r⟩ := s
  obtain ⟨d13, d14⟩ := disj_un.1 d
  refine ⟨h3, un h1 h4, disj_un.2 ⟨disj_symm d13, d2⟩, ?_, b, h1, h4, d14, rfl, a, r⟩
  rw [← un_assoc, ← un_assoc, un_comm d13]

theorem Sep.perm {l l' : List SP} (p : l.Perm l') : ∀ {h : PH}, Sep l h → Sep l' h := by
  induction p with
  | nil => exact id
  | cons A _ ih => rintro h ⟨h1, h2, d, e, a, r⟩; exact ⟨h1, h2, d, e, a, ih r⟩
  | swap A B l => exact Sep.swap
  | trans _ _ i j => exact fun s => j (i s)

/-- A heap of which one block is known. -/
def Pt (b : Nat) (o : Obj) : SP := fun h => h = one b o

/-- What a world holds: 'K' of memory that stays, and the row of assertions, of memory that is one's own. 'g': the world outside. -/
structure HS (g : Os × Array (Nat × ByteArray)) (own : List SP) (K : PH → Prop) (w : World) : Prop where
  os : w.os = g.1
  out : w.output = g.2
  ex : ∃ H h : PH, disj H h ∧ sub H (fun b => w.heap[b]?) ∧ sub h (fun b => w.heap[b]?) ∧ (∀ H', sub H H' → K H') ∧ Sep own h

section
variable {g : Os × Array (Nat × ByteArray)} {own own' : List SP} {K K' : PH → Prop} {w : World} {A B : SP}

/-- Entailment of what stays. -/
def Ent (K p : PH → Prop) : Prop := ∀ H, K H → p H
def Kand (K p : PH → Prop) : PH → Prop := fun H => K H ∧ p H
instance : Inter (PH → Prop) := ⟨Kand⟩

theorem Ent.refl (K : PH → Prop) : Ent K K := fun _ h => h
theorem Ent.trans {K p q : PH → Prop} (a : Ent K p) (b : Ent p q) : Ent K q := fun H h => b H (a H h)
theorem Ent.left {K p q : PH → Prop} (a : Ent K p) : Ent (K ∩ q) p := fun H h => a H h.1
theorem Ent.right {K p : PH → Prop} : Ent (K ∩ p) p := fun _ h => h.2
theorem Ent.both {K p q : PH → Prop} (a : Ent K p) (b : Ent K q) : Ent K (p ∩ q) := fun H h => ⟨a H h, b H h⟩

theorem HS.perm (p : own.Perm own') (h : HS g own K w) : HS g own' K w := by
  obtain ⟨H, k, d, s, t, u, v⟩ := h.ex
  exact ⟨h.os, h.out, H, k, d, s, t, u, v.perm p⟩

theorem HS.ent (e : Ent K K') (h : HS g own K w) : HS g own K' w := by
  obtain ⟨H, k, d, s, t, u, v⟩ := h.ex
  exact ⟨h.os, h.out, H, k, d, s, t, fun H' hh => e _ (u H' hh), v⟩

theorem HS.drop (h : HS g (A :: own) K w) : HS g own K w := by
  obtain ⟨H, k, d, s, t, u, h1, h2, d', rfl, a, r⟩ := h.ex
  exact ⟨h.os, h.out, H, h2, (disj_un.1 d).2, s, sub_trans (un_right d') t, u, r⟩

theorem HS.head (e : ∀ h, A h → B h) (h : HS g (A :: own) K w) : HS g (B :: own) K w := by
  obtain ⟨H, k, d, s, t, u, h1, h2, d', e', a, r⟩ := h.ex
  exact ⟨h.os, h.out, H, k, d, s, t, u, h1, h2, d', e', e _ a, r⟩

theorem HS.exists_head {α : Sort _} {A : α → SP} (h : HS g ((fun x => ∃ a, A a x) :: own) K w) : ∃ a, HS g (A a :: own) K w := by
  obtain ⟨H, k, d, s, t, u, h1, h2, d', e', ⟨a, ha⟩, r⟩ := h.ex
  exact ⟨a, h.os, h.out, H, k, d, s, t, u, h1, h2, d', e', ha, r⟩

theorem HS.pure_head {p : Prop} (h : HS g ((fun x => p ∧ A x) :: own) K w) : p ∧ HS g (A :: own) K w := by
  obtain ⟨H, k, d, s, t, u, h1, h2, d', e', ⟨hp, ha⟩, r⟩ := h.ex
  exact ⟨hp, h.os, h.out, H, k, d, s, t, u, h1, h2, d', e', ha, r⟩

/-- What stays can be looked at. -/
theorem HS.look (h : HS g own K w) : ∃ H, K H ∧ sub H (fun b => w.heap[b]?) := by
  obtain ⟨H, k, d, s, t, u, v⟩ := h.ex
  exact ⟨H, u H (sub_refl H), s⟩

theorem HS.pt {b : Nat} {o : Obj} (h : HS g (Pt b o :: own) K w) : w.heap[b]? = some o := by
  obtain ⟨H, k, d, s, t, u, h1, h2, d', rfl, a, r⟩ := h.ex
  exact t b o (un_left b o (by rw [a]; simp [one]))

theorem perm_get : ∀ {l : List SP} {i : Nat} {A : SP}, l[i]? = some A → l.Perm (A :: l.eraseIdx i)
  | [], _, _, h => by simp at h
  | B :: l, 0, A, h => by simp at h; subst h; exact .refl _
  | B :: l, i + 1, A, h => by
    have := perm_get (l := l) (i := i) (by simpa using h)
    exact (List.Perm.cons B this).trans (List.Perm.swap A B _)

theorem HS.focus {i : Nat} (hi : own[i]? = some A) (h : HS g own K w) : HS g (A :: own.eraseIdx i) K w := h.perm (perm_get hi)

theorem HS.ptAt {i : Nat} {b : Nat} {o : Obj} (hi : own[i]? = some (Pt b o)) (h : HS g own K w) : w.heap[b]? = some o := (h.focus hi).pt

theorem perm_set : ∀ {l : List SP} {i : Nat} {A B : SP}, l[i]? = some A → (B :: l.eraseIdx i).Perm (l.set i B)
  | [], _, _, _, h => by simp at h
  | C :: l, 0, A, B, h => .refl _
  | C :: l, i + 1, A, B, h => by
    have := perm_set (l := l) (i := i) (A := A) (B := B) (by simpa using h)
    exact (List.Perm.swap C B _).trans (List.Perm.cons C this)

theorem HS.unfocus {i : Nat} (hi : own[i]? = some A) (h : HS g (B :: own.eraseIdx i) K w) : HS g (own.set i B) K w := h.perm (perm_set hi)

/-- A new block. -/
theorem HS.alloc (o : Obj) (h : HS g own K w) : HS g (Pt w.heap.size o :: own) K (w.alloc o) := by
  obtain ⟨H, k, d, s, t, u, v⟩ := h.ex
  have hn : w.heap[w.heap.size]? = none := by simp
  have hH : H w.heap.size = none := by
    cases e : H w.heap.size with
    | none => rfl
    | some x => have := s _ _ e; simp at this
  have hk : k w.heap.size = none := by
    cases e : k w.heap.size with
    | none => rfl
    | some x => have := t _ _ e; simp at this
  have grow : ∀ {x : PH}, sub x (fun b => w.heap[b]?) → sub x (fun b => (w.alloc o).heap[b]?) := fun {x} sx b p e => by
    have h1 := sx b p e
    have hlt : b < w.heap.size := (Array.getElem?_eq_some_iff.1 h1).1
    have hne : b ≠ w.heap.size := by omega
    show (w.heap.push o)[b]? = some p
    rw [Array.getElem?_push]; simp [hne]; exact h1
  have hd1 : disj (one w.heap.size o) k := fun b => by
    by_cases hb : b = w.heap.size
    · subst hb; exact .inr hk
    · exact .inl (by simp [one, hb])
  have hd2 : disj H (one w.heap.size o) := fun b => by
    by_cases hb : b = w.heap.size
    · subst hb; exact .inl hH
    · exact .inr (by simp [one, hb])
  refine ⟨h.os, h.out, H, un (one w.heap.size o) k, disj_un.2 ⟨hd2, d⟩, grow s, un_sub ?_ (grow t), u, _, _, hd1, rfl, rfl, v⟩
  intro b p e
  unfold one at e
  split at e
  · rename_i hb; cases e; subst hb
    show (w.heap.push o)[w.heap.size]? = _
    simp
  · cases e

/-- One's own block is turned. -/
theorem HS.turn {b : Nat} {o o' : Obj} {w' : World} (h : HS g (Pt b o :: own) K w) (hos : w'.os = w.os) (hout : w'.output = w.output)
    (hb : w'.heap[b]? = some o') (hx : ∀ c, c ≠ b → w'.heap[c]? = w.heap[c]?) : HS g (Pt b o' :: own) K w' := by
  obtain ⟨H, k, d, s, t, u, h1, h2, d', rfl, a, r⟩ := h.ex
  obtain rfl : h1 = one b o := a
  obtain ⟨da, db⟩ := disj_un.1 d
  have hHb : H b = none := (da b).resolve_right (by simp [one])
  have hkb : h2 b = none := (d' b).resolve_left (by simp [one])
  refine ⟨hos.trans h.os, hout.trans h.out, H, un (one b o') h2, disj_un.2 ⟨fun c => ?_, db⟩, ?_, un_sub ?_ ?_, u, _, _, fun c => ?_, rfl, rfl, r⟩
  · by_cases hc : c = b
    · subst hc; exact .inl hHb
    · exact .inr (by simp [one, hc])
  · intro c p e
    have hc : c ≠ b := fun hc => by subst hc; rw [hHb] at e; cases e
    show w'.heap[c]? = _
    rw [hx c hc]; exact s c p e
  · intro c p e
    unfold one at e
    split at e
    · rename_i hc; cases e; subst hc; exact hb
    · cases e
  · intro c p e
    have hc : c ≠ b := fun hc => by subst hc; rw [hkb] at e; cases e
    show w'.heap[c]? = _
    rw [hx c hc]; exact t c p (un_right d' c p e)
  · by_cases hc : c = b
    · subst hc; exact .inr hkb
    · exact .inl (by simp [one, hc])

/-- A world that differs in nothing that counts here. -/
theorem HS.same {w' : World} (h : HS g own K w) (hos : w'.os = w.os) (hout : w'.output = w.output) (hx : w'.heap = w.heap) : HS g own K w' := by
  obtain ⟨H, k, d, s, t, u, v⟩ := h.ex
  exact ⟨hos.trans h.os, hout.trans h.out, H, k, d, by rw [hx]; exact s, by rw [hx]; exact t, u, v⟩

/-- One's own memory becomes memory that stays. -/
theorem HS.freeze {p : PH → Prop} (e : ∀ x, A x → ∀ H, sub x H → p H) (h : HS g (A :: own) K w) : HS g own (K ∩ p) w := by
  obtain ⟨H, k, d, s, t, u, h1, h2, d', rfl, a, r⟩ := h.ex
  obtain ⟨da, db⟩ := disj_un.1 d
  refine ⟨h.os, h.out, un H h1, h2, disj_symm (disj_un.2 ⟨disj_symm db, disj_symm d'⟩), un_sub s (sub_trans un_left t), sub_trans (un_right d') t, fun H' hs => ⟨u H' (sub_trans un_left hs), e h1 a H' (sub_trans (un_right da) hs)⟩, r⟩

/-- A block that stays. -/
def Still (b : Nat) (o : Obj) : PH → Prop := fun H => H b = some o

theorem HS.still {b : Nat} {o : Obj} (e : Ent K (Still b o)) (h : HS g own K w) : w.heap[b]? = some o := by
  obtain ⟨H, hK, hs⟩ := h.look
  exact hs b o (e H hK)

theorem HS.freezePt {b : Nat} {o : Obj} (h : HS g (Pt b o :: own) K w) : HS g own (K ∩ Still b o) w :=
  h.freeze fun x hx H hs => hs b o (by rw [show x = one b o from hx]; simp [one])

end

/-- From one's own memory, and what stays, to less. -/
def Imp (own : List SP) (K : PH → Prop) (own' : List SP) (K' : PH → Prop) : Prop := ∀ g w, HS g own K w → HS g own' K' w
theorem Imp.refl (own : List SP) (K : PH → Prop) : Imp own K own K := fun _ _ h => h
theorem Imp.trans {a b c : List SP} {K L M : PH → Prop} (h : Imp a K b L) (k : Imp b L c M) : Imp a K c M := fun g w x => k g w (h g w x)
theorem Imp.ent {own : List SP} {K K' : PH → Prop} (e : Ent K K') : Imp own K own K' := fun _ _ h => h.ent e
theorem Imp.drop {A : SP} {own own' : List SP} {K K' : PH → Prop} (h : Imp own K own' K') : Imp (A :: own) K own' K' := fun g w x => h g w x.drop

theorem Sep.sublist {l l' : List SP} (p : l'.Sublist l) : ∀ {h : PH}, Sep l h → ∃ h', sub h' h ∧ Sep l' h' := by
  induction p with
  | slnil => exact fun {h} s => ⟨h, sub_refl h, s⟩
  | cons A _ ih =>
    rintro h ⟨h1, h2, d, rfl, a, r⟩
    obtain ⟨h', s, r'⟩ := ih r
    exact ⟨h', sub_trans s (un_right d), r'⟩
  | cons_cons A _ ih =>
    rintro h ⟨h1, h2, d, rfl, a, r⟩
    obtain ⟨h', s, r'⟩ := ih r
    exact ⟨un h1 h', un_sub un_left (sub_trans s (un_right d)), h1, h', disj_sub d s, rfl, a, r'⟩

theorem HS.sublist {g : Os × Array (Nat × ByteArray)} {own own' : List SP} {K : PH → Prop} {w : World} (p : own'.Sublist own) (h : HS g own K w) : HS g own' K w := by
  obtain ⟨H, k, d, s, t, u, v⟩ := h.ex
  obtain ⟨k', s', v'⟩ := v.sublist p
  exact ⟨h.os, h.out, H, k', disj_sub d s', s, sub_trans s' t, u, v'⟩

theorem Imp.sub {own own' : List SP} {K : PH → Prop} (p : own'.Sublist own) : Imp own K own' K := fun _ _ h => h.sublist p

end Go.Proofs.Sl
