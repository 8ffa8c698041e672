/- Maps of one's own. -/
import Derived.Test.YtimokikpnngikaaSlJ
import Derived.MapKept
import Derived.Maps.RangeRun
namespace Go.Proofs.Sl
open Go Go.MapKept

/-- A kind of key: each is known by what it stands for. -/
structure KeyOf {α : Type} (d : TypeDesc) (key : α → Value) : Prop where
  is : ∀ a, IsKey d (key a)
  inj : ∀ a b, key a = key b → a = b
abbrev ki : Int → Value := fun a => .int .i64 a
abbrev ks : List UInt8 → Value := fun a => .string (bs a)
theorem intKey (k : IntKind) : KeyOf (.int k) (fun a : Int => Value.int k a) := ⟨fun _ => rfl, fun a b h => by cases h; rfl⟩
theorem strKey : KeyOf .string (fun a : List UInt8 => Value.string (bs a)) := ⟨fun _ => trivial, fun a b h => by
  have h2 : bs a = bs b := by injection h
  have := congrArg (fun x => x.data.toList) h2
  simpa [bs] using this⟩

section
variable {α : Type}
/-- What a row of entries holds. -/
def aget [DecidableEq α] : List (α × Value) → α → Option Value
  | [], _ => none
  | (b, v) :: l, a => if b = a then some v else aget l a
def aset [DecidableEq α] : List (α × Value) → α → Value → List (α × Value)
  | [], a, v => [(a, v)]
  | (b, u) :: l, a, v => if b = a then (a, v) :: l else (b, u) :: aset l a v
def ents (es : Array MapEntry) : List (Value × Value) := es.toList.map (fun x => (x.key, x.val))
def kv (key : α → Value) (l : List (α × Value)) : List (Value × Value) := l.map (fun p => (key p.1, p.2))
/-- A map of one's own. -/
def Mp (b : Nat) (key : α → Value) (l : List (α × Value)) : SP := fun h => ∃ es clock, Stamped es clock ∧ ents es = kv key l ∧ h = PH.one b (.map es clock)

theorem HS.mp {g : Os × Array (Nat × ByteArray)} {own : List SP} {K : PH → Prop} {w : World} {b : Nat} {key : α → Value} {l : List (α × Value)} (h : HS g (Mp b key l :: own) K w) :
    ∃ es clock, Stamped es clock ∧ ents es = kv key l ∧ HS g (Pt b (.map es clock) :: own) K w := by
  obtain ⟨H, k, d', s, t, u, h1, h2, d'', e', ⟨es, clock, e1, e2, e3⟩, r⟩ := h.ex
  exact ⟨es, clock, e1, e2, h.os, h.out, H, k, d', s, t, u, h1, h2, d'', e', e3, r⟩
theorem HS.mpOf {g : Os × Array (Nat × ByteArray)} {own : List SP} {K : PH → Prop} {w : World} {b : Nat} {key : α → Value} {l : List (α × Value)} {es : Array MapEntry} {clock : Nat} (h1 : Stamped es clock) (h2 : ents es = kv key l)
    (h : HS g (Pt b (.map es clock) :: own) K w) : HS g (Mp b key l :: own) K w := h.head fun x hx => ⟨es, clock, h1, h2, hx⟩

theorem ents_isKey {d : TypeDesc} {key : α → Value} (hk : KeyOf d key) {es : Array MapEntry} {l : List (α × Value)} (h : ents es = kv key l) : ∀ x ∈ es.toList, IsKey d x.key := by
  intro x hx
  have : (x.key, x.val) ∈ ents es := List.mem_map.2 ⟨x, hx, rfl⟩
  rw [h] at this
  obtain ⟨p, _, hp⟩ := List.mem_map.1 this
  simp at hp
  rw [← hp.1]
  exact hk.is _
theorem ents_nodup {key : α → Value} {es : Array MapEntry} {clock : Nat} {l : List (α × Value)} (hs : Stamped es clock) (h : ents es = kv key l) : (l.map (·.1)).Nodup := by
  have h2 := hs.2.2
  have h3 : es.toList.map (·.key) = (l.map (·.1)).map key := by
    have := congrArg (List.map Prod.fst) h
    simpa [ents, kv, List.map_map, Function.comp_def] using this
  rw [h3] at h2
  exact (List.pairwise_map.1 h2).imp fun h e => h (by rw [e])
theorem aget_none [DecidableEq α] : ∀ {l : List (α × Value)} {a : α}, (∀ p ∈ l, p.1 ≠ a) → aget l a = none
  | [], _, _ => rfl
  | (b, v) :: l, a, h => by
    unfold aget; rw [if_neg (h (b, v) (by simp))]; exact aget_none fun p hp => h p (by simp [hp])
theorem aset_none [DecidableEq α] : ∀ {l : List (α × Value)} {a : α} {v : Value}, (∀ p ∈ l, p.1 ≠ a) → aset l a v = l ++ [(a, v)]
  | [], _, _, _ => rfl
  | (b, u) :: l, a, v, h => by
    unfold aset; rw [if_neg (h (b, u) (by simp)), aset_none fun p hp => h p (by simp [hp])]; rfl
theorem aget_at [DecidableEq α] : ∀ {l : List (α × Value)} {a : α} {v : Value} {j : Nat}, (l.map (·.1)).Nodup → l[j]? = some (a, v) → aget l a = some v
  | [], _, _, _, _, h => by simp at h
  | (b, u) :: l, a, v, 0, _, h => by simp at h; obtain ⟨rfl, rfl⟩ := h; simp [aget]
  | (b, u) :: l, a, v, j + 1, hn, h => by
    simp at hn h
    have hne : ¬ b = a := fun e => hn.1 v (by rw [e]; exact List.mem_of_getElem? h)
    unfold aget; rw [if_neg hne]; exact aget_at hn.2 h
theorem aset_at [DecidableEq α] : ∀ {l : List (α × Value)} {a : α} {u v : Value} {j : Nat}, (l.map (·.1)).Nodup → l[j]? = some (a, u) → aset l a v = l.set j (a, v)
  | [], _, _, _, _, _, h => by simp at h
  | (b, w) :: l, a, u, v, 0, _, h => by simp at h; obtain ⟨rfl, rfl⟩ := h; simp [aset]
  | (b, w) :: l, a, u, v, j + 1, hn, h => by
    simp at hn h
    have hne : ¬ b = a := fun e => hn.1 u (by rw [e]; exact List.mem_of_getElem? h)
    unfold aset; rw [if_neg hne, aset_at hn.2 h]; rfl
theorem aget_aset [DecidableEq α] (l : List (α × Value)) (a c : α) (v : Value) : aget (aset l a v) c = if a = c then some v else aget l c := by
  induction l with
  | nil => simp [aset, aget]
  | cons p l ih =>
    obtain ⟨b, u⟩ := p
    unfold aset
    by_cases h : b = a
    · rw [if_pos h]; subst h; simp only [aget]; split <;> rfl
    · rw [if_neg h]; simp only [aget, ih]
      by_cases h2 : b = c
      · rw [if_pos h2, if_pos h2]; subst h2; rw [if_neg (Ne.symm h)]
      · rw [if_neg h2, if_neg h2]
/-- How a key is found. -/
theorem ents_find [DecidableEq α] {d : TypeDesc} {key : α → Value} (hk : KeyOf d key) {es : Array MapEntry} {clock : Nat} {l : List (α × Value)} (hs : Stamped es clock) (h : ents es = kv key l) (a : α) :
    (Instr.findNow d (key a) es.toList 0 = some none ∧ (∀ x ∈ es.toList, x.key ≠ key a) ∧ ∀ p ∈ l, p.1 ≠ a) ∨ ∃ j x, Instr.findNow d (key a) es.toList 0 = some (some (j, x.val)) ∧ es[j]? = some x ∧ x.key = key a ∧ l[j]? = some (a, x.val) := by
  rcases findNow_spec (hk.is a) es.toList 0 (ents_isKey hk h) with ⟨h1, h2⟩ | ⟨j, x, h1, h2, h3⟩
  · refine .inl ⟨h1, h2, fun p hp e => ?_⟩
    have : (key p.1, p.2) ∈ ents es := by rw [h]; exact List.mem_map.2 ⟨p, hp, rfl⟩
    obtain ⟨x, hx, hxe⟩ := List.mem_map.1 this
    simp at hxe
    exact h2 x hx (by rw [hxe.1, e])
  · refine .inr ⟨j, x, by simpa using h1, by simpa using h2, h3, ?_⟩
    have e1 : (ents es)[j]? = some (x.key, x.val) := by simp [ents, h2]
    rw [h] at e1
    unfold kv at e1
    rw [List.getElem?_map] at e1
    cases hl : l[j]? with
    | none => rw [hl] at e1; cases e1
    | some p =>
      rw [hl] at e1
      simp at e1
      obtain ⟨p1, p2⟩ := p
      simp at e1
      rw [hk.inj p1 a (e1.1.trans h3), e1.2]

variable {C : Cx} {e : Env} {own : List SP} {K : PH → Prop} {ty : TypeId}
theorem e_makeMap {t : TypeId} {key : α → Value} : EO C (.makeMap t none) ty e own K (fun v own' K' => ∃ b, v = .map (some b) ∧ own' = Mp b key [] :: own ∧ K = K') :=
  EO.of_run (by simp) fun a w hA hS => ⟨_, _, _, w.alloc (.map #[] 0), ⟨w.heap.size, rfl, rfl, rfl⟩, (hS.alloc _).mpOf (stamped_empty 0) rfl, .inl (by
    simp [execOp, op0, Instr.makeMap])⟩
theorem q_lookup [DecidableEq α] (i : Nat) {t kt et : TypeId} {d : TypeDesc} {key : α → Value} {x ix : Operand} {b sz by_ : Nat} {l : List (α × Value)} {a : α} {z : Value} (hx : ev e x = some (.map (some b))) (hix : ev e ix = some (key a))
    (hi : own[i]? = some (Mp b key l)) (hk : KeyOf d key) (hu : Und C.P t (.map kt et)) (hd : Und C.P kt d) (hz : Inf C.P et sz by_ z) : QO C (.lookup t x ix false) ty e own K ((aget l a).getD z) :=
  ⟨by simp, fun ac w hA hS => by
    obtain ⟨es, clock, h1, h2, h3⟩ := (hS.focus hi).mp
    have hb := h3.pt
    simp only [execOp, op0, hA.ev hx, hA.ev hix]
    rcases ents_find hk h1 h2 a with ⟨f1, f2, f3⟩ | ⟨j, y, f1, f2, f3, f4⟩
    · simp [Instr.lookup, hu.run, MapKept.run_getObj_map hb, MapKept.run_checkKey hd (hk.is a), MapKept.run_findKey hd f1, hz.zero, Result.andThen, aget_none f3]
    · simp [Instr.lookup, hu.run, MapKept.run_getObj_map hb, MapKept.run_checkKey hd (hk.is a), MapKept.run_findKey hd f1, Result.andThen, aget_at (ents_nodup h1 h2) f4]⟩
theorem q_lookupOk [DecidableEq α] (i : Nat) {t kt et : TypeId} {d : TypeDesc} {key : α → Value} {x ix : Operand} {b sz by_ : Nat} {l : List (α × Value)} {a : α} {z : Value} (hx : ev e x = some (.map (some b))) (hix : ev e ix = some (key a))
    (hi : own[i]? = some (Mp b key l)) (hk : KeyOf d key) (hu : Und C.P t (.map kt et)) (hd : Und C.P kt d) (hz : Inf C.P et sz by_ z) : QO C (.lookup t x ix true) ty e own K (.tuple #[(aget l a).getD z, .bool (aget l a).isSome]) :=
  ⟨by simp, fun ac w hA hS => by
    obtain ⟨es, clock, h1, h2, h3⟩ := (hS.focus hi).mp
    have hb := h3.pt
    simp only [execOp, op0, hA.ev hx, hA.ev hix]
    rcases ents_find hk h1 h2 a with ⟨f1, f2, f3⟩ | ⟨j, y, f1, f2, f3, f4⟩
    · simp [Instr.lookup, hu.run, MapKept.run_getObj_map hb, MapKept.run_checkKey hd (hk.is a), MapKept.run_findKey hd f1, hz.zero, Result.andThen, aget_none f3]
    · simp [Instr.lookup, hu.run, MapKept.run_getObj_map hb, MapKept.run_checkKey hd (hk.is a), MapKept.run_findKey hd f1, Result.andThen, aget_at (ents_nodup h1 h2) f4]⟩
theorem run_mapUpdate [DecidableEq α] {P : Program} {g : Os × Array (Nat × ByteArray)} {w : World} {t kt et : TypeId} {d : TypeDesc} {key : α → Value} {b : Nat} {l : List (α × Value)} {a : α} {v : Value} (hS : HS g (Mp b key l :: own) K w)
    (hk : KeyOf d key) (hu : Und P t (.map kt et)) (hd : Und P kt d) : ∃ w', (Instr.mapUpdate t (.map (some b)) (key a) v).run P w = .ok () w' ∧ HS g (Mp b key (aset l a v) :: own) K w' := by
  obtain ⟨es, clock, h1, h2, h3⟩ := hS.mp
  have hb := h3.pt
  rcases ents_find hk h1 h2 a with ⟨f1, f2, f3⟩ | ⟨j, y, f1, f2, f3, f4⟩
  · refine ⟨_, by simp [Instr.mapUpdate, hu.run, MapKept.run_getObj_map hb, MapKept.run_checkKey hd (hk.is a), MapKept.run_findKey hd f1, MapKept.run_setObj_map _ hb, Result.andThen]; rfl, ?_⟩
    refine HS.mpOf (stamped_push h1 f2) ?_ (h3.turn (w' := { w with heap := w.heap.setIfInBounds b _ }) rfl rfl (heap_set hb).1 fun c hc => (heap_set hb).2 c hc)
    rw [aset_none f3]
    simp only [ents, kv, Array.toList_push, List.map_append] at h2 ⊢
    rw [h2]; rfl
  · refine ⟨_, by simp [Instr.mapUpdate, hu.run, MapKept.run_getObj_map hb, MapKept.run_checkKey hd (hk.is a), MapKept.run_findKey hd f1, f2, f3, MapKept.run_keyThatStays (hk.is a), MapKept.run_setObj_map _ hb, Result.andThen]; rfl, ?_⟩
    refine HS.mpOf (stamped_modify h1 j (fun e => { e with key := key a, val := v }) (fun _ _ => rfl) (fun x _ hx => ?_)) ?_ (h3.turn (w' := { w with heap := w.heap.setIfInBounds b _ }) rfl rfl (heap_set hb).1 fun c hc => (heap_set hb).2 c hc)
    · rw [f2] at hx; cases hx; exact f3.symm
    · rw [aset_at (ents_nodup h1 h2) f4]
      apply List.ext_getElem?
      intro m
      have h2m := congrArg (fun L => L[m]?) h2
      simp only [ents, kv, List.getElem?_map, Array.getElem?_toList] at h2m ⊢
      rw [Array.getElem?_modify, List.getElem?_set]
      by_cases hm : j = m
      · subst hm
        have hlt : j < l.length := by
          rcases Nat.lt_or_ge j l.length with h | h
          · exact h
          · rw [List.getElem?_eq_none h] at f4; cases f4
        simp [f2, hlt]
      · simp [hm]; simpa using h2m
theorem e_mapUpdate [DecidableEq α] (i : Nat) {t kt et : TypeId} {d : TypeDesc} {key : α → Value} {m x y : Operand} {b : Nat} {l : List (α × Value)} {a : α} {v : Value} (hm : ev e m = some (.map (some b))) (hx : ev e x = some (key a)) (hy : ev e y = some v)
    (hi : own[i]? = some (Mp b key l)) (hk : KeyOf d key) (hu : Und C.P t (.map kt et)) (hd : Und C.P kt d) : EO C (.mapUpdate t m x y) ty e own K (Ret undef (own.set i (Mp b key (aset l a v))) K) :=
  EO.of_run (by simp) fun ac w hA hS => by
    obtain ⟨w', h1, h2⟩ := run_mapUpdate (P := C.P) (a := a) (v := v) (hS.focus hi) hk hu hd
    refine ⟨_, _, _, w', ⟨rfl, rfl, rfl⟩, h2.unfocus hi, .inr ⟨?_, rfl⟩⟩
    simp [execOp, op0, hA.ev hm, hA.ev hx, hA.ev hy, h1]

/-- Two of one's own as one. -/
def Two (A B : SP) : SP := fun h => ∃ x y, PH.disj x y ∧ h = PH.un x y ∧ A x ∧ B y
theorem HS.two {g : Os × Array (Nat × ByteArray)} {own : List SP} {K : PH → Prop} {w : World} {A B : SP} : HS g (Two A B :: own) K w ↔ HS g (A :: B :: own) K w := by
  constructor
  · intro h
    obtain ⟨H, k, d, s, t, u, h1, h2, d', rfl, ⟨x, y, dxy, rfl, a, b⟩, r⟩ := h.ex
    obtain ⟨dx, dy⟩ := PH.disj_un.1 (PH.disj_symm d')
    exact ⟨h.os, h.out, H, _, d, s, t, u, x, PH.un y h2, PH.disj_un.2 ⟨dxy, PH.disj_symm dx⟩, PH.un_assoc .., a, y, h2, PH.disj_symm dy, rfl, b, r⟩
  · intro h
    obtain ⟨H, k, d, s, t, u, x, z, d', rfl, a, y, h2, dy, rfl, b, r⟩ := h.ex
    obtain ⟨dxy, dx⟩ := PH.disj_un.1 d'
    refine ⟨h.os, h.out, H, _, d, s, t, u, PH.un x y, h2, PH.disj_symm (PH.disj_un.2 ⟨PH.disj_symm dx, PH.disj_symm dy⟩), (PH.un_assoc ..).symm, ⟨x, y, dxy, rfl, a, b⟩, r⟩
/-- A map that is gone through: which entries have come. -/
def MpIt (b r : Nat) (key : α → Value) (l : List (α × Value)) (done : List Nat) : SP := fun h => ∃ es clock seen, Stamped es clock ∧ ents es = kv key l ∧
  (∀ x ∈ es.toList, x.born ∈ seen.toList ↔ ∃ j ∈ done, es[j]? = some x) ∧ (∀ j0 j, done = j0 ++ [j] → ∃ (x : MapEntry) (seen0 : Array Nat), es[j]? = some x ∧ seen = seen0.push x.born) ∧
  Two (Pt b (.map es clock)) (Pt r (.mapIter (some b) clock seen clock)) h
theorem HS.mpIt {g : Os × Array (Nat × ByteArray)} {own : List SP} {K : PH → Prop} {w : World} {b r : Nat} {key : α → Value} {l : List (α × Value)} {done : List Nat} (h : HS g (MpIt b r key l done :: own) K w) :
    ∃ es clock seen, Stamped es clock ∧ ents es = kv key l ∧ (∀ x ∈ es.toList, x.born ∈ seen.toList ↔ ∃ j ∈ done, es[j]? = some x) ∧ (∀ j0 j, done = j0 ++ [j] → ∃ (x : MapEntry) (seen0 : Array Nat), es[j]? = some x ∧ seen = seen0.push x.born) ∧
      HS g (Pt b (.map es clock) :: Pt r (.mapIter (some b) clock seen clock) :: own) K w := by
  obtain ⟨H, k, d', s, t, u, h1, h2, d'', e', ⟨es, clock, seen, e1, e2, e3, e4, e5⟩, q⟩ := h.ex
  exact ⟨es, clock, seen, e1, e2, e3, e4, HS.two.1 ⟨h.os, h.out, H, k, d', s, t, u, h1, h2, d'', e', e5, q⟩⟩
theorem HS.mpItOf {g : Os × Array (Nat × ByteArray)} {own : List SP} {K : PH → Prop} {w : World} {b r : Nat} {key : α → Value} {l : List (α × Value)} {done : List Nat} {es : Array MapEntry} {clock : Nat} {seen : Array Nat} (h1 : Stamped es clock) (h2 : ents es = kv key l)
    (h3 : ∀ x ∈ es.toList, x.born ∈ seen.toList ↔ ∃ j ∈ done, es[j]? = some x) (h4 : ∀ j0 j, done = j0 ++ [j] → ∃ (x : MapEntry) (seen0 : Array Nat), es[j]? = some x ∧ seen = seen0.push x.born)
    (h : HS g (Pt b (.map es clock) :: Pt r (.mapIter (some b) clock seen clock) :: own) K w) : HS g (MpIt b r key l done :: own) K w :=
  (HS.two.2 h).head fun x hx => ⟨es, clock, seen, h1, h2, h3, h4, hx⟩
/-- Done with it. -/
theorem Imp.mpOver {b r : Nat} {key : α → Value} {l : List (α × Value)} {done : List Nat} : Imp (MpIt b r key l done :: own) K (Mp b key l :: own) K := fun g w h => by
  obtain ⟨es, clock, seen, h1, h2, _, _, h5⟩ := h.mpIt
  exact (h5.perm (List.Perm.swap _ _ _)).drop.mpOf h1 h2
theorem e_range (i : Nat) {t kt et : TypeId} {key : α → Value} {x : Operand} {b : Nat} {l : List (α × Value)} (hx : ev e x = some (.map (some b))) (hi : own[i]? = some (Mp b key l)) (hu : Und C.P t (.map kt et)) :
    EO C (.range t x) ty e own K (fun v own' K' => ∃ r, v = .pointer (some (ad r 0)) ∧ own' = own.set i (MpIt b r key l []) ∧ K = K') :=
  EO.of_run (by simp) fun a w hA hS => by
    obtain ⟨es, clock, h1, h2, h3⟩ := (hS.focus hi).mp
    have hb := h3.pt
    have h4 := (h3.alloc (.mapIter (some b) clock #[] clock)).perm (List.Perm.swap _ _ _)
    refine ⟨_, _, _, _, ⟨w.heap.size, rfl, rfl, rfl⟩, (HS.mpItOf h1 h2 (by simp) (by simp) h4).unfocus hi, .inl ?_⟩
    simp [execOp, op0, hA.ev hx, Instr.range, hu.run, MapKept.run_getObj_map hb, Result.andThen]
theorem e_next (i : Nat) {t : TypeId} {key : α → Value} {x : Operand} {b r : Nat} {l : List (α × Value)} {done : List Nat} (hx : ev e x = some (.pointer (some (ad r 0)))) (hi : own[i]? = some (MpIt b r key l done)) :
    EO C (.next x false) ty e own K (fun v own' K' => K = K' ∧ ((v = .tuple #[.bool false] ∧ own = own' ∧ ∀ j, j < l.length → j ∈ done) ∨
      ∃ j a u, l[j]? = some (a, u) ∧ j ∉ done ∧ v = .tuple #[.bool true, key a, u] ∧ own' = own.set i (MpIt b r key l (done ++ [j])))) :=
  EO.of_run (by simp) fun a w hA hS => by
    obtain ⟨es, clock, seen, h1, h2, h3, h4, h5⟩ := (hS.focus hi).mpIt
    have hb := h5.pt
    have hr : w.heap[r]? = some (.mapIter (some b) clock seen clock) := (h5.perm (List.Perm.swap _ _ _)).pt
    have hlen : es.size = l.length := by
      have := congrArg List.length h2
      simpa [ents, kv] using this
    rcases run_next_at (P := C.P) w ty r b clock clock seen es clock hr hb h1.1 (Nat.le_refl _) with ⟨n1, n2⟩ | ⟨x, n1, w1, n2, n3⟩
    · refine ⟨_, own, K, w, ⟨rfl, .inl ⟨rfl, rfl, fun j hj => ?_⟩⟩, hS, .inl ?_⟩
      · have hje : es[j]? = some es[j] := by simp [hlen, hj]
        have hin : es[j] ∈ es.toList := by simp
        have hsz : leftOf es seen = #[] := Array.eq_empty_of_size_eq_zero n1
        unfold leftOf at hsz
        rw [Array.filter_eq_empty_iff] at hsz
        have := hsz es[j] (by simp)
        have hseen : es[j].born ∈ seen.toList := by simpa using this
        obtain ⟨j', hj', hje'⟩ := (h3 _ hin).1 hseen
        have : j' = j := by
          have hn := h1.2.1
          have e1 : (es.toList.map (·.born))[j]? = some es[j].born := by simp [hlen, hj]
          have e2 : (es.toList.map (·.born))[j']? = some es[j].born := by simp [hje']
          exact (List.getElem?_inj (by simpa using (Array.getElem?_eq_some_iff.1 hje').1) hn).1 (e2.trans e1.symm)
        rw [← this]; exact hj'
      · simp only [execOp, op0, hA.ev hx]
        have e0 : (ad r 0) = ⟨r, 0, none⟩ := rfl
        rw [e0]; simp [n2]
    · have hx1 : x ∈ es.toList ∧ ¬ x.born ∈ seen.toList := by
        unfold leftOf at n1; simpa using n1
      obtain ⟨j, hj, hjx⟩ := List.getElem_of_mem hx1.1
      have hj' : j < es.size := by simpa using hj
      have hjx' : es[j]? = some x := by rw [← hjx]; simp [hj']
      have hlj : ∃ a u, l[j]? = some (a, u) ∧ key a = x.key ∧ u = x.val := by
        have := congrArg (fun L => L[j]?) h2
        simp only [ents, kv, List.getElem?_map, Array.getElem?_toList, hjx'] at this
        cases hl : l[j]? with
        | none => rw [hl] at this; cases this
        | some p => rw [hl] at this; simp at this; exact ⟨p.1, p.2, rfl, this.1.symm, this.2.symm⟩
      obtain ⟨a', u, hl, hka, rfl⟩ := hlj
      have hnd : j ∉ done := fun hd => hx1.2 ((h3 x hx1.1).2 ⟨j, hd, hjx'⟩)
      have h6 : HS C.g (Pt r (.mapIter (some b) clock seen clock) :: Pt b (.map es clock) :: own.eraseIdx i) K w1 := by
        have := h5.perm (List.Perm.swap _ _ _)
        rcases n2 with rfl | rfl
        · exact this
        · exact this.same rfl rfl rfl
      have hr1 : w1.heap[r]? = some (.mapIter (some b) clock seen clock) := h6.pt
      have h7 := (h6.turn (o' := .mapIter (some b) clock (seen.push x.born) clock) (w' := ChangeMaps.setBlock w1 r (.mapIter (some b) clock (seen.push x.born) clock)) rfl rfl (heap_set hr1).1 fun c hc => (heap_set hr1).2 c hc).perm (List.Perm.swap _ _ _)
      refine ⟨_, _, K, _, ⟨rfl, .inr ⟨j, a', x.val, hl, hnd, rfl, rfl⟩⟩, (HS.mpItOf h1 h2 ?_ ?_ h7).unfocus hi, .inl ?_⟩
      · intro y hy
        simp only [Array.toList_push, List.mem_append, List.mem_singleton, h3 y hy]
        constructor
        · rintro (⟨j', hd, hje⟩ | he)
          · exact ⟨j', .inl hd, hje⟩
          · refine ⟨j, .inr rfl, ?_⟩
            obtain ⟨m, hm, hmy⟩ := List.getElem_of_mem hy
            have hm' : m < es.size := by simpa using hm
            have e1 : (es.toList.map (·.born))[m]? = some y.born := by simp [hm', ← hmy]
            have e2 : (es.toList.map (·.born))[j]? = some x.born := by simp [hjx']
            have : m = j := (List.getElem?_inj (by simpa using hm') h1.2.1).1 (by rw [e1, e2, he])
            subst this
            rw [← hmy]; simp [hm']
        · rintro ⟨j', hd | rfl, hje⟩
          · exact .inl ⟨j', hd, hje⟩
          · right; rw [hjx'] at hje; cases hje; rfl
      · intro j0 j1 he
        have := List.append_inj' he rfl
        have hj1 : j = j1 := by simpa using this.2
        subst hj1
        exact ⟨x, seen, hjx', rfl⟩
      · simp only [execOp, op0, hA.ev hx]
        have e0 : (ad r 0) = ⟨r, 0, none⟩ := rfl
        rw [e0]; simp [n3, hka]
theorem q_entry (i : Nat) {key : α → Value} {x : Operand} {b r j : Nat} {l : List (α × Value)} {done : List Nat} {a : α} {u : Value} (hx : ev e x = some (.pointer (some (ad r 0)))) (hi : own[i]? = some (MpIt b r key l (done ++ [j]))) (hl : l[j]? = some (a, u)) :
    QO C (.entry x) ty e own K (.tuple #[key a, u]) :=
  ⟨by simp, fun ac w hA hS => by
    obtain ⟨es, clock, seen, h1, h2, h3, h4, h5⟩ := (hS.focus hi).mpIt
    have hb := h5.pt
    have hr : w.heap[r]? = some (.mapIter (some b) clock seen clock) := (h5.perm (List.Perm.swap _ _ _)).pt
    obtain ⟨y, seen0, g1, rfl⟩ := h4 _ _ rfl
    have := congrArg (fun L => L[j]?) h2
    simp only [ents, kv, List.getElem?_map, Array.getElem?_toList, g1, hl] at this
    simp at this
    have hrun := run_entry_at (P := C.P) w r b clock seen0 es clock y hr hb (by
      have := Array.mem_of_getElem? g1; simpa using this) h1.2.1
    simp only [execOp, op0, hA.ev hx]
    have e0 : (ad r 0) = ⟨r, 0, none⟩ := rfl
    rw [e0]; simp [hrun, this.1, this.2]⟩
end
end Go.Proofs.Sl
