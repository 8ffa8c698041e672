/- From a row's reading of the arguments to the walk's memory, and back. -/
import Derived.Test.YtimokikpnngikaaSlJ
import Derived.ChangeStays
import Derived.ChangeBears
import Derived.Deep.Slices
import Derived.SizedLaws
import Derived.ProofKit
import Derived.OpenShut
namespace Go.Proofs.Sl
open Go Go.ChangeShapes Go.WideShapes Go.ChangeAt Go.RowKit PH

/-- Everything that there is, stays. -/
def K0 (W : World) : PH → Prop := fun H => PH.sub (fun b => W.heap[b]?) H
theorem HS.start (W : World) : HS (W.os, W.output) [] (K0 W) W :=
  ⟨rfl, rfl, fun b => W.heap[b]?, PH.emp, fun _ => .inr rfl, PH.sub_refl _, fun b o e => (by simp [PH.emp] at e), fun _ h => h, rfl⟩
structure Kept (W W' : World) : Prop where
  os : W'.os = W.os
  out : W'.output = W.output
  heap : ∀ b, b < W.heap.size → W'.heap[b]? = W.heap[b]?
theorem HS.kept {W W' : World} {own : List SP} (h : HS (W.os, W.output) own (K0 W) W') : Kept W W' := by
  obtain ⟨H, hK, hs⟩ := h.look
  refine ⟨h.os, h.out, fun b hb => ?_⟩
  cases e : W.heap[b]? with
  | none => rw [Array.getElem?_eq_none_iff] at e; omega
  | some o => exact hs b o (hK b o e)

section
variable {H : Type} {enc : TypeId × Value → H} {P : Program} {W W' : World} {T : TypeId → Prop}

theorem Kept.cell (h : Kept W W') {b off : Nat} (hb : b < W.heap.size) : W'.cell? ⟨b, off, none⟩ = W.cell? ⟨b, off, none⟩ := by
  unfold World.cell?; simp only [h.heap b hb]
theorem Kept.frozen (h : Kept W W') {b off : Nat} (hb : b < W.heap.size) : W'.frozen? ⟨b, off, none⟩ = W.frozen? ⟨b, off, none⟩ := by
  unfold World.frozen?; simp only [h.heap b hb]
theorem Kept.sameAt (h : Kept W W') {p : MemPlace} (hb : p.block < W.heap.size) : W.sameAt W' p := by
  cases p with
  | cell b off => exact h.cell hb
  | map b => exact h.heap b hb
theorem Kept.keptBut (h : Kept W W') (may : MemPlace → Prop) : W.keptBut W' may := by
  refine ⟨h.os, h.out, fun i hi => ?_⟩
  rw [h.heap i hi]
  cases W.heap[i]? with
  | none => rfl
  | some o => cases o with
    | cells c t fr => exact ⟨rfl, rfl, rfl, fun _ _ => rfl⟩
    | map es clock => exact .inr ⟨rfl, rfl⟩
    | _ => rfl

theorem trodAll_stays (K : Kids P T) (hsz : ∀ {t e : TypeId}, T t → P.underlying t = some (.slice e) → 0 < P.cellsOf e) {sp : Nat → Bool} :
    ∀ {ts : List TypeId} {vs : List Value} {ds : List (DataW H)} {ps : List MemPlace}, (∀ t ∈ ts, T t) → DataW.TrodAll enc P W 0 (fun _ => true) true ts vs ds ps →
      (∀ p ∈ ps, W.sameAt W' p) → (∀ p ∈ ps, sp p.block = true) → DataW.TrodAll enc P W' 0 sp true ts vs ds ps
  | [], [], [], _, _, h, _, _ => h
  | _ :: _, _ :: _, _ :: _, _, hT, ⟨p, q, ⟨n, h1⟩, h2, e⟩, hs, hp => by
    subst e
    exact ⟨p, q, ⟨n, DataW.trod_stays K hsz (fun h => by cases h) (hT _ (by simp)) h1 (fun x hx => hs x (List.mem_append_left _ hx)) (fun x hx => hp x (List.mem_append_left _ hx))⟩,
      trodAll_stays K hsz (fun t ht => hT t (List.mem_cons_of_mem _ ht)) h2 (fun x hx => hs x (List.mem_append_right _ hx)) (fun x hx => hp x (List.mem_append_right _ hx)), rfl⟩

/-- What is said of a law's call: the answer is true, and what was there before reads as it did. -/
theorem post_law {f : Func} {s : ChangeSpec} {apart fresh handsOn again : Bool} {args : Array Value} {ds gs : List (DataW H)} {before : List MemPlace} (K : Kids P T)
    (hsz : ∀ {t e : TypeId}, T t → P.underlying t = some (.slice e) → 0 < P.cellsOf e) (hT : ∀ t ∈ f.params.toList, T t) (hv : s.vars = [])
    (hres : f.resultTypes = #[4]) (hb : P.underlying 4 = some .bool)
    (hW : DataW.Whole enc P f.params.toList s.vars apart W args.toList ds gs before)
    (hs1 : (s.fn H (ds ++ gs)).results = [.lit (.bool true)]) (hs2 : (s.fn H (ds ++ gs)).args = ds) (hs3 : (s.fn H (ds ++ gs)).vars = []) (h : Kept W W') :
    s.post enc P f apart fresh handsOn again W args (.bool true) W' := by
  have hlt := hW.lt
  have hW' := hW
  obtain ⟨pa, pv, hA, hV, rfl, hz, hn⟩ := hW'
  rw [hv] at hV
  obtain ⟨hgs, hpv⟩ : gs = [] ∧ pv = [] := by
    cases gs with
    | nil => exact ⟨rfl, hV⟩
    | cons g gs => exact hV.elim
  subst hgs hpv
  have same : ∀ p ∈ pa, W.sameAt W' p := fun p hp => h.sameAt (hlt p (by simp [hp]))
  have hargs : ∀ sp : Nat → Bool, (∀ p ∈ pa, sp p.block = true) → DataW.TrodAll enc P W' 0 sp true f.params.toList args.toList (s.fn H (ds ++ [])).args pa := fun sp hp => by
    rw [hs2]; exact trodAll_stays K hsz hT hA same hp
  have hres' : ∀ (b : Nat) (sp : Nat → Bool) (hd : Bool), DataW.TrodAll enc P W' b sp hd f.resultTypes.toList ((Value.bool true).resultList f.resultTypes.size) (s.fn H (ds ++ [])).results [] := fun b sp hd => by
    rw [hs1, hres]
    exact trodAll_cons_mk (shut_bool hb _) trodAll_mk0
  have hvars : ∀ sp : Nat → Bool, DataW.TrodVars enc P W' sp s.vars (s.fn H (ds ++ [])).vars [] := fun sp => by
    rw [hs3, hv]; exact rfl
  refine ⟨ds, [], pa ++ [], [], pa, [], hW, hres' _ _ _, hargs _ (fun p hp => by simpa using hlt p (by simp [hp])), hvars _, h.keptBut _, fun _ => ?_⟩
  refine ⟨ok_one hres rfl (okWide_bool_mk hb _), _, _, ([] ++ pa) ++ [], ⟨[] ++ pa, [], trodAll_append (hargs _ (fun _ _ => rfl)) (hres' _ _ _), hvars _, rfl, ?_, ?_⟩, ?_⟩
  · intro b off hp
    have hp' : MemPlace.cell b off ∈ pa ++ [] := by simpa using hp
    have hb' : b < W.heap.size := hlt _ hp'
    rw [h.frozen hb']
    exact hz b off hp'
  · intro ha
    simpa using hn ha
  · intro p hp _
    simpa using hp

theorem flat_get {α : Type} (f : α → List Value) {n : Nat} (hf : ∀ x, (f x).length = n) : ∀ (l : List α) {j : Nat} {y : Value}, (l.flatMap f)[j]? = some y → ∃ (i k : Nat) (x : α), l[i]? = some x ∧ k < n ∧ j = i * n + k ∧ (f x)[k]? = some y
  | [], j, y, h => by simp at h
  | x :: l, j, y, h => by
    rw [List.flatMap_cons] at h
    by_cases hj : j < n
    · rw [List.getElem?_append_left (by rw [hf]; exact hj)] at h
      exact ⟨0, j, x, rfl, hj, by omega, h⟩
    · rw [List.getElem?_append_right (by rw [hf]; omega), hf] at h
      obtain ⟨i, k, z, h1, h2, h3, h4⟩ := flat_get f hf l h
      exact ⟨i + 1, k, z, by simpa using h1, h2, by rw [Nat.succ_mul]; omega, h4⟩

/-- A slice among the arguments, as a row that stays. -/
theorem openRows {R : Type} {t e : TypeId} (sz : Nat) {cells : R → List Value} {good : R → Prop} {v : Value} {d : DataW H} {ps : List MemPlace} {r : Reach} {base : Nat} (ht : P.underlying t = some (.slice e)) (hsz : P.cellsOf e = sz) (h0 : 0 < sz)
    (hcl : ∀ x, (cells x).length = sz) (elem : ∀ m c y, DataW.trod enc P W 0 (fun _ => true) true m e c = some y → ∃ x, c = cells x ∧ good x)
    (hok : Value.okWide P W r base t v) (h : DataW.Trod enc P W 0 (fun _ => true) true t v d ps) :
    ∃ (A : Option Addr) (l : List R) (cap : Nat), v = .slice A l.length cap ∧ l.length ≤ cap ∧ Ent (K0 W) (Row A (l.flatMap cells)) ∧ (∀ x ∈ l, good x) ∧
      ((l = [] ∧ d = .nil) ∨ ∃ es rest, d = .slice es rest ∧ es.length = l.length) := by
  obtain ⟨A0, len, cap, rfl⟩ := okWide_slice ht hok
  obtain ⟨fuel, hf⟩ := h
  rcases Go.Deep.open_slice ht hf with ⟨hc, hx⟩ | ⟨a, len', cap', m, n, D, Pl, hc, _, hle, _, hm, hx, hel⟩
  · simp [Value.cells] at hc
    obtain ⟨rfl, rfl, rfl⟩ := hc
    simp at hx
    exact ⟨none, [], 0, rfl, Nat.le_refl _, fun H h => .inl ⟨rfl, fun a ha => by cases ha⟩, by simp, .inl ⟨rfl, hx.1⟩⟩
  · simp [Value.cells] at hc
    obtain ⟨rfl, rfl, rfl⟩ := hc
    simp at hm
    subst hm
    have hspot : a.spot = none := by
      simp only [Value.okWide, ht, Cell.okWide, Cell.ok] at hok
      exact hok.2.2.2.1
    have hd : d = .slice ((List.range len).map D) ((List.range (m - len)).map fun j => D (len + j)) := congrArg Prod.fst hx
    have hl : ∀ k, k ≤ len → ∃ l : List R, l.length = k ∧ (∀ x ∈ l, good x) ∧ ∀ (i : Nat) (x : R), l[i]? = some x → W.cells? 0 (a.add (i * sz)) sz = some (cells x) := by
      intro k
      induction k with
      | zero => exact fun _ => ⟨[], rfl, by simp, by simp⟩
      | succ k ih =>
        intro hk
        obtain ⟨l, h1, h2, h3⟩ := ih (by omega)
        obtain ⟨c, hc1, hc2⟩ := hel k (by omega)
        obtain ⟨x, rfl, hg⟩ := elem _ _ _ hc2
        refine ⟨l ++ [x], by simp [h1], fun y hy => ?_, fun i y hi => ?_⟩
        · rcases List.mem_append.1 hy with hy | hy
          · exact h2 y hy
          · simp at hy; subst hy; exact hg
        · by_cases hil : i < l.length
          · rw [List.getElem?_append_left hil] at hi; exact h3 i y hi
          · rw [List.getElem?_append_right (by omega)] at hi
            have : i - l.length = 0 := by
              by_cases h : i - l.length = 0
              · exact h
              · rw [List.getElem?_eq_none (by simp; omega)] at hi; cases hi
            rw [this] at hi; simp at hi; subst hi
            have : i = k := by omega
            subst this
            rw [hsz] at hc1; exact hc1
    obtain ⟨l, h1, h2, h3⟩ := hl len (Nat.le_refl _)
    subst h1
    refine ⟨some a, l, m, rfl, hle, ?_, h2, .inr ⟨_, _, hd, by simp⟩⟩
    intro G hG
    obtain ⟨ab, ao, asp⟩ := a
    simp only at hspot
    subst hspot
    by_cases hlen : l.length = 0
    · left
      have : l = [] := List.length_eq_zero_iff.1 hlen
      subst this
      exact ⟨rfl, fun a ha => by cases ha; rfl⟩
    · right
      refine ⟨ab, ao, rfl, ?_⟩
      have key : ∀ j y, (l.flatMap cells)[j]? = some y → W.cell? (ad ab (ao + j)) = some y := by
        intro j y hj
        obtain ⟨i, k, x, g1, g2, g3, g4⟩ := flat_get cells hcl l hj
        obtain ⟨_, _, g5⟩ := World.cells?_some (h3 i x g1)
        have := g5 k g2
        rw [show (⟨ab, ao, none⟩ : Addr) = ad ab ao from rfl, add_mk, add_mk, g4] at this
        rw [g3, ← Nat.add_assoc]; exact this
      have hne : 0 < (l.flatMap cells).length := by
        rw [flat_len cells sz hcl]; exact Nat.mul_pos (by omega) h0
      have k0 := key 0 _ (List.getElem?_eq_getElem hne)
      unfold World.cell? at k0
      cases hb : W.heap[ab]? with
      | none => simp [ad, hb] at k0
      | some o =>
        cases o with
        | cells c T fr =>
          refine ⟨c, T, fr, hG ab _ hb, fun j y hj => ?_⟩
          have := key j y hj
          unfold World.cell? at this
          simpa [ad, hb] using this
        | _ => simp [ad, hb] at k0

theorem elemByte {e : TypeId} (he : P.underlying e = some (.int .u8)) (m : Nat) (c : List Value) (y : DataW H × List MemPlace) (h : DataW.trod enc P W 0 (fun _ => true) true m e c = some y) : ∃ x : UInt8, c = [bv x] ∧ True := by
  obtain ⟨n, rfl, _, hw⟩ := DataW.trod_int he h
  have hx : 0 ≤ n ∧ n ≤ 255 := by simpa [Lit.wf, IntKind.min, IntKind.max, IntKind.signed, IntKind.bits] using hw
  refine ⟨UInt8.ofNat n.toNat, ?_, trivial⟩
  unfold bv
  congr 2
  simp
  omega
theorem flatBytes (l : List UInt8) : l.flatMap (fun b => [bv b]) = l.map bv := by
  induction l with
  | nil => rfl
  | cons b l ih => simp [List.flatMap_cons, ih]
/-- Bytes among the arguments. -/
theorem openBytes {t e : TypeId} {v : Value} {d : DataW H} {ps : List MemPlace} {r : Reach} {base : Nat} (ht : P.underlying t = some (.slice e)) (he : P.underlying e = some (.int .u8)) (hsz : P.cellsOf e = 1)
    (hok : Value.okWide P W r base t v) (h : DataW.Trod enc P W 0 (fun _ => true) true t v d ps) :
    ∃ (A : Option Addr) (l : List UInt8) (cap : Nat), v = .slice A l.length cap ∧ l.length ≤ cap ∧ Ent (K0 W) (Row A (l.map bv)) ∧ ((l = [] ∧ d = .nil) ∨ ∃ es rest, d = .slice es rest ∧ es.length = l.length) := by
  obtain ⟨A, l, cap, h1, h2, h3, _, h4⟩ := openRows 1 (cells := fun b : UInt8 => [bv b]) ht hsz (by decide) (fun _ => rfl) (elemByte he) hok h
  rw [flatBytes] at h3
  exact ⟨A, l, cap, h1, h2, h3, h4⟩
/-- How long a slice among the arguments is at most. -/
theorem sizedRow {ts : List TypeId} {ds : List (DataW H)} (h : (DataW.weightsEach P ts ds).all (· ≤ reachBytes) = true) {j bs : Nat} {t e : TypeId} {d : DataW H} (ht : ts[j]? = some t) (hd : ds[j]? = some d) (hu : P.underlying t = some (.slice e)) (hb : P.bytesOf e = bs) (_ : 0 < bs)
    {R : Type} {l : List R} (hl : (l = [] ∧ d = .nil) ∨ ∃ es rest, d = .slice es rest ∧ es.length = l.length) : l.length * bs ≤ 140737488351232 := by
  rcases hl with ⟨rfl, _⟩ | ⟨es, rest, rfl, he⟩
  · simp
  · have := sized_slice h ht hd hu
    rw [hb] at this
    have h2 : l.length * bs ≤ (es.length + rest.length) * bs := Nat.mul_le_mul_right _ (by omega)
    have : reachBytes = 140737488351232 := by decide
    omega
/-- The fields of a struct: type, place, size. -/
def sview (P : Program) (t : TypeId) : Option (List (Nat × Nat × Nat)) := match P.underlying t with
  | some (.struct fs) => some (fs.toList.map fun f => (f.type, f.offset, P.cellsOf f.type))
  | _ => none
theorem trodFields {t : TypeId} {l : List (Nat × Nat × Nat)} {m : Nat} {c : List Value} {y : DataW H × List MemPlace} (hs : sview P t = some l) (h : DataW.trod enc P W 0 (fun _ => true) true m t c = some y) :
    c.length = P.cellsOf t ∧ ∃ n, ∀ (i ft off sz : Nat), l[i]? = some (ft, off, sz) → ∃ z, DataW.trod enc P W 0 (fun _ => true) true n ft ((c.drop off).take sz) = some z := by
  unfold sview at hs
  split at hs
  · rename_i fs hu
    cases hs
    obtain ⟨xs, n, _, _, h1, h2, h3⟩ := DataW.trod_struct hu h
    refine ⟨h1, n, fun i ft off sz hi => ?_⟩
    rw [List.getElem?_map] at hi
    cases hf : fs.toList[i]? with
    | none => rw [hf] at hi; cases hi
    | some f =>
      rw [hf] at hi
      simp at hi
      obtain ⟨rfl, rfl, rfl⟩ := hi
      have hf' : fs[i]? = some f := by simpa using hf
      have h4 := h3 i f hf'
      have hlt : i < xs.length := by
        rw [h2]; exact (Array.getElem?_eq_some_iff.1 hf').1
      rw [List.getElem?_eq_getElem hlt] at h4
      exact ⟨_, h4⟩
  · cases hs
theorem trodSl {t e : TypeId} {m : Nat} {c : List Value} {y : DataW H × List MemPlace} (ht : P.underlying t = some (.slice e)) (h : DataW.trod enc P W 0 (fun _ => true) true m t c = some y) : ∃ A n cap, c = [.slice A n cap] := by
  rcases DataW.trod_slice ht h with ⟨h, _⟩ | ⟨a, len, cap, _, _, _, _, h, _⟩
  · exact ⟨none, 0, 0, h⟩
  · exact ⟨_, _, _, h⟩
end
end Go.Proofs.Sl
