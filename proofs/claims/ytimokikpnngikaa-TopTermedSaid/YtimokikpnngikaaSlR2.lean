/- Slices inside the arguments' rows. -/
import Derived.Test.YtimokikpnngikaaSlR
import Derived.Test.YtimokikpnngikaaSlN
namespace Go.Proofs.Sl
open Go Go.ChangeShapes Go.WideShapes Go.ChangeAt Go.RowKit PH
section
variable {H : Type} {enc : TypeId × Value → H} {P : Program} {W : World}
theorem add_zero' (a : Addr) : a.add 0 = a := by simp [Addr.add]
theorem cell_spot {a : Addr} {v : Value} (h : W.cell? a = some v) : a.spot = none := by
  unfold World.cell? at h
  split at h
  · split at h
    · cases h
    · rename_i hs; simpa using hs
  · cases h
/-- A slice within what is read, as a row that stays where there is an element. -/
theorem innerRows {R : Type} {t e : TypeId} (sz : Nat) {cells : R → List Value} {good : R → Prop} {m : Nat} {c : List Value} {y : DataW H × List MemPlace} (ht : P.underlying t = some (.slice e)) (hsz : P.cellsOf e = sz) (h0 : 0 < sz)
    (hcl : ∀ x, (cells x).length = sz) (elem : ∀ m c y, DataW.trod enc P W 0 (fun _ => true) true m e c = some y → ∃ x, c = cells x ∧ good x) (h : DataW.trod enc P W 0 (fun _ => true) true m t c = some y) :
    ∃ (A : Option Addr) (l : List R) (cap : Nat), c = [.slice A l.length cap] ∧ l.length ≤ cap ∧ (l ≠ [] → Ent (K0 W) (Row A (l.flatMap cells))) ∧ ∀ x ∈ l, good x := by
  rcases Go.Deep.open_slice ht h with ⟨rfl, hx⟩ | ⟨a, len, cap, m, n, D, Pl, rfl, _, hle, _, hm, hx, hel⟩
  · exact ⟨none, [], 0, rfl, Nat.le_refl _, fun h => absurd rfl h, by simp⟩
  · simp at hm
    subst hm
    have hl : ∀ k, k ≤ len → ∃ l : List R, l.length = k ∧ (∀ x ∈ l, good x) ∧ ∀ (i : Nat) (x : R), l[i]? = some x → W.cells? 0 (a.add (i * sz)) sz = some (cells x) := by
      intro k
      induction k with
      | zero => exact fun _ => ⟨[], rfl, by simp, by simp⟩
      | succ k ih =>
        intro hk
        obtain ⟨l, h1, h2, h3⟩ := ih (by omega)
        obtain ⟨c, hc1, hc2⟩ := hel k (by omega)
        obtain ⟨x, rfl, hg⟩ := elem _ _ _ hc2
        refine ⟨l ++ [x], by simp [h1], fun y hy => ?_, fun i y hi => ?_⟩
        · rcases List.mem_append.1 hy with hy | hy
          · exact h2 y hy
          · simp at hy; subst hy; exact hg
        · by_cases hil : i < l.length
          · rw [List.getElem?_append_left hil] at hi; exact h3 i y hi
          · rw [List.getElem?_append_right (by omega)] at hi
            have : i - l.length = 0 := by
              by_cases h : i - l.length = 0
              · exact h
              · rw [List.getElem?_eq_none (by simp; omega)] at hi; cases hi
            rw [this] at hi; simp at hi; subst hi
            have : i = k := by omega
            subst this
            rw [hsz] at hc1; exact hc1
    obtain ⟨l, h1, h2, h3⟩ := hl len (Nat.le_refl _)
    subst h1
    refine ⟨some a, l, m, rfl, hle, fun hne => ?_, h2⟩
    intro G hG
    have key : ∀ j y, (l.flatMap cells)[j]? = some y → W.cell? (a.add j) = some y := by
      intro j y hj
      obtain ⟨i, k, x, g1, g2, g3, g4⟩ := flat_get cells hcl l hj
      obtain ⟨_, _, g5⟩ := World.cells?_some (h3 i x g1)
      have := g5 k g2
      have e : (a.add (i * sz)).add k = a.add (i * sz + k) := by
        obtain ⟨ab, ao, sp⟩ := a
        unfold Addr.add
        split <;> split <;> simp_all <;> omega
      rw [e, g4] at this
      rw [g3]; exact this
    have hne' : 0 < (l.flatMap cells).length := by
      rw [flat_len cells sz hcl]; exact Nat.mul_pos (List.length_pos_iff.2 hne) h0
    have k0 := key 0 _ (List.getElem?_eq_getElem hne')
    have hspot : a.spot = none := cell_spot (by rw [add_zero'] at k0; exact k0)
    obtain ⟨ab, ao, asp⟩ := a
    simp only at hspot
    subst hspot
    right
    refine ⟨ab, ao, rfl, ?_⟩
    have key' : ∀ j y, (l.flatMap cells)[j]? = some y → W.cell? (ad ab (ao + j)) = some y := fun j y hj => by
      have := key j y hj
      rw [show (⟨ab, ao, none⟩ : Addr) = ad ab ao from rfl, add_mk] at this; exact this
    have k0 := key' 0 _ (List.getElem?_eq_getElem hne')
    unfold World.cell? at k0
    cases hb : W.heap[ab]? with
    | none => simp [ad, hb] at k0
    | some o =>
      cases o with
      | cells c T fr =>
        refine ⟨c, T, fr, hG ab _ hb, fun j y hj => ?_⟩
        have := key' j y hj
        unfold World.cell? at this
        simpa [ad, hb] using this
      | _ => simp [ad, hb] at k0
theorem elemBool {e : TypeId} (he : P.underlying e = some .bool) (m : Nat) (c : List Value) (y : DataW H × List MemPlace) (h : DataW.trod enc P W 0 (fun _ => true) true m e c = some y) : ∃ x : Bool, c = [Value.bool x] ∧ True := by
  cases m with
  | zero => simp [DataW.trod] at h
  | succ m =>
    unfold DataW.trod at h
    rw [he] at h
    split at h <;> simp_all
theorem flatBools (l : List Bool) : l.flatMap (fun b => [Value.bool b]) = l.map Value.bool := by
  induction l with
  | nil => rfl
  | cons b l ih => simp [List.flatMap_cons, ih]
end
end Go.Proofs.Sl
