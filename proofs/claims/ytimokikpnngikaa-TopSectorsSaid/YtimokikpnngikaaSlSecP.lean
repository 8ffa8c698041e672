/- The disk as somebody writes it down, and that it tells the same. No program in sight. -/
import Derived.Test.YtimokikpnngikaaSlDisk3
namespace Go.Proofs.Sl
open Go
/-- A disk as somebody writes it down: its story, how many writes are firm, what it is armed with, or set to fail with (-1: it is not). -/
structure SeS where
  many : Int
  firm : Nat
  arm : Int
  fail : Int
  ops : Int
  dead : Bool
  S : List (Int × Nat)
def SeS.ask (s : SeS) (a : Int) (lays : Bool) : Int × SeS :=
  if s.dead = true then (9, s) else
  if a ≥ s.many ∨ a < -1 then (2, s) else
  if s.fail = 0 then (8, { s with fail := -1 }) else
  if lays = true ∧ s.arm = 0 then (9, { s with fail := if s.fail > 0 then s.fail - 1 else s.fail, dead := true, arm := -1 }) else
  (0, { s with fail := if s.fail > 0 then s.fail - 1 else s.fail, arm := if lays = true ∧ s.arm > 0 then s.arm - 1 else s.arm, ops := s.ops + 1 })
def holdsS (S : List (Int × Nat)) (a : Int) : Nat := S.foldl (fun n p => if p.1 = a then p.2 else n) 0
def keepL {α : Type} (kp : Nat → Bool) (l : List α) : List α := (l.zipIdx.filter fun q => kp q.2).map (·.1)
theorem keepL_len {α : Type} (kp : Nat → Bool) (l : List α) : (keepL kp l).length ≤ l.length := by
  unfold keepL
  rw [List.length_map]
  exact Nat.le_trans (List.length_filter_le _ _) (by simp)
theorem keepL_succ {α : Type} (kp : Nat → Bool) (l : List α) {i : Nat} (h : i < l.length) : keepL kp (l.take (i + 1)) = keepL kp (l.take i) ++ if kp i = true then [l[i]] else [] := by
  unfold keepL
  rw [List.take_succ_eq_append_getElem h, List.zipIdx_append, List.filter_append, List.map_append]
  congr 1
  have : (List.take i l).length = i := by simp; omega
  rw [this]
  by_cases hk : kp i = true <;> simp [hk]
def SeS.crash (s : SeS) (kp : Nat → Bool) : SeS :=
  { s with S := s.S.take s.firm ++ keepL kp (s.S.drop s.firm), firm := (s.S.take s.firm ++ keepL kp (s.S.drop s.firm)).length, dead := false, arm := -1, fail := -1 }

def blkB (n : Nat) : Blk := ⟨blk n, blk_len n⟩
def lw (S : List (Int × Nat)) : List (Int × Blk) := S.map fun p => (p.1, blkB p.2)
structure SRel (k : Nat) (d : DkS) (s : SeS) : Prop where
  n : d.n = s.many
  out : d.out = s.dead
  arm : (d.aon = true ∧ d.al = s.arm ∧ 0 ≤ s.arm) ∨ (d.aon = false ∧ s.arm = -1)
  fail : (d.fon = true ∧ d.fl = s.fail ∧ 0 ≤ s.fail) ∨ (d.fon = false ∧ s.fail = -1)
  ops : d.ops = s.ops
  firm : s.firm ≤ s.S.length
  loose : d.L = lw (s.S.drop s.firm)
  holds : ∀ a, fget d.F a = blk (holdsS (s.S.take s.firm) a)
  fills : ∀ p ∈ s.S, p.2 ≤ 255
  bS : s.S.length ≤ k
  bo : 0 ≤ s.ops ∧ s.ops ≤ k
  ba : -1 ≤ d.al ∧ d.al ≤ 10
  bf : -1 ≤ d.fl ∧ d.fl ≤ 10
theorem SRel.mono {k k' : Nat} {d : DkS} {s : SeS} (h : SRel k d s) (hk : k ≤ k') : SRel k' d s :=
  { h with bS := Nat.le_trans h.bS hk, bo := ⟨h.bo.1, by have := h.bo.2; omega⟩ }
theorem lw_len (S : List (Int × Nat)) : (lw S).length = S.length := by simp [lw]
theorem SRel.len {k : Nat} {d : DkS} {s : SeS} (h : SRel k d s) : d.L.length = s.S.length - s.firm := by rw [h.loose, lw_len, List.length_drop]
theorem SRel.ok {k : Nat} {d : DkS} {s : SeS} (h : SRel k d s) (hk : k ≤ 1000000) : d.Ok := by
  have h1 := h.len; have h2 := h.bS; have h3 := h.bo; have h4 := h.ba; have h5 := h.bf
  refine ⟨by omega, by omega, by omega, by rw [h.ops]; omega, ?_, ?_⟩
  · intro ha; rcases h.arm with h | h
    · omega
    · rw [h.1] at ha; cases ha
  · intro ha; rcases h.fail with h | h
    · omega
    · rw [h.1] at ha; cases ha
theorem foldl_lw (a : Int) : ∀ (S : List (Int × Nat)) (n : Nat), (lw S).foldl (fun b p => if p.1 = a then p.2.1 else b) (blk n) = blk (S.foldl (fun n p => if p.1 = a then p.2 else n) n)
  | [], n => rfl
  | p :: S, n => by
    simp only [lw, List.map_cons, List.foldl_cons]
    by_cases h : p.1 = a
    · rw [if_pos h, if_pos h]; exact foldl_lw a S p.2
    · rw [if_neg h, if_neg h]; exact foldl_lw a S n
theorem holdsS_le {S : List (Int × Nat)} (h : ∀ p ∈ S, p.2 ≤ 255) (a : Int) : holdsS S a ≤ 255 := by
  unfold holdsS
  have key : ∀ (S : List (Int × Nat)) (n : Nat), (∀ p ∈ S, p.2 ≤ 255) → n ≤ 255 → S.foldl (fun n p => if p.1 = a then p.2 else n) n ≤ 255 := by
    intro S
    induction S with
    | nil => intro n _ hn; exact hn
    | cons p S ih =>
      intro n hS hn
      rw [List.foldl_cons]
      refine ih _ (fun q hq => hS q (by simp [hq])) ?_
      split
      · exact hS p (by simp)
      · exact hn
  exact key S 0 h (by omega)
/-- What a sector holds is what was written there last. -/
theorem SRel.sector {k : Nat} {d : DkS} {s : SeS} (h : SRel k d s) (a : Int) : holdsD d.F d.L a = blk (holdsS s.S a) := by
  unfold holdsD
  rw [h.holds, h.loose, foldl_lw]
  congr 1
  conv => rhs; rw [← List.take_append_drop s.firm s.S]
  unfold holdsS
  rw [List.foldl_append]
theorem met_rel {on : Bool} {l x : Int} (h : (on = true ∧ l = x ∧ 0 ≤ x) ∨ (on = false ∧ x = -1)) : (x = 0 ∧ met on l = (true, false, 0)) ∨ (0 < x ∧ met on l = (false, true, x - 1)) ∨ (x = -1 ∧ met on l = (false, false, l)) := by
  unfold met
  rcases h with ⟨rfl, rfl, h⟩ | ⟨rfl, rfl⟩
  · by_cases h0 : l = 0
    · left; simp [h0]
    · right; left; simp [h0]; omega
  · right; right; simp
/-- What comes of asking, and how things stand then. -/
theorem SRel.ask {k : Nat} {d : DkS} {s : SeS} (h : SRel k d s) {a c : Int} (lays : Bool) (hc : (c = a ∧ 0 ≤ a) ∨ (c = 0 ∧ a = -1 ∧ 1 ≤ s.many)) :
    d.ask c lays = (s.ask a lays).1 ∧ ((s.ask a lays).1 ≠ 0 → SRel k (d.asked c lays) (s.ask a lays).2) ∧ ((s.ask a lays).1 = 0 → SRel (k + 1) (d.did c lays) (s.ask a lays).2) := by
  obtain ⟨h1, h2, h3, h4, h5, h6, h7, h8, h9, h10, h11, h12, h13⟩ := h
  have hr : (c < 0 ∨ c ≥ d.n) ↔ (a ≥ s.many ∨ a < -1) := by rw [h1]; omega
  unfold DkS.did DkS.asked DkS.ask askD SeS.ask
  simp only [hr, h2]
  by_cases hd : s.dead = true
  · simp only [if_pos hd]
    exact ⟨trivial, fun _ => ⟨h1, rfl, h3, h4, h5, h6, h7, h8, h9, h10, h11, h12, h13⟩, fun h => absurd h (by decide)⟩
  simp only [if_neg hd]
  by_cases hb : a ≥ s.many ∨ a < -1
  · simp only [if_pos hb]
    exact ⟨trivial, fun _ => ⟨h1, rfl, h3, h4, h5, h6, h7, h8, h9, h10, h11, h12, h13⟩, fun h => absurd h (by decide)⟩
  simp only [if_neg hb]
  rcases met_rel h4 with ⟨f1, f2⟩ | ⟨f1, f2⟩ | ⟨f1, f2⟩ <;> rw [f2]
  · simp only [if_true, f1]
    exact ⟨trivial, fun _ => ⟨h1, rfl, h3, .inr ⟨rfl, rfl⟩, h5, h6, h7, h8, h9, h10, h11, h12, by simp⟩, fun h => absurd h (by decide)⟩
  all_goals
    have hf0 : ¬ (s.fail = 0) := by omega
    simp only [if_neg hf0, Bool.false_eq_true, if_false]
    cases lays
    · simp only [Bool.false_eq_true, if_false, false_and]
      refine ⟨trivial, fun h => absurd rfl h, fun _ => ⟨h1, rfl, h3, ?_, by simp only; omega, h6, h7, h8, h9, by simp only; omega, by simp only; omega, h12, by simp only; omega⟩⟩
      first
        | (left; exact ⟨rfl, by simp [f1], by simp [f1]; omega⟩)
        | (right; exact ⟨rfl, by simp [f1]⟩)
    · simp only [if_true, true_and]
      rcases met_rel h3 with ⟨g1, g2⟩ | ⟨g1, g2⟩ | ⟨g1, g2⟩ <;> rw [g2]
      · simp only [if_true, g1]
        refine ⟨trivial, fun _ => ⟨h1, rfl, .inr ⟨rfl, rfl⟩, ?_, h5, h6, h7, h8, h9, h10, h11, by simp, by simp only; omega⟩, fun h => absurd h (by decide)⟩
        first
          | (left; exact ⟨rfl, by simp [f1], by simp [f1]; omega⟩)
          | (right; exact ⟨rfl, by simp [f1]⟩)
      all_goals
        have hg0 : ¬ (s.arm = 0) := by omega
        simp only [if_neg hg0, Bool.false_eq_true, if_false]
        refine ⟨trivial, fun h => absurd rfl h, fun _ => ⟨h1, rfl, ?_, ?_, by simp only; omega, h6, h7, h8, h9, by simp only; omega, by simp only; omega, by simp only; omega, by simp only; omega⟩⟩
        all_goals simp only
        · first
            | (left; refine ⟨by simp, ?_, ?_⟩ <;> split <;> omega)
            | (right; refine ⟨by simp, ?_⟩; split <;> omega)
        · first
            | (left; refine ⟨by simp, ?_, ?_⟩ <;> split <;> omega)
            | (right; refine ⟨by simp, ?_⟩; split <;> omega)
theorem SRel.write {k : Nat} {d2 : DkS} {s s2 : SeS} {a : Int} {f : Nat} (hk : s.S.length ≤ k) (h : SRel (k + 1) d2 s2) (hS : s2.S = s.S) (hf : f ≤ 255) :
    SRel (k + 1) { d2 with L := d2.L ++ [(a, blkB f)] } { s2 with S := s2.S ++ [(a, f)] } := by
  obtain ⟨h1, h2, h3, h4, h5, h6, h7, h8, h9, h10, h11, h12, h13⟩ := h
  refine ⟨h1, h2, h3, h4, h5, by simp only [List.length_append]; omega, ?_, ?_, ?_, by simp only [List.length_append, hS, List.length_singleton]; omega, h11, h12, h13⟩
  · simp only [List.drop_append_of_le_length h6, h7, lw, List.map_append]; rfl
  · intro c; simp only [List.take_append_of_le_length h6]; exact h8 c
  · intro p hp
    rcases List.mem_append.1 hp with hp | hp
    · exact h9 p hp
    · simp at hp; subst hp; exact hf
theorem fget_set (F : List (Int × Blk)) (a : Int) (v : Blk) (c : Int) : fget (fset F a v) c = if a = c then v.1 else fget F c := by
  rw [fget_O, fgetO_set]
  by_cases h : a = c
  · rw [if_pos h, if_pos h]
  · rw [if_neg h, if_neg h, fget_O]
theorem holdsS_snoc (S : List (Int × Nat)) (p : Int × Nat) (a : Int) : holdsS (S ++ [p]) a = if p.1 = a then p.2 else holdsS S a := by
  unfold holdsS; rw [List.foldl_append]; rfl
theorem fget_settle (kp : Nat → Bool) {F : List (Int × Blk)} {Y : List (Int × Nat)} (hY : ∀ a, fget F a = blk (holdsS Y a)) (X : List (Int × Nat)) : ∀ i, i ≤ X.length → ∀ a, fget (settleD kp F ((lw X).take i)) a = blk (holdsS (Y ++ keepL kp (X.take i)) a)
  | 0, _, a => by simp [settleD, keepL]; exact hY a
  | i + 1, hi, a => by
    have ih := fget_settle kp hY X i (by omega)
    have hl : i < (lw X).length := by rw [lw_len]; omega
    rw [settle_succ kp F (lw X) hl, keepL_succ kp X (by omega)]
    have he : (lw X)[i] = (X[i].1, blkB X[i].2) := by simp [lw]
    by_cases hk : kp i = true
    · rw [if_pos hk, if_pos hk, fget_set, ← List.append_assoc, holdsS_snoc, he]
      simp only
      split
      · rfl
      · exact ih a
    · rw [if_neg hk, if_neg hk, List.append_nil]; exact ih a
theorem keepL_all {α : Type} (l : List α) : keepL (fun _ => true) l = l := by
  unfold keepL
  rw [List.filter_eq_self.2 (by simp)]
  simp
theorem keepL_mem {α : Type} {kp : Nat → Bool} {l : List α} {x : α} (h : x ∈ keepL kp l) : x ∈ l := by
  unfold keepL at h
  obtain ⟨q, hq, rfl⟩ := List.mem_map.1 h
  exact List.fst_mem_of_mem_zipIdx (List.mem_filter.1 hq).1
theorem SRel.settle {k : Nat} {d : DkS} {s : SeS} (h : SRel k d s) (kp : Nat → Bool) (a : Int) : fget (settleD kp d.F d.L) a = blk (holdsS (s.S.take s.firm ++ keepL kp (s.S.drop s.firm)) a) := by
  have h1 := fget_settle kp h.holds (s.S.drop s.firm) (s.S.drop s.firm).length (Nat.le_refl _) a
  rw [List.take_of_length_le (by rw [lw_len]; omega), List.take_length] at h1
  rw [h.loose]; exact h1
theorem SRel.sync {k : Nat} {d : DkS} {s : SeS} (h : SRel k d s) : SRel k { d with F := settleD (fun _ => true) d.F d.L, L := [] } { s with firm := s.S.length } := by
  have hs := h.settle (fun _ => true)
  rw [keepL_all, List.take_append_drop] at hs
  obtain ⟨h1, h2, h3, h4, h5, h6, h7, h8, h9, h10, h11, h12, h13⟩ := h
  exact ⟨h1, h2, h3, h4, h5, Nat.le_refl _, by simp [lw], by simpa using hs, h9, h10, h11, h12, h13⟩
theorem SRel.crash {k : Nat} {d : DkS} {s : SeS} (h : SRel k d s) (kp : Nat → Bool) : SRel k { d with F := settleD kp d.F d.L, L := [], out := false, aon := false, al := 0, fon := false, fl := 0 } (s.crash kp) := by
  have hs := h.settle kp
  obtain ⟨h1, h2, h3, h4, h5, h6, h7, h8, h9, h10, h11, h12, h13⟩ := h
  have hl : (s.S.take s.firm ++ keepL kp (s.S.drop s.firm)).length ≤ s.S.length := by
    have := keepL_len kp (s.S.drop s.firm)
    simp only [List.length_append, List.length_take, List.length_drop] at *
    omega
  refine ⟨h1, rfl, .inr ⟨rfl, rfl⟩, .inr ⟨rfl, rfl⟩, h5, Nat.le_refl _, by simp [SeS.crash, lw], ?_, ?_, by simp only [SeS.crash]; omega, h11, by simp, by simp⟩
  · simp only [SeS.crash, List.take_length]; exact hs
  · intro p hp
    simp only [SeS.crash] at hp
    rcases List.mem_append.1 hp with hp | hp
    · exact h9 p (List.mem_of_mem_take hp)
    · exact h9 p (List.mem_of_mem_drop (keepL_mem hp))
theorem SRel.setArm {k : Nat} {d : DkS} {s : SeS} (h : SRel k d s) {n : Int} (hn : -1 ≤ n ∧ n ≤ 10) : SRel k { d with aon := decide (n ≥ 0), al := n } { s with arm := n } := by
  obtain ⟨h1, h2, h3, h4, h5, h6, h7, h8, h9, h10, h11, h12, h13⟩ := h
  refine ⟨h1, h2, ?_, h4, h5, h6, h7, h8, h9, h10, h11, by simp only; omega, h13⟩
  simp only
  by_cases h0 : n ≥ 0
  · left; simp [h0]
  · right; simp [h0]; omega
theorem SRel.setFail {k : Nat} {d : DkS} {s : SeS} (h : SRel k d s) {n : Int} (hn : -1 ≤ n ∧ n ≤ 10) : SRel k { d with fon := decide (n ≥ 0), fl := n } { s with fail := n } := by
  obtain ⟨h1, h2, h3, h4, h5, h6, h7, h8, h9, h10, h11, h12, h13⟩ := h
  refine ⟨h1, h2, h3, ?_, h5, h6, h7, h8, h9, h10, h11, h12, by simp only; omega⟩
  simp only
  by_cases h0 : n ≥ 0
  · left; simp [h0]
  · right; simp [h0]; omega
theorem SRel.same {k : Nat} {d : DkS} {s : SeS} (h : SRel k d s) {F' : List (Int × Blk)} (hF : ∀ a, fget F' a = fget d.F a) : SRel k { d with F := F' } s :=
  { h with holds := fun a => (hF a).trans (h.holds a) }
theorem SRel.start (many : Int) : SRel 0 ⟨many, [], [], false, false, 0, false, 0, 0⟩ ⟨many, 0, -1, -1, 0, false, []⟩ :=
  ⟨rfl, rfl, .inr ⟨rfl, rfl⟩, .inr ⟨rfl, rfl⟩, rfl, Nat.le_refl _, rfl, fun a => by simp [fget, holdsS, blk]; decide, by simp, Nat.le_refl _, by simp, by simp, by simp⟩
theorem ask_read {d : DkS} {a : Int} (ho : d.out = false) (hf : d.fon = false) (ha : 0 ≤ a ∧ a < d.n) : d.ask a false = 0 ∧ d.did a false = { d with ops := d.ops + 1 } := by
  have hr : ¬ (a < 0 ∨ a ≥ d.n) := by omega
  have hm : met d.fon d.fl = (false, d.fon, d.fl) := by simp [met, hf]
  unfold DkS.did DkS.asked DkS.ask askD
  simp only [ho, Bool.false_eq_true, if_false, if_neg hr, hm]
  exact ⟨trivial, trivial⟩
end Go.Proofs.Sl
