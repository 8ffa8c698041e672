/- TopSectors: the law's own functions: what comes of asking, what a sector holds, the power that comes again. -/
import Derived.Test.YtimokikpnngikaaSlSecP
namespace Go.Proofs.Sl
open Go
set_option linter.unusedVariables false
set_option linter.unusedSimpArgs false

/-- A write of the story, as cells. -/
def st (p : Int × Nat) : List Value := [.int .i64 p.1, .int .i64 p.2]
theorem st_len (p : Int × Nat) : (st p).length = 2 := rfl
theorem ones_st (p : Int × Nat) : Ones (st p) := fun v hv => by
  simp [st] at hv; rcases hv with rfl | rfl <;> rfl
abbrev seC (b cap : Nat) (A : Option Addr) (s : SeS) : SP := Pt b (.cells ([.int .i64 s.many, .int .i64 s.firm, .int .i64 s.arm, .int .i64 s.fail, .int .i64 s.ops, .bool s.dead, .slice A s.S.length cap] : List Value).toArray 97 (0, 0))
abbrev seL (cap : Nat) (A : Option Addr) (S : List (Int × Nat)) : SP := ORow A cap 100 2 (S.flatMap st)
/-- A slice of a row of one's own. -/
theorem adr_add (a : Addr) (x y : Nat) : (a.add x).add y = a.add (x + y) := by
  obtain ⟨ab, ao, sp⟩ := a
  unfold Addr.add
  split <;> split <;> simp_all <;> omega
theorem flat_get' {α : Type} (f : α → List Value) {n : Nat} (hf : ∀ x, (f x).length = n) : ∀ (l : List α) {j : Nat} {y : Value}, (l.flatMap f)[j]? = some y → ∃ (i k : Nat) (x : α), l[i]? = some x ∧ k < n ∧ j = i * n + k ∧ (f x)[k]? = some y
  | [], j, y, h => by simp at h
  | x :: l, j, y, h => by
    rw [List.flatMap_cons] at h
    by_cases hj : j < n
    · rw [List.getElem?_append_left (by rw [hf]; exact hj)] at h
      exact ⟨0, j, x, rfl, hj, by omega, h⟩
    · rw [List.getElem?_append_right (by rw [hf]; omega), hf] at h
      obtain ⟨i, k, z, h1, h2, h3, h4⟩ := flat_get' f hf l h
      exact ⟨i + 1, k, z, by simpa using h1, h2, by rw [Nat.succ_mul]; omega, h4⟩
section
variable {own : List SP} {K : PH → Prop} {α : Type} {f : α → List Value} {n : Nat}
theorem ORow.cap {g : Os × Array (Nat × ByteArray)} {w : World} {A : Option Addr} {cap : Nat} {T : TypeId} {l : List α} (i : Nat) (hi : own[i]? = some (ORow A cap T n (l.flatMap f))) (hf : ∀ x, (f x).length = n) (hn : 0 < n) (h : HS g own K w) : l.length ≤ cap := by
  rcases (h.focus hi).orow with ⟨_, rfl, h, _⟩ | ⟨b, pad, fr, rfl, hl, _⟩
  · have := congrArg List.length h
    rw [flat_len f n hf] at this
    rcases Nat.eq_zero_or_pos l.length with h0 | h0
    · omega
    · have := Nat.mul_pos h0 hn; simp at *; omega
  · rw [List.length_append, flat_len f n hf] at hl
    exact Nat.le_of_mul_le_mul_right (by omega) hn
theorem Cells.orowCut {A : Option Addr} {cap l0 : Nat} {T : TypeId} {l : List α} (i : Nat) (hi : own[i]? = some (ORow A cap T n (l.flatMap f))) (hf : ∀ x, (f x).length = n) (hn : 0 < n) {j : Nat} (h : l0 + j < l.length) : Cells own K (adr (cutA A cap n l0) (j * n)) (f l[l0 + j]) := by
  intro k v hv g w hS
  have hc := ORow.cap (K := K) i hi hf hn hS
  have h1 := Cells.orowAt (K := K) i hi hf h k v hv g w hS
  have hcut : cutA A cap n l0 = A.map (·.add (l0 * n)) := by unfold cutA; rw [if_neg (by omega)]
  rw [hcut]
  rcases (hS.focus hi).orow with ⟨_, _, h0, _⟩ | ⟨b, pad, fr, rfl, _⟩
  · exfalso
    have := congrArg List.length h0
    rw [flat_len f n hf] at this
    have := Nat.mul_pos (show 0 < l.length by omega) hn
    simp at *; omega
  · simp only [Option.map_some, adr, adr_add] at h1 ⊢
    rw [show l0 * n + j * n + k = (l0 + j) * n + k by rw [Nat.add_mul]]
    exact h1
theorem Based.orowCut {A : Option Addr} {cap l0 : Nat} {T : TypeId} {l : List α} (i : Nat) (hi : own[i]? = some (ORow A cap T n (l.flatMap f))) (hf : ∀ x, (f x).length = n) (hn : 0 < n) (h : l0 < l.length) : Based own K (cutA A cap n l0) := fun g w hS => by
  have hc := ORow.cap (K := K) i hi hf hn hS
  have hcut : cutA A cap n l0 = A.map (·.add (l0 * n)) := by unfold cutA; rw [if_neg (by omega)]
  rcases (hS.focus hi).orow with ⟨_, _, h0, _⟩ | ⟨b, pad, fr, rfl, _⟩
  · exfalso
    have := congrArg List.length h0
    rw [flat_len f n hf] at this
    have := Nat.mul_pos (show 0 < l.length by omega) hn
    simp at *; omega
  · rw [hcut]; exact ⟨b, 0 + l0 * n, by simp [add_mk]⟩
theorem Src.orowCut {P : Program} {A : Option Addr} {cap cap' l0 k m : Nat} {T : TypeId} {l : List α} (i : Nat) (hi : own[i]? = some (ORow A cap T n (l.flatMap f))) (hf : ∀ x, (f x).length = n) (hn : 0 < n) (h : l0 + k ≤ l.length) (hm : m = k) : Src P own K n (.slice (cutA A cap n l0) m cap') k (((l.drop l0).take k).flatMap f) := by
  subst hm
  refine ⟨fun w => by simp [Builtin.lenOf], fun g w hS => ?_⟩
  by_cases h0 : m = 0
  · subst h0
    have : (0 : Nat) * n = 0 := by omega
    cases hA : cutA A cap n l0 <;> simp [Builtin.firstCells, loadCells, loadCellsFrom]
  · obtain ⟨b, o, hb⟩ := Based.orowCut (K := K) i hi hf hn (show l0 < l.length by omega) g w hS
    have hlen : (((l.drop l0).take m).flatMap f).length = m * n := by rw [flat_len f n hf]; congr 1; simp; omega
    have := run_loadCells_list (P := P) w (ad b o) (((l.drop l0).take m).flatMap f) (fun q x hx => by
      obtain ⟨j, k, z, g1, g2, g3, g4⟩ := flat_get' f hf _ hx
      have hj : j < m := by
        have := (List.getElem?_eq_some_iff.1 g1).1; simp at this; omega
      rw [List.getElem?_take_of_lt hj, List.getElem?_drop] at g1
      have hz : z = l[l0 + j]'(by omega) := by
        rw [List.getElem?_eq_getElem (show l0 + j < l.length by omega)] at g1; cases g1; rfl
      subst hz
      have h2 := Cells.orowCut (K := K) (l0 := l0) (j := j) i hi hf hn (by omega) k x g4 g w hS
      rw [hb] at h2
      simp only [adr, adr_add] at h2
      rw [g3]; exact h2)
    rw [hlen] at this
    rw [hb]
    simpa [Builtin.firstCells] using this
end

theorem c53 {K : PH → Prop} {b cap : Nat} {A : Option Addr} {s : SeS} {R : List SP} {a : Int} {lays : Bool} (hs : -1 ≤ s.arm ∧ s.arm ≤ 1000 ∧ -1 ≤ s.fail ∧ s.fail ≤ 1000 ∧ 0 ≤ s.ops ∧ s.ops ≤ 1000000) : Spec Try.prog 53 [.pointer (some (ad b 0)), .int .i64 a, .bool lays] (seC b cap A s :: R) (K)
    (Ret (.int .i64 (s.ask a lays).1) (seC b cap A (s.ask a lays).2 :: R) K) := by
  refine Spec.of en_53 Try.func53 rfl rfl fun g => ?_
  refine WC.seq ?_
  refine WC.region ?_
  refine WL.q (q_assign rfl) rfl ?_
  refine WL.nil ?_
  refine AT.then_n ?_
  refine WC.seq ?_
  refine WC.block ?_
  refine WC.seq ?_
  refine WC.region ?_
  refine WL.q (q_move rfl) rfl ?_
  refine WL.q (q_nil rfl) rfl ?_
  refine WL.q (q_fieldAddr rfl fo_97_5) rfl ?_
  refine WL.q (q_load rfl a_4 (by first | exact Cell.ptL 0 rfl rfl | exact Cell.ptL 1 rfl rfl | exact Cell.ptL 2 rfl rfl)) rfl ?_
  refine WL.q (q_assign rfl) rfl ?_
  refine WL.nil ?_
  refine AT.then_n ?_
  refine WC.cond rfl (fun h1 => ?_) (fun h1 => ?_)
  · -- if 1: yes
    try have p1 := of_decide_eq_true h1
    refine WC.seq ?_
    refine WC.region ?_
    refine WL.q (q_assign rfl) rfl ?_
    refine WL.nil ?_
    refine AT.then_n ?_
    refine WC.ret ?_
    refine AT.blk_r ?_
    refine AT.then_r ?_
    refine AT.done rfl (RO.one rfl rfl) ⟨?_, rfl, rfl⟩ (Imp.eq ?_)
    all_goals unfold SeS.ask
    all_goals (try simp only [if_neg (show ¬ (a ≥ s.many ∨ a < -1) by omega)])
    all_goals (try simp only [eq_false (show ¬ (s.fail > 0) by omega), if_false])
    all_goals (try simp only [eq_false (show ¬ (s.arm > 0) by omega), and_false, if_false])
    all_goals (first | (simp_all; done) | (simp_all; omega))
  · -- if 1: no
    try have p1 := of_decide_eq_false h1
    refine WC.seq ?_
    refine WC.region ?_
    refine WL.q (q_move rfl) rfl ?_
    refine WL.q (q_move rfl) rfl ?_
    refine WL.q (q_nil rfl) rfl ?_
    refine WL.q (q_fieldAddr rfl fo_97_0) rfl ?_
    refine WL.q (q_load rfl a_3 (by first | exact Cell.ptL 0 rfl rfl | exact Cell.ptL 1 rfl rfl | exact Cell.ptL 2 rfl rfl)) rfl ?_
    refine WL.q (q_geq rfl rfl) rfl ?_
    refine WL.q (q_move rfl) rfl ?_
    refine WL.split 19 rfl (fun hg3_6 => ?_) (fun hg3_6 => ?_)
    · -- guard 3.6: True
      try have hp3_6 := of_decide_eq_true hg3_6
      refine WL.off rfl rfl hg3_6 rfl ?_
      refine WL.off rfl rfl hg3_6 rfl ?_
      refine WL.q (q_pickT rfl hg3_6 rfl) rfl ?_
      refine WL.q (q_assign rfl) rfl ?_
      refine WL.nil ?_
      refine AT.then_n ?_
      refine WC.condT rfl ?_
      refine WC.seq ?_
      refine WC.region ?_
      refine WL.q (q_assign rfl) rfl ?_
      refine WL.nil ?_
      refine AT.then_n ?_
      refine WC.ret ?_
      refine AT.blk_r ?_
      refine AT.then_r ?_
      refine AT.done rfl (RO.one rfl rfl) ⟨?_, rfl, rfl⟩ (Imp.eq ?_)
      all_goals unfold SeS.ask
      all_goals (try simp only [if_neg (show ¬ (a ≥ s.many ∨ a < -1) by omega)])
      all_goals (try simp only [eq_false (show ¬ (s.fail > 0) by omega), if_false])
      all_goals (try simp only [eq_false (show ¬ (s.arm > 0) by omega), and_false, if_false])
      all_goals (first | (simp_all; done) | (simp_all; omega))
    · -- guard 3.6: False
      try have hp3_6 := of_decide_eq_false hg3_6
      refine WL.on rfl rfl hg3_6 ?_
      refine WL.q (q_move rfl) rfl ?_
      refine WL.on rfl rfl hg3_6 ?_
      refine WL.q (q_lss rfl rfl) rfl ?_
      refine WL.q (q_pickF rfl hg3_6 rfl) rfl ?_
      refine WL.q (q_assign rfl) rfl ?_
      refine WL.nil ?_
      refine AT.then_n ?_
      refine WC.cond rfl (fun h2 => ?_) (fun h2 => ?_)
      · -- if 2: yes
        try have p2 := of_decide_eq_true h2
        refine WC.seq ?_
        refine WC.region ?_
        refine WL.q (q_assign rfl) rfl ?_
        refine WL.nil ?_
        refine AT.then_n ?_
        refine WC.ret ?_
        refine AT.blk_r ?_
        refine AT.then_r ?_
        refine AT.done rfl (RO.one rfl rfl) ⟨?_, rfl, rfl⟩ (Imp.eq ?_)
        all_goals unfold SeS.ask
        all_goals (try simp only [if_neg (show ¬ (a ≥ s.many ∨ a < -1) by omega)])
        all_goals (try simp only [eq_false (show ¬ (s.fail > 0) by omega), if_false])
        all_goals (try simp only [eq_false (show ¬ (s.arm > 0) by omega), and_false, if_false])
        all_goals (first | (simp_all; done) | (simp_all; omega))
      · -- if 2: no
        try have p2 := of_decide_eq_false h2
        refine WC.seq ?_
        refine WC.region ?_
        refine WL.q (q_move rfl) rfl ?_
        refine WL.q (q_nil rfl) rfl ?_
        refine WL.q (q_fieldAddr rfl fo_97_3) rfl ?_
        refine WL.q (q_load rfl a_3 (by first | exact Cell.ptL 0 rfl rfl | exact Cell.ptL 1 rfl rfl | exact Cell.ptL 2 rfl rfl)) rfl ?_
        refine WL.q (q_eql rfl rfl) rfl ?_
        refine WL.q (q_assign rfl) rfl ?_
        refine WL.nil ?_
        refine AT.then_n ?_
        refine WC.cond rfl (fun h3 => ?_) (fun h3 => ?_)
        · -- if 3: yes
          try have p3 := of_decide_eq_true h3
          refine WC.seq ?_
          refine WC.region ?_
          refine WL.q (q_move rfl) rfl ?_
          refine WL.q (q_nil rfl) rfl ?_
          refine WL.q (q_fieldAddr rfl fo_97_3) rfl ?_
          first | refine WL.effn (e_store 0 rfl rfl rfl i_3 rfl (by simp)) ?_ | refine WL.effn (e_store 1 rfl rfl rfl i_3 rfl (by simp)) ?_ | refine WL.effn (e_store 2 rfl rfl rfl i_3 rfl (by simp)) ?_
          rintro _ _ _ ⟨rfl, rfl, rfl⟩
          refine WL.nil ?_
          refine AT.then_n ?_
          refine WC.seq ?_
          refine WC.region ?_
          refine WL.q (q_assign rfl) rfl ?_
          refine WL.nil ?_
          refine AT.then_n ?_
          refine WC.ret ?_
          refine AT.blk_r ?_
          refine AT.then_r ?_
          refine AT.done rfl (RO.one rfl rfl) ⟨?_, rfl, rfl⟩ (Imp.eq ?_)
          all_goals unfold SeS.ask
          all_goals (try simp only [if_neg (show ¬ (a ≥ s.many ∨ a < -1) by omega)])
          all_goals (try simp only [eq_false (show ¬ (s.fail > 0) by omega), if_false])
          all_goals (try simp only [eq_false (show ¬ (s.arm > 0) by omega), and_false, if_false])
          all_goals (first | (simp_all; done) | (simp_all; omega))
        · -- if 3: no
          try have p3 := of_decide_eq_false h3
          refine WC.skip ?_
          refine AT.blk_n ?_
          refine AT.then_n ?_
          refine WC.seq ?_
          refine WC.seq ?_
          refine WC.region ?_
          refine WL.q (q_move rfl) rfl ?_
          refine WL.q (q_nil rfl) rfl ?_
          refine WL.q (q_fieldAddr rfl fo_97_3) rfl ?_
          refine WL.q (q_load rfl a_3 (by first | exact Cell.ptL 0 rfl rfl | exact Cell.ptL 1 rfl rfl | exact Cell.ptL 2 rfl rfl)) rfl ?_
          refine WL.q (q_gtr rfl rfl) rfl ?_
          refine WL.nil ?_
          refine AT.then_n ?_
          refine WC.cond rfl (fun h4 => ?_) (fun h4 => ?_)
          · -- if 4: yes
            try have p4 := of_decide_eq_true h4
            refine WC.region ?_
            refine WL.q (q_move rfl) rfl ?_
            refine WL.q (q_nil rfl) rfl ?_
            refine WL.q (q_fieldAddr rfl fo_97_3) rfl ?_
            refine WL.q (q_load rfl a_3 (by first | exact Cell.ptL 0 rfl rfl | exact Cell.ptL 1 rfl rfl | exact Cell.ptL 2 rfl rfl)) rfl ?_
            first | refine WL.q (q_sub64 rfl rfl (by omega)) rfl ?_ | refine WL.q (q_sub rfl rfl) rfl ?_
            refine WL.q (q_nil rfl) rfl ?_
            refine WL.q (q_fieldAddr rfl fo_97_3) rfl ?_
            first | refine WL.effn (e_store 0 rfl rfl rfl i_3 rfl (by simp)) ?_ | refine WL.effn (e_store 1 rfl rfl rfl i_3 rfl (by simp)) ?_ | refine WL.effn (e_store 2 rfl rfl rfl i_3 rfl (by simp)) ?_
            rintro _ _ _ ⟨rfl, rfl, rfl⟩
            refine WL.nil ?_
            refine AT.then_n ?_
            refine WC.seq ?_
            refine WC.seq ?_
            refine WC.region ?_
            refine WL.q (q_move rfl) rfl ?_
            refine WL.q (q_move rfl) rfl ?_
            refine WL.split 45 rfl (fun hg10_1 => ?_) (fun hg10_1 => ?_)
            · -- guard 10.1: True
              try have hp10_1 := of_decide_eq_true hg10_1
              refine WL.on rfl rfl hg10_1 ?_
              refine WL.q (q_move rfl) rfl ?_
              refine WL.on rfl rfl hg10_1 ?_
              refine WL.q (q_nil rfl) rfl ?_
              refine WL.on rfl rfl hg10_1 ?_
              refine WL.q (q_fieldAddr rfl fo_97_2) rfl ?_
              refine WL.on rfl rfl hg10_1 ?_
              refine WL.q (q_load rfl a_3 (by first | exact Cell.ptL 0 rfl rfl | exact Cell.ptL 1 rfl rfl | exact Cell.ptL 2 rfl rfl)) rfl ?_
              refine WL.on rfl rfl hg10_1 ?_
              refine WL.q (q_eql rfl rfl) rfl ?_
              refine WL.q (q_pickT rfl hg10_1 rfl) rfl ?_
              refine WL.nil ?_
              refine AT.then_n ?_
              refine WC.cond rfl (fun h5 => ?_) (fun h5 => ?_)
              · -- if 5: yes
                try have p5 := of_decide_eq_true h5
                refine WC.seq ?_
                refine WC.region ?_
                refine WL.q (q_move rfl) rfl ?_
                refine WL.q (q_move rfl) rfl ?_
                refine WL.q (q_nil rfl) rfl ?_
                refine WL.q (q_fieldAddr rfl fo_97_5) rfl ?_
                first | refine WL.effn (e_store 0 rfl rfl rfl i_4 rfl (by simp)) ?_ | refine WL.effn (e_store 1 rfl rfl rfl i_4 rfl (by simp)) ?_ | refine WL.effn (e_store 2 rfl rfl rfl i_4 rfl (by simp)) ?_
                rintro _ _ _ ⟨rfl, rfl, rfl⟩
                refine WL.q (q_nil rfl) rfl ?_
                refine WL.q (q_fieldAddr rfl fo_97_2) rfl ?_
                first | refine WL.effn (e_store 0 rfl rfl rfl i_3 rfl (by simp)) ?_ | refine WL.effn (e_store 1 rfl rfl rfl i_3 rfl (by simp)) ?_ | refine WL.effn (e_store 2 rfl rfl rfl i_3 rfl (by simp)) ?_
                rintro _ _ _ ⟨rfl, rfl, rfl⟩
                refine WL.nil ?_
                refine AT.then_n ?_
                refine WC.seq ?_
                refine WC.region ?_
                refine WL.q (q_assign rfl) rfl ?_
                refine WL.nil ?_
                refine AT.then_n ?_
                refine WC.ret ?_
                refine AT.then_r ?_
                refine AT.done rfl (RO.one rfl rfl) ⟨?_, rfl, rfl⟩ (Imp.eq ?_)
                all_goals unfold SeS.ask
                all_goals (try simp only [if_neg (show ¬ (a ≥ s.many ∨ a < -1) by omega)])
                all_goals (try simp only [eq_false (show ¬ (s.fail > 0) by omega), if_false])
                all_goals (try simp only [eq_false (show ¬ (s.arm > 0) by omega), and_false, if_false])
                all_goals (first | (simp_all; done) | (simp_all; omega))
              · -- if 5: no
                try have p5 := of_decide_eq_false h5
                refine WC.skip ?_
                refine AT.then_n ?_
                refine WC.seq ?_
                refine WC.seq ?_
                refine WC.region ?_
                refine WL.q (q_move rfl) rfl ?_
                refine WL.q (q_move rfl) rfl ?_
                refine WL.split 59 rfl (fun hg13_1 => ?_) (fun hg13_1 => ?_)
                · -- guard 13.1: True
                  try have hp13_1 := of_decide_eq_true hg13_1
                  refine WL.on rfl rfl hg13_1 ?_
                  refine WL.q (q_move rfl) rfl ?_
                  refine WL.on rfl rfl hg13_1 ?_
                  refine WL.q (q_nil rfl) rfl ?_
                  refine WL.on rfl rfl hg13_1 ?_
                  refine WL.q (q_fieldAddr rfl fo_97_2) rfl ?_
                  refine WL.on rfl rfl hg13_1 ?_
                  refine WL.q (q_load rfl a_3 (by first | exact Cell.ptL 0 rfl rfl | exact Cell.ptL 1 rfl rfl | exact Cell.ptL 2 rfl rfl)) rfl ?_
                  refine WL.on rfl rfl hg13_1 ?_
                  refine WL.q (q_gtr rfl rfl) rfl ?_
                  refine WL.q (q_pickT rfl hg13_1 rfl) rfl ?_
                  refine WL.nil ?_
                  refine AT.then_n ?_
                  refine WC.cond rfl (fun h6 => ?_) (fun h6 => ?_)
                  · -- if 6: yes
                    try have p6 := of_decide_eq_true h6
                    refine WC.region ?_
                    refine WL.q (q_move rfl) rfl ?_
                    refine WL.q (q_nil rfl) rfl ?_
                    refine WL.q (q_fieldAddr rfl fo_97_2) rfl ?_
                    refine WL.q (q_load rfl a_3 (by first | exact Cell.ptL 0 rfl rfl | exact Cell.ptL 1 rfl rfl | exact Cell.ptL 2 rfl rfl)) rfl ?_
                    first | refine WL.q (q_sub64 rfl rfl (by omega)) rfl ?_ | refine WL.q (q_sub rfl rfl) rfl ?_
                    refine WL.q (q_nil rfl) rfl ?_
                    refine WL.q (q_fieldAddr rfl fo_97_2) rfl ?_
                    first | refine WL.effn (e_store 0 rfl rfl rfl i_3 rfl (by simp)) ?_ | refine WL.effn (e_store 1 rfl rfl rfl i_3 rfl (by simp)) ?_ | refine WL.effn (e_store 2 rfl rfl rfl i_3 rfl (by simp)) ?_
                    rintro _ _ _ ⟨rfl, rfl, rfl⟩
                    refine WL.nil ?_
                    refine AT.then_n ?_
                    refine WC.seq ?_
                    refine WC.region ?_
                    refine WL.q (q_move rfl) rfl ?_
                    refine WL.q (q_nil rfl) rfl ?_
                    refine WL.q (q_fieldAddr rfl fo_97_4) rfl ?_
                    refine WL.q (q_load rfl a_3 (by first | exact Cell.ptL 0 rfl rfl | exact Cell.ptL 1 rfl rfl | exact Cell.ptL 2 rfl rfl)) rfl ?_
                    first | refine WL.q (q_add64 rfl rfl (by omega)) rfl ?_ | refine WL.q (q_add rfl rfl) rfl ?_
                    refine WL.q (q_nil rfl) rfl ?_
                    refine WL.q (q_fieldAddr rfl fo_97_4) rfl ?_
                    first | refine WL.effn (e_store 0 rfl rfl rfl i_3 rfl (by simp)) ?_ | refine WL.effn (e_store 1 rfl rfl rfl i_3 rfl (by simp)) ?_ | refine WL.effn (e_store 2 rfl rfl rfl i_3 rfl (by simp)) ?_
                    rintro _ _ _ ⟨rfl, rfl, rfl⟩
                    refine WL.nil ?_
                    refine AT.then_n ?_
                    refine WC.seq ?_
                    refine WC.region ?_
                    refine WL.q (q_assign rfl) rfl ?_
                    refine WL.nil ?_
                    refine AT.then_n ?_
                    refine WC.ret ?_
                    refine AT.done rfl (RO.one rfl rfl) ⟨?_, rfl, rfl⟩ (Imp.eq ?_)
                    all_goals unfold SeS.ask
                    all_goals (try simp only [if_neg (show ¬ (a ≥ s.many ∨ a < -1) by omega)])
                    all_goals (try simp only [eq_false (show ¬ (s.fail > 0) by omega), if_false])
                    all_goals (try simp only [eq_false (show ¬ (s.arm > 0) by omega), and_false, if_false])
                    all_goals (first | (simp_all; done) | (simp_all; omega))
                  · -- if 6: no
                    try have p6 := of_decide_eq_false h6
                    refine WC.skip ?_
                    refine AT.then_n ?_
                    refine WC.seq ?_
                    refine WC.region ?_
                    refine WL.q (q_move rfl) rfl ?_
                    refine WL.q (q_nil rfl) rfl ?_
                    refine WL.q (q_fieldAddr rfl fo_97_4) rfl ?_
                    refine WL.q (q_load rfl a_3 (by first | exact Cell.ptL 0 rfl rfl | exact Cell.ptL 1 rfl rfl | exact Cell.ptL 2 rfl rfl)) rfl ?_
                    first | refine WL.q (q_add64 rfl rfl (by omega)) rfl ?_ | refine WL.q (q_add rfl rfl) rfl ?_
                    refine WL.q (q_nil rfl) rfl ?_
                    refine WL.q (q_fieldAddr rfl fo_97_4) rfl ?_
                    first | refine WL.effn (e_store 0 rfl rfl rfl i_3 rfl (by simp)) ?_ | refine WL.effn (e_store 1 rfl rfl rfl i_3 rfl (by simp)) ?_ | refine WL.effn (e_store 2 rfl rfl rfl i_3 rfl (by simp)) ?_
                    rintro _ _ _ ⟨rfl, rfl, rfl⟩
                    refine WL.nil ?_
                    refine AT.then_n ?_
                    refine WC.seq ?_
                    refine WC.region ?_
                    refine WL.q (q_assign rfl) rfl ?_
                    refine WL.nil ?_
                    refine AT.then_n ?_
                    refine WC.ret ?_
                    refine AT.done rfl (RO.one rfl rfl) ⟨?_, rfl, rfl⟩ (Imp.eq ?_)
                    all_goals unfold SeS.ask
                    all_goals (try simp only [if_neg (show ¬ (a ≥ s.many ∨ a < -1) by omega)])
                    all_goals (try simp only [eq_false (show ¬ (s.fail > 0) by omega), if_false])
                    all_goals (try simp only [eq_false (show ¬ (s.arm > 0) by omega), and_false, if_false])
                    all_goals (first | (simp_all; done) | (simp_all; omega))
                · -- guard 13.1: False
                  try have hp13_1 := of_decide_eq_false hg13_1
                  refine WL.off rfl rfl hg13_1 rfl ?_
                  refine WL.off rfl rfl hg13_1 rfl ?_
                  refine WL.off rfl rfl hg13_1 rfl ?_
                  refine WL.off rfl rfl hg13_1 rfl ?_
                  refine WL.off rfl rfl hg13_1 rfl ?_
                  refine WL.q (q_pickF rfl hg13_1 rfl) rfl ?_
                  refine WL.nil ?_
                  refine AT.then_n ?_
                  refine WC.condF rfl ?_
                  refine WC.skip ?_
                  refine AT.then_n ?_
                  refine WC.seq ?_
                  refine WC.region ?_
                  refine WL.q (q_move rfl) rfl ?_
                  refine WL.q (q_nil rfl) rfl ?_
                  refine WL.q (q_fieldAddr rfl fo_97_4) rfl ?_
                  refine WL.q (q_load rfl a_3 (by first | exact Cell.ptL 0 rfl rfl | exact Cell.ptL 1 rfl rfl | exact Cell.ptL 2 rfl rfl)) rfl ?_
                  first | refine WL.q (q_add64 rfl rfl (by omega)) rfl ?_ | refine WL.q (q_add rfl rfl) rfl ?_
                  refine WL.q (q_nil rfl) rfl ?_
                  refine WL.q (q_fieldAddr rfl fo_97_4) rfl ?_
                  first | refine WL.effn (e_store 0 rfl rfl rfl i_3 rfl (by simp)) ?_ | refine WL.effn (e_store 1 rfl rfl rfl i_3 rfl (by simp)) ?_ | refine WL.effn (e_store 2 rfl rfl rfl i_3 rfl (by simp)) ?_
                  rintro _ _ _ ⟨rfl, rfl, rfl⟩
                  refine WL.nil ?_
                  refine AT.then_n ?_
                  refine WC.seq ?_
                  refine WC.region ?_
                  refine WL.q (q_assign rfl) rfl ?_
                  refine WL.nil ?_
                  refine AT.then_n ?_
                  refine WC.ret ?_
                  refine AT.done rfl (RO.one rfl rfl) ⟨?_, rfl, rfl⟩ (Imp.eq ?_)
                  all_goals unfold SeS.ask
                  all_goals (try simp only [if_neg (show ¬ (a ≥ s.many ∨ a < -1) by omega)])
                  all_goals (try simp only [eq_false (show ¬ (s.fail > 0) by omega), if_false])
                  all_goals (try simp only [eq_false (show ¬ (s.arm > 0) by omega), and_false, if_false])
                  all_goals (first | (simp_all; done) | (simp_all; omega))
            · -- guard 10.1: False
              try have hp10_1 := of_decide_eq_false hg10_1
              refine WL.off rfl rfl hg10_1 rfl ?_
              refine WL.off rfl rfl hg10_1 rfl ?_
              refine WL.off rfl rfl hg10_1 rfl ?_
              refine WL.off rfl rfl hg10_1 rfl ?_
              refine WL.off rfl rfl hg10_1 rfl ?_
              refine WL.q (q_pickF rfl hg10_1 rfl) rfl ?_
              refine WL.nil ?_
              refine AT.then_n ?_
              refine WC.condF rfl ?_
              refine WC.skip ?_
              refine AT.then_n ?_
              refine WC.seq ?_
              refine WC.seq ?_
              refine WC.region ?_
              refine WL.q (q_move rfl) rfl ?_
              refine WL.q (q_move rfl) rfl ?_
              refine WL.split 59 rfl (fun hg13_1 => ?_) (fun hg13_1 => ?_)
              · -- guard 13.1: True
                try have hp13_1 := of_decide_eq_true hg13_1
                refine WL.on rfl rfl hg13_1 ?_
                refine WL.q (q_move rfl) rfl ?_
                refine WL.on rfl rfl hg13_1 ?_
                refine WL.q (q_nil rfl) rfl ?_
                refine WL.on rfl rfl hg13_1 ?_
                refine WL.q (q_fieldAddr rfl fo_97_2) rfl ?_
                refine WL.on rfl rfl hg13_1 ?_
                refine WL.q (q_load rfl a_3 (by first | exact Cell.ptL 0 rfl rfl | exact Cell.ptL 1 rfl rfl | exact Cell.ptL 2 rfl rfl)) rfl ?_
                refine WL.on rfl rfl hg13_1 ?_
                refine WL.q (q_gtr rfl rfl) rfl ?_
                refine WL.q (q_pickT rfl hg13_1 rfl) rfl ?_
                refine WL.nil ?_
                refine AT.then_n ?_
                refine WC.cond rfl (fun h6 => ?_) (fun h6 => ?_)
                · -- if 6: yes
                  try have p6 := of_decide_eq_true h6
                  refine WC.region ?_
                  refine WL.q (q_move rfl) rfl ?_
                  refine WL.q (q_nil rfl) rfl ?_
                  refine WL.q (q_fieldAddr rfl fo_97_2) rfl ?_
                  refine WL.q (q_load rfl a_3 (by first | exact Cell.ptL 0 rfl rfl | exact Cell.ptL 1 rfl rfl | exact Cell.ptL 2 rfl rfl)) rfl ?_
                  first | refine WL.q (q_sub64 rfl rfl (by omega)) rfl ?_ | refine WL.q (q_sub rfl rfl) rfl ?_
                  refine WL.q (q_nil rfl) rfl ?_
                  refine WL.q (q_fieldAddr rfl fo_97_2) rfl ?_
                  first | refine WL.effn (e_store 0 rfl rfl rfl i_3 rfl (by simp)) ?_ | refine WL.effn (e_store 1 rfl rfl rfl i_3 rfl (by simp)) ?_ | refine WL.effn (e_store 2 rfl rfl rfl i_3 rfl (by simp)) ?_
                  rintro _ _ _ ⟨rfl, rfl, rfl⟩
                  refine WL.nil ?_
                  refine AT.then_n ?_
                  refine WC.seq ?_
                  refine WC.region ?_
                  refine WL.q (q_move rfl) rfl ?_
                  refine WL.q (q_nil rfl) rfl ?_
                  refine WL.q (q_fieldAddr rfl fo_97_4) rfl ?_
                  refine WL.q (q_load rfl a_3 (by first | exact Cell.ptL 0 rfl rfl | exact Cell.ptL 1 rfl rfl | exact Cell.ptL 2 rfl rfl)) rfl ?_
                  first | refine WL.q (q_add64 rfl rfl (by omega)) rfl ?_ | refine WL.q (q_add rfl rfl) rfl ?_
                  refine WL.q (q_nil rfl) rfl ?_
                  refine WL.q (q_fieldAddr rfl fo_97_4) rfl ?_
                  first | refine WL.effn (e_store 0 rfl rfl rfl i_3 rfl (by simp)) ?_ | refine WL.effn (e_store 1 rfl rfl rfl i_3 rfl (by simp)) ?_ | refine WL.effn (e_store 2 rfl rfl rfl i_3 rfl (by simp)) ?_
                  rintro _ _ _ ⟨rfl, rfl, rfl⟩
                  refine WL.nil ?_
                  refine AT.then_n ?_
                  refine WC.seq ?_
                  refine WC.region ?_
                  refine WL.q (q_assign rfl) rfl ?_
                  refine WL.nil ?_
                  refine AT.then_n ?_
                  refine WC.ret ?_
                  refine AT.done rfl (RO.one rfl rfl) ⟨?_, rfl, rfl⟩ (Imp.eq ?_)
                  all_goals unfold SeS.ask
                  all_goals (try simp only [if_neg (show ¬ (a ≥ s.many ∨ a < -1) by omega)])
                  all_goals (try simp only [eq_false (show ¬ (s.fail > 0) by omega), if_false])
                  all_goals (try simp only [eq_false (show ¬ (s.arm > 0) by omega), and_false, if_false])
                  all_goals (first | (simp_all; done) | (simp_all; omega))
                · -- if 6: no
                  try have p6 := of_decide_eq_false h6
                  refine WC.skip ?_
                  refine AT.then_n ?_
                  refine WC.seq ?_
                  refine WC.region ?_
                  refine WL.q (q_move rfl) rfl ?_
                  refine WL.q (q_nil rfl) rfl ?_
                  refine WL.q (q_fieldAddr rfl fo_97_4) rfl ?_
                  refine WL.q (q_load rfl a_3 (by first | exact Cell.ptL 0 rfl rfl | exact Cell.ptL 1 rfl rfl | exact Cell.ptL 2 rfl rfl)) rfl ?_
                  first | refine WL.q (q_add64 rfl rfl (by omega)) rfl ?_ | refine WL.q (q_add rfl rfl) rfl ?_
                  refine WL.q (q_nil rfl) rfl ?_
                  refine WL.q (q_fieldAddr rfl fo_97_4) rfl ?_
                  first | refine WL.effn (e_store 0 rfl rfl rfl i_3 rfl (by simp)) ?_ | refine WL.effn (e_store 1 rfl rfl rfl i_3 rfl (by simp)) ?_ | refine WL.effn (e_store 2 rfl rfl rfl i_3 rfl (by simp)) ?_
                  rintro _ _ _ ⟨rfl, rfl, rfl⟩
                  refine WL.nil ?_
                  refine AT.then_n ?_
                  refine WC.seq ?_
                  refine WC.region ?_
                  refine WL.q (q_assign rfl) rfl ?_
                  refine WL.nil ?_
                  refine AT.then_n ?_
                  refine WC.ret ?_
                  refine AT.done rfl (RO.one rfl rfl) ⟨?_, rfl, rfl⟩ (Imp.eq ?_)
                  all_goals unfold SeS.ask
                  all_goals (try simp only [if_neg (show ¬ (a ≥ s.many ∨ a < -1) by omega)])
                  all_goals (try simp only [eq_false (show ¬ (s.fail > 0) by omega), if_false])
                  all_goals (try simp only [eq_false (show ¬ (s.arm > 0) by omega), and_false, if_false])
                  all_goals (first | (simp_all; done) | (simp_all; omega))
              · -- guard 13.1: False
                try have hp13_1 := of_decide_eq_false hg13_1
                refine WL.off rfl rfl hg13_1 rfl ?_
                refine WL.off rfl rfl hg13_1 rfl ?_
                refine WL.off rfl rfl hg13_1 rfl ?_
                refine WL.off rfl rfl hg13_1 rfl ?_
                refine WL.off rfl rfl hg13_1 rfl ?_
                refine WL.q (q_pickF rfl hg13_1 rfl) rfl ?_
                refine WL.nil ?_
                refine AT.then_n ?_
                refine WC.condF rfl ?_
                refine WC.skip ?_
                refine AT.then_n ?_
                refine WC.seq ?_
                refine WC.region ?_
                refine WL.q (q_move rfl) rfl ?_
                refine WL.q (q_nil rfl) rfl ?_
                refine WL.q (q_fieldAddr rfl fo_97_4) rfl ?_
                refine WL.q (q_load rfl a_3 (by first | exact Cell.ptL 0 rfl rfl | exact Cell.ptL 1 rfl rfl | exact Cell.ptL 2 rfl rfl)) rfl ?_
                first | refine WL.q (q_add64 rfl rfl (by omega)) rfl ?_ | refine WL.q (q_add rfl rfl) rfl ?_
                refine WL.q (q_nil rfl) rfl ?_
                refine WL.q (q_fieldAddr rfl fo_97_4) rfl ?_
                first | refine WL.effn (e_store 0 rfl rfl rfl i_3 rfl (by simp)) ?_ | refine WL.effn (e_store 1 rfl rfl rfl i_3 rfl (by simp)) ?_ | refine WL.effn (e_store 2 rfl rfl rfl i_3 rfl (by simp)) ?_
                rintro _ _ _ ⟨rfl, rfl, rfl⟩
                refine WL.nil ?_
                refine AT.then_n ?_
                refine WC.seq ?_
                refine WC.region ?_
                refine WL.q (q_assign rfl) rfl ?_
                refine WL.nil ?_
                refine AT.then_n ?_
                refine WC.ret ?_
                refine AT.done rfl (RO.one rfl rfl) ⟨?_, rfl, rfl⟩ (Imp.eq ?_)
                all_goals unfold SeS.ask
                all_goals (try simp only [if_neg (show ¬ (a ≥ s.many ∨ a < -1) by omega)])
                all_goals (try simp only [eq_false (show ¬ (s.fail > 0) by omega), if_false])
                all_goals (try simp only [eq_false (show ¬ (s.arm > 0) by omega), and_false, if_false])
                all_goals (first | (simp_all; done) | (simp_all; omega))
          · -- if 4: no
            try have p4 := of_decide_eq_false h4
            refine WC.skip ?_
            refine AT.then_n ?_
            refine WC.seq ?_
            refine WC.seq ?_
            refine WC.region ?_
            refine WL.q (q_move rfl) rfl ?_
            refine WL.q (q_move rfl) rfl ?_
            refine WL.split 45 rfl (fun hg10_1 => ?_) (fun hg10_1 => ?_)
            · -- guard 10.1: True
              try have hp10_1 := of_decide_eq_true hg10_1
              refine WL.on rfl rfl hg10_1 ?_
              refine WL.q (q_move rfl) rfl ?_
              refine WL.on rfl rfl hg10_1 ?_
              refine WL.q (q_nil rfl) rfl ?_
              refine WL.on rfl rfl hg10_1 ?_
              refine WL.q (q_fieldAddr rfl fo_97_2) rfl ?_
              refine WL.on rfl rfl hg10_1 ?_
              refine WL.q (q_load rfl a_3 (by first | exact Cell.ptL 0 rfl rfl | exact Cell.ptL 1 rfl rfl | exact Cell.ptL 2 rfl rfl)) rfl ?_
              refine WL.on rfl rfl hg10_1 ?_
              refine WL.q (q_eql rfl rfl) rfl ?_
              refine WL.q (q_pickT rfl hg10_1 rfl) rfl ?_
              refine WL.nil ?_
              refine AT.then_n ?_
              refine WC.cond rfl (fun h5 => ?_) (fun h5 => ?_)
              · -- if 5: yes
                try have p5 := of_decide_eq_true h5
                refine WC.seq ?_
                refine WC.region ?_
                refine WL.q (q_move rfl) rfl ?_
                refine WL.q (q_move rfl) rfl ?_
                refine WL.q (q_nil rfl) rfl ?_
                refine WL.q (q_fieldAddr rfl fo_97_5) rfl ?_
                first | refine WL.effn (e_store 0 rfl rfl rfl i_4 rfl (by simp)) ?_ | refine WL.effn (e_store 1 rfl rfl rfl i_4 rfl (by simp)) ?_ | refine WL.effn (e_store 2 rfl rfl rfl i_4 rfl (by simp)) ?_
                rintro _ _ _ ⟨rfl, rfl, rfl⟩
                refine WL.q (q_nil rfl) rfl ?_
                refine WL.q (q_fieldAddr rfl fo_97_2) rfl ?_
                first | refine WL.effn (e_store 0 rfl rfl rfl i_3 rfl (by simp)) ?_ | refine WL.effn (e_store 1 rfl rfl rfl i_3 rfl (by simp)) ?_ | refine WL.effn (e_store 2 rfl rfl rfl i_3 rfl (by simp)) ?_
                rintro _ _ _ ⟨rfl, rfl, rfl⟩
                refine WL.nil ?_
                refine AT.then_n ?_
                refine WC.seq ?_
                refine WC.region ?_
                refine WL.q (q_assign rfl) rfl ?_
                refine WL.nil ?_
                refine AT.then_n ?_
                refine WC.ret ?_
                refine AT.then_r ?_
                refine AT.done rfl (RO.one rfl rfl) ⟨?_, rfl, rfl⟩ (Imp.eq ?_)
                all_goals unfold SeS.ask
                all_goals (try simp only [if_neg (show ¬ (a ≥ s.many ∨ a < -1) by omega)])
                all_goals (try simp only [eq_false (show ¬ (s.fail > 0) by omega), if_false])
                all_goals (try simp only [eq_false (show ¬ (s.arm > 0) by omega), and_false, if_false])
                all_goals (first | (simp_all; done) | (simp_all; omega))
              · -- if 5: no
                try have p5 := of_decide_eq_false h5
                refine WC.skip ?_
                refine AT.then_n ?_
                refine WC.seq ?_
                refine WC.seq ?_
                refine WC.region ?_
                refine WL.q (q_move rfl) rfl ?_
                refine WL.q (q_move rfl) rfl ?_
                refine WL.split 59 rfl (fun hg13_1 => ?_) (fun hg13_1 => ?_)
                · -- guard 13.1: True
                  try have hp13_1 := of_decide_eq_true hg13_1
                  refine WL.on rfl rfl hg13_1 ?_
                  refine WL.q (q_move rfl) rfl ?_
                  refine WL.on rfl rfl hg13_1 ?_
                  refine WL.q (q_nil rfl) rfl ?_
                  refine WL.on rfl rfl hg13_1 ?_
                  refine WL.q (q_fieldAddr rfl fo_97_2) rfl ?_
                  refine WL.on rfl rfl hg13_1 ?_
                  refine WL.q (q_load rfl a_3 (by first | exact Cell.ptL 0 rfl rfl | exact Cell.ptL 1 rfl rfl | exact Cell.ptL 2 rfl rfl)) rfl ?_
                  refine WL.on rfl rfl hg13_1 ?_
                  refine WL.q (q_gtr rfl rfl) rfl ?_
                  refine WL.q (q_pickT rfl hg13_1 rfl) rfl ?_
                  refine WL.nil ?_
                  refine AT.then_n ?_
                  refine WC.cond rfl (fun h6 => ?_) (fun h6 => ?_)
                  · -- if 6: yes
                    try have p6 := of_decide_eq_true h6
                    refine WC.region ?_
                    refine WL.q (q_move rfl) rfl ?_
                    refine WL.q (q_nil rfl) rfl ?_
                    refine WL.q (q_fieldAddr rfl fo_97_2) rfl ?_
                    refine WL.q (q_load rfl a_3 (by first | exact Cell.ptL 0 rfl rfl | exact Cell.ptL 1 rfl rfl | exact Cell.ptL 2 rfl rfl)) rfl ?_
                    first | refine WL.q (q_sub64 rfl rfl (by omega)) rfl ?_ | refine WL.q (q_sub rfl rfl) rfl ?_
                    refine WL.q (q_nil rfl) rfl ?_
                    refine WL.q (q_fieldAddr rfl fo_97_2) rfl ?_
                    first | refine WL.effn (e_store 0 rfl rfl rfl i_3 rfl (by simp)) ?_ | refine WL.effn (e_store 1 rfl rfl rfl i_3 rfl (by simp)) ?_ | refine WL.effn (e_store 2 rfl rfl rfl i_3 rfl (by simp)) ?_
                    rintro _ _ _ ⟨rfl, rfl, rfl⟩
                    refine WL.nil ?_
                    refine AT.then_n ?_
                    refine WC.seq ?_
                    refine WC.region ?_
                    refine WL.q (q_move rfl) rfl ?_
                    refine WL.q (q_nil rfl) rfl ?_
                    refine WL.q (q_fieldAddr rfl fo_97_4) rfl ?_
                    refine WL.q (q_load rfl a_3 (by first | exact Cell.ptL 0 rfl rfl | exact Cell.ptL 1 rfl rfl | exact Cell.ptL 2 rfl rfl)) rfl ?_
                    first | refine WL.q (q_add64 rfl rfl (by omega)) rfl ?_ | refine WL.q (q_add rfl rfl) rfl ?_
                    refine WL.q (q_nil rfl) rfl ?_
                    refine WL.q (q_fieldAddr rfl fo_97_4) rfl ?_
                    first | refine WL.effn (e_store 0 rfl rfl rfl i_3 rfl (by simp)) ?_ | refine WL.effn (e_store 1 rfl rfl rfl i_3 rfl (by simp)) ?_ | refine WL.effn (e_store 2 rfl rfl rfl i_3 rfl (by simp)) ?_
                    rintro _ _ _ ⟨rfl, rfl, rfl⟩
                    refine WL.nil ?_
                    refine AT.then_n ?_
                    refine WC.seq ?_
                    refine WC.region ?_
                    refine WL.q (q_assign rfl) rfl ?_
                    refine WL.nil ?_
                    refine AT.then_n ?_
                    refine WC.ret ?_
                    refine AT.done rfl (RO.one rfl rfl) ⟨?_, rfl, rfl⟩ (Imp.eq ?_)
                    all_goals unfold SeS.ask
                    all_goals (try simp only [if_neg (show ¬ (a ≥ s.many ∨ a < -1) by omega)])
                    all_goals (try simp only [eq_false (show ¬ (s.fail > 0) by omega), if_false])
                    all_goals (try simp only [eq_false (show ¬ (s.arm > 0) by omega), and_false, if_false])
                    all_goals (first | (simp_all; done) | (simp_all; omega))
                  · -- if 6: no
                    try have p6 := of_decide_eq_false h6
                    refine WC.skip ?_
                    refine AT.then_n ?_
                    refine WC.seq ?_
                    refine WC.region ?_
                    refine WL.q (q_move rfl) rfl ?_
                    refine WL.q (q_nil rfl) rfl ?_
                    refine WL.q (q_fieldAddr rfl fo_97_4) rfl ?_
                    refine WL.q (q_load rfl a_3 (by first | exact Cell.ptL 0 rfl rfl | exact Cell.ptL 1 rfl rfl | exact Cell.ptL 2 rfl rfl)) rfl ?_
                    first | refine WL.q (q_add64 rfl rfl (by omega)) rfl ?_ | refine WL.q (q_add rfl rfl) rfl ?_
                    refine WL.q (q_nil rfl) rfl ?_
                    refine WL.q (q_fieldAddr rfl fo_97_4) rfl ?_
                    first | refine WL.effn (e_store 0 rfl rfl rfl i_3 rfl (by simp)) ?_ | refine WL.effn (e_store 1 rfl rfl rfl i_3 rfl (by simp)) ?_ | refine WL.effn (e_store 2 rfl rfl rfl i_3 rfl (by simp)) ?_
                    rintro _ _ _ ⟨rfl, rfl, rfl⟩
                    refine WL.nil ?_
                    refine AT.then_n ?_
                    refine WC.seq ?_
                    refine WC.region ?_
                    refine WL.q (q_assign rfl) rfl ?_
                    refine WL.nil ?_
                    refine AT.then_n ?_
                    refine WC.ret ?_
                    refine AT.done rfl (RO.one rfl rfl) ⟨?_, rfl, rfl⟩ (Imp.eq ?_)
                    all_goals unfold SeS.ask
                    all_goals (try simp only [if_neg (show ¬ (a ≥ s.many ∨ a < -1) by omega)])
                    all_goals (try simp only [eq_false (show ¬ (s.fail > 0) by omega), if_false])
                    all_goals (try simp only [eq_false (show ¬ (s.arm > 0) by omega), and_false, if_false])
                    all_goals (first | (simp_all; done) | (simp_all; omega))
                · -- guard 13.1: False
                  try have hp13_1 := of_decide_eq_false hg13_1
                  refine WL.off rfl rfl hg13_1 rfl ?_
                  refine WL.off rfl rfl hg13_1 rfl ?_
                  refine WL.off rfl rfl hg13_1 rfl ?_
                  refine WL.off rfl rfl hg13_1 rfl ?_
                  refine WL.off rfl rfl hg13_1 rfl ?_
                  refine WL.q (q_pickF rfl hg13_1 rfl) rfl ?_
                  refine WL.nil ?_
                  refine AT.then_n ?_
                  refine WC.condF rfl ?_
                  refine WC.skip ?_
                  refine AT.then_n ?_
                  refine WC.seq ?_
                  refine WC.region ?_
                  refine WL.q (q_move rfl) rfl ?_
                  refine WL.q (q_nil rfl) rfl ?_
                  refine WL.q (q_fieldAddr rfl fo_97_4) rfl ?_
                  refine WL.q (q_load rfl a_3 (by first | exact Cell.ptL 0 rfl rfl | exact Cell.ptL 1 rfl rfl | exact Cell.ptL 2 rfl rfl)) rfl ?_
                  first | refine WL.q (q_add64 rfl rfl (by omega)) rfl ?_ | refine WL.q (q_add rfl rfl) rfl ?_
                  refine WL.q (q_nil rfl) rfl ?_
                  refine WL.q (q_fieldAddr rfl fo_97_4) rfl ?_
                  first | refine WL.effn (e_store 0 rfl rfl rfl i_3 rfl (by simp)) ?_ | refine WL.effn (e_store 1 rfl rfl rfl i_3 rfl (by simp)) ?_ | refine WL.effn (e_store 2 rfl rfl rfl i_3 rfl (by simp)) ?_
                  rintro _ _ _ ⟨rfl, rfl, rfl⟩
                  refine WL.nil ?_
                  refine AT.then_n ?_
                  refine WC.seq ?_
                  refine WC.region ?_
                  refine WL.q (q_assign rfl) rfl ?_
                  refine WL.nil ?_
                  refine AT.then_n ?_
                  refine WC.ret ?_
                  refine AT.done rfl (RO.one rfl rfl) ⟨?_, rfl, rfl⟩ (Imp.eq ?_)
                  all_goals unfold SeS.ask
                  all_goals (try simp only [if_neg (show ¬ (a ≥ s.many ∨ a < -1) by omega)])
                  all_goals (try simp only [eq_false (show ¬ (s.fail > 0) by omega), if_false])
                  all_goals (try simp only [eq_false (show ¬ (s.arm > 0) by omega), and_false, if_false])
                  all_goals (first | (simp_all; done) | (simp_all; omega))
            · -- guard 10.1: False
              try have hp10_1 := of_decide_eq_false hg10_1
              refine WL.off rfl rfl hg10_1 rfl ?_
              refine WL.off rfl rfl hg10_1 rfl ?_
              refine WL.off rfl rfl hg10_1 rfl ?_
              refine WL.off rfl rfl hg10_1 rfl ?_
              refine WL.off rfl rfl hg10_1 rfl ?_
              refine WL.q (q_pickF rfl hg10_1 rfl) rfl ?_
              refine WL.nil ?_
              refine AT.then_n ?_
              refine WC.condF rfl ?_
              refine WC.skip ?_
              refine AT.then_n ?_
              refine WC.seq ?_
              refine WC.seq ?_
              refine WC.region ?_
              refine WL.q (q_move rfl) rfl ?_
              refine WL.q (q_move rfl) rfl ?_
              refine WL.split 59 rfl (fun hg13_1 => ?_) (fun hg13_1 => ?_)
              · -- guard 13.1: True
                try have hp13_1 := of_decide_eq_true hg13_1
                refine WL.on rfl rfl hg13_1 ?_
                refine WL.q (q_move rfl) rfl ?_
                refine WL.on rfl rfl hg13_1 ?_
                refine WL.q (q_nil rfl) rfl ?_
                refine WL.on rfl rfl hg13_1 ?_
                refine WL.q (q_fieldAddr rfl fo_97_2) rfl ?_
                refine WL.on rfl rfl hg13_1 ?_
                refine WL.q (q_load rfl a_3 (by first | exact Cell.ptL 0 rfl rfl | exact Cell.ptL 1 rfl rfl | exact Cell.ptL 2 rfl rfl)) rfl ?_
                refine WL.on rfl rfl hg13_1 ?_
                refine WL.q (q_gtr rfl rfl) rfl ?_
                refine WL.q (q_pickT rfl hg13_1 rfl) rfl ?_
                refine WL.nil ?_
                refine AT.then_n ?_
                refine WC.cond rfl (fun h6 => ?_) (fun h6 => ?_)
                · -- if 6: yes
                  try have p6 := of_decide_eq_true h6
                  refine WC.region ?_
                  refine WL.q (q_move rfl) rfl ?_
                  refine WL.q (q_nil rfl) rfl ?_
                  refine WL.q (q_fieldAddr rfl fo_97_2) rfl ?_
                  refine WL.q (q_load rfl a_3 (by first | exact Cell.ptL 0 rfl rfl | exact Cell.ptL 1 rfl rfl | exact Cell.ptL 2 rfl rfl)) rfl ?_
                  first | refine WL.q (q_sub64 rfl rfl (by omega)) rfl ?_ | refine WL.q (q_sub rfl rfl) rfl ?_
                  refine WL.q (q_nil rfl) rfl ?_
                  refine WL.q (q_fieldAddr rfl fo_97_2) rfl ?_
                  first | refine WL.effn (e_store 0 rfl rfl rfl i_3 rfl (by simp)) ?_ | refine WL.effn (e_store 1 rfl rfl rfl i_3 rfl (by simp)) ?_ | refine WL.effn (e_store 2 rfl rfl rfl i_3 rfl (by simp)) ?_
                  rintro _ _ _ ⟨rfl, rfl, rfl⟩
                  refine WL.nil ?_
                  refine AT.then_n ?_
                  refine WC.seq ?_
                  refine WC.region ?_
                  refine WL.q (q_move rfl) rfl ?_
                  refine WL.q (q_nil rfl) rfl ?_
                  refine WL.q (q_fieldAddr rfl fo_97_4) rfl ?_
                  refine WL.q (q_load rfl a_3 (by first | exact Cell.ptL 0 rfl rfl | exact Cell.ptL 1 rfl rfl | exact Cell.ptL 2 rfl rfl)) rfl ?_
                  first | refine WL.q (q_add64 rfl rfl (by omega)) rfl ?_ | refine WL.q (q_add rfl rfl) rfl ?_
                  refine WL.q (q_nil rfl) rfl ?_
                  refine WL.q (q_fieldAddr rfl fo_97_4) rfl ?_
                  first | refine WL.effn (e_store 0 rfl rfl rfl i_3 rfl (by simp)) ?_ | refine WL.effn (e_store 1 rfl rfl rfl i_3 rfl (by simp)) ?_ | refine WL.effn (e_store 2 rfl rfl rfl i_3 rfl (by simp)) ?_
                  rintro _ _ _ ⟨rfl, rfl, rfl⟩
                  refine WL.nil ?_
                  refine AT.then_n ?_
                  refine WC.seq ?_
                  refine WC.region ?_
                  refine WL.q (q_assign rfl) rfl ?_
                  refine WL.nil ?_
                  refine AT.then_n ?_
                  refine WC.ret ?_
                  refine AT.done rfl (RO.one rfl rfl) ⟨?_, rfl, rfl⟩ (Imp.eq ?_)
                  all_goals unfold SeS.ask
                  all_goals (try simp only [if_neg (show ¬ (a ≥ s.many ∨ a < -1) by omega)])
                  all_goals (try simp only [eq_false (show ¬ (s.fail > 0) by omega), if_false])
                  all_goals (try simp only [eq_false (show ¬ (s.arm > 0) by omega), and_false, if_false])
                  all_goals (first | (simp_all; done) | (simp_all; omega))
                · -- if 6: no
                  try have p6 := of_decide_eq_false h6
                  refine WC.skip ?_
                  refine AT.then_n ?_
                  refine WC.seq ?_
                  refine WC.region ?_
                  refine WL.q (q_move rfl) rfl ?_
                  refine WL.q (q_nil rfl) rfl ?_
                  refine WL.q (q_fieldAddr rfl fo_97_4) rfl ?_
                  refine WL.q (q_load rfl a_3 (by first | exact Cell.ptL 0 rfl rfl | exact Cell.ptL 1 rfl rfl | exact Cell.ptL 2 rfl rfl)) rfl ?_
                  first | refine WL.q (q_add64 rfl rfl (by omega)) rfl ?_ | refine WL.q (q_add rfl rfl) rfl ?_
                  refine WL.q (q_nil rfl) rfl ?_
                  refine WL.q (q_fieldAddr rfl fo_97_4) rfl ?_
                  first | refine WL.effn (e_store 0 rfl rfl rfl i_3 rfl (by simp)) ?_ | refine WL.effn (e_store 1 rfl rfl rfl i_3 rfl (by simp)) ?_ | refine WL.effn (e_store 2 rfl rfl rfl i_3 rfl (by simp)) ?_
                  rintro _ _ _ ⟨rfl, rfl, rfl⟩
                  refine WL.nil ?_
                  refine AT.then_n ?_
                  refine WC.seq ?_
                  refine WC.region ?_
                  refine WL.q (q_assign rfl) rfl ?_
                  refine WL.nil ?_
                  refine AT.then_n ?_
                  refine WC.ret ?_
                  refine AT.done rfl (RO.one rfl rfl) ⟨?_, rfl, rfl⟩ (Imp.eq ?_)
                  all_goals unfold SeS.ask
                  all_goals (try simp only [if_neg (show ¬ (a ≥ s.many ∨ a < -1) by omega)])
                  all_goals (try simp only [eq_false (show ¬ (s.fail > 0) by omega), if_false])
                  all_goals (try simp only [eq_false (show ¬ (s.arm > 0) by omega), and_false, if_false])
                  all_goals (first | (simp_all; done) | (simp_all; omega))
              · -- guard 13.1: False
                try have hp13_1 := of_decide_eq_false hg13_1
                refine WL.off rfl rfl hg13_1 rfl ?_
                refine WL.off rfl rfl hg13_1 rfl ?_
                refine WL.off rfl rfl hg13_1 rfl ?_
                refine WL.off rfl rfl hg13_1 rfl ?_
                refine WL.off rfl rfl hg13_1 rfl ?_
                refine WL.q (q_pickF rfl hg13_1 rfl) rfl ?_
                refine WL.nil ?_
                refine AT.then_n ?_
                refine WC.condF rfl ?_
                refine WC.skip ?_
                refine AT.then_n ?_
                refine WC.seq ?_
                refine WC.region ?_
                refine WL.q (q_move rfl) rfl ?_
                refine WL.q (q_nil rfl) rfl ?_
                refine WL.q (q_fieldAddr rfl fo_97_4) rfl ?_
                refine WL.q (q_load rfl a_3 (by first | exact Cell.ptL 0 rfl rfl | exact Cell.ptL 1 rfl rfl | exact Cell.ptL 2 rfl rfl)) rfl ?_
                first | refine WL.q (q_add64 rfl rfl (by omega)) rfl ?_ | refine WL.q (q_add rfl rfl) rfl ?_
                refine WL.q (q_nil rfl) rfl ?_
                refine WL.q (q_fieldAddr rfl fo_97_4) rfl ?_
                first | refine WL.effn (e_store 0 rfl rfl rfl i_3 rfl (by simp)) ?_ | refine WL.effn (e_store 1 rfl rfl rfl i_3 rfl (by simp)) ?_ | refine WL.effn (e_store 2 rfl rfl rfl i_3 rfl (by simp)) ?_
                rintro _ _ _ ⟨rfl, rfl, rfl⟩
                refine WL.nil ?_
                refine AT.then_n ?_
                refine WC.seq ?_
                refine WC.region ?_
                refine WL.q (q_assign rfl) rfl ?_
                refine WL.nil ?_
                refine AT.then_n ?_
                refine WC.ret ?_
                refine AT.done rfl (RO.one rfl rfl) ⟨?_, rfl, rfl⟩ (Imp.eq ?_)
                all_goals unfold SeS.ask
                all_goals (try simp only [if_neg (show ¬ (a ≥ s.many ∨ a < -1) by omega)])
                all_goals (try simp only [eq_false (show ¬ (s.fail > 0) by omega), if_false])
                all_goals (try simp only [eq_false (show ¬ (s.arm > 0) by omega), and_false, if_false])
                all_goals (first | (simp_all; done) | (simp_all; omega))


theorem holdsS_succ (S : List (Int × Nat)) (a : Int) {i : Nat} (h : i < S.length) : holdsS (S.take (i + 1)) a = if S[i].1 = a then S[i].2 else holdsS (S.take i) a := by
  rw [List.take_succ_eq_append_getElem h, holdsS_snoc]

theorem c54 {K : PH → Prop} {b cap : Nat} {A : Option Addr} {s : SeS} {R : List SP} {a : Int} (hS : s.S.length ≤ 1000000) : Spec Try.prog 54 [.pointer (some (ad b 0)), .int .i64 a] (seC b cap A s :: seL cap A s.S :: R) (K)
    (Ret (.int .i64 (holdsS s.S a)) (seC b cap A s :: seL cap A s.S :: R) K) := by
  refine Spec.of en_54 Try.func54 rfl rfl fun g => ?_
  refine WC.seq ?_
  refine WC.region ?_
  refine WL.q (q_assign rfl) rfl ?_
  refine WL.nil ?_
  refine AT.then_n ?_
  refine WC.seq ?_
  refine WC.region ?_
  refine WL.q (q_assign rfl) rfl ?_
  refine WL.nil ?_
  refine AT.then_n ?_
  refine WC.seq ?_
  refine WC.seq ?_
  refine WC.region ?_
  refine WL.q (q_move rfl) rfl ?_
  refine WL.q (q_nil rfl) rfl ?_
  refine WL.q (q_fieldAddr rfl fo_97_6) rfl ?_
  refine WL.q (q_load rfl a_95 (by first | exact Cell.ptL 0 rfl rfl | exact Cell.ptL 1 rfl rfl | exact Cell.ptL 2 rfl rfl)) rfl ?_
  refine WL.q (q_len rfl u_95) rfl ?_
  refine WL.q (q_move rfl) rfl ?_
  refine WL.nil ?_
  refine AT.then_n ?_
  refine WC.block ?_
  refine WC.loop (σ := Nat) (fun i => i ≤ s.S.length) (fun i => [(13, .int .i64 i), (11, .slice A s.S.length cap), (12, .int .i64 s.S.length), (5, .int .i64 (holdsS (s.S.take i) a)), (1, .int .i64 a)]) (fun _ => seC b cap A s :: seL cap A s.S :: R) (fun _ => K) (fun i => s.S.length - i) 0 (by omega) ⟨rfl, rfl, rfl, rfl, rfl, trivial⟩ (Imp.refl _ _) ?_
  intro i hi
  refine WC.seq ?_
  refine WC.region ?_
  refine WL.q (q_lss rfl rfl) rfl ?_
  refine WL.nil ?_
  refine AT.then_n ?_
  refine WC.seq ?_
  refine WC.cond rfl (fun h1 => ?_) (fun h1 => ?_)
  · -- if 1: yes
    try have p1 := of_decide_eq_true h1
    have hlt : i < s.S.length := by omega
    refine WC.skip ?_
    refine AT.then_n ?_
    refine WC.seq ?_
    refine WC.block ?_
    refine WC.seq ?_
    refine WC.region ?_
    refine WL.q (q_indexAddr rfl rfl u_95 i_100 (Based.orow 1 rfl (by rw [flat_len st 2 st_len]; omega)) (by omega)) rfl ?_
    refine WL.q (q_loadA rfl a_100 i_100 (Cells.orowAt 1 rfl st_len hlt) rfl) rfl ?_
    refine WL.eff (e_alloc i_100) rfl ?_; rintro _ _ _ ⟨b1, rfl, rfl, rfl⟩
    refine WL.effn (e_storeAll 0 rfl rfl rfl i_100 rfl rfl rfl (ones_st _)) ?_; rintro _ _ _ ⟨rfl, rfl, rfl⟩
    refine WL.nil ?_
    refine AT.then_n ?_
    refine WC.seq ?_
    refine WC.region ?_
    refine WL.q (q_fieldAddr rfl fo_100_0) rfl ?_
    refine WL.q (q_load rfl a_3 (by first | exact Cell.ptL 0 rfl rfl | exact Cell.ptL 1 rfl rfl | exact Cell.ptL 2 rfl rfl)) rfl ?_
    refine WL.q (q_move rfl) rfl ?_
    refine WL.q (q_eql rfl rfl) rfl ?_
    refine WL.nil ?_
    refine AT.then_n ?_
    refine WC.cond rfl (fun h2 => ?_) (fun h2 => ?_)
    · -- if 2: yes
      try have p2 := of_decide_eq_true h2
      refine WC.region ?_
      refine WL.q (q_fieldAddr rfl fo_100_1) rfl ?_
      refine WL.q (q_load rfl a_3 (by first | exact Cell.ptL 0 rfl rfl | exact Cell.ptL 1 rfl rfl | exact Cell.ptL 2 rfl rfl)) rfl ?_
      refine WL.q (q_assign rfl) rfl ?_
      refine WL.nil ?_
      refine AT.blk_n ?_
      refine AT.then_n ?_
      refine WC.region ?_
      first | refine WL.q (q_add64 rfl rfl (by omega)) rfl ?_ | refine WL.q (q_add rfl rfl) rfl ?_
      refine WL.q (q_move rfl) rfl ?_
      refine WL.nil ?_
      refine AT.mid (i + 1) ⟨by omega, by omega⟩ ⟨rfl, rfl, rfl, vint (by rw [holdsS_succ _ _ hlt, if_pos p2]), rfl, trivial⟩ (Imp.drop (Imp.refl _ _))
    · -- if 2: no
      try have p2 := of_decide_eq_false h2
      refine WC.skip ?_
      refine AT.blk_n ?_
      refine AT.then_n ?_
      refine WC.region ?_
      first | refine WL.q (q_add64 rfl rfl (by omega)) rfl ?_ | refine WL.q (q_add rfl rfl) rfl ?_
      refine WL.q (q_move rfl) rfl ?_
      refine WL.nil ?_
      refine AT.mid (i + 1) ⟨by omega, by omega⟩ ⟨rfl, rfl, rfl, vint (by rw [holdsS_succ _ _ hlt, if_neg p2]), rfl, trivial⟩ (Imp.drop (Imp.refl _ _))
  · -- if 1: no
    try have p1 := of_decide_eq_false h1
    refine WC.exit ?_
    refine AT.then_e ?_
    refine AT.then_e ?_
    refine AT.blk_e ?_
    refine AT.then_n ?_
    refine WC.seq ?_
    refine WC.region ?_
    refine WL.q (q_move rfl) rfl ?_
    refine WL.q (q_assign rfl) rfl ?_
    refine WL.nil ?_
    refine AT.then_n ?_
    refine WC.ret ?_
    refine AT.done rfl (RO.one rfl rfl) ⟨?_, rfl, rfl⟩ (Imp.refl _ _)
    have : i = s.S.length := by omega
    subst this; rw [List.take_length]


/-- A literal slice, as a row of one's own. -/
theorem e_buildSliceO {C : Cx} {e : Env} {own : List SP} {K : PH → Prop} {ty : TypeId} {t el : TypeId} {sz by_ n : Nat} {z : Value} {ps : List (Nat × Operand)} {vs : List (Nat × Value)} {zs cs : List Value} (hp : evp e ps = some vs) (hu : Und C.P t (.slice el)) (hi : Inf C.P el sz by_ z) (hz : z.cells = zs.toArray) (hzs : Nat.beq zs.length sz = true) (hsz : Nat.blt 0 sz = true)
    (hn : Nat.ble (n * sz) 16777216 = true) (hf : fillL (fun i => some (i * sz, sz)) ((List.replicate n zs).flatten) vs = some cs) (hl : cs.length = n * sz) :
    EO C (.buildSlice t n ps.toArray) ty e own K (fun v own' K' => ∃ b, v = .slice (some (ad b 0)) n n ∧ own' = ORow (some (ad b 0)) n el sz cs :: own ∧ K = K') :=
  (e_buildSliceL hp hu hi hz hzs hsz hn hf).weak fun v o k ⟨b, h1, h2, h3⟩ => ⟨ORow (some (ad b 0)) n el sz cs :: own, k, by
    subst h2 h3
    exact fun g w h => HS.orowOf (pad := []) (by simpa using hl) (.inl rfl) (by simpa using h), b, h1, rfl, h3⟩
theorem take_drop_at {α : Type} {l : List α} {f i : Nat} (h : f + i < l.length) : (l.drop f)[i]'(by simp; omega) = l[f + i] := by simp

theorem c58 {K : PH → Prop} {b cap : Nat} {A : Option Addr} {s : SeS} {R : List SP} {c1 : Nat} {A1 : Option Addr} {keep : List Bool} (hS : s.S.length ≤ 1000000 ∧ s.firm ≤ s.S.length) (hk : keep ≠ [] → Ent K (Row A1 (keep.map Value.bool))) (hkl : keep.length ≤ 1000000) : Spec Try.prog 58 [.pointer (some (ad b 0)), .slice A1 keep.length c1] (seC b cap A s :: seL cap A s.S :: R) (K)
    (fun v o k => ∃ A2 c2, v = .tuple #[] ∧ K = k ∧ o = seC b c2 A2 (s.crash (kpO keep)) :: seL c2 A2 (s.crash (kpO keep)).S :: seL cap A s.S :: R) := by
  refine Spec.pure (p := s.S.length ≤ cap) (fun g w h => ORow.cap 1 rfl st_len (by decide) h) en_58 (fun hcap => ?_)
  refine Spec.of en_58 Try.func58 rfl rfl fun g => ?_
  refine WC.seq ?_
  refine WC.drawS [1, 2, 3, 5, 6, 7, 11] (seC b cap A s :: []) K mixed (NoPan.then NoPan.body) (Imp.sub (List.Sublist.cons_cons _ (List.nil_sublist _))) rfl ?_
  refine WD.sched [(1, 0), (2, 0), (3, 0), (4, 0), (5, 0), (6, 0), (7, 0), (8, 0), (9, 0), (0, 2), (10, 2), (11, 0)] true (by decide +kernel) ?_
  refine WS.q 1 rfl (q_move rfl) rfl ?_
  refine WS.q 2 rfl (q_nil rfl) rfl ?_
  refine WS.q 3 rfl (q_fieldAddr rfl fo_97_6) rfl ?_
  refine WS.q 4 rfl (q_load rfl a_95 (by first | exact Cell.ptL 0 rfl rfl | exact Cell.ptL 1 rfl rfl | exact Cell.ptL 2 rfl rfl)) rfl ?_
  refine WS.q 5 rfl (q_move rfl) rfl ?_
  refine WS.q 6 rfl (q_nil rfl) rfl ?_
  refine WS.q 7 rfl (q_fieldAddr rfl fo_97_1) rfl ?_
  refine WS.q 8 rfl (q_load rfl a_3 (by first | exact Cell.ptL 0 rfl rfl | exact Cell.ptL 1 rfl rfl | exact Cell.ptL 2 rfl rfl)) rfl ?_
  refine WS.q 9 rfl (q_slice rfl rfl ⟨_, _, rfl, rfl⟩ u_95 i_100 (by omega)) rfl ?_
  refine WS.effL 0 rfl (e_buildSliceO rfl u_95 i_100 rfl rfl rfl rfl rfl rfl) rfl ?_; rintro _ _ _ ⟨b0, rfl, rfl, rfl⟩
  refine ⟨(by first | exact Imp.sub (List.Sublist.cons _ (List.Sublist.cons_cons _ (List.nil_sublist _)))), ?_⟩
  refine WS.effL 10 rfl (e_append 0 (n := 0) rfl rfl (Src.orowCut (l0 := 0) (k := s.firm) 2 rfl st_len (by decide) (by omega) (by omega)) rfl u_95 (.inl ⟨_, u_95⟩) i_100 rfl rfl (by rw [flat_len st 2 st_len]; simp; omega) (fun v hv => by
      obtain ⟨p, hp, hv⟩ := List.mem_flatMap.1 hv
      exact ones_st p v hv) (by omega)) rfl ?_; rintro _ _ _ ⟨A9, c9, rfl, rfl, rfl, hc9⟩
  refine ⟨(by first | exact Imp.sub (List.Sublist.cons _ (List.Sublist.cons_cons _ (List.nil_sublist _)))), ?_⟩
  refine WS.q 11 rfl (q_assign rfl) rfl ?_
  refine WS.done ?_
  refine AT.then_n ?_
  refine WC.seq ?_
  refine WC.seq ?_
  refine WC.drawS [0, 1, 2, 4, 5, 6, 9, 10] _ _ mixed (NoPan.then (NoPan.then NoPan.body)) (Imp.refl _ _) rfl ?_
  refine WD.sched [(0, 0), (1, 0), (2, 0), (3, 0), (4, 0), (5, 0), (6, 0), (7, 0), (8, 0), (9, 0), (10, 0)] true (by decide +kernel) ?_
  refine WS.q 0 rfl (q_move rfl) rfl ?_
  refine WS.q 1 rfl (q_nil rfl) rfl ?_
  refine WS.q 2 rfl (q_fieldAddr rfl fo_97_6) rfl ?_
  refine WS.q 3 rfl (q_load rfl a_95 (by first | exact Cell.ptL 0 rfl rfl | exact Cell.ptL 1 rfl rfl | exact Cell.ptL 2 rfl rfl)) rfl ?_
  refine WS.q 4 rfl (q_move rfl) rfl ?_
  refine WS.q 5 rfl (q_nil rfl) rfl ?_
  refine WS.q 6 rfl (q_fieldAddr rfl fo_97_1) rfl ?_
  refine WS.q 7 rfl (q_load rfl a_3 (by first | exact Cell.ptL 0 rfl rfl | exact Cell.ptL 1 rfl rfl | exact Cell.ptL 2 rfl rfl)) rfl ?_
  refine WS.q 8 rfl (q_slice rfl ⟨_, _, rfl, rfl⟩ rfl u_95 i_100 (by omega)) rfl ?_
  refine WS.q 9 rfl (q_len rfl u_95) rfl ?_
  refine WS.q 10 rfl (q_move rfl) rfl ?_
  refine WS.done ?_
  refine AT.then_n ?_
  refine WC.block ?_
  refine WC.loop (σ := Nat × Option Addr × Nat) (fun ⟨i, A2, c2⟩ => s.firm + i ≤ s.S.length) (fun ⟨i, A2, c2⟩ => [(28, .int .i64 i), (26, .slice (cutA A cap 2 s.firm) (s.S.length - s.firm) (cap - s.firm)), (27, .int .i64 ((s.S.length - s.firm : Nat) : Int)), (4, .slice A2 (s.S.take s.firm ++ keepL (kpO keep) ((s.S.drop s.firm).take i)).length c2), (1, .slice A1 keep.length c1), (0, .pointer (some (ad b 0)))]) (fun ⟨i, A2, c2⟩ => seL c2 A2 (s.S.take s.firm ++ keepL (kpO keep) ((s.S.drop s.firm).take i)) :: seC b cap A s :: seL cap A s.S :: R) (fun _ => K) (fun ⟨i, _, _⟩ => s.S.length - i) (0, A9, c9) (by simp only; omega) ⟨rfl, rfl, rfl, vsl (by simp [keepL]; omega), rfl, rfl, trivial⟩ (Imp.eq (by simp [keepL])) ?_
  rintro ⟨i, A2, c2⟩ hi
  simp only at hi ⊢
  refine WC.seq ?_
  refine WC.region ?_
  refine WL.q (q_lss rfl rfl) rfl ?_
  refine WL.nil ?_
  refine AT.then_n ?_
  refine WC.seq ?_
  refine WC.cond rfl (fun h1 => ?_) (fun h1 => ?_)
  · -- if 1: yes
    try have p1 := of_decide_eq_true h1
    have hlt : s.firm + i < s.S.length := by omega
    have hSC : (s.S.take s.firm ++ keepL (kpO keep) ((s.S.drop s.firm).take i)).length ≤ s.S.length := by
      have := keepL_len (kpO keep) ((s.S.drop s.firm).take i)
      simp only [List.length_append, List.length_take, List.length_drop] at *
      omega
    have hi2 : i < (s.S.drop s.firm).length := by simp; omega
    have hk0 : kpO keep i = false → (s.S.take s.firm ++ keepL (kpO keep) ((s.S.drop s.firm).take (i + 1))) = (s.S.take s.firm ++ keepL (kpO keep) ((s.S.drop s.firm).take i)) := fun h => by
      rw [keepL_succ _ _ hi2, h]; simp
    have hk1' : kpO keep i = true → (s.S.take s.firm ++ keepL (kpO keep) ((s.S.drop s.firm).take (i + 1))) = (s.S.take s.firm ++ keepL (kpO keep) ((s.S.drop s.firm).take i)) ++ [s.S[s.firm + i]] := fun h => by
      rw [keepL_succ _ _ hi2, h]; simp
    refine WC.skip ?_
    refine AT.then_n ?_
    refine WC.seq ?_
    refine WC.block ?_
    refine WC.seq ?_
    refine WC.region ?_
    refine WL.q (q_move rfl) rfl ?_
    refine WL.q (q_indexAddr rfl rfl u_95 i_100 (Based.orowCut 2 rfl st_len (by decide) (by omega)) (by omega)) rfl ?_
    refine WL.q (q_loadA rfl a_100 i_100 (Cells.orowCut 2 rfl st_len (by decide) (j := i) hlt) rfl) rfl ?_
    refine WL.eff (e_alloc i_100) rfl ?_; rintro _ _ _ ⟨b3, rfl, rfl, rfl⟩
    refine WL.q (q_assign rfl) rfl ?_
    refine WL.effn (e_storeAll 0 rfl rfl rfl i_100 rfl rfl rfl (ones_st _)) ?_; rintro _ _ _ ⟨rfl, rfl, rfl⟩
    refine WL.nil ?_
    refine AT.then_n ?_
    refine WC.seq ?_
    refine WC.region ?_
    refine WL.q (q_move rfl) rfl ?_
    refine WL.q (q_move rfl) rfl ?_
    refine WL.q (q_len rfl u_29) rfl ?_
    refine WL.q (q_lss rfl rfl) rfl ?_
    refine WL.q (q_move rfl) rfl ?_
    refine WL.split 37 rfl (fun hg4_4 => ?_) (fun hg4_4 => ?_)
    · -- guard 4.4: True
      try have hp4_4 := of_decide_eq_true hg4_4
      have hkl2 : i < keep.length := by omega
      have hk := hk (by intro h; subst h; simp at hkl2)
      refine WL.on rfl rfl hg4_4 ?_
      refine WL.q (q_move rfl) rfl ?_
      refine WL.on rfl rfl hg4_4 ?_
      refine WL.q (q_move rfl) rfl ?_
      refine WL.on rfl rfl hg4_4 ?_
      refine WL.q (q_indexAddr rfl rfl u_29 i_4 (Based.row hk (by simp; omega)) (by omega)) rfl ?_
      refine WL.on rfl rfl hg4_4 ?_
      refine WL.q (q_load (v := .bool (keep[i])) rfl a_4 (Cell.row hk (by simp [hkl2]))) rfl ?_
      refine WL.q (q_pickT rfl hg4_4 rfl) rfl ?_
      refine WL.nil ?_
      refine AT.then_n ?_
      refine WC.cond rfl (fun h2 => ?_) (fun h2 => ?_)
      · -- if 2: yes
        try have p2 := of_decide_eq_true h2
        have hk1 := hk1' (by simp [kpO, hkl2, h2])
        refine WC.region ?_
        refine WL.q (q_move rfl) rfl ?_
        refine WL.q (q_loadA rfl a_100 i_100 (Cells.pt 0 rfl) rfl) rfl ?_
        refine WL.eff (e_buildSliceK (cs := st (s.S[s.firm + i])) rfl u_95 i_100 rfl rfl rfl rfl rfl) rfl ?_; rintro _ _ _ ⟨b7, rfl, rfl, rfl⟩
        refine WL.eff (e_append 1 rfl rfl (Src.row Ent.right (k := 1) rfl rfl) rfl u_95 (.inl ⟨_, u_95⟩) i_100 rfl (by rw [flat_len st 2 st_len]) rfl (ones_st _) (by omega)) rfl ?_; rintro _ _ _ ⟨A8, c8, rfl, rfl, rfl, hc8⟩
        refine WL.q (q_assign rfl) rfl ?_
        refine WL.nil ?_
        refine AT.blk_n ?_
        refine AT.then_n ?_
        refine WC.region ?_
        first | refine WL.q (q_add64 rfl rfl (by omega)) rfl ?_ | refine WL.q (q_add rfl rfl) rfl ?_
        refine WL.q (q_move rfl) rfl ?_
        refine WL.nil ?_
        refine AT.mid (i + 1, A8, c8) ⟨by simp only; omega, by simp only; omega⟩ ⟨rfl, rfl, rfl, vsl (by rw [hk1]; simp; omega), rfl, rfl, trivial⟩ (Imp.drop (Imp.both (Imp.eq ?_) (Ent.refl _).left))
        simp only [List.set_cons_zero, List.set_cons_succ, hk1, seL, List.flatMap_append, List.flatMap_cons, List.flatMap_nil, List.append_nil]
      · -- if 2: no
        try have p2 := of_decide_eq_false h2
        have hkp : kpO keep i = false := by simp [kpO, hkl2, h2]
        refine WC.skip ?_
        refine AT.blk_n ?_
        refine AT.then_n ?_
        refine WC.region ?_
        first | refine WL.q (q_add64 rfl rfl (by omega)) rfl ?_ | refine WL.q (q_add rfl rfl) rfl ?_
        refine WL.q (q_move rfl) rfl ?_
        refine WL.nil ?_
        refine AT.mid (i + 1, A2, c2) ⟨by simp only; omega, by simp only; omega⟩ ⟨rfl, rfl, rfl, vsl (by rw [hk0 hkp]), rfl, rfl, trivial⟩ (Imp.drop (Imp.eq (by simp only [hk0 hkp])))
    · -- guard 4.4: False
      try have hp4_4 := of_decide_eq_false hg4_4
      have hkp : kpO keep i = false := by
        have : keep.length ≤ i := by omega
        simp [kpO, List.getElem?_eq_none this]
      refine WL.off rfl rfl hg4_4 rfl ?_
      refine WL.off rfl rfl hg4_4 rfl ?_
      refine WL.off rfl rfl hg4_4 rfl ?_
      refine WL.off rfl rfl hg4_4 rfl ?_
      refine WL.q (q_pickF rfl hg4_4 rfl) rfl ?_
      refine WL.nil ?_
      refine AT.then_n ?_
      refine WC.condF rfl ?_
      refine WC.skip ?_
      refine AT.blk_n ?_
      refine AT.then_n ?_
      refine WC.region ?_
      first | refine WL.q (q_add64 rfl rfl (by omega)) rfl ?_ | refine WL.q (q_add rfl rfl) rfl ?_
      refine WL.q (q_move rfl) rfl ?_
      refine WL.nil ?_
      refine AT.mid (i + 1, A2, c2) ⟨by simp only; omega, by simp only; omega⟩ ⟨rfl, rfl, rfl, vsl (by rw [hk0 hkp]), rfl, rfl, trivial⟩ (Imp.drop (Imp.eq (by simp only [hk0 hkp])))
  · -- if 1: no
    try have p1 := of_decide_eq_false h1
    have hi3 : i = s.S.length - s.firm := by omega
    have hfin : (s.S.drop s.firm).take i = s.S.drop s.firm := List.take_of_length_le (by simp; omega)
    rw [hfin]
    refine WC.exit ?_
    refine AT.then_e ?_
    refine AT.then_e ?_
    refine AT.blk_e ?_
    refine AT.then_n ?_
    refine WC.region ?_
    refine WL.q (q_move rfl) rfl ?_
    refine WL.q (q_move rfl) rfl ?_
    refine WL.q (q_move rfl) rfl ?_
    refine WL.q (q_move rfl) rfl ?_
    refine WL.q (q_move rfl) rfl ?_
    refine WL.q (q_move rfl) rfl ?_
    refine WL.q (q_move rfl) rfl ?_
    refine WL.q (q_len rfl u_95) rfl ?_
    refine WL.q (q_nil rfl) rfl ?_
    refine WL.q (q_fieldAddr rfl fo_97_6) rfl ?_
    first | refine WL.effn (e_store 0 rfl rfl rfl i_95 rfl (by simp)) ?_ | refine WL.effn (e_store 1 rfl rfl rfl i_95 rfl (by simp)) ?_ | refine WL.effn (e_store 2 rfl rfl rfl i_95 rfl (by simp)) ?_
    rintro _ _ _ ⟨rfl, rfl, rfl⟩
    refine WL.q (q_nil rfl) rfl ?_
    refine WL.q (q_fieldAddr rfl fo_97_1) rfl ?_
    first | refine WL.effn (e_store 0 rfl rfl rfl i_3 rfl (by simp)) ?_ | refine WL.effn (e_store 1 rfl rfl rfl i_3 rfl (by simp)) ?_ | refine WL.effn (e_store 2 rfl rfl rfl i_3 rfl (by simp)) ?_
    rintro _ _ _ ⟨rfl, rfl, rfl⟩
    refine WL.q (q_nil rfl) rfl ?_
    refine WL.q (q_fieldAddr rfl fo_97_5) rfl ?_
    first | refine WL.effn (e_store 0 rfl rfl rfl i_4 rfl (by simp)) ?_ | refine WL.effn (e_store 1 rfl rfl rfl i_4 rfl (by simp)) ?_ | refine WL.effn (e_store 2 rfl rfl rfl i_4 rfl (by simp)) ?_
    rintro _ _ _ ⟨rfl, rfl, rfl⟩
    refine WL.q (q_nil rfl) rfl ?_
    refine WL.q (q_fieldAddr rfl fo_97_2) rfl ?_
    first | refine WL.effn (e_store 0 rfl rfl rfl i_3 rfl (by simp)) ?_ | refine WL.effn (e_store 1 rfl rfl rfl i_3 rfl (by simp)) ?_ | refine WL.effn (e_store 2 rfl rfl rfl i_3 rfl (by simp)) ?_
    rintro _ _ _ ⟨rfl, rfl, rfl⟩
    refine WL.q (q_nil rfl) rfl ?_
    refine WL.q (q_fieldAddr rfl fo_97_3) rfl ?_
    first | refine WL.effn (e_store 0 rfl rfl rfl i_3 rfl (by simp)) ?_ | refine WL.effn (e_store 1 rfl rfl rfl i_3 rfl (by simp)) ?_ | refine WL.effn (e_store 2 rfl rfl rfl i_3 rfl (by simp)) ?_
    rintro _ _ _ ⟨rfl, rfl, rfl⟩
    refine WL.nil ?_
    exact AT.doneN rfl (RO.none rfl) ⟨A2, c2, rfl, rfl, rfl⟩ (Imp.trans Imp.swap (Imp.eq rfl))

end Go.Proofs.Sl
