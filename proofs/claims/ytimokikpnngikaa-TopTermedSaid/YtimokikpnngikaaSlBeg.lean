/- Layer 9: begins05 reads as the reader does. -/
import Derived.Test.YtimokikpnngikaaSlRead
namespace Go.Proofs.Sl
open Go
set_option linter.unusedVariables false
set_option linter.unusedSimpArgs false

theorem drop_at {α : Type} {l : List α} {i : Nat} {x : α} (h : l[i]? = some x) : l.drop i = x :: l.drop (i + 1) := by
  obtain ⟨h1, rfl⟩ := List.getElem?_eq_some_iff.1 h
  rw [← List.drop_eq_getElem_cons h1]
theorem at_some {α : Type} {l : List α} {i : Nat} (h : i < l.length) : ∃ x, l[i]? = some x := ⟨l[i], by simp [h]⟩
theorem f_pos (k : Int) : fieldsN k ≠ 0 ↔ 1 ≤ k ∧ k ≤ 8 := by unfold fieldsN; (repeat' split) <;> simp <;> omega
theorem f_1 (k : Int) : fieldsN k &&& 1 ≠ 0 ↔ k = 1 := by unfold fieldsN; (repeat' split) <;> simp <;> omega
theorem f_2 (k : Int) : fieldsN k &&& 2 ≠ 0 ↔ k = 2 ∨ k = 3 ∨ k = 7 ∨ k = 8 := by unfold fieldsN; (repeat' split) <;> simp <;> omega
theorem f_4 (k : Int) : fieldsN k &&& 4 ≠ 0 ↔ k = 2 ∨ k = 8 := by unfold fieldsN; (repeat' split) <;> simp <;> omega
abbrev tab9 : List Value := [.int .i64 0, .int .i64 0, .int .i64 0, .int .i64 0, .int .i64 2, .int .i64 1, .int .i64 2, .int .i64 1, .int .i64 1]
theorem tab9_at {k : Nat} (h : k ≤ 8) : tab9.toArray[(k : Int).toNat]? = some (.int .i64 (kidsN (fieldsN k))) := by
  match k, h with
  | 0, _ => rfl
  | 1, _ => rfl
  | 2, _ => rfl
  | 3, _ => rfl
  | 4, _ => rfl
  | 5, _ => rfl
  | 6, _ => rfl
  | 7, _ => rfl
  | 8, _ => rfl
theorem vt3 {a b c a' b' c' : Int} (h1 : a = a') (h2 : b = b') (h3 : c = c') : Value.tuple #[.int .i64 a, .int .i64 b, .int .i64 c] = Value.tuple #[.int .i64 a', .int .i64 b', .int .i64 c'] := by subst h1 h2 h3; rfl
def BgΦ (own : List SP) (K : PH → Prop) (N : Nat) (full : List UInt8) (q : Nat) (deep n : Int) : Value → List SP → (PH → Prop) → Prop := fun v o k =>
  own = o ∧ K = k ∧ ((∃ (T : Tm) (q2 : Nat) (l : Int), rd N (deep + 1) (1200 - n) (full.drop q) = .ok T (full.drop q2) l ∧ q < q2 ∧ q2 ≤ full.length ∧ 0 ≤ l ∧ l < 1200 - n ∧ v = .tuple #[.int .i64 q2, .int .i64 (1200 - l), .int .i64 0]) ∨
    ∃ c x y, rd N (deep + 1) (1200 - n) (full.drop q) = .err c ∧ c ≠ 0 ∧ v = .tuple #[.int .i64 x, .int .i64 y, .int .i64 c])
theorem rd_leaf {rdk : Int → List UInt8 → RR} {left : Int} {t b : List UInt8} : rd2 rdk 1 left t b = .ok (.mk 1 0 0 t []) b left := by
  rw [rd2_no (by decide)]; unfold rd3; rw [if_neg (by decide)]; rfl
theorem len_drop_cons {full : List UInt8} {q q1 : Nat} {y : UInt8} (h : full[q]? = some y) : q < full.length := (List.getElem?_eq_some_iff.1 h).1

theorem c79_step {own : List SP} {K : PH → Prop} {M : Nat} {full : List UInt8} {q : Nat} {deep n : Int} (hq : q ≤ full.length) (hM : full.length - q < M + 1) (hl : full.length ≤ 100000) (hd : 0 ≤ deep ∧ deep ≤ 60) (hn : 0 ≤ n ∧ n ≤ 1200) (ih : ∀ {own : List SP} {K : PH → Prop} {full : List UInt8} {q : Nat} {deep n : Int} (hq : q ≤ full.length) (hM : full.length - q < M) (hl : full.length ≤ 100000) (hd : 0 ≤ deep ∧ deep ≤ 60) (hn : 0 ≤ n ∧ n ≤ 1200), Spec Try.prog 79 [.string (bs full), .int .i64 q, .int .i64 deep, .int .i64 n] own K (BgΦ own K M full q deep n)) : Spec Try.prog 79 [.string (bs full), .int .i64 q, .int .i64 deep, .int .i64 n] (own) (K)
    (BgΦ own K (M + 1) full q deep n) := by
  refine Spec.of en_79 Try.func79 rfl rfl fun g => ?_
  refine WC.seq ?_
  refine WC.region ?_
  refine WL.q (q_assign rfl) rfl ?_
  refine WL.q (q_assign rfl) rfl ?_
  refine WL.q (q_assign rfl) rfl ?_
  refine WL.nil ?_
  refine AT.then_n ?_
  refine WC.seq ?_
  refine WC.seq ?_
  refine WC.region ?_
  refine WL.q (q_move rfl) rfl ?_
  refine WL.q (q_move rfl) rfl ?_
  first | refine WL.q (q_lenB rfl u_9) rfl ?_ | refine WL.q (q_lenS rfl u_9) rfl ?_
  refine WL.q (q_eql rfl rfl) rfl ?_
  refine WL.nil ?_
  refine AT.then_n ?_
  refine WC.cond rfl (fun h1 => ?_) (fun h1 => ?_)
  · -- if 1: yes
    try have p1 := of_decide_eq_true h1
    refine WC.seq ?_
    refine WC.region ?_
    refine WL.q (q_move rfl) rfl ?_
    refine WL.q (q_move rfl) rfl ?_
    refine WL.q (q_assign rfl) rfl ?_
    refine WL.q (q_assign rfl) rfl ?_
    refine WL.q (q_assign rfl) rfl ?_
    refine WL.nil ?_
    refine AT.then_n ?_
    refine WC.ret ?_
    refine AT.then_r ?_
    exact AT.done rfl (RO.three rfl rfl rfl rfl) ⟨rfl, rfl, .inr ⟨7, _, _, by rw [List.drop_eq_nil_of_le (by omega), rd_nil], by decide, rfl⟩⟩ (Imp.refl _ _)
  · -- if 1: no
    try have p1 := of_decide_eq_false h1
    have hlt : q < full.length := by omega
    obtain ⟨x, hx⟩ := at_some hlt
    have hdrop := drop_at hx
    have hx8 := x.toNat_lt
    refine WC.skip ?_
    refine AT.then_n ?_
    refine WC.seq ?_
    refine WC.region ?_
    refine WL.q (q_move rfl) rfl ?_
    first | refine WL.q (q_add64 rfl rfl (by omega)) rfl ?_ | refine WL.q (q_add rfl rfl) rfl ?_
    refine WL.q (q_assign rfl) rfl ?_
    refine WL.nil ?_
    refine AT.then_n ?_
    refine WC.seq ?_
    refine WC.region ?_
    refine WL.q (q_move rfl) rfl ?_
    refine WL.q (q_move rfl) rfl ?_
    refine WL.q (q_indexB rfl rfl u_9 (by omega) hx) rfl ?_
    first | refine WL.q (q_convI (-9223372036854775808) 9223372036854775807 u_5 u_3 rfl rfl rfl (by omega)) rfl ?_ | refine WL.q (q_conv rfl u_5 u_3 rfl) rfl ?_
    refine WL.q (q_assign rfl) rfl ?_
    refine WL.nil ?_
    refine AT.then_n ?_
    refine WC.seq ?_
    refine WC.seq ?_
    refine WC.region ?_
    refine WLy.enter ?_
    refine WLy.q (q_move rfl) rfl rfl ?_
    refine WLy.q (q_gtr rfl rfl) rfl rfl ?_
    refine WLy.q (q_move rfl) rfl rfl ?_
    refine WLy.open0 2 29 false rfl rfl ?_
    refine WLy.qg 0 rfl rfl rfl (q_move rfl) rfl rfl rfl ?_
    refine WLy.qg 0 rfl rfl rfl (q_geq rfl rfl) rfl rfl rfl ?_
    refine WLy.or0 0 rfl rfl rfl rfl rfl rfl rfl ?_
    refine WLy.q (q_move rfl) rfl rfl ?_
    refine WLy.open0 6 33 false rfl rfl ?_
    refine WLy.qg 0 rfl rfl rfl (q_move rfl) rfl rfl rfl ?_
    refine WLy.qg 0 rfl rfl rfl (q_lss rfl rfl) rfl rfl rfl ?_
    refine WLy.or0 0 rfl rfl rfl rfl rfl rfl rfl ?_
    refine WLy.q (q_move rfl) rfl rfl ?_
    refine WLy.open0 10 37 false rfl rfl ?_
    refine WLy.qg 0 rfl rfl rfl (q_move rfl) rfl rfl rfl ?_
    refine WLy.qg 0 rfl rfl rfl (q_gtr rfl rfl) rfl rfl rfl ?_
    refine WLy.or0 0 rfl rfl rfl rfl rfl rfl rfl ?_
    refine WLy.done ?_
    refine AT.then_n ?_
    refine WC.cond rfl (fun h2 => ?_) (fun h2 => ?_)
    · -- if 2: yes
      try have p2 := of_decide_eq_true h2
      refine WC.seq ?_
      refine WC.region ?_
      refine WL.q (q_move rfl) rfl ?_
      refine WL.q (q_move rfl) rfl ?_
      refine WL.q (q_assign rfl) rfl ?_
      refine WL.q (q_assign rfl) rfl ?_
      refine WL.q (q_assign rfl) rfl ?_
      refine WL.nil ?_
      refine AT.then_n ?_
      refine WC.ret ?_
      refine AT.then_r ?_
      exact AT.done rfl (RO.three rfl rfl rfl rfl) ⟨rfl, rfl, .inr ⟨150, _, _, by rw [hdrop, rd_cons, if_neg]; rintro ⟨q1, q2, q3⟩; rw [f_pos] at q1; simp only [Bool.or_eq_true, decide_eq_true_eq] at h2; omega, by decide, rfl⟩⟩ (Imp.refl _ _)
    · -- if 2: no
      try have p2 := of_decide_eq_false h2
      have hcond : (n + 1 ≤ 1200 ∧ deep < 60) ∧ 1 ≤ (x.toNat : Int) ∧ (x.toNat : Int) ≤ 8 := by
        simp only [Bool.or_eq_false_iff, decide_eq_false_iff_not] at h2
        omega
      have hrd : rd (M + 1) (deep + 1) (1200 - n) (full.drop q) = rd1 (rd M (deep + 1 + 1)) (x.toNat : Int) (1200 - n - 1) (full.drop (q + 1)) := by rw [hdrop, rd_cons, if_pos ⟨(f_pos _).2 hcond.2, by omega, by omega⟩]
      refine WC.skip ?_
      refine AT.then_n ?_
      refine WC.seq ?_
      refine WC.region ?_
      refine WL.q (q_move rfl) rfl ?_
      first | refine WL.q (q_add64 rfl rfl (by omega)) rfl ?_ | refine WL.q (q_add rfl rfl) rfl ?_
      refine WL.q (q_assign rfl) rfl ?_
      refine WL.nil ?_
      refine AT.then_n ?_
      refine WC.seq ?_
      refine WC.region ?_
      refine WL.q (q_buildArr (cs := tab9) rfl u_239 i_239 i_3 rfl rfl) rfl ?_
      refine WL.q (q_move rfl) rfl ?_
      refine WL.q (q_index1 rfl rfl u_239 a_3 i_3 (by omega) (tab9_at (by omega))) rfl ?_
      refine WL.q (q_assign rfl) rfl ?_
      refine WL.nil ?_
      refine AT.then_n ?_
      refine WC.seq ?_
      refine WC.seq ?_
      refine WC.region ?_
      refine WL.q (q_move rfl) rfl ?_
      refine WL.q (q_eql rfl rfl) rfl ?_
      refine WL.nil ?_
      refine AT.then_n ?_
      refine WC.cond rfl (fun h3 => ?_) (fun h3 => ?_)
      · -- if 3: yes
        try have p3 := of_decide_eq_true h3
        have hk1 : (x.toNat : Int) = 1 := p3
        have hf1 := (f_1 (x.toNat : Int)).2 hk1
        have hrd1 := hrd
        refine WC.seq ?_
        refine WC.seq ?_
        refine WC.region ?_
        refine WL.q (q_move rfl) rfl ?_
        refine WL.q (q_move rfl) rfl ?_
        first | refine WL.q (q_lenB rfl u_9) rfl ?_ | refine WL.q (q_lenS rfl u_9) rfl ?_
        refine WL.q (q_eql rfl rfl) rfl ?_
        refine WL.nil ?_
        refine AT.then_n ?_
        refine WC.cond rfl (fun h4 => ?_) (fun h4 => ?_)
        · -- if 4: yes
          try have p4 := of_decide_eq_true h4
          refine WC.seq ?_
          refine WC.region ?_
          refine WL.q (q_move rfl) rfl ?_
          refine WL.q (q_move rfl) rfl ?_
          refine WL.q (q_assign rfl) rfl ?_
          refine WL.q (q_assign rfl) rfl ?_
          refine WL.q (q_assign rfl) rfl ?_
          refine WL.nil ?_
          refine AT.then_n ?_
          refine WC.ret ?_
          refine AT.then_r ?_
          refine AT.then_r ?_
          exact AT.done rfl (RO.three rfl rfl rfl rfl) ⟨rfl, rfl, .inr ⟨7, _, _, by rw [hrd, List.drop_eq_nil_of_le (by omega), rd1_nil hf1], by decide, rfl⟩⟩ (Imp.refl _ _)
        · -- if 4: no
          try have p4 := of_decide_eq_false h4
          have hlt2 : q + 1 < full.length := by omega
          obtain ⟨y, hy⟩ := at_some hlt2
          have hdrop2 := drop_at hy
          have hy8 := y.toNat_lt
          rw [hdrop2, rd1_cons hf1] at hrd
          refine WC.skip ?_
          refine AT.then_n ?_
          refine WC.seq ?_
          refine WC.region ?_
          refine WL.q (q_move rfl) rfl ?_
          refine WL.q (q_move rfl) rfl ?_
          refine WL.q (q_indexB rfl rfl u_9 (by omega) (by rw [show ((q : Int) + 1).toNat = q + 1 by omega]; exact hy)) rfl ?_
          first | refine WL.q (q_convI (-9223372036854775808) 9223372036854775807 u_5 u_3 rfl rfl rfl (by omega)) rfl ?_ | refine WL.q (q_conv rfl u_5 u_3 rfl) rfl ?_
          refine WL.q (q_assign rfl) rfl ?_
          refine WL.nil ?_
          refine AT.then_n ?_
          refine WC.seq ?_
          refine WC.seq ?_
          refine WC.region ?_
          refine WL.q (q_move rfl) rfl ?_
          refine WL.q (q_gtr rfl rfl) rfl ?_
          refine WL.nil ?_
          refine AT.then_n ?_
          refine WC.cond rfl (fun h5 => ?_) (fun h5 => ?_)
          · -- if 5: yes
            try have p5 := of_decide_eq_true h5
            refine WC.seq ?_
            refine WC.region ?_
            refine WL.q (q_move rfl) rfl ?_
            refine WL.q (q_move rfl) rfl ?_
            refine WL.q (q_assign rfl) rfl ?_
            refine WL.q (q_assign rfl) rfl ?_
            refine WL.q (q_assign rfl) rfl ?_
            refine WL.nil ?_
            refine AT.then_n ?_
            refine WC.ret ?_
            refine AT.then_r ?_
            refine AT.then_r ?_
            exact AT.done rfl (RO.three rfl rfl rfl rfl) ⟨rfl, rfl, .inr ⟨150, _, _, by rw [hrd, if_pos (by omega)], by decide, rfl⟩⟩ (Imp.refl _ _)
          · -- if 5: no
            try have p5 := of_decide_eq_false h5
            refine WC.skip ?_
            refine AT.then_n ?_
            refine WC.seq ?_
            refine WC.seq ?_
            refine WC.region ?_
            refine WL.q (q_move rfl) rfl ?_
            first | refine WL.q (q_add64 rfl rfl (by omega)) rfl ?_ | refine WL.q (q_add rfl rfl) rfl ?_
            refine WL.q (q_move rfl) rfl ?_
            first | refine WL.q (q_add64 rfl rfl (by omega)) rfl ?_ | refine WL.q (q_add rfl rfl) rfl ?_
            refine WL.q (q_move rfl) rfl ?_
            first | refine WL.q (q_lenB rfl u_9) rfl ?_ | refine WL.q (q_lenS rfl u_9) rfl ?_
            refine WL.q (q_gtr rfl rfl) rfl ?_
            refine WL.nil ?_
            refine AT.then_n ?_
            refine WC.cond rfl (fun h6 => ?_) (fun h6 => ?_)
            · -- if 6: yes
              try have p6 := of_decide_eq_true h6
              refine WC.seq ?_
              refine WC.region ?_
              refine WL.q (q_move rfl) rfl ?_
              refine WL.q (q_move rfl) rfl ?_
              refine WL.q (q_assign rfl) rfl ?_
              refine WL.q (q_assign rfl) rfl ?_
              refine WL.q (q_assign rfl) rfl ?_
              refine WL.nil ?_
              refine AT.then_n ?_
              refine WC.ret ?_
              refine AT.then_r ?_
              refine AT.then_r ?_
              exact AT.done rfl (RO.three rfl rfl rfl rfl) ⟨rfl, rfl, .inr ⟨7, _, _, by rw [hrd, if_neg (by omega), if_pos (by rw [List.length_drop]; omega)], by decide, rfl⟩⟩ (Imp.refl _ _)
            · -- if 6: no
              try have p6 := of_decide_eq_false h6
              refine WC.skip ?_
              refine AT.then_n ?_
              refine WC.seq ?_
              refine WC.region ?_
              refine WL.q (q_move rfl) rfl ?_
              first | refine WL.q (q_add64 rfl rfl (by omega)) rfl ?_ | refine WL.q (q_add rfl rfl) rfl ?_
              refine WL.q (q_move rfl) rfl ?_
              first | refine WL.q (q_add64 rfl rfl (by omega)) rfl ?_ | refine WL.q (q_add rfl rfl) rfl ?_
              refine WL.q (q_move rfl) rfl ?_
              refine WL.q (q_assign rfl) rfl ?_
              refine WL.q (q_assign rfl) rfl ?_
              refine WL.q (q_assign rfl) rfl ?_
              refine WL.nil ?_
              refine AT.then_n ?_
              refine WC.ret ?_
              refine AT.then_r ?_
              refine AT.done rfl (RO.three rfl rfl rfl rfl) ⟨rfl, rfl, .inl ⟨.mk 1 0 0 ((full.drop (q + 1 + 1)).take y.toNat) [], q + 2 + y.toNat, 1200 - n - 1, ?_, by omega, by omega, by omega, by omega, vt3 (by omega) (by omega) rfl⟩⟩ (Imp.refl _ _)
              rw [hrd, if_neg (by omega), if_neg (by rw [List.length_drop]; omega), hk1, rd_leaf, List.drop_drop, show q + 1 + 1 + y.toNat = q + 2 + y.toNat by omega]
      · -- if 3: no
        try have p3 := of_decide_eq_false h3
        have hf1 : ¬ fieldsN (x.toNat : Int) &&& 1 ≠ 0 := fun h => p3 ((f_1 _).1 h)
        rw [rd1_no hf1] at hrd
        refine WC.skip ?_
        refine AT.then_n ?_
        refine WC.cut (σ := Nat × Int) (fun ⟨q1, u⟩ => rd (M + 1) (deep + 1) (1200 - n) (full.drop q) = rd3 (rd M (deep + 1 + 1)) (x.toNat : Int) (1200 - n - 1) [] u (full.drop q1) ∧ q < q1 ∧ q1 ≤ full.length) (fun ⟨q1, u⟩ => [(0, .string (bs full)), (1, .int .i64 (q1 : Nat)), (2, .int .i64 deep), (3, .int .i64 (n + 1)), (11, .int .i64 (x.toNat : Int)), (12, .int .i64 (kidsN (fieldsN (x.toNat : Int)) : Nat))]) (fun _ => own) (fun _ => K) ?_ ?_
        · -- cut
          refine WC.seq ?_
          refine WC.region ?_
          refine WLy.enter ?_
          refine WLy.q (q_move rfl) rfl rfl ?_
          refine WLy.q (q_eql rfl rfl) rfl rfl ?_
          refine WLy.q (q_move rfl) rfl rfl ?_
          refine WLy.open0 2 80 false rfl rfl ?_
          refine WLy.qg 0 rfl rfl rfl (q_move rfl) rfl rfl rfl ?_
          refine WLy.qg 0 rfl rfl rfl (q_eql rfl rfl) rfl rfl rfl ?_
          refine WLy.or0 0 rfl rfl rfl rfl rfl rfl rfl ?_
          refine WLy.q (q_move rfl) rfl rfl ?_
          refine WLy.open0 6 84 false rfl rfl ?_
          refine WLy.qg 0 rfl rfl rfl (q_move rfl) rfl rfl rfl ?_
          refine WLy.qg 0 rfl rfl rfl (q_gtr rfl rfl) rfl rfl rfl ?_
          refine WLy.or0 0 rfl rfl rfl rfl rfl rfl rfl ?_
          refine WLy.done ?_
          refine AT.then_n ?_
          refine WC.cond rfl (fun h7 => ?_) (fun h7 => ?_)
          · -- if 7: yes
            try have p7 := of_decide_eq_true h7
            have hf2 : fieldsN (x.toNat : Int) &&& 2 ≠ 0 := (f_2 _).2 (by simp only [Bool.or_eq_true, decide_eq_true_eq] at h7; omega)
            refine WC.seq ?_
            refine WC.seq ?_
            refine WC.region ?_
            refine WL.q (q_move rfl) rfl ?_
            refine WL.q (q_move rfl) rfl ?_
            first | refine WL.q (q_lenB rfl u_9) rfl ?_ | refine WL.q (q_lenS rfl u_9) rfl ?_
            refine WL.q (q_eql rfl rfl) rfl ?_
            refine WL.nil ?_
            refine AT.then_n ?_
            refine WC.cond rfl (fun h8 => ?_) (fun h8 => ?_)
            · -- if 8: yes
              try have p8 := of_decide_eq_true h8
              refine WC.seq ?_
              refine WC.region ?_
              refine WL.q (q_move rfl) rfl ?_
              refine WL.q (q_move rfl) rfl ?_
              refine WL.q (q_assign rfl) rfl ?_
              refine WL.q (q_assign rfl) rfl ?_
              refine WL.q (q_assign rfl) rfl ?_
              refine WL.nil ?_
              refine AT.then_n ?_
              refine WC.ret ?_
              refine AT.then_r ?_
              refine AT.then_r ?_
              exact AT.done rfl (RO.three rfl rfl rfl rfl) ⟨rfl, rfl, .inr ⟨7, _, _, by rw [hrd, List.drop_eq_nil_of_le (by omega), rd2_nil hf2], by decide, rfl⟩⟩ (Imp.refl _ _)
            · -- if 8: no
              try have p8 := of_decide_eq_false h8
              have hlt2 : q + 1 < full.length := by omega
              obtain ⟨y, hy⟩ := at_some hlt2
              have hdrop2 := drop_at hy
              have hy8 := y.toNat_lt
              refine WC.skip ?_
              refine AT.then_n ?_
              refine WC.seq ?_
              refine WC.seq ?_
              refine WC.region ?_
              refine WLy.enter ?_
              refine WLy.q (q_move rfl) rfl rfl ?_
              refine WLy.q (q_move rfl) rfl rfl ?_
              refine WLy.q (q_indexB rfl rfl u_9 (by omega) (by rw [show ((q : Int) + 1).toNat = q + 1 by omega]; exact hy)) rfl rfl ?_
              refine WLy.q (q_lss rfl rfl) rfl rfl ?_
              refine WLy.q (q_move rfl) rfl rfl ?_
              refine WLy.open0 4 98 false rfl rfl ?_
              refine WLy.qg 0 rfl rfl rfl (q_move rfl) rfl rfl rfl ?_
              refine WLy.qg 0 rfl rfl rfl (q_move rfl) rfl rfl rfl ?_
              refine WLy.qg 0 rfl rfl rfl (q_indexB rfl rfl u_9 (by omega) (by rw [show ((q : Int) + 1).toNat = q + 1 by omega]; exact hy)) rfl rfl rfl ?_
              refine WLy.qg 0 rfl rfl rfl (q_gtr rfl rfl) rfl rfl rfl ?_
              refine WLy.or0 0 rfl rfl rfl rfl rfl rfl rfl ?_
              refine WLy.done ?_
              refine AT.then_n ?_
              refine WC.cond rfl (fun h9 => ?_) (fun h9 => ?_)
              · -- if 9: yes
                try have p9 := of_decide_eq_true h9
                have hkn : ¬ knownB y.toNat = true := by
                  simp only [Bool.or_eq_true, decide_eq_true_eq] at h9
                  simp only [knownB, Bool.and_eq_true, decide_eq_true_eq]
                  omega
                refine WC.seq ?_
                refine WC.region ?_
                refine WL.q (q_move rfl) rfl ?_
                refine WL.q (q_move rfl) rfl ?_
                refine WL.q (q_assign rfl) rfl ?_
                refine WL.q (q_assign rfl) rfl ?_
                refine WL.q (q_assign rfl) rfl ?_
                refine WL.nil ?_
                refine AT.then_n ?_
                refine WC.ret ?_
                refine AT.then_r ?_
                refine AT.then_r ?_
                exact AT.done rfl (RO.three rfl rfl rfl rfl) ⟨rfl, rfl, .inr ⟨150, _, _, by rw [hrd, hdrop2, rd2_cons hf2, if_neg hkn], by decide, rfl⟩⟩ (Imp.refl _ _)
              · -- if 9: no
                try have p9 := of_decide_eq_false h9
                have hkn : knownB y.toNat = true := by
                  simp only [Bool.or_eq_false_iff, decide_eq_false_iff_not] at h9
                  simp only [knownB, Bool.and_eq_true, decide_eq_true_eq]
                  omega
                refine WC.skip ?_
                refine AT.then_n ?_
                refine WC.region ?_
                refine WL.q (q_move rfl) rfl ?_
                first | refine WL.q (q_add64 rfl rfl (by omega)) rfl ?_ | refine WL.q (q_add rfl rfl) rfl ?_
                refine WL.q (q_assign rfl) rfl ?_
                refine WL.nil ?_
                refine AT.mid (q + 2, (y.toNat : Int)) ⟨by rw [hrd, hdrop2, rd2_cons hf2, if_pos hkn], by first | omega | (simp only; omega), by first | omega | (simp only; omega)⟩ ⟨rfl, vint (by omega), rfl, rfl, rfl, rfl, trivial⟩ (Imp.refl _ _)
          · -- if 7: no
            try have p7 := of_decide_eq_false h7
            have hf2 : ¬ fieldsN (x.toNat : Int) &&& 2 ≠ 0 := by
              rw [f_2]
              simp only [Bool.or_eq_false_iff, decide_eq_false_iff_not] at h7
              omega
            refine WC.skip ?_
            refine AT.mid (q + 1, 0) ⟨by rw [hrd, rd2_no hf2], by first | omega | (simp only; omega), by first | omega | (simp only; omega)⟩ ⟨rfl, vint (by omega), rfl, rfl, rfl, rfl, trivial⟩ (Imp.refl _ _)
        · -- behind the cut
          rintro ⟨q1, u⟩ ⟨hrd, hq1, hq1l⟩
          simp only at hrd hq1 hq1l ⊢
          refine WC.cut (σ := Nat × Int × Int) (fun ⟨q1, u, m⟩ => rd (M + 1) (deep + 1) (1200 - n) (full.drop q) = rd4 (rd M (deep + 1 + 1)) (x.toNat : Int) (1200 - n - 1) [] u m (full.drop q1) ∧ q < q1 ∧ q1 ≤ full.length) (fun ⟨q1, u, m⟩ => [(0, .string (bs full)), (1, .int .i64 (q1 : Nat)), (2, .int .i64 deep), (3, .int .i64 (n + 1)), (11, .int .i64 (x.toNat : Int)), (12, .int .i64 (kidsN (fieldsN (x.toNat : Int)) : Nat))]) (fun _ => own) (fun _ => K) ?_ ?_
          · -- cut
            refine WC.seq ?_
            refine WC.region ?_
            refine WLy.enter ?_
            refine WLy.q (q_move rfl) rfl rfl ?_
            refine WLy.q (q_eql rfl rfl) rfl rfl ?_
            refine WLy.q (q_move rfl) rfl rfl ?_
            refine WLy.open0 2 110 false rfl rfl ?_
            refine WLy.qg 0 rfl rfl rfl (q_move rfl) rfl rfl rfl ?_
            refine WLy.qg 0 rfl rfl rfl (q_eql rfl rfl) rfl rfl rfl ?_
            refine WLy.or0 0 rfl rfl rfl rfl rfl rfl rfl ?_
            refine WLy.done ?_
            refine AT.then_n ?_
            refine WC.cond rfl (fun h10 => ?_) (fun h10 => ?_)
            · -- if 10: yes
              try have p10 := of_decide_eq_true h10
              have hf4 : fieldsN (x.toNat : Int) &&& 4 ≠ 0 := (f_4 _).2 (by simp only [Bool.or_eq_true, decide_eq_true_eq] at h10; omega)
              refine WC.seq ?_
              refine WC.seq ?_
              refine WC.region ?_
              refine WL.q (q_move rfl) rfl ?_
              first | refine WL.q (q_lenB rfl u_9) rfl ?_ | refine WL.q (q_lenS rfl u_9) rfl ?_
              refine WL.q (q_move rfl) rfl ?_
              first | refine WL.q (q_sub64 rfl rfl (by omega)) rfl ?_ | refine WL.q (q_sub rfl rfl) rfl ?_
              refine WL.q (q_lss rfl rfl) rfl ?_
              refine WL.nil ?_
              refine AT.then_n ?_
              refine WC.cond rfl (fun h11 => ?_) (fun h11 => ?_)
              · -- if 11: yes
                try have p11 := of_decide_eq_true h11
                refine WC.seq ?_
                refine WC.region ?_
                refine WL.q (q_move rfl) rfl ?_
                refine WL.q (q_move rfl) rfl ?_
                refine WL.q (q_assign rfl) rfl ?_
                refine WL.q (q_assign rfl) rfl ?_
                refine WL.q (q_assign rfl) rfl ?_
                refine WL.nil ?_
                refine AT.then_n ?_
                refine WC.ret ?_
                refine AT.then_r ?_
                refine AT.then_r ?_
                exact AT.done rfl (RO.three rfl rfl rfl rfl) ⟨rfl, rfl, .inr ⟨7, _, _, by rw [hrd]; unfold rd3; rw [if_pos hf4, if_pos (by rw [List.length_drop]; omega)], by decide, rfl⟩⟩ (Imp.refl _ _)
              · -- if 11: no
                try have p11 := of_decide_eq_false h11
                refine WC.skip ?_
                refine AT.then_n ?_
                refine WC.region ?_
                refine WL.q (q_move rfl) rfl ?_
                first | refine WL.q (q_add64 rfl rfl (by omega)) rfl ?_ | refine WL.q (q_add rfl rfl) rfl ?_
                refine WL.q (q_assign rfl) rfl ?_
                refine WL.nil ?_
                refine AT.mid (q1 + 2, u, (num ((full.drop q1).take 2) : Int)) ⟨?_, by first | omega | (simp only; omega), by first | omega | (simp only; omega)⟩ ⟨rfl, vint (by omega), rfl, rfl, rfl, rfl, trivial⟩ (Imp.refl _ _)
                rw [hrd]; unfold rd3; rw [if_pos hf4, if_neg (by rw [List.length_drop]; omega), List.drop_drop]
            · -- if 10: no
              try have p10 := of_decide_eq_false h10
              have hf4 : ¬ fieldsN (x.toNat : Int) &&& 4 ≠ 0 := by
                rw [f_4]
                simp only [Bool.or_eq_false_iff, decide_eq_false_iff_not] at h10
                omega
              refine WC.skip ?_
              refine AT.mid (q1, u, 0) ⟨?_, hq1, hq1l⟩ ⟨rfl, rfl, rfl, rfl, rfl, rfl, trivial⟩ (Imp.refl _ _)
              rw [hrd]; unfold rd3; rw [if_neg hf4]
          · -- behind the cut
            rintro ⟨q1, u, m⟩ ⟨hrd, hq1, hq1l⟩
            simp only at hrd hq1 hq1l ⊢
            refine WC.seq ?_
            refine WC.block ?_
            refine WC.loop (σ := Nat × Nat × Int × List Tm) (fun ⟨c, q1, n1, acc⟩ => rd (M + 1) (deep + 1) (1200 - n) (full.drop q) = rdF (x.toNat : Int) u m [] (rdL (rd M (deep + 1 + 1)) c (1200 - n1) (full.drop q1) acc) ∧ q < q1 ∧ q1 ≤ full.length ∧ n < n1 ∧ n1 ≤ 1200 ∧ c ≤ 2) (fun ⟨c, q1, n1, acc⟩ => [(0, .string (bs full)), (1, .int .i64 (q1 : Nat)), (2, .int .i64 deep), (3, .int .i64 (n1)), (11, .int .i64 (x.toNat : Int)), (12, .int .i64 (c : Nat))]) (fun _ => own) (fun _ => K) (fun ⟨c, q1, n1, acc⟩ => c) (kidsN (fieldsN (x.toNat : Int)), q1, n + 1, []) ⟨by rw [hrd, show 1200 - n - 1 = 1200 - (n + 1) by omega]; rfl, hq1, hq1l, by first | omega | (simp only; omega), by first | omega | (simp only; omega), kidsN_le _⟩ ⟨rfl, rfl, rfl, rfl, rfl, rfl, trivial⟩ (Imp.refl _ _) ?_
            rintro ⟨c, q1, n1, acc⟩ ⟨hrd, hq1, hq1l, hn1, hn1b, hc2⟩
            simp only at hrd hq1 hq1l hn1 hn1b hc2 ⊢
            refine WC.seq ?_
            refine WC.seq ?_
            refine WC.region ?_
            refine WL.q (q_move rfl) rfl ?_
            refine WL.q (q_gtr rfl rfl) rfl ?_
            refine WL.nil ?_
            refine AT.then_n ?_
            refine WC.cond rfl (fun h12 => ?_) (fun h12 => ?_)
            · -- if 12: yes
              try have p12 := of_decide_eq_true h12
              obtain ⟨c, rfl⟩ : ∃ c2, c = c2 + 1 := ⟨c - 1, by omega⟩
              rw [rdL] at hrd
              refine WC.skip ?_
              refine AT.then_n ?_
              refine WC.seq ?_
              refine WC.block ?_
              refine WC.seq ?_
              refine WC.region ?_
              refine WL.q (q_assign rfl) rfl ?_
              refine WL.nil ?_
              refine AT.then_n ?_
              refine WC.seq ?_
              refine WC.region ?_
              refine WL.q (q_move rfl) rfl ?_
              refine WL.q (q_move rfl) rfl ?_
              refine WL.q (q_move rfl) rfl ?_
              first | refine WL.q (q_add64 rfl rfl (by omega)) rfl ?_ | refine WL.q (q_add rfl rfl) rfl ?_
              refine WL.q (q_move rfl) rfl ?_
              refine WL.eff (e_call rfl (ih (own := own) (K := K) (full := full) (q := q1) (deep := deep + 1) (n := n1) hq1l (by omega) hl (by omega) (by omega))) rfl ?_; rintro v9 _ _ ⟨rfl, rfl, hv8⟩
              obtain ⟨x9, y9, c9, rfl, hv9⟩ : ∃ x9 y9 c9, v9 = .tuple #[.int .i64 x9, .int .i64 y9, .int .i64 c9] ∧ ((c9 = 0 ∧ ∃ (T : Tm) (q2 : Nat) (l : Int), rd M (deep + 1 + 1) (1200 - n1) (full.drop q1) = .ok T (full.drop q2) l ∧ q1 < q2 ∧ q2 ≤ full.length ∧ 0 ≤ l ∧ l < 1200 - n1 ∧ x9 = q2 ∧ y9 = 1200 - l) ∨ (c9 ≠ 0 ∧ rd M (deep + 1 + 1) (1200 - n1) (full.drop q1) = .err c9)) := by
                rcases hv8 with ⟨T, q2, l, h1, h3, h4, h5, h6, rfl⟩ | ⟨c, x, y, h1, h3, rfl⟩
                · exact ⟨_, _, _, rfl, .inl ⟨rfl, T, q2, l, h1, h3, h4, h5, h6, rfl, rfl⟩⟩
                · exact ⟨_, _, _, rfl, .inr ⟨h3, h1⟩⟩
              refine WL.q (q_move rfl) rfl ?_
              refine WL.q (q_extract rfl rfl) rfl ?_
              refine WL.q (q_extract rfl rfl) rfl ?_
              refine WL.q (q_extract rfl rfl) rfl ?_
              refine WL.q (q_assign rfl) rfl ?_
              refine WL.q (q_assign rfl) rfl ?_
              refine WL.q (q_assign rfl) rfl ?_
              refine WL.nil ?_
              refine AT.then_n ?_
              refine WC.seq ?_
              refine WC.region ?_
              refine WL.q (q_move rfl) rfl ?_
              refine WL.q (q_neq rfl rfl) rfl ?_
              refine WL.nil ?_
              refine AT.then_n ?_
              refine WC.cond rfl (fun h13 => ?_) (fun h13 => ?_)
              · -- if 13: yes
                try have p13 := of_decide_eq_true h13
                rcases hv9 with ⟨h0, -⟩ | ⟨h0, he⟩
                · exact absurd h0 p13
                refine WC.seq ?_
                refine WC.region ?_
                refine WL.q (q_move rfl) rfl ?_
                refine WL.q (q_move rfl) rfl ?_
                refine WL.q (q_move rfl) rfl ?_
                refine WL.q (q_assign rfl) rfl ?_
                refine WL.q (q_assign rfl) rfl ?_
                refine WL.q (q_assign rfl) rfl ?_
                refine WL.nil ?_
                refine AT.then_n ?_
                refine WC.ret ?_
                refine AT.blk_r ?_
                refine AT.then_r ?_
                refine AT.then_r ?_
                refine AT.blk_r ?_
                refine AT.then_r ?_
                exact AT.done rfl (RO.three rfl rfl rfl rfl) ⟨rfl, rfl, .inr ⟨c9, _, _, by rw [hrd, he]; rfl, h0, rfl⟩⟩ (Imp.refl _ _)
              · -- if 13: no
                try have p13 := of_decide_eq_false h13
                rcases hv9 with ⟨rfl, T, q2, l, hT, hq2, hq2l, hl0, hl1, rfl, rfl⟩ | ⟨h0, -⟩
                rotate_left
                · exact absurd h0 p13
                refine WC.skip ?_
                refine AT.blk_n ?_
                refine AT.then_n ?_
                refine WC.region ?_
                refine WL.q (q_move rfl) rfl ?_
                first | refine WL.q (q_sub64 rfl rfl (by omega)) rfl ?_ | refine WL.q (q_sub rfl rfl) rfl ?_
                refine WL.q (q_assign rfl) rfl ?_
                refine WL.nil ?_
                refine AT.mid (c, q2, 1200 - l, acc ++ [T]) ⟨⟨?_, by first | omega | (simp only; omega), hq2l, by first | omega | (simp only; omega), by first | omega | (simp only; omega), by first | omega | (simp only; omega)⟩, by first | omega | (simp only; omega)⟩ ⟨rfl, rfl, rfl, rfl, rfl, vint (by omega), trivial⟩ (Imp.refl _ _)
                rw [hrd, hT, show 1200 - (1200 - l) = l by omega]
            · -- if 12: no
              try have p12 := of_decide_eq_false h12
              refine WC.exit ?_
              refine AT.then_e ?_
              refine AT.then_e ?_
              refine AT.blk_e ?_
              refine AT.then_n ?_
              refine WC.seq ?_
              refine WC.region ?_
              refine WL.q (q_move rfl) rfl ?_
              refine WL.q (q_move rfl) rfl ?_
              refine WL.q (q_assign rfl) rfl ?_
              refine WL.q (q_assign rfl) rfl ?_
              refine WL.q (q_assign rfl) rfl ?_
              refine WL.nil ?_
              refine AT.then_n ?_
              refine WC.ret ?_
              have hc0 : c = 0 := by omega
              subst hc0
              rw [rdL, rdF] at hrd
              exact AT.done rfl (RO.three rfl rfl rfl rfl) ⟨rfl, rfl, .inl ⟨_, q1, 1200 - n1, hrd, hq1, hq1l, by omega, by omega, vt3 rfl (by omega) rfl⟩⟩ (Imp.refl _ _)

theorem c79 : ∀ (N : Nat) {own : List SP} {K : PH → Prop} {full : List UInt8} {q : Nat} {deep n : Int} (hq : q ≤ full.length) (hM : full.length - q < N) (hl : full.length ≤ 100000) (hd : 0 ≤ deep ∧ deep ≤ 60) (hn : 0 ≤ n ∧ n ≤ 1200), Spec Try.prog 79 [.string (bs full), .int .i64 q, .int .i64 deep, .int .i64 n] own K (BgΦ own K N full q deep n)
  | 0, _, _, _, _, _, _, _, hM, _, _, _ => absurd hM (Nat.not_lt_zero _)
  | N + 1, _, _, _, _, _, _, hq, hM, hl, hd, hn => c79_step hq hM hl hd hn (c79 N)

end Go.Proofs.Sl
