/- Layer 10: the law of terms. -/
import Derived.Test.YtimokikpnngikaaSlBeg
import Derived.Test.YtimokikpnngikaaSlLaw6
namespace Go.Proofs.Sl
open Go
set_option linter.unusedVariables false
set_option linter.unusedSimpArgs false
theorem c19_err {own : List SP} {K : PH → Prop} {s : List UInt8} {c : Int} (hl : s.length ≤ 100000) (hrd : rd (s.length + 1) 1 1200 s = .err c) : Spec Try.prog 19 [.string (bs s)] (own) (K)
    (Ret (.bool true) own K) := by
  refine Spec.of en_19 Try.func19 rfl rfl fun g => ?_
  refine WC.seq ?_
  refine WC.region ?_
  refine WL.q (q_assign rfl) rfl ?_
  refine WL.nil ?_
  refine AT.then_n ?_
  refine WC.seq ?_
  refine WC.region ?_
  refine WL.q (q_move rfl) rfl ?_
  refine WL.eff (e_call rfl (c79 (s.length + 1) (q := 0) (deep := 0) (n := 0) (by omega) (by omega) hl (by omega) (by omega))) rfl ?_; rintro v9 _ _ ⟨rfl, rfl, hv8⟩
  have hrd2 : rd (s.length + 1) (0 + 1) (1200 - 0) (s.drop 0) = .err c := hrd
  obtain ⟨x9, y9, rfl, hc⟩ : ∃ x9 y9, v9 = .tuple #[.int .i64 x9, .int .i64 y9, .int .i64 c] ∧ c ≠ 0 := by
    rcases hv8 with ⟨T, q2, l, h1, _⟩ | ⟨c2, x, y, h1, h2, rfl⟩
    · rw [hrd2] at h1; cases h1
    · rw [hrd2] at h1; cases h1; exact ⟨_, _, rfl, h2⟩
  refine WL.q (q_move rfl) rfl ?_
  refine WL.q (q_extract rfl rfl) rfl ?_
  refine WL.q (q_extract rfl rfl) rfl ?_
  refine WL.q (q_extract rfl rfl) rfl ?_
  refine WL.q (q_assign rfl) rfl ?_
  refine WL.q (q_assign rfl) rfl ?_
  refine WL.q (q_assign rfl) rfl ?_
  refine WL.nil ?_
  refine AT.then_n ?_
  refine WC.seq ?_
  refine WC.region ?_
  refine WL.q (q_move rfl) rfl ?_
  refine WL.eff (e_s2bK rfl u_9 u_23 u_5 i_5 (by first | omega | (simp; omega))) rfl ?_; rintro _ _ _ ⟨A2, cap2, rfl, rfl, rfl, hcap2⟩
  refine WL.eff (e_call rfl (c67 Ent.right hl)) rfl ?_; rintro v8 _ k8 ⟨rfl, hk8, hv7⟩
  obtain rfl : v8 = .tuple #[.agg (Tg.mk 0 0 0 [] none 0 []).cells.toArray, .int .i64 0, .int .i64 c] := by
    rcases hv7 with ⟨T, rest, l, h1, _⟩ | ⟨c2, h1, rfl⟩
    · rw [hrd] at h1; cases h1
    · rw [hrd] at h1; cases h1; rfl
  refine WL.q (q_move rfl) rfl ?_
  refine WL.q (q_extract rfl rfl) rfl ?_
  refine WL.q (q_extract rfl rfl) rfl ?_
  refine WL.q (q_extract rfl rfl) rfl ?_
  refine WL.eff (e_alloc i_38) rfl ?_; rintro _ _ _ ⟨b4, rfl, rfl, rfl⟩
  refine WL.effn (e_storeAll 0 rfl rfl rfl i_38 rfl (Tg.len _) (by first | (simp [Value.cells, Tg.len]; done) | (simp [Value.cells, Tg.cells]; done)) (Tg.ones _)) ?_; rintro _ _ _ ⟨rfl, rfl, rfl⟩
  refine WL.q (q_assign rfl) rfl ?_
  refine WL.q (q_assign rfl) rfl ?_
  refine WL.nil ?_
  refine AT.then_n ?_
  refine WC.seq ?_
  refine WC.seq ?_
  refine WC.region ?_
  refine WL.q (q_move rfl) rfl ?_
  refine WL.q (q_move rfl) rfl ?_
  refine WL.q (q_neq rfl rfl) rfl ?_
  refine WL.nil ?_
  refine AT.then_n ?_
  refine WC.condPF rfl (by simp) ?_
  refine WC.skip ?_
  refine AT.then_n ?_
  refine WC.seq ?_
  refine WC.seq ?_
  refine WC.region ?_
  refine WL.q (q_move rfl) rfl ?_
  refine WL.q (q_neq rfl rfl) rfl ?_
  refine WL.nil ?_
  refine AT.then_n ?_
  refine WC.condPT rfl (hc) ?_
  refine WC.seq ?_
  refine WC.region ?_
  refine WL.q (q_move rfl) rfl ?_
  refine WL.q (q_eql rfl rfl) rfl ?_
  refine WL.q (q_assign rfl) rfl ?_
  refine WL.nil ?_
  refine AT.then_n ?_
  refine WC.ret ?_
  refine AT.then_r ?_
  exact AT.done rfl (RO.one rfl rfl) ⟨congrArg Value.bool (decide_eq_true rfl).symm, rfl, rfl⟩ (Imp.keepRest (by repeat (first | exact List.Sublist.refl _ | refine List.Sublist.cons _ ?_)) (hk8.trans (Ent.refl _).left))

theorem c19_ok {own : List SP} {K : PH → Prop} {s rest : List UInt8} {T0 : Tm} {l : Int} (hl : s.length ≤ 100000) (hrd : rd (s.length + 1) 1 1200 s = .ok T0 rest l) : Spec Try.prog 19 [.string (bs s)] (own) (K)
    (Ret (.bool true) own K) := by
  refine Spec.of en_19 Try.func19 rfl rfl fun g => ?_
  refine WC.seq ?_
  refine WC.region ?_
  refine WL.q (q_assign rfl) rfl ?_
  refine WL.nil ?_
  refine AT.then_n ?_
  refine WC.seq ?_
  refine WC.region ?_
  refine WL.q (q_move rfl) rfl ?_
  refine WL.eff (e_call rfl (c79 (s.length + 1) (q := 0) (deep := 0) (n := 0) (by omega) (by omega) hl (by omega) (by omega))) rfl ?_; rintro v9 _ _ ⟨rfl, rfl, hv8⟩
  have hrd2 : rd (s.length + 1) (0 + 1) (1200 - 0) (s.drop 0) = .ok T0 rest l := hrd
  obtain ⟨q2, y9, rfl, hq2, rfl⟩ : ∃ (q2 : Nat) (y9 : Int), v9 = .tuple #[.int .i64 q2, .int .i64 y9, .int .i64 0] ∧ q2 ≤ s.length ∧ s.drop q2 = rest := by
    rcases hv8 with ⟨T, q2, l2, h1, h2, h3, h4, h5, rfl⟩ | ⟨c2, x, y, h1, h2, rfl⟩
    · rw [hrd2] at h1; cases h1; exact ⟨q2, _, rfl, h3, rfl⟩
    · rw [hrd2] at h1; cases h1
  refine WL.q (q_move rfl) rfl ?_
  refine WL.q (q_extract rfl rfl) rfl ?_
  refine WL.q (q_extract rfl rfl) rfl ?_
  refine WL.q (q_extract rfl rfl) rfl ?_
  refine WL.q (q_assign rfl) rfl ?_
  refine WL.q (q_assign rfl) rfl ?_
  refine WL.q (q_assign rfl) rfl ?_
  refine WL.nil ?_
  refine AT.then_n ?_
  refine WC.seq ?_
  refine WC.region ?_
  refine WL.q (q_move rfl) rfl ?_
  refine WL.eff (e_s2bK rfl u_9 u_23 u_5 i_5 (by first | omega | (simp; omega))) rfl ?_; rintro _ _ _ ⟨A2, cap2, rfl, rfl, rfl, hcap2⟩
  refine WL.eff (e_call rfl (c67 Ent.right hl)) rfl ?_; rintro v8 _ k8 ⟨rfl, hk8, hv7⟩
  obtain ⟨T, rfl, hT, hs, rfl⟩ : ∃ T : Tg, T.er = T0 ∧ Ent k8 T.ok ∧ T.small ∧ v8 = .tuple #[.agg T.cells.toArray, .int .i64 ((s.length : Int) - (s.drop q2).length), .int .i64 0] := by
    rcases hv7 with ⟨T, rest, l, h1, h2, h3, h4, rfl⟩ | ⟨c2, h1, rfl⟩
    · rw [hrd] at h1; cases h1; exact ⟨T, rfl, h3, h4, rfl⟩
    · rw [hrd] at h1; cases h1
  obtain ⟨hw, hb, hl0⟩ := rd_ok _ _ _ _ _ _ _ hrd
  have hz : szP T.er ≠ 0 := by
    rw [szP_of hw]
    have := (wk_le 1 1200 T.er).1
    rw [hw] at this
    simp only at this
    omega
  have hq3 : ((s.length : Int) - (s.drop q2).length) = q2 := by rw [List.length_drop]; omega
  have hput : putB T.er = s.take q2 := List.append_cancel_right (hb.symm.trans (List.take_append_drop q2 s).symm)
  have hpl : (putB T.er).length ≤ 1000000000 := by rw [hput, List.length_take]; omega
  rw [hq3]
  refine WL.q (q_move rfl) rfl ?_
  refine WL.q (q_extract rfl rfl) rfl ?_
  refine WL.q (q_extract rfl rfl) rfl ?_
  refine WL.q (q_extract rfl rfl) rfl ?_
  refine WL.eff (e_alloc i_38) rfl ?_; rintro _ _ _ ⟨b4, rfl, rfl, rfl⟩
  refine WL.effn (e_storeAll 0 rfl rfl rfl i_38 rfl (Tg.len _) (by first | (simp [Value.cells, Tg.len]; done) | (simp [Value.cells, Tg.cells]; done)) (Tg.ones _)) ?_; rintro _ _ _ ⟨rfl, rfl, rfl⟩
  refine WL.q (q_assign rfl) rfl ?_
  refine WL.q (q_assign rfl) rfl ?_
  refine WL.nil ?_
  refine AT.then_n ?_
  refine WC.seq ?_
  refine WC.seq ?_
  refine WC.region ?_
  refine WL.q (q_move rfl) rfl ?_
  refine WL.q (q_move rfl) rfl ?_
  refine WL.q (q_neq rfl rfl) rfl ?_
  refine WL.nil ?_
  refine AT.then_n ?_
  refine WC.condPF rfl (by simp) ?_
  refine WC.skip ?_
  refine AT.then_n ?_
  refine WC.seq ?_
  refine WC.seq ?_
  refine WC.region ?_
  refine WL.q (q_move rfl) rfl ?_
  refine WL.q (q_neq rfl rfl) rfl ?_
  refine WL.nil ?_
  refine AT.then_n ?_
  refine WC.condPF rfl (by simp) ?_
  refine WC.skip ?_
  refine AT.then_n ?_
  refine WC.seq ?_
  refine WC.region ?_
  refine WL.q (q_loadA rfl a_38 i_38 (Cells.pt 0 rfl) (Tg.len _)) rfl ?_
  refine WL.eff (e_call rfl (c63_ok hT hs hz hpl)) rfl ?_; rintro _ _ k7 ⟨A7, c7, rfl, rfl, hk7⟩
  refine WL.imp Imp.orowStay ?_
  refine WL.q (q_move rfl) rfl ?_
  refine WL.q (q_extract rfl rfl) rfl ?_
  refine WL.q (q_extract rfl rfl) rfl ?_
  refine WL.q (q_assign rfl) rfl ?_
  refine WL.q (q_assign rfl) rfl ?_
  refine WL.nil ?_
  refine AT.then_n ?_
  refine WC.seq ?_
  refine WC.drawS [0, 1, 2, 3, 4, 5, 6, 7, 8, 10, 11, 13, 14, 15, 18, 19, 20, 23, 24, 26, 27, 28] _ _ mixed (NoPan.then NoPan.body) (Imp.refl _ _) rfl ?_
  refine WD.sched [(0, 0), (1, 0), (2, 0), (3, 0)] false (by decide +kernel) ?_
  refine WS.q 0 rfl (q_move rfl) rfl ?_
  refine WS.q 1 rfl (q_move rfl) rfl ?_
  refine WS.q 2 rfl (q_eql rfl rfl) rfl ?_
  refine WS.q 3 rfl (q_move rfl) rfl ?_
  refine WS.back ?_
  refine WD.sched [(4, 0), (5, 0), (6, 0), (7, 0)] false (by decide +kernel) ?_
  refine WS.qon 4 rfl rfl rfl (decide_eq_true rfl) (q_move rfl) rfl ?_
  refine WS.qon 5 rfl rfl rfl (decide_eq_true rfl) (q_eql rfl rfl) rfl ?_
  refine WS.q 6 rfl (q_pickT rfl (decide_eq_true rfl) rfl) rfl ?_
  refine WS.q 7 rfl (q_move rfl) rfl ?_
  refine WS.back ?_
  refine WD.sched [(8, 0), (9, 0), (10, 0), (11, 0), (12, 0), (13, 0), (14, 0), (15, 0)] false (by decide +kernel) ?_
  refine WS.qon 8 rfl rfl rfl (decide_eq_true rfl) (q_move rfl) rfl ?_
  refine WS.qon 9 rfl rfl rfl (decide_eq_true rfl) (q_b2sK rfl u_23 u_5 u_9 Ent.right) rfl ?_
  refine WS.qon 10 rfl rfl rfl (decide_eq_true rfl) (q_move rfl) rfl ?_
  refine WS.qon 11 rfl rfl rfl (decide_eq_true rfl) (q_move rfl) rfl ?_
  refine WS.qon 12 rfl rfl rfl (decide_eq_true rfl) (q_sliceS rfl rfl ⟨_, _, rfl, rfl⟩ u_9 (by omega)) rfl ?_
  refine WS.qon 13 rfl rfl rfl (decide_eq_true rfl) (q_eqlS rfl rfl) rfl ?_
  refine WS.q 14 rfl (q_pickT rfl (decide_eq_true rfl) rfl) rfl ?_
  refine WS.q 15 rfl (q_move rfl) rfl ?_
  refine WS.back ?_
  refine WD.sched [(16, 0), (17, 2), (18, 0), (19, 0), (20, 0)] false (by decide +kernel) ?_
  refine WS.qon 16 rfl rfl rfl (decide_eq_true (by rw [hput]; simp)) (q_loadA rfl a_38 i_38 (Cells.pt 0 rfl) (Tg.len _)) rfl ?_
  refine WS.effon2 17 rfl rfl rfl (decide_eq_true (by rw [hput]; simp)) (e_call rfl (c73 (hk7.trans hT).left hs)) rfl ?_; rintro _ _ _ ⟨rfl, rfl, rfl⟩
  rw [if_neg hz]
  refine ⟨(by first | exact (Imp.refl _ _) | exact (Imp.sub (List.Sublist.cons _ (List.Sublist.refl _))) | exact (Imp.ent (Ent.left (Ent.refl _)))), ?_⟩
  refine WS.qon 18 rfl rfl rfl (decide_eq_true (by rw [hput]; simp)) (q_eql rfl rfl) rfl ?_
  refine WS.q 19 rfl (q_pickT rfl (decide_eq_true (by rw [hput]; simp)) rfl) rfl ?_
  refine WS.q 20 rfl (q_move rfl) rfl ?_
  refine WS.back ?_
  refine WD.sched [(21, 0), (23, 0), (24, 0), (25, 0), (22, 2), (26, 0), (27, 0), (28, 0)] true (by decide +kernel) ?_
  refine WS.qon 21 rfl rfl rfl (decide_eq_true rfl) (q_loadA rfl a_38 i_38 (Cells.pt 0 rfl) (Tg.len _)) rfl ?_
  refine WS.qon 23 rfl rfl rfl (decide_eq_true rfl) (q_move rfl) rfl ?_
  refine WS.qon 24 rfl rfl rfl (decide_eq_true rfl) (q_move rfl) rfl ?_
  refine WS.qon 25 rfl rfl rfl (decide_eq_true rfl) (q_sliceS rfl rfl ⟨_, _, rfl, rfl⟩ u_9 (by omega)) rfl ?_
  refine WS.effon2 22 rfl rfl rfl (decide_eq_true rfl) (e_call rfl (c76 T (hk7.trans hT).left hs hpl)) rfl ?_; rintro _ _ _ ⟨rfl, rfl, rfl⟩
  refine ⟨(by first | exact (Imp.refl _ _) | exact (Imp.sub (List.Sublist.cons _ (List.Sublist.refl _))) | exact (Imp.ent (Ent.left (Ent.refl _)))), ?_⟩
  refine WS.qon 26 rfl rfl rfl (decide_eq_true rfl) (q_eqlS rfl rfl) rfl ?_
  refine WS.q 27 rfl (q_pickT rfl (decide_eq_true rfl) rfl) rfl ?_
  refine WS.q 28 rfl (q_assign rfl) rfl ?_
  refine WS.done ?_
  refine AT.then_n ?_
  refine WC.ret ?_
  exact AT.done rfl (RO.one rfl rfl) ⟨congrArg Value.bool (decide_eq_true (by rw [hput]; simp)).symm, rfl, rfl⟩ (Imp.keepRest (by repeat (first | exact List.Sublist.refl _ | refine List.Sublist.cons _ ?_)) (hk7.trans (hk8.trans (Ent.refl _).left)).left)


theorem c19 {own : List SP} {K : PH → Prop} {s : List UInt8} (hl : s.length ≤ 100000) : Spec Try.prog 19 [.string (bs s)] own K (Ret (.bool true) own K) := by
  cases h : rd (s.length + 1) 1 1200 s with
  | ok T rest l => exact c19_ok hl h
  | err c => exact c19_err hl h


mutual
theorem sz5_le (most : Int) : ∀ (T : Tm), sz5 most T ≤ cnt T
  | .mk k u n t l => by rw [sz5_mk, cnt]; have := sz5L_le most 1 l; omega
theorem sz5L_le (most : Int) : ∀ (n : Int) (l : List Tm), sz5L most n l ≤ n + cntL l
  | n, [] => by rw [sz5L_nil, cntL]; omega
  | n, x :: l => by
    rw [sz5L_cons, cntL]
    split
    · omega
    · have := sz5_le most x; have := sz5L_le most (n + sz5 most x) l; omega
end
theorem less_self : ∀ (a : List UInt8), Op.bytesLess a a = false
  | [] => rfl
  | x :: a => by rw [Op.bytesLess, less_self a]; simp
/-- A term of a fair size. -/
structure Fair (K : PH → Prop) (T : Tg) : Prop where
  ok : Ent K T.ok
  small : T.small
  cnt : cnt T.er ≤ 1000000
  len : (putB T.er).length ≤ 50000
theorem Fair.weak {K K' : PH → Prop} {T : Tg} (h : Fair K T) (e : Ent K' K) : Fair K' T := ⟨e.trans h.ok, h.small, h.cnt, h.len⟩
theorem Fair.left {K p : PH → Prop} {T : Tg} (h : Fair K T) : Fair (K ∩ p) T := h.weak (Ent.refl _).left
theorem Fair.len2 {K : PH → Prop} {T : Tg} (h : Fair K T) : (putB T.er).length ≤ 1000000000 := by have := h.len; omega
theorem putB_pos : ∀ (T : Tm), 0 < (putB T).length
  | .mk k u n t l => by rw [putB_mk]; simp

theorem c74 {own : List SP} {K : PH → Prop} {T : Tg} (h : Fair K T) : Spec Try.prog 74 [.agg T.cells.toArray] (own) (K)
    (Ret (.bool (ok5 T.er)) own K) := by
  refine Spec.of en_74 Try.func74 rfl rfl fun g => ?_
  refine WC.seq ?_
  refine WC.region ?_
  refine WLy.enter ?_
  refine WLy.eff (e_box rfl) rfl rfl ?_; rintro _ _ _ ⟨b1, rfl, rfl, rfl⟩
  refine WLy.q (q_assign rfl) rfl rfl ?_
  refine WLy.done ?_
  refine AT.then_n ?_
  refine WC.seq ?_
  refine WC.region ?_
  refine WLy.enter ?_
  refine WLy.q (q_loadA rfl a_38 i_38 (Cells.pt 0 rfl) (Tg.len _)) rfl rfl ?_
  refine WLy.eff (e_call rfl (c30 T h.ok h.small (by omega))) rfl rfl ?_; rintro _ _ _ ⟨rfl, rfl, rfl⟩
  refine WLy.q (q_move rfl) rfl rfl ?_
  refine WLy.open0 2 5 true rfl rfl ?_
  refine WLy.qg 0 rfl rfl rfl (q_loadA rfl a_38 i_38 (Cells.pt 0 rfl) (Tg.len _)) rfl rfl rfl ?_
  refine WLy.eg 0 rfl rfl rfl (e_call rfl (c29 T h.ok h.small (by have := sz5_le 1300 T.er; have := h.cnt; omega))) rfl rfl rfl ?_
  refine WLy.qg 0 rfl rfl rfl (q_leq rfl rfl) rfl rfl rfl ?_
  refine WLy.and0 0 rfl rfl rfl rfl rfl rfl rfl ?_
  refine WLy.q (q_assign rfl) rfl rfl ?_
  refine WLy.done ?_
  refine AT.then_n ?_
  refine WC.ret ?_
  exact AT.done rfl (RO.one rfl rfl) ⟨rfl, rfl, rfl⟩ (Imp.drop (Imp.refl _ _))

theorem c17_bad {own : List SP} {K : PH → Prop} {a b : Tg} {w : Nat} {z : UInt8} (ha : Fair K a) (hb : Fair K b) (hw : w ≤ 65535) (hz : szP a.er = 0) : Spec Try.prog 17 [.agg a.cells.toArray, .agg b.cells.toArray, .int .u16 w, .int .u8 z.toNat] (own) (K)
    (Ret (.bool true) own K) := by
  refine Spec.of en_17 Try.func17 rfl rfl fun g => ?_
  refine WC.seq ?_
  refine WC.region ?_
  refine WL.eff (e_box rfl) rfl ?_; rintro _ _ _ ⟨b1, rfl, rfl, rfl⟩
  refine WL.eff (e_box rfl) rfl ?_; rintro _ _ _ ⟨b2, rfl, rfl, rfl⟩
  refine WL.q (q_assign rfl) rfl ?_
  refine WL.nil ?_
  refine AT.then_n ?_
  refine WC.seq ?_
  refine WC.region ?_
  refine WL.q (q_assign rfl) rfl ?_
  refine WL.nil ?_
  refine AT.then_n ?_
  refine WC.seq ?_
  refine WC.region ?_
  refine WL.q (q_loadA rfl a_38 i_38 (Cells.pt 1 rfl) (Tg.len _)) rfl ?_
  refine WL.eff (e_call rfl (c63_no ha.ok ha.small hz)) rfl ?_; rintro _ _ _ ⟨rfl, rfl, rfl⟩
  refine WL.q (q_move rfl) rfl ?_
  refine WL.q (q_extract rfl rfl) rfl ?_
  refine WL.q (q_extract rfl rfl) rfl ?_
  refine WL.q (q_assign rfl) rfl ?_
  refine WL.q (q_assign rfl) rfl ?_
  refine WL.nil ?_
  refine AT.then_n ?_
  refine WC.seq ?_
  refine WC.seq ?_
  refine WC.region ?_
  refine WL.q (q_move rfl) rfl ?_
  refine WL.q (q_loadA rfl a_38 i_38 (Cells.pt 1 rfl) (Tg.len _)) rfl ?_
  refine WL.eff (e_callV rfl rfl (VS.fn (f := 74) (first := []) (cap := []) ((c74 ha).at g))) rfl ?_; rintro _ _ _ ⟨rfl, rfl, rfl⟩
  refine WL.q (q_not rfl) rfl ?_
  refine WL.nil ?_
  refine AT.then_n ?_
  refine WC.condHT rfl (by rw [show ok5 a.er = false from by rw [← Bool.not_eq_true, ok5_iff]; simpa using hz]; rfl) ?_
  refine WC.seq ?_
  refine WC.region ?_
  refine WL.q (q_move rfl) rfl ?_
  refine WL.q (q_eql rfl rfl) rfl ?_
  refine WL.q (q_move rfl) rfl ?_
  refine WL.on rfl rfl (decide_eq_true rfl) ?_
  refine WL.q (q_loadA rfl a_38 i_38 (Cells.pt 1 rfl) (Tg.len _)) rfl ?_
  refine WL.on rfl rfl (decide_eq_true rfl) ?_
  refine WL.eff (e_call rfl (c73 ha.ok ha.small)) rfl ?_; rintro _ _ _ ⟨rfl, rfl, rfl⟩
  rw [if_pos hz]
  refine WL.on rfl rfl (decide_eq_true rfl) ?_
  refine WL.q (q_eql rfl rfl) rfl ?_
  refine WL.q (q_pickT rfl (decide_eq_true rfl) rfl) rfl ?_
  refine WL.q (q_move rfl) rfl ?_
  refine WL.on rfl rfl (decide_eq_true rfl) ?_
  refine WL.q (q_loadA rfl a_38 i_38 (Cells.pt 1 rfl) (Tg.len _)) rfl ?_
  refine WL.on rfl rfl (decide_eq_true rfl) ?_
  refine WL.eff (e_call rfl (c71 ha.ok ha.small)) rfl ?_; rintro _ _ _ ⟨rfl, rfl, rfl⟩
  rw [hz]
  refine WL.on rfl rfl (decide_eq_true rfl) ?_
  refine WL.q (q_eql rfl rfl) rfl ?_
  refine WL.q (q_pickT rfl (decide_eq_true rfl) rfl) rfl ?_
  refine WL.q (q_move rfl) rfl ?_
  refine WL.on rfl rfl (decide_eq_true rfl) ?_
  refine WL.q (q_loadA rfl a_38 i_38 (Cells.pt 1 rfl) (Tg.len _)) rfl ?_
  refine WL.on rfl rfl (decide_eq_true rfl) ?_
  refine WL.q (q_loadA rfl a_38 i_38 (Cells.pt 0 rfl) (Tg.len _)) rfl ?_
  refine WL.on rfl rfl (decide_eq_true rfl) ?_
  refine WL.eff (e_call rfl (c75_a ha.ok ha.small hb.ok hb.small (by omega))) rfl ?_; rintro _ _ _ ⟨rfl, rfl, rfl⟩
  refine WL.on rfl rfl (decide_eq_true rfl) ?_
  refine WL.q (q_not rfl) rfl ?_
  refine WL.q (q_pickT rfl (decide_eq_true rfl) rfl) rfl ?_
  refine WL.q (q_assign rfl) rfl ?_
  refine WL.nil ?_
  refine AT.then_n ?_
  refine WC.ret ?_
  refine AT.then_r ?_
  exact AT.done rfl (RO.one rfl rfl) ⟨rfl, rfl, rfl⟩ (Imp.drop (Imp.drop (Imp.refl _ _)))

theorem c17_ok {own : List SP} {K : PH → Prop} {a b : Tg} {w : Nat} {z : UInt8} (ha : Fair K a) (hb : Fair K b) (hw : w ≤ 65535) (hz : szP a.er ≠ 0) : Spec Try.prog 17 [.agg a.cells.toArray, .agg b.cells.toArray, .int .u16 w, .int .u8 z.toNat] (own) (K)
    (Ret (.bool true) own K) := by
  have hok : ok5 a.er = true := ok5_iff.2 hz
  refine Spec.of en_17 Try.func17 rfl rfl fun g => ?_
  refine WC.seq ?_
  refine WC.region ?_
  refine WL.eff (e_box rfl) rfl ?_; rintro _ _ _ ⟨b1, rfl, rfl, rfl⟩
  refine WL.eff (e_box rfl) rfl ?_; rintro _ _ _ ⟨b2, rfl, rfl, rfl⟩
  refine WL.q (q_assign rfl) rfl ?_
  refine WL.nil ?_
  refine AT.then_n ?_
  refine WC.seq ?_
  refine WC.region ?_
  refine WL.q (q_assign rfl) rfl ?_
  refine WL.nil ?_
  refine AT.then_n ?_
  refine WC.seq ?_
  refine WC.region ?_
  refine WL.q (q_loadA rfl a_38 i_38 (Cells.pt 1 rfl) (Tg.len _)) rfl ?_
  refine WL.eff (e_call rfl (c63_ok ha.ok ha.small hz ha.len2)) rfl ?_; rintro _ _ k9 ⟨A9, c9, rfl, rfl, hk9⟩
  refine WL.imp Imp.orowStay ?_
  have ha : Fair (k9 ∩ Row A9 ((putB a.er).map bv)) a := (ha.weak hk9).left
  have hb : Fair (k9 ∩ Row A9 ((putB a.er).map bv)) b := (hb.weak hk9).left
  have hkk : Ent (k9 ∩ Row A9 ((putB a.er).map bv)) K := hk9.left
  have hrow : Ent (k9 ∩ Row A9 ((putB a.er).map bv)) (Row A9 ((putB a.er).map bv)) := Ent.right
  generalize (k9 ∩ Row A9 ((putB a.er).map bv)) = k8 at ha hb hkk hrow ⊢
  refine WL.q (q_move rfl) rfl ?_
  refine WL.q (q_extract rfl rfl) rfl ?_
  refine WL.q (q_extract rfl rfl) rfl ?_
  refine WL.q (q_assign rfl) rfl ?_
  refine WL.q (q_assign rfl) rfl ?_
  refine WL.nil ?_
  refine AT.then_n ?_
  refine WC.seq ?_
  refine WC.seq ?_
  refine WC.region ?_
  refine WL.q (q_move rfl) rfl ?_
  refine WL.q (q_loadA rfl a_38 i_38 (Cells.pt 1 rfl) (Tg.len _)) rfl ?_
  refine WL.eff (e_callV rfl rfl (VS.fn (f := 74) (first := []) (cap := []) ((c74 ha).at g))) rfl ?_; rintro _ _ _ ⟨rfl, rfl, rfl⟩
  refine WL.q (q_not rfl) rfl ?_
  refine WL.nil ?_
  refine AT.then_n ?_
  refine WC.condHF rfl (by rw [hok]; rfl) ?_
  refine WC.skip ?_
  refine AT.then_n ?_
  refine WC.seq ?_
  refine WC.region ?_
  refine WL.q (q_loadA rfl a_38 i_38 (Cells.pt 1 rfl) (Tg.len _)) rfl ?_
  refine WL.eff (e_call rfl (c76 a ha.ok ha.small ha.len2)) rfl ?_; rintro _ _ _ ⟨rfl, rfl, rfl⟩
  refine WL.q (q_assign rfl) rfl ?_
  refine WL.nil ?_
  refine AT.then_n ?_
  refine WC.seq ?_
  refine WC.seq ?_
  refine WC.drawS [0, 1, 2, 3, 5, 6, 7, 8, 11, 12, 13, 18, 19, 20, 24, 25, 26, 30] _ _ mixed (NoPan.then (NoPan.then NoPan.body)) (Imp.refl _ _) rfl ?_
  refine WD.sched [(0, 0), (1, 0), (2, 0)] false (by decide +kernel) ?_
  refine WS.q 0 rfl (q_move rfl) rfl ?_
  refine WS.q 1 rfl (q_neq rfl rfl) rfl ?_
  refine WS.q 2 rfl (q_move rfl) rfl ?_
  refine WS.back ?_
  refine WD.sched [(3, 0), (4, 0), (5, 0), (6, 0), (7, 0), (8, 0)] false (by decide +kernel) ?_
  refine WS.qon 3 rfl rfl rfl (decide_eq_false (by simp)) (q_move rfl) rfl ?_
  refine WS.qon 4 rfl rfl rfl (decide_eq_false (by simp)) (q_b2sK rfl u_23 u_5 u_9 hrow) rfl ?_
  refine WS.qon 5 rfl rfl rfl (decide_eq_false (by simp)) (q_move rfl) rfl ?_
  refine WS.qon 6 rfl rfl rfl (decide_eq_false (by simp)) (q_neqS rfl rfl) rfl ?_
  refine WS.q 7 rfl (q_pickF rfl (decide_eq_false (by simp)) rfl) rfl ?_
  refine WS.q 8 rfl (q_move rfl) rfl ?_
  refine WS.back ?_
  refine WD.sched [(9, 0), (10, 2), (11, 0), (12, 0), (13, 0)] false (by decide +kernel) ?_
  refine WS.qon 9 rfl rfl rfl (decide_eq_false (by simp)) (q_loadA rfl a_38 i_38 (Cells.pt 1 rfl) (Tg.len _)) rfl ?_
  refine WS.effon2 10 rfl rfl rfl (decide_eq_false (by simp)) (e_call rfl (c73 ha.ok ha.small)) rfl ?_; rintro _ _ _ ⟨rfl, rfl, rfl⟩
  rw [if_neg hz]
  refine ⟨(by first | exact (Imp.refl _ _) | exact (Imp.sub (List.Sublist.cons _ (List.Sublist.refl _))) | exact (Imp.ent (Ent.left (Ent.refl _)))), ?_⟩
  refine WS.qon 11 rfl rfl rfl (decide_eq_false (by simp)) (q_neq rfl rfl) rfl ?_
  refine WS.q 12 rfl (q_pickF rfl (decide_eq_false (by simp)) rfl) rfl ?_
  refine WS.q 13 rfl (q_move rfl) rfl ?_
  refine WS.back ?_
  refine WD.sched [(14, 0), (16, 0), (15, 2), (17, 2), (18, 0), (19, 0), (20, 0)] false (by decide +kernel) ?_
  refine WS.qon 14 rfl rfl rfl (decide_eq_false (by simp)) (q_loadA rfl a_38 i_38 (Cells.pt 1 rfl) (Tg.len _)) rfl ?_
  refine WS.qon 16 rfl rfl rfl (decide_eq_false (by simp)) (q_loadA rfl a_38 i_38 (Cells.pt 1 rfl) (Tg.len _)) rfl ?_
  refine WS.effon2 15 rfl rfl rfl (decide_eq_false (by simp)) (e_call rfl (c71 ha.ok ha.small)) rfl ?_; rintro _ _ _ ⟨rfl, rfl, rfl⟩
  refine ⟨(by first | exact (Imp.refl _ _) | exact (Imp.sub (List.Sublist.cons _ (List.Sublist.refl _))) | exact (Imp.ent (Ent.left (Ent.refl _)))), ?_⟩
  refine WS.effon2 17 rfl rfl rfl (decide_eq_false (by simp)) (e_call rfl (c29 a ha.ok ha.small (by have := sz5_le 1300 a.er; have := ha.cnt; omega))) rfl ?_; rintro _ _ _ ⟨rfl, rfl, rfl⟩
  rw [← szP_sz5 hz]
  refine ⟨(by first | exact (Imp.refl _ _) | exact (Imp.sub (List.Sublist.cons _ (List.Sublist.refl _))) | exact (Imp.ent (Ent.left (Ent.refl _)))), ?_⟩
  refine WS.qon 18 rfl rfl rfl (decide_eq_false (by simp)) (q_neq rfl rfl) rfl ?_
  refine WS.q 19 rfl (q_pickF rfl (decide_eq_false (by simp)) rfl) rfl ?_
  refine WS.q 20 rfl (q_move rfl) rfl ?_
  refine WS.back ?_
  refine WD.sched [(21, 0), (22, 0), (23, 2), (24, 0), (25, 0), (26, 0)] false (by decide +kernel) ?_
  refine WS.qon 21 rfl rfl rfl (decide_eq_false (by simp)) (q_loadA rfl a_38 i_38 (Cells.pt 1 rfl) (Tg.len _)) rfl ?_
  refine WS.qon 22 rfl rfl rfl (decide_eq_false (by simp)) (q_loadA rfl a_38 i_38 (Cells.pt 1 rfl) (Tg.len _)) rfl ?_
  refine WS.effon2 23 rfl rfl rfl (decide_eq_false (by simp)) (e_call rfl (c77 a ha.ok ha.small ha.ok)) rfl ?_; rintro _ _ _ ⟨rfl, rfl, rfl⟩
  rw [(beqT_iff a.er a.er).2 rfl]
  refine ⟨(by first | exact (Imp.refl _ _) | exact (Imp.sub (List.Sublist.cons _ (List.Sublist.refl _))) | exact (Imp.ent (Ent.left (Ent.refl _)))), ?_⟩
  refine WS.qon 24 rfl rfl rfl (decide_eq_false (by simp)) (q_not rfl) rfl ?_
  refine WS.q 25 rfl (q_pickF rfl (decide_eq_false (by simp)) rfl) rfl ?_
  refine WS.q 26 rfl (q_move rfl) rfl ?_
  refine WS.back ?_
  refine WD.sched [(27, 0), (28, 0), (29, 2), (30, 0)] true (by decide +kernel) ?_
  refine WS.qon 27 rfl rfl rfl rfl (q_loadA rfl a_38 i_38 (Cells.pt 1 rfl) (Tg.len _)) rfl ?_
  refine WS.qon 28 rfl rfl rfl rfl (q_loadA rfl a_38 i_38 (Cells.pt 1 rfl) (Tg.len _)) rfl ?_
  refine WS.effon2 29 rfl rfl rfl rfl (e_call rfl (c75_c ha.ok ha.small ha.ok ha.small (szP_pos hz) (szP_pos hz) ha.len2 ha.len2)) rfl ?_; rintro _ _ _ ⟨rfl, rfl, rfl⟩
  rw [less_self]
  refine ⟨(by first | exact (Imp.refl _ _) | exact (Imp.sub (List.Sublist.cons _ (List.Sublist.refl _))) | exact (Imp.ent (Ent.left (Ent.refl _)))), ?_⟩
  refine WS.q 30 rfl (q_pickF rfl rfl rfl) rfl ?_
  refine WS.done ?_
  refine AT.then_n ?_
  refine WC.condHF rfl (rfl) ?_
  refine WC.skip ?_
  refine AT.then_n ?_
  refine WC.cut (σ := Unit) (fun _ => True) (fun _ => [(12, .string (bs (putB a.er))), (2, .int .u16 w), (3, .int .u8 z.toNat)]) (fun _ => own) (fun _ => K) ?_ ?_
  · -- cut
    refine WC.seq ?_
    refine WC.region ?_
    refine WL.q (q_move rfl) rfl ?_
    refine WL.q (q_loadA rfl a_38 i_38 (Cells.pt 0 rfl) (Tg.len _)) rfl ?_
    refine WL.eff (e_callV rfl rfl (VS.fn (f := 74) (first := []) (cap := []) ((c74 hb).at g))) rfl ?_; rintro _ _ _ ⟨rfl, rfl, rfl⟩
    refine WL.nil ?_
    refine AT.then_n ?_
    refine WC.cond rfl (fun h3 => ?_) (fun h3 => ?_)
    · -- if 3: yes
      try have p3 := of_decide_eq_true h3
      have hzb : szP b.er ≠ 0 := ok5_iff.1 h3
      have hsame : beqT a.er b.er = decide ((putB a.er) = (putB b.er)) := by
        rw [Bool.eq_iff_iff, beqT_iff, decide_eq_true_iff]
        exact ⟨fun h => by rw [h], putB_inj (szP_ne.1 hz) (szP_ne.1 hzb)⟩
      refine WC.seq ?_
      refine WC.region ?_
      refine WL.q (q_loadA rfl a_38 i_38 (Cells.pt 0 rfl) (Tg.len _)) rfl ?_
      refine WL.eff (e_call rfl (c76 b hb.ok hb.small hb.len2)) rfl ?_; rintro _ _ _ ⟨rfl, rfl, rfl⟩
      refine WL.q (q_assign rfl) rfl ?_
      refine WL.nil ?_
      refine AT.then_n ?_
      refine WC.seq ?_
      refine WC.region ?_
      refine WL.q (q_loadA rfl a_38 i_38 (Cells.pt 1 rfl) (Tg.len _)) rfl ?_
      refine WL.q (q_loadA rfl a_38 i_38 (Cells.pt 0 rfl) (Tg.len _)) rfl ?_
      refine WL.eff (e_call rfl (c77 a ha.ok ha.small hb.ok)) rfl ?_; rintro _ _ _ ⟨rfl, rfl, rfl⟩
      rw [hsame]
      refine WL.q (q_move rfl) rfl ?_
      refine WL.q (q_move rfl) rfl ?_
      refine WL.q (q_eqlS rfl rfl) rfl ?_
      refine WL.q (q_neqB rfl rfl u_4) rfl ?_
      refine WL.q (q_move rfl) rfl ?_
      refine WL.on rfl rfl (by simp) ?_
      refine WL.q (q_loadA rfl a_38 i_38 (Cells.pt 1 rfl) (Tg.len _)) rfl ?_
      refine WL.on rfl rfl (by simp) ?_
      refine WL.q (q_loadA rfl a_38 i_38 (Cells.pt 0 rfl) (Tg.len _)) rfl ?_
      refine WL.on rfl rfl (by simp) ?_
      refine WL.eff (e_call rfl (c75_c ha.ok ha.small hb.ok hb.small (szP_pos hz) (szP_pos hzb) ha.len2 hb.len2)) rfl ?_; rintro _ _ _ ⟨rfl, rfl, rfl⟩
      refine WL.on rfl rfl (by simp) ?_
      refine WL.q (q_move rfl) rfl ?_
      refine WL.on rfl rfl (by simp) ?_
      refine WL.q (q_move rfl) rfl ?_
      refine WL.on rfl rfl (by simp) ?_
      refine WL.q (q_lssS rfl rfl) rfl ?_
      refine WL.on rfl rfl (by simp) ?_
      refine WL.q (q_neqB rfl rfl u_4) rfl ?_
      refine WL.q (q_pickF rfl (by simp) rfl) rfl ?_
      refine WL.q (q_move rfl) rfl ?_
      refine WL.on rfl rfl (by simp) ?_
      refine WL.q (q_loadA rfl a_38 i_38 (Cells.pt 0 rfl) (Tg.len _)) rfl ?_
      refine WL.on rfl rfl (by simp) ?_
      refine WL.q (q_loadA rfl a_38 i_38 (Cells.pt 1 rfl) (Tg.len _)) rfl ?_
      refine WL.on rfl rfl (by simp) ?_
      refine WL.eff (e_call rfl (c75_c hb.ok hb.small ha.ok ha.small (szP_pos hzb) (szP_pos hz) hb.len2 ha.len2)) rfl ?_; rintro _ _ _ ⟨rfl, rfl, rfl⟩
      refine WL.on rfl rfl (by simp) ?_
      refine WL.q (q_move rfl) rfl ?_
      refine WL.on rfl rfl (by simp) ?_
      refine WL.q (q_move rfl) rfl ?_
      refine WL.on rfl rfl (by simp) ?_
      refine WL.q (q_lssS rfl rfl) rfl ?_
      refine WL.on rfl rfl (by simp) ?_
      refine WL.q (q_neqB rfl rfl u_4) rfl ?_
      refine WL.q (q_pickF rfl (by simp) rfl) rfl ?_
      refine WL.nil ?_
      refine AT.then_n ?_
      refine WC.condHF rfl (by simp) ?_
      refine WC.skip ?_
      refine AT.mid () trivial ⟨rfl, rfl, rfl, trivial⟩ (Imp.drop (Imp.drop (Imp.ent hkk)))
    · -- if 3: no
      try have p3 := of_decide_eq_false h3
      refine WC.skip ?_
      refine AT.mid () trivial ⟨rfl, rfl, rfl, trivial⟩ (Imp.drop (Imp.drop (Imp.ent hkk)))
  · -- behind the cut
    rintro _ -
    have hpos := putB_pos a.er
    have hz8 := z.toNat_lt
    refine WC.seq ?_
    refine WC.region ?_
    refine WL.q (q_move rfl) rfl ?_
    first | refine WL.q (q_convI (-9223372036854775808) 9223372036854775807 u_34 u_3 rfl rfl rfl (by omega)) rfl ?_ | refine WL.q (q_conv rfl u_34 u_3 rfl) rfl ?_
    refine WL.q (q_move rfl) rfl ?_
    first | refine WL.q (q_lenB rfl u_9) rfl ?_ | refine WL.q (q_lenS rfl u_9) rfl ?_
    first | refine WL.q (q_rem0 rfl rfl (by omega)) rfl ?_
    refine WL.q (q_assign rfl) rfl ?_
    refine WL.nil ?_
    refine AT.then_n ?_
    obtain ⟨i, hi, hlt⟩ : ∃ i : Nat, (w : Int) % ((putB a.er).length : Int) = i ∧ i < (putB a.er).length := ⟨w % (putB a.er).length, by omega, Nat.mod_lt _ hpos⟩
    have hal := ha.len
    rw [hi]
    refine WC.seq ?_
    refine WC.drawS [0, 1, 3, 6, 7, 8, 9, 11, 12] _ _ mixed (NoPan.then NoPan.body) (Imp.refl _ _) rfl ?_
    refine WD.sched [(0, 0), (1, 0), (2, 0), (3, 0), (7, 0), (8, 0), (9, 0), (10, 0), (4, 2), (5, 0), (6, 0), (11, 0), (12, 0)] true (by decide +kernel) ?_
    refine WS.q 0 rfl (q_move rfl) rfl ?_
    refine WS.q 1 rfl (q_move rfl) rfl ?_
    refine WS.q 2 rfl (q_sliceS rfl rfl ⟨_, _, rfl, rfl⟩ u_9 (by omega)) rfl ?_
    refine WS.q 3 rfl (q_move rfl) rfl ?_
    refine WS.q 7 rfl (q_move rfl) rfl ?_
    refine WS.q 8 rfl (q_move rfl) rfl ?_
    first | refine WS.q 9 rfl (q_add64 rfl rfl (by omega)) rfl ?_ | refine WS.q 9 rfl (q_add rfl rfl) rfl ?_
    refine WS.q 10 rfl (q_sliceS (l := i + 1) (h := (putB a.er).length) rfl ⟨_, _, rfl, rfl⟩ rfl u_9 (by omega)) rfl ?_
    refine WS.eff2 4 rfl (e_buildSliceK rfl u_23 i_5 rfl rfl rfl rfl rfl) rfl ?_; rintro _ _ _ ⟨b16, rfl, rfl, rfl⟩
    refine ⟨(by first | exact (Imp.refl _ _) | exact (Imp.sub (List.Sublist.cons _ (List.Sublist.refl _))) | exact (Imp.ent (Ent.left (Ent.refl _)))), ?_⟩
    refine WS.q 5 rfl (q_b2sK (l := [z]) rfl u_23 u_5 u_9 Ent.right) rfl ?_
    refine WS.q 6 rfl (q_addS rfl rfl (by simp; omega)) rfl ?_
    refine WS.q 11 rfl (q_addS rfl rfl (by simp; omega)) rfl ?_
    refine WS.q 12 rfl (q_assign rfl) rfl ?_
    refine WS.done ?_
    refine AT.then_n ?_
    refine WC.seq ?_
    refine WC.region ?_
    refine WL.q (q_move rfl) rfl ?_
    refine WL.eff (e_call rfl (c19 (by have := ha.len; first | omega | (simp; omega)))) rfl ?_; rintro _ _ _ ⟨rfl, rfl, rfl⟩
    refine WL.q (q_move rfl) rfl ?_
    refine WL.on rfl rfl rfl ?_
    refine WL.q (q_move rfl) rfl ?_
    refine WL.on rfl rfl rfl ?_
    refine WL.q (q_move rfl) rfl ?_
    refine WL.on rfl rfl rfl ?_
    refine WL.q (q_sliceS rfl rfl ⟨_, _, rfl, rfl⟩ u_9 (by omega)) rfl ?_
    refine WL.on rfl rfl rfl ?_
    refine WL.eff (e_call rfl (c19 (by have := ha.len; first | omega | (simp; omega)))) rfl ?_; rintro _ _ _ ⟨rfl, rfl, rfl⟩
    refine WL.q (q_pickT rfl rfl rfl) rfl ?_
    refine WL.q (q_move rfl) rfl ?_
    refine WL.on rfl rfl rfl ?_
    refine WL.q (q_move rfl) rfl ?_
    refine WL.on rfl rfl rfl ?_
    refine WL.q (q_move rfl) rfl ?_
    refine WL.on rfl rfl rfl ?_
    refine WL.eff (e_buildSliceK rfl u_23 i_5 rfl rfl rfl rfl rfl) rfl ?_; rintro _ _ _ ⟨b19, rfl, rfl, rfl⟩
    refine WL.on rfl rfl rfl ?_
    refine WL.q (q_b2sK (l := [z]) rfl u_23 u_5 u_9 Ent.right) rfl ?_
    refine WL.on rfl rfl rfl ?_
    refine WL.q (q_addS rfl rfl (by simp; omega)) rfl ?_
    refine WL.on rfl rfl rfl ?_
    refine WL.eff (e_call rfl (c19 (by have := ha.len; first | omega | (simp; omega)))) rfl ?_; rintro _ _ _ ⟨rfl, rfl, rfl⟩
    refine WL.q (q_pickT rfl rfl rfl) rfl ?_
    refine WL.q (q_move rfl) rfl ?_
    refine WL.on rfl rfl rfl ?_
    refine WL.q (q_move rfl) rfl ?_
    refine WL.on rfl rfl rfl ?_
    refine WL.eff (e_call rfl (c19 (by have := ha.len; first | omega | (simp; omega)))) rfl ?_; rintro _ _ _ ⟨rfl, rfl, rfl⟩
    refine WL.q (q_pickT rfl rfl rfl) rfl ?_
    refine WL.q (q_move rfl) rfl ?_
    refine WL.on rfl rfl rfl ?_
    refine WL.q (q_move rfl) rfl ?_
    refine WL.on rfl rfl rfl ?_
    refine WL.q (q_move rfl) rfl ?_
    refine WL.on rfl rfl rfl ?_
    refine WL.q (q_sliceS rfl ⟨_, _, rfl, rfl⟩ rfl u_9 (by omega)) rfl ?_
    refine WL.on rfl rfl rfl ?_
    refine WL.eff (e_call rfl (c19 (by have := ha.len; first | omega | (simp; omega)))) rfl ?_; rintro _ _ _ ⟨rfl, rfl, rfl⟩
    refine WL.q (q_pickT rfl rfl rfl) rfl ?_
    refine WL.q (q_assign rfl) rfl ?_
    refine WL.nil ?_
    refine AT.then_n ?_
    refine WC.ret ?_
    exact AT.done rfl (RO.one rfl rfl) ⟨rfl, rfl, rfl⟩ (Imp.keepRest (by repeat (first | exact List.Sublist.refl _ | refine List.Sublist.cons _ ?_)) (by repeat (first | assumption | exact Ent.refl _ | refine Ent.left ?_)))

end Go.Proofs.Sl
