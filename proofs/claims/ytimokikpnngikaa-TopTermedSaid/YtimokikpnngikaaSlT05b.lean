/- Layer 11: the law of terms: lists. -/
import Derived.Test.YtimokikpnngikaaSlT05
namespace Go.Proofs.Sl
open Go
set_option linter.unusedVariables false
set_option linter.unusedSimpArgs false

theorem c17 {own : List SP} {K : PH → Prop} {a b : Tg} {w : Nat} {z : UInt8} (ha : Fair K a) (hb : Fair K b) (hw : w ≤ 65535) : Spec Try.prog 17 [.agg a.cells.toArray, .agg b.cells.toArray, .int .u16 w, .int .u8 z.toNat] own K (Ret (.bool true) own K) := by
  by_cases hz : szP a.er = 0
  · exact c17_bad ha hb hw hz
  · exact c17_ok ha hb hw hz
theorem ones_flat (l : List Tg) : Ones (l.flatMap Tg.cells) := fun v hv => by
  obtain ⟨x, _, hx⟩ := List.mem_flatMap.1 hv
  exact Tg.ones x v hx
theorem cnt_list {c : Nat} : ∀ {L : List Tm}, (∀ x ∈ L, cnt x ≤ c) → cnt (listT L) ≤ 1 + L.length * (c + 1)
  | [], _ => by rw [listT, cnt, cntL]; simp
  | x :: L, h => by
    have h1 := h x (by simp)
    have h2 := cnt_list (c := c) (L := L) fun y hy => h y (by simp [hy])
    rw [listT, cnt, cntL, cntL, cntL, List.length_cons, Nat.succ_mul]
    omega
/-- What a law's term is: not great. -/
structure Fr (c : Nat) (T : Tg) : Prop where
  small : T.small
  cnt : cnt T.er ≤ c
  len : (putB T.er).length ≤ 100 * Sl.cnt T.er
  txt : T.er.text.length ≤ 90
theorem Fr.mono {c d : Nat} {T : Tg} (h : Fr c T) (hd : c ≤ d) : Fr d T := ⟨h.small, by have := h.cnt; omega, h.len, h.txt⟩
theorem Fr.fair {K : PH → Prop} {c : Nat} {T : Tg} (h : Fr c T) (hc : c ≤ 500) (hT : Ent K T.ok) : Fair K T := ⟨hT, h.small, by have := h.cnt; omega, by have := h.cnt; have := h.len; omega⟩

theorem c18_bad {own : List SP} {K : PH → Prop} {ls : List Tg} {A : Option Addr} {cap : Nat} (hl : ls.length ≤ 60) (hrow : Rows K A ls) (hf : ∀ x ∈ ls, x.small ∧ cnt x.er ≤ 10000 ∧ (putB x.er).length ≤ 1000000000) (hz : szP (listT (erL ls)) = 0) : Spec Try.prog 18 [.slice A ls.length cap] (own) (K)
    (Ret (.bool true) own K) := by
  have hcnt : ∀ T : Tg, T.er = listT (erL ls) → cnt T.er ≤ 1000000 := fun T h => by
    rw [h]
    have h2 := cnt_list (c := 10000) (L := erL ls) (fun x hx => by
      rw [erL_map] at hx
      obtain ⟨y, hy, rfl⟩ := List.mem_map.1 hx
      exact (hf y hy).2.1)
    rw [erL_len] at h2
    have h3 : ls.length * (10000 + 1) ≤ 60 * 10001 := Nat.mul_le_mul_right _ hl
    omega
  refine Spec.of en_18 Try.func18 rfl rfl fun g => ?_
  refine WC.seq ?_
  refine WC.region ?_
  refine WL.q (q_assign rfl) rfl ?_
  refine WL.nil ?_
  refine AT.then_n ?_
  refine WC.seq ?_
  refine WC.region ?_
  refine WL.q (q_buildL (cs := (Tg.mk 1 0 0 [] none 0 []).cells) rfl pl_38 i_38 rfl rfl) rfl ?_
  refine WL.eff (e_alloc i_38) rfl ?_; rintro _ _ _ ⟨b1, rfl, rfl, rfl⟩
  refine WL.effn (e_storeAll 0 rfl rfl rfl i_38 rfl (Tg.len _) (by first | (simp [Value.cells, Tg.len]; done) | (simp [Value.cells, Tg.cells]; done)) (Tg.ones _)) ?_; rintro _ _ _ ⟨rfl, rfl, rfl⟩
  refine WL.nil ?_
  refine AT.then_n ?_
  refine WC.seq ?_
  refine WC.seq ?_
  refine WC.region ?_
  refine WL.q (q_move rfl) rfl ?_
  refine WL.q (q_len rfl u_35) rfl ?_
  first | refine WL.q (q_sub64 rfl rfl (by omega)) rfl ?_ | refine WL.q (q_sub rfl rfl) rfl ?_
  refine WL.q (q_assign rfl) rfl ?_
  refine WL.nil ?_
  refine AT.then_n ?_
  refine WC.block ?_
  refine WC.loop (σ := Nat × Tg × (PH → Prop)) (fun ⟨i, T, k⟩ => i ≤ ls.length ∧ Ent k K ∧ Ent k T.ok ∧ T.small ∧ T.er = listT (erL (ls.drop i))) (fun ⟨i, T, k⟩ => [(4, .int .i64 ((i : Int) - 1)), (0, .slice A ls.length cap), (3, .pointer (some (ad b1 0)))]) (fun ⟨i, T, k⟩ => Pt b1 (.cells T.cells.toArray 38 (0, 0)) :: own) (fun ⟨i, T, k⟩ => k) (fun ⟨i, T, k⟩ => i) (ls.length, (Tg.mk 1 0 0 [] none 0 []), K) ⟨Nat.le_refl _, Ent.refl _, Ent.leaf, Tg.small_mk.2 ⟨by simp, by simp, by simp⟩, by rw [List.drop_length]; rfl⟩ ⟨rfl, rfl, rfl, trivial⟩ (Imp.refl _ _) ?_
  rintro ⟨i, T, k⟩ ⟨hi, hk, hT, hsT, heT⟩
  simp only at hi hk hT hsT heT ⊢
  have hrow := hrow.weak hk
  refine WC.seq ?_
  refine WC.seq ?_
  refine WC.region ?_
  refine WL.q (q_move rfl) rfl ?_
  refine WL.q (q_geq rfl rfl) rfl ?_
  refine WL.nil ?_
  refine AT.then_n ?_
  refine WC.cond rfl (fun h1 => ?_) (fun h1 => ?_)
  · -- if 1: yes
    try have p1 := of_decide_eq_true h1
    obtain ⟨i, rfl⟩ : ∃ i2, i = i2 + 1 := ⟨i - 1, by omega⟩
    have hlt : i < ls.length := by omega
    have hidx : ((i + 1 : Nat) : Int) - 1 = i := by omega
    simp only [hidx]
    rcases hx : ls[i] with ⟨k1, u1, n1, t1, A1, cap1, l1⟩
    obtain ⟨k2, u2, n2, t2, A2, cap2, l2⟩ := T
    refine WC.skip ?_
    refine AT.then_n ?_
    refine WC.seq ?_
    refine WC.block ?_
    refine WC.drawS [0, 1, 6] (Pt b1 (.cells (Tg.mk k2 u2 n2 t2 A2 cap2 l2).cells.toArray 38 (0, 0)) :: []) k mixed (NoPan.blk (NoPan.then (NoPan.then (NoPan.blk (NoPan.then NoPan.body))))) (Imp.keepRest (List.Sublist.cons_cons _ (List.nil_sublist _)) (Ent.refl _)) rfl ?_
    refine WD.sched [(0, 0), (1, 0), (2, 0), (3, 0), (4, 0), (5, 2), (6, 0), (7, 1)] true (by decide +kernel) ?_
    refine WS.q 0 rfl (q_move rfl) rfl ?_
    refine WS.q 1 rfl (q_move rfl) rfl ?_
    refine WS.q 2 rfl (q_indexAddr rfl rfl u_35 i_38 (Based.row hrow.row (by rw [flat_len Tg.cells 5 Tg.len]; omega)) (by omega)) rfl ?_
    refine WS.q 3 rfl (q_loadA (vs := (Tg.mk k1 u1 n1 t1 A1 cap1 l1).cells) rfl a_38 i_38 (by rw [← hx]; exact Cells.at hrow.row Tg.len hlt) (Tg.len _)) rfl ?_
    refine WS.q 4 rfl (q_loadA rfl a_38 i_38 (Cells.pt 0 rfl) (Tg.len _)) rfl ?_
    refine WS.effL 5 rfl (e_buildSliceK (cs := (Tg.mk k1 u1 n1 t1 A1 cap1 l1).cells ++ (Tg.mk k2 u2 n2 t2 A2 cap2 l2).cells) rfl u_35 i_38 rfl rfl rfl rfl rfl) rfl ?_; rintro _ _ _ ⟨b7, rfl, rfl, rfl⟩
    refine ⟨(Imp.keepRest (List.Sublist.cons_cons _ (List.nil_sublist _)) (by repeat (first | assumption | exact Ent.refl _ | refine Ent.left ?_))), ?_⟩
    refine WS.q 6 rfl (q_buildL (cs := (Tg.mk 4 0 0 [] (some (ad b7 0)) 2 [(Tg.mk k1 u1 n1 t1 A1 cap1 l1), (Tg.mk k2 u2 n2 t2 A2 cap2 l2)]).cells) rfl pl_38 i_38 rfl rfl) rfl ?_
    refine WS.effn 7 rfl (e_storeAll 0 rfl rfl rfl i_38 rfl (Tg.len _) (by first | (simp [Value.cells, Tg.len]; done) | (simp [Value.cells, Tg.cells]; done)) (Tg.ones _)) ?_; rintro _ _ _ ⟨rfl, rfl, rfl⟩
    refine WS.done ?_
    refine AT.blk_n ?_
    refine AT.then_n ?_
    refine WC.region ?_
    refine WL.q (q_move rfl) rfl ?_
    first | refine WL.q (q_sub64 rfl rfl (by omega)) rfl ?_ | refine WL.q (q_sub rfl rfl) rfl ?_
    refine WL.q (q_assign rfl) rfl ?_
    refine WL.nil ?_
    refine AT.mid (i, (Tg.mk 4 0 0 [] (some (ad b7 0)) 2 [(Tg.mk k1 u1 n1 t1 A1 cap1 l1), (Tg.mk k2 u2 n2 t2 A2 cap2 l2)]), _) ⟨⟨by first | omega | (simp only; omega), (Ent.refl _).left.trans hk, Ent.term (by simp) (Rows.two Ent.right rfl (by rw [← hx]; exact (hrow.ok _ (List.getElem_mem hlt)).left) hT.left), Tg.small_mk.2 ⟨by simp, by simp, ?_⟩, ?_⟩, by first | omega | (simp only; omega)⟩ ⟨rfl, rfl, rfl, trivial⟩ (Imp.refl _ _)
    · intro y hy
      rcases List.mem_cons.1 hy with rfl | hy
      · rw [← hx]; exact (hf _ (List.getElem_mem hlt)).1
      · rw [List.mem_singleton.1 hy]; exact hsT
    · rw [listT_drop hlt, ← heT, ← hx, Tg.er_mk, List.map_cons, List.map_cons, List.map_nil, hx]
  · -- if 1: no
    try have p1 := of_decide_eq_false h1
    have hi0 : i = 0 := by omega
    subst hi0
    rw [List.drop_zero] at heT
    refine WC.exit ?_
    refine AT.then_e ?_
    refine AT.then_e ?_
    refine AT.blk_e ?_
    refine AT.then_n ?_
    refine WC.seq ?_
    refine WC.region ?_
    refine WL.q (q_move rfl) rfl ?_
    refine WL.eff (e_appendNK rfl rfl (Src.row hrow.row (k := ls.length) (by rw [flat_len Tg.cells 5 Tg.len]) rfl) u_35 (.inl ⟨_, u_35⟩) i_38 rfl (by rw [flat_len Tg.cells 5 Tg.len]) (ones_flat _) (by omega)) rfl ?_; rintro _ _ _ ⟨A6, c6, rfl, rfl, rfl, hc6⟩
    refine WL.eff (e_callAt rfl (c78 (ls := ls) (by omega) ⟨Ent.right, fun x hx => (hrow.ok x hx).left⟩ (fun x hx => (hf x hx).1))) rfl ?_; rintro _ _ k6 ⟨T6, rfl, rfl, hk6, hT6, he6, hs6⟩
    have hT := (hk6.trans (Ent.refl _).left).trans hT
    have hrow := hrow.weak (hk6.trans (Ent.refl _).left)
    have hk := (hk6.trans (Ent.refl _).left).trans hk
    refine WL.eff (e_alloc i_38) rfl ?_; rintro _ _ _ ⟨b5, rfl, rfl, rfl⟩
    refine WL.effn (e_storeAll 0 rfl rfl rfl i_38 rfl (Tg.len _) (by first | (simp [Value.cells, Tg.len]; done) | (simp [Value.cells, Tg.cells]; done)) (Tg.ones _)) ?_; rintro _ _ _ ⟨rfl, rfl, rfl⟩
    refine WL.nil ?_
    refine AT.then_n ?_
    refine WC.seq ?_
    refine WC.seq ?_
    refine WC.region ?_
    refine WL.q (q_loadA rfl a_38 i_38 (Cells.pt 0 rfl) (Tg.len _)) rfl ?_
    refine WL.q (q_loadA rfl a_38 i_38 (Cells.pt 1 rfl) (Tg.len _)) rfl ?_
    refine WL.eff (e_call rfl (c77 T6 hT6 hs6 hT)) rfl ?_; rintro _ _ _ ⟨rfl, rfl, rfl⟩
    rw [(beqT_iff T6.er T.er).2 (by rw [he6, heT])]
    refine WL.q (q_not rfl) rfl ?_
    refine WL.nil ?_
    refine AT.then_n ?_
    refine WC.condHF rfl (rfl) ?_
    refine WC.skip ?_
    refine AT.then_n ?_
    refine WC.seq ?_
    refine WC.region ?_
    refine WL.q (q_loadA rfl a_38 i_38 (Cells.pt 0 rfl) (Tg.len _)) rfl ?_
    refine WL.eff (e_call rfl (c68_no hT6 hs6 (by rw [he6]; exact hz))) rfl ?_; rintro _ _ _ ⟨rfl, rfl, rfl⟩
    have hok5 : (may5 0 T.er && decide (sz5 1300 T.er ≤ 1200)) = false := by
      rw [show (may5 0 T.er && decide (sz5 1300 T.er ≤ 1200)) = ok5 T.er from rfl, heT]
      rw [← Bool.not_eq_true, ok5_iff]; simpa using hz
    refine WL.q (q_move rfl) rfl ?_
    refine WL.q (q_extract rfl rfl) rfl ?_
    refine WL.q (q_extract rfl rfl) rfl ?_
    refine WL.q (q_assign rfl) rfl ?_
    refine WL.q (q_assign rfl) rfl ?_
    refine WL.nil ?_
    refine AT.then_n ?_
    refine WC.seq ?_
    refine WC.seq ?_
    refine WC.region ?_
    refine WLy.enter ?_
    refine WLy.q (q_loadA rfl a_38 i_38 (Cells.pt 1 rfl) (Tg.len _)) rfl rfl ?_
    refine WLy.eff (e_call rfl (c30 T hT hsT (by omega))) rfl rfl ?_; rintro _ _ _ ⟨rfl, rfl, rfl⟩
    refine WLy.q (q_move rfl) rfl rfl ?_
    refine WLy.open0 2 39 true rfl rfl ?_
    refine WLy.qg 0 rfl rfl rfl (q_loadA rfl a_38 i_38 (Cells.pt 1 rfl) (Tg.len _)) rfl rfl rfl ?_
    refine WLy.eg 0 rfl rfl rfl (e_call rfl (c29 T hT hsT (by have := sz5_le 1300 T.er; have := hcnt T heT; omega))) rfl rfl rfl ?_
    refine WLy.qg 0 rfl rfl rfl (q_leq rfl rfl) rfl rfl rfl ?_
    refine WLy.and0 0 rfl rfl rfl rfl rfl rfl rfl ?_
    refine WLy.q (q_assign rfl) rfl rfl ?_
    refine WLy.done ?_
    refine AT.then_n ?_
    refine WC.seq ?_
    refine WC.region ?_
    refine WL.q (q_move rfl) rfl ?_
    refine WL.q (q_not rfl) rfl ?_
    refine WL.nil ?_
    refine AT.then_n ?_
    refine WC.condHT rfl (by rw [hok5]; rfl) ?_
    refine WC.seq ?_
    refine WC.region ?_
    refine WL.q (q_move rfl) rfl ?_
    refine WL.q (q_not rfl) rfl ?_
    refine WL.q (q_move rfl) rfl ?_
    refine WL.on rfl rfl rfl ?_
    refine WL.q (q_move rfl) rfl ?_
    refine WL.on rfl rfl rfl ?_
    refine WL.q (q_len rfl u_35) rfl ?_
    refine WL.on rfl rfl rfl ?_
    refine WL.q (q_eql rfl rfl) rfl ?_
    refine WL.q (q_pickT rfl rfl rfl) rfl ?_
    refine WL.q (q_assign rfl) rfl ?_
    refine WL.nil ?_
    refine AT.then_n ?_
    refine WC.ret ?_
    refine AT.then_r ?_
    exact AT.done rfl (RO.one rfl rfl) ⟨congrArg Value.bool (by simp), rfl, rfl⟩ (Imp.keepRest (by repeat (first | exact List.Sublist.refl _ | refine List.Sublist.cons _ ?_)) hk)

theorem c18_ok {own : List SP} {K : PH → Prop} {ls : List Tg} {A : Option Addr} {cap : Nat} (hl : ls.length ≤ 60) (hrow : Rows K A ls) (hf : ∀ x ∈ ls, x.small ∧ cnt x.er ≤ 10000 ∧ (putB x.er).length ≤ 1000000000) (hz : szP (listT (erL ls)) ≠ 0) : Spec Try.prog 18 [.slice A ls.length cap] (own) (K)
    (Ret (.bool true) own K) := by
  have hcnt : ∀ T : Tg, T.er = listT (erL ls) → cnt T.er ≤ 1000000 := fun T h => by
    rw [h]
    have h2 := cnt_list (c := 10000) (L := erL ls) (fun x hx => by
      rw [erL_map] at hx
      obtain ⟨y, hy, rfl⟩ := List.mem_map.1 hx
      exact (hf y hy).2.1)
    rw [erL_len] at h2
    have h3 : ls.length * (10000 + 1) ≤ 60 * 10001 := Nat.mul_le_mul_right _ hl
    omega
  refine Spec.of en_18 Try.func18 rfl rfl fun g => ?_
  refine WC.seq ?_
  refine WC.region ?_
  refine WL.q (q_assign rfl) rfl ?_
  refine WL.nil ?_
  refine AT.then_n ?_
  refine WC.seq ?_
  refine WC.region ?_
  refine WL.q (q_buildL (cs := (Tg.mk 1 0 0 [] none 0 []).cells) rfl pl_38 i_38 rfl rfl) rfl ?_
  refine WL.eff (e_alloc i_38) rfl ?_; rintro _ _ _ ⟨b1, rfl, rfl, rfl⟩
  refine WL.effn (e_storeAll 0 rfl rfl rfl i_38 rfl (Tg.len _) (by first | (simp [Value.cells, Tg.len]; done) | (simp [Value.cells, Tg.cells]; done)) (Tg.ones _)) ?_; rintro _ _ _ ⟨rfl, rfl, rfl⟩
  refine WL.nil ?_
  refine AT.then_n ?_
  refine WC.seq ?_
  refine WC.seq ?_
  refine WC.region ?_
  refine WL.q (q_move rfl) rfl ?_
  refine WL.q (q_len rfl u_35) rfl ?_
  first | refine WL.q (q_sub64 rfl rfl (by omega)) rfl ?_ | refine WL.q (q_sub rfl rfl) rfl ?_
  refine WL.q (q_assign rfl) rfl ?_
  refine WL.nil ?_
  refine AT.then_n ?_
  refine WC.block ?_
  refine WC.loop (σ := Nat × Tg × (PH → Prop)) (fun ⟨i, T, k⟩ => i ≤ ls.length ∧ Ent k K ∧ Ent k T.ok ∧ T.small ∧ T.er = listT (erL (ls.drop i))) (fun ⟨i, T, k⟩ => [(4, .int .i64 ((i : Int) - 1)), (0, .slice A ls.length cap), (3, .pointer (some (ad b1 0)))]) (fun ⟨i, T, k⟩ => Pt b1 (.cells T.cells.toArray 38 (0, 0)) :: own) (fun ⟨i, T, k⟩ => k) (fun ⟨i, T, k⟩ => i) (ls.length, (Tg.mk 1 0 0 [] none 0 []), K) ⟨Nat.le_refl _, Ent.refl _, Ent.leaf, Tg.small_mk.2 ⟨by simp, by simp, by simp⟩, by rw [List.drop_length]; rfl⟩ ⟨rfl, rfl, rfl, trivial⟩ (Imp.refl _ _) ?_
  rintro ⟨i, T, k⟩ ⟨hi, hk, hT, hsT, heT⟩
  simp only at hi hk hT hsT heT ⊢
  have hrow := hrow.weak hk
  refine WC.seq ?_
  refine WC.seq ?_
  refine WC.region ?_
  refine WL.q (q_move rfl) rfl ?_
  refine WL.q (q_geq rfl rfl) rfl ?_
  refine WL.nil ?_
  refine AT.then_n ?_
  refine WC.cond rfl (fun h1 => ?_) (fun h1 => ?_)
  · -- if 1: yes
    try have p1 := of_decide_eq_true h1
    obtain ⟨i, rfl⟩ : ∃ i2, i = i2 + 1 := ⟨i - 1, by omega⟩
    have hlt : i < ls.length := by omega
    have hidx : ((i + 1 : Nat) : Int) - 1 = i := by omega
    simp only [hidx]
    rcases hx : ls[i] with ⟨k1, u1, n1, t1, A1, cap1, l1⟩
    obtain ⟨k2, u2, n2, t2, A2, cap2, l2⟩ := T
    refine WC.skip ?_
    refine AT.then_n ?_
    refine WC.seq ?_
    refine WC.block ?_
    refine WC.drawS [0, 1, 6] (Pt b1 (.cells (Tg.mk k2 u2 n2 t2 A2 cap2 l2).cells.toArray 38 (0, 0)) :: []) k mixed (NoPan.blk (NoPan.then (NoPan.then (NoPan.blk (NoPan.then NoPan.body))))) (Imp.keepRest (List.Sublist.cons_cons _ (List.nil_sublist _)) (Ent.refl _)) rfl ?_
    refine WD.sched [(0, 0), (1, 0), (2, 0), (3, 0), (4, 0), (5, 2), (6, 0), (7, 1)] true (by decide +kernel) ?_
    refine WS.q 0 rfl (q_move rfl) rfl ?_
    refine WS.q 1 rfl (q_move rfl) rfl ?_
    refine WS.q 2 rfl (q_indexAddr rfl rfl u_35 i_38 (Based.row hrow.row (by rw [flat_len Tg.cells 5 Tg.len]; omega)) (by omega)) rfl ?_
    refine WS.q 3 rfl (q_loadA (vs := (Tg.mk k1 u1 n1 t1 A1 cap1 l1).cells) rfl a_38 i_38 (by rw [← hx]; exact Cells.at hrow.row Tg.len hlt) (Tg.len _)) rfl ?_
    refine WS.q 4 rfl (q_loadA rfl a_38 i_38 (Cells.pt 0 rfl) (Tg.len _)) rfl ?_
    refine WS.effL 5 rfl (e_buildSliceK (cs := (Tg.mk k1 u1 n1 t1 A1 cap1 l1).cells ++ (Tg.mk k2 u2 n2 t2 A2 cap2 l2).cells) rfl u_35 i_38 rfl rfl rfl rfl rfl) rfl ?_; rintro _ _ _ ⟨b7, rfl, rfl, rfl⟩
    refine ⟨(Imp.keepRest (List.Sublist.cons_cons _ (List.nil_sublist _)) (by repeat (first | assumption | exact Ent.refl _ | refine Ent.left ?_))), ?_⟩
    refine WS.q 6 rfl (q_buildL (cs := (Tg.mk 4 0 0 [] (some (ad b7 0)) 2 [(Tg.mk k1 u1 n1 t1 A1 cap1 l1), (Tg.mk k2 u2 n2 t2 A2 cap2 l2)]).cells) rfl pl_38 i_38 rfl rfl) rfl ?_
    refine WS.effn 7 rfl (e_storeAll 0 rfl rfl rfl i_38 rfl (Tg.len _) (by first | (simp [Value.cells, Tg.len]; done) | (simp [Value.cells, Tg.cells]; done)) (Tg.ones _)) ?_; rintro _ _ _ ⟨rfl, rfl, rfl⟩
    refine WS.done ?_
    refine AT.blk_n ?_
    refine AT.then_n ?_
    refine WC.region ?_
    refine WL.q (q_move rfl) rfl ?_
    first | refine WL.q (q_sub64 rfl rfl (by omega)) rfl ?_ | refine WL.q (q_sub rfl rfl) rfl ?_
    refine WL.q (q_assign rfl) rfl ?_
    refine WL.nil ?_
    refine AT.mid (i, (Tg.mk 4 0 0 [] (some (ad b7 0)) 2 [(Tg.mk k1 u1 n1 t1 A1 cap1 l1), (Tg.mk k2 u2 n2 t2 A2 cap2 l2)]), _) ⟨⟨by first | omega | (simp only; omega), (Ent.refl _).left.trans hk, Ent.term (by simp) (Rows.two Ent.right rfl (by rw [← hx]; exact (hrow.ok _ (List.getElem_mem hlt)).left) hT.left), Tg.small_mk.2 ⟨by simp, by simp, ?_⟩, ?_⟩, by first | omega | (simp only; omega)⟩ ⟨rfl, rfl, rfl, trivial⟩ (Imp.refl _ _)
    · intro y hy
      rcases List.mem_cons.1 hy with rfl | hy
      · rw [← hx]; exact (hf _ (List.getElem_mem hlt)).1
      · rw [List.mem_singleton.1 hy]; exact hsT
    · rw [listT_drop hlt, ← heT, ← hx, Tg.er_mk, List.map_cons, List.map_cons, List.map_nil, hx]
  · -- if 1: no
    try have p1 := of_decide_eq_false h1
    have hi0 : i = 0 := by omega
    subst hi0
    rw [List.drop_zero] at heT
    refine WC.exit ?_
    refine AT.then_e ?_
    refine AT.then_e ?_
    refine AT.blk_e ?_
    refine AT.then_n ?_
    refine WC.seq ?_
    refine WC.region ?_
    refine WL.q (q_move rfl) rfl ?_
    refine WL.eff (e_appendNK rfl rfl (Src.row hrow.row (k := ls.length) (by rw [flat_len Tg.cells 5 Tg.len]) rfl) u_35 (.inl ⟨_, u_35⟩) i_38 rfl (by rw [flat_len Tg.cells 5 Tg.len]) (ones_flat _) (by omega)) rfl ?_; rintro _ _ _ ⟨A6, c6, rfl, rfl, rfl, hc6⟩
    refine WL.eff (e_callAt rfl (c78 (ls := ls) (by omega) ⟨Ent.right, fun x hx => (hrow.ok x hx).left⟩ (fun x hx => (hf x hx).1))) rfl ?_; rintro _ _ k6 ⟨T6, rfl, rfl, hk6, hT6, he6, hs6⟩
    have hT := (hk6.trans (Ent.refl _).left).trans hT
    have hrow := hrow.weak (hk6.trans (Ent.refl _).left)
    have hk := (hk6.trans (Ent.refl _).left).trans hk
    refine WL.eff (e_alloc i_38) rfl ?_; rintro _ _ _ ⟨b5, rfl, rfl, rfl⟩
    refine WL.effn (e_storeAll 0 rfl rfl rfl i_38 rfl (Tg.len _) (by first | (simp [Value.cells, Tg.len]; done) | (simp [Value.cells, Tg.cells]; done)) (Tg.ones _)) ?_; rintro _ _ _ ⟨rfl, rfl, rfl⟩
    refine WL.nil ?_
    refine AT.then_n ?_
    refine WC.seq ?_
    refine WC.seq ?_
    refine WC.region ?_
    refine WL.q (q_loadA rfl a_38 i_38 (Cells.pt 0 rfl) (Tg.len _)) rfl ?_
    refine WL.q (q_loadA rfl a_38 i_38 (Cells.pt 1 rfl) (Tg.len _)) rfl ?_
    refine WL.eff (e_call rfl (c77 T6 hT6 hs6 hT)) rfl ?_; rintro _ _ _ ⟨rfl, rfl, rfl⟩
    rw [(beqT_iff T6.er T.er).2 (by rw [he6, heT])]
    refine WL.q (q_not rfl) rfl ?_
    refine WL.nil ?_
    refine AT.then_n ?_
    refine WC.condHF rfl (rfl) ?_
    refine WC.skip ?_
    refine AT.then_n ?_
    refine WC.seq ?_
    refine WC.region ?_
    refine WL.q (q_loadA rfl a_38 i_38 (Cells.pt 0 rfl) (Tg.len _)) rfl ?_
    refine WL.eff (e_call rfl (c68_ok hT6 hs6 (by rw [he6]; exact hz) (by rw [he6]; exact Spn.list _) (by rw [erL_len]; omega) rfl)) rfl ?_; rintro _ _ k9 ⟨A9, c9, D, rfl, rfl, hk9, hD, hrowD, hcD, hsD⟩
    have hok5 : (may5 0 T.er && decide (sz5 1300 T.er ≤ 1200)) = true := by
      rw [show (may5 0 T.er && decide (sz5 1300 T.er ≤ 1200)) = ok5 T.er from rfl, heT]
      rw [ok5_iff]; exact hz
    have hDl : D.length = ls.length := by rw [← erL_len D, hD, erL_len]
    have hT := hk9.trans hT
    have hrow := hrow.weak hk9
    have hk := hk9.trans hk
    refine WL.q (q_move rfl) rfl ?_
    refine WL.q (q_extract rfl rfl) rfl ?_
    refine WL.q (q_extract rfl rfl) rfl ?_
    refine WL.q (q_assign rfl) rfl ?_
    refine WL.q (q_assign rfl) rfl ?_
    refine WL.nil ?_
    refine AT.then_n ?_
    refine WC.seq ?_
    refine WC.seq ?_
    refine WC.region ?_
    refine WLy.enter ?_
    refine WLy.q (q_loadA rfl a_38 i_38 (Cells.pt 1 rfl) (Tg.len _)) rfl rfl ?_
    refine WLy.eff (e_call rfl (c30 T hT hsT (by omega))) rfl rfl ?_; rintro _ _ _ ⟨rfl, rfl, rfl⟩
    refine WLy.q (q_move rfl) rfl rfl ?_
    refine WLy.open0 2 39 true rfl rfl ?_
    refine WLy.qg 0 rfl rfl rfl (q_loadA rfl a_38 i_38 (Cells.pt 1 rfl) (Tg.len _)) rfl rfl rfl ?_
    refine WLy.eg 0 rfl rfl rfl (e_call rfl (c29 T hT hsT (by have := sz5_le 1300 T.er; have := hcnt T heT; omega))) rfl rfl rfl ?_
    refine WLy.qg 0 rfl rfl rfl (q_leq rfl rfl) rfl rfl rfl ?_
    refine WLy.and0 0 rfl rfl rfl rfl rfl rfl rfl ?_
    refine WLy.q (q_assign rfl) rfl rfl ?_
    refine WLy.done ?_
    refine AT.then_n ?_
    refine WC.seq ?_
    refine WC.region ?_
    refine WL.q (q_move rfl) rfl ?_
    refine WL.q (q_not rfl) rfl ?_
    refine WL.nil ?_
    refine AT.then_n ?_
    refine WC.condHF rfl (by rw [hok5]; rfl) ?_
    refine WC.skip ?_
    refine AT.then_n ?_
    refine WC.seq ?_
    refine WC.seq ?_
    refine WC.region ?_
    refine WL.q (q_move rfl) rfl ?_
    refine WL.q (q_not rfl) rfl ?_
    refine WL.q (q_move rfl) rfl ?_
    refine WL.on rfl rfl rfl ?_
    refine WL.q (q_move rfl) rfl ?_
    refine WL.on rfl rfl rfl ?_
    refine WL.q (q_len rfl u_35) rfl ?_
    refine WL.on rfl rfl rfl ?_
    refine WL.q (q_move rfl) rfl ?_
    refine WL.on rfl rfl rfl ?_
    refine WL.q (q_len rfl u_35) rfl ?_
    refine WL.on rfl rfl rfl ?_
    refine WL.q (q_neq rfl rfl) rfl ?_
    refine WL.q (q_pickF rfl rfl rfl) rfl ?_
    refine WL.nil ?_
    refine AT.then_n ?_
    refine WC.condPF rfl (by simp [hDl]) ?_
    refine WC.skip ?_
    refine AT.then_n ?_
    refine WC.seq ?_
    refine WC.seq ?_
    refine WC.region ?_
    refine WL.q (q_move rfl) rfl ?_
    refine WL.q (q_len rfl u_35) rfl ?_
    refine WL.q (q_move rfl) rfl ?_
    refine WL.nil ?_
    refine AT.then_n ?_
    refine WC.block ?_
    refine WC.loop (σ := Nat) (fun i => i ≤ ls.length) (fun i => [(64, .int .i64 i), (63, .int .i64 ls.length), (0, .slice A ls.length cap), (6, .slice A9 D.length c9)]) (fun i => own) (fun _ => k9) (fun i => ls.length - i) 0 (by omega) ⟨rfl, rfl, rfl, rfl, trivial⟩ (Imp.keepRest (by repeat (first | exact List.Sublist.refl _ | refine List.Sublist.cons _ ?_)) (Ent.refl _)) ?_
    rintro i hi
    refine WC.seq ?_
    refine WC.region ?_
    refine WL.q (q_lss rfl rfl) rfl ?_
    refine WL.nil ?_
    refine AT.then_n ?_
    refine WC.seq ?_
    refine WC.cond rfl (fun h5 => ?_) (fun h5 => ?_)
    · -- if 5: yes
      try have p5 := of_decide_eq_true h5
      have hlt : i < ls.length := by omega
      have hltD : i < D.length := by omega
      have heq : putB D[i].er = putB ls[i].er := by
        have h1 : (erL D)[i]? = (erL ls)[i]? := by rw [hD]
        rw [erL_map, erL_map] at h1
        simp [hlt, hltD] at h1
        rw [h1]
      have hput := (hf _ (List.getElem_mem hlt)).2.2
      refine WC.skip ?_
      refine AT.then_n ?_
      refine WC.seq ?_
      refine WC.block ?_
      refine WC.seq ?_
      refine WC.region ?_
      refine WL.q (q_move rfl) rfl ?_
      refine WL.q (q_assign rfl) rfl ?_
      refine WL.nil ?_
      refine AT.then_n ?_
      refine WC.seq ?_
      refine WC.drawS [0, 1, 5, 6, 10] _ _ mixed (NoPan.then (NoPan.blk (NoPan.then (NoPan.then (NoPan.blk (NoPan.then NoPan.body)))))) (Imp.refl _ _) rfl ?_
      refine WD.sched [(0, 0), (1, 0), (2, 0), (3, 0), (5, 0), (6, 0), (7, 0), (8, 0), (4, 2), (9, 2), (10, 0)] true (by decide +kernel) ?_
      refine WS.q 0 rfl (q_move rfl) rfl ?_
      refine WS.q 1 rfl (q_move rfl) rfl ?_
      refine WS.q 2 rfl (q_indexAddr rfl rfl u_35 i_38 (Based.row hrowD.row (by rw [flat_len Tg.cells 5 Tg.len]; omega)) (by omega)) rfl ?_
      refine WS.q 3 rfl (q_loadA rfl a_38 i_38 (Cells.at hrowD.row Tg.len hltD) (Tg.len _)) rfl ?_
      refine WS.q 5 rfl (q_move rfl) rfl ?_
      refine WS.q 6 rfl (q_move rfl) rfl ?_
      refine WS.q 7 rfl (q_indexAddr rfl rfl u_35 i_38 (Based.row hrow.row (by rw [flat_len Tg.cells 5 Tg.len]; omega)) (by omega)) rfl ?_
      refine WS.q 8 rfl (q_loadA rfl a_38 i_38 (Cells.at hrow.row Tg.len hlt) (Tg.len _)) rfl ?_
      refine WS.eff2 4 rfl (e_call rfl (c76 D[i] (hrowD.ok _ (List.getElem_mem hltD)) (hsD _ (List.getElem_mem hltD)) (by rw [heq]; exact hput))) rfl ?_; rintro _ _ _ ⟨rfl, rfl, rfl⟩
      rw [heq]
      refine ⟨(by first | exact (Imp.refl _ _) | exact (Imp.sub (List.Sublist.cons _ (List.Sublist.refl _))) | exact (Imp.ent (Ent.left (Ent.refl _)))), ?_⟩
      refine WS.eff2 9 rfl (e_call rfl (c76 ls[i] (hrow.ok _ (List.getElem_mem hlt)) (hf _ (List.getElem_mem hlt)).1 hput)) rfl ?_; rintro _ _ _ ⟨rfl, rfl, rfl⟩
      refine ⟨(by first | exact (Imp.refl _ _) | exact (Imp.sub (List.Sublist.cons _ (List.Sublist.refl _))) | exact (Imp.ent (Ent.left (Ent.refl _)))), ?_⟩
      refine WS.q 10 rfl (q_neqS rfl rfl) rfl ?_
      refine WS.done ?_
      refine AT.then_n ?_
      refine WC.condPF rfl (by simp) ?_
      refine WC.skip ?_
      refine AT.blk_n ?_
      refine AT.then_n ?_
      refine WC.region ?_
      first | refine WL.q (q_add64 rfl rfl (by omega)) rfl ?_ | refine WL.q (q_add rfl rfl) rfl ?_
      refine WL.q (q_move rfl) rfl ?_
      refine WL.nil ?_
      refine AT.mid (i + 1) ⟨by omega, by omega⟩ ⟨rfl, rfl, rfl, rfl, trivial⟩ (Imp.refl _ _)
    · -- if 5: no
      try have p5 := of_decide_eq_false h5
      refine WC.exit ?_
      refine AT.then_e ?_
      refine AT.then_e ?_
      refine AT.blk_e ?_
      refine AT.then_n ?_
      refine WC.seq ?_
      refine WC.region ?_
      refine WL.q (q_assign rfl) rfl ?_
      refine WL.nil ?_
      refine AT.then_n ?_
      refine WC.ret ?_
      exact AT.done rfl (RO.one rfl rfl) ⟨rfl, rfl, rfl⟩ (Imp.ent hk)

theorem c18 {own : List SP} {K : PH → Prop} {ls : List Tg} {A : Option Addr} {cap : Nat} (hl : ls.length ≤ 60) (hrow : Rows K A ls) (hf : ∀ x ∈ ls, x.small ∧ cnt x.er ≤ 10000 ∧ (putB x.er).length ≤ 1000000000) : Spec Try.prog 18 [.slice A ls.length cap] own K (Ret (.bool true) own K) := by
  by_cases hz : szP (listT (erL ls)) = 0
  · exact c18_bad hl hrow hf hz
  · exact c18_ok hl hrow hf hz

end Go.Proofs.Sl
