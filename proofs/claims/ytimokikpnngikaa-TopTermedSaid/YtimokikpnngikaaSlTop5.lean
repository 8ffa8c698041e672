/- Layer 13: TopTermed's walk. -/
import Derived.Test.YtimokikpnngikaaSlKn5
namespace Go.Proofs.Sl
open Go
set_option linter.unusedVariables false
set_option linter.unusedSimpArgs false

abbrev eighty : List UInt8 := [48, 49, 50, 51, 52, 53, 54, 55, 56, 57, 48, 49, 50, 51, 52, 53, 54, 55, 56, 57, 48, 49, 50, 51, 52, 53, 54, 55, 56, 57, 48, 49, 50, 51, 52, 53, 54, 55, 56, 57, 48, 49, 50, 51, 52, 53, 54, 55, 56, 57, 48, 49, 50, 51, 52, 53, 54, 55, 56, 57, 48, 49, 50, 51, 52, 53, 54, 55, 56, 57]
theorem Fair.alter {K : PH → Prop} {c cap : Nat} {k u n k' u' n' : Int} {t t' : List UInt8} {A : Option Addr} {l : List Tg} (h : Fr c (Tg.mk k u n t A cap l)) (hc : c ≤ 400) (hT : Ent K (Tg.mk k u n t A cap l).ok) (ht : t'.length ≤ 200) : Fair K (Tg.mk k' u' n' t' A cap l) := by
  have h1 := h.cnt
  have h2 := h.len
  have h3 := Tg.small_mk.1 h.small
  rw [Tg.er_mk, Sl.cnt] at h1
  rw [Tg.er_mk, Sl.cnt, putB_hd, List.length_append] at h2
  have h4 := hdB_le k' u' n' t'
  refine ⟨fun H hK => Tg.ok_mk.2 (Tg.ok_mk.1 (hT H hK)), Tg.small_mk.2 ⟨by omega, h3.2⟩, by rw [Tg.er_mk, Sl.cnt]; omega, ?_⟩
  rw [Tg.er_mk, putB_hd, List.length_append]; omega
theorem Fair.bare {K : PH → Prop} {cap : Nat} {k u n : Int} {t : List UInt8} (ht : t.length ≤ 200) : Fair K (Tg.mk k u n t none cap []) := by
  have h4 := hdB_le k u n t
  exact ⟨Ent.term (by simp) Rows.none, Tg.small_mk.2 ⟨by omega, by simp, by simp⟩, by rw [Tg.er_mk, List.map_nil, Sl.cnt, cntL]; omega, by rw [Tg.er_mk, List.map_nil, putB_hd, putBL, List.append_nil]; omega⟩
theorem cnt_1 : ∀ (T : Tm), 1 ≤ cnt T
  | .mk .. => by rw [cnt]; omega
theorem cntL_ge : ∀ (l : List Tm), l.length ≤ cntL l
  | [] => by simp
  | x :: l => by have := cntL_ge l; have := cnt_1 x; rw [cntL, List.length_cons]; omega
theorem Fr.kids {c cap : Nat} {k u n : Int} {t : List UInt8} {A : Option Addr} {l : List Tg} (h : Fr c (Tg.mk k u n t A cap l)) : l.length ≤ c := by
  have h1 := h.cnt
  have h2 := cntL_ge (l.map Tg.er)
  rw [Tg.er_mk, Sl.cnt] at h1
  rw [List.length_map] at h2; omega
theorem cntL_app (a b : List Tm) : cntL (a ++ b) = cntL a + cntL b := by
  induction a with
  | nil => rw [cntL]; simp
  | cons x a ih => rw [List.cons_append, cntL, cntL, ih]; omega
theorem Fair.grow {K K' : PH → Prop} {c cap cap' : Nat} {k u n : Int} {t : List UInt8} {A A' : Option Addr} {l : List Tg} (h : Fr c (Tg.mk k u n t A cap l)) (hc : c ≤ 400) (hT : Ent K (Tg.mk k u n t A cap l).ok) (e : Ent K' K) (hcap : (l ++ [Tg.mk 1 0 0 [] none 0 []]).length ≤ cap') (hr : Ent K' (Row A' ((l ++ [Tg.mk 1 0 0 [] none 0 []]).flatMap Tg.cells))) (hl : l.length ≤ 99999) :
    Fair K' (Tg.mk k u n t A' cap' (l ++ [Tg.mk 1 0 0 [] none 0 []])) := by
  have h1 := h.cnt
  have h2 := h.len
  have h3 := Tg.small_mk.1 h.small
  rw [Tg.er_mk, Sl.cnt] at h1
  rw [Tg.er_mk, Sl.cnt, putB_hd, List.length_append] at h2
  have hrow := Ent.kids hT
  refine ⟨Ent.term hcap ⟨hr, fun x hx => ?_⟩, Tg.small_mk.2 ⟨h3.1, by simp; omega, fun x hx => ?_⟩, ?_, ?_⟩
  · rcases List.mem_append.1 hx with hx | hx
    · exact e.trans (hrow.ok x hx)
    · rw [List.mem_singleton.1 hx]; exact Ent.leaf
  · rcases List.mem_append.1 hx with hx | hx
    · exact h3.2.2 x hx
    · rw [List.mem_singleton.1 hx]; exact Tg.small_mk.2 ⟨by simp, by simp, by simp⟩
  · have e1 : cntL (([Tg.mk 1 0 0 [] none 0 []] : List Tg).map Tg.er) = 1 := rfl
    rw [Tg.er_mk, Sl.cnt, List.map_append, cntL_app, e1]; omega
  · have e1 : (putBL (([Tg.mk 1 0 0 [] none 0 []] : List Tg).map Tg.er)).length = 2 := rfl
    rw [Tg.er_mk, putB_hd, List.map_append, putBL_flat, List.flatMap_append, ← putBL_flat, ← putBL_flat, List.length_append, List.length_append, e1]; omega

theorem c5 {own : List SP} {K : PH → Prop} {s0 s1 s5 : List UInt8} {B0 B1 B5 : Option Addr} {cb0 cb1 cb5 w : Nat} {x z : UInt8} (hb0 : Ent K (Row B0 (s0.map bv))) (hb1 : Ent K (Row B1 (s1.map bv))) (hb5 : Ent K (Row B5 (s5.map bv))) (hl0 : s0.length ≤ 140737488355328) (hl1 : s1.length ≤ 140737488355328) (hw : w ≤ 65535) : Spec Try.prog 5 [.slice B0 s0.length cb0, .slice B1 s1.length cb1, .int .u8 x.toNat, .int .u16 w, .int .u8 z.toNat, .slice B5 s5.length cb5] (own) (K)
    (Ret (.bool true) own K) := by
  have hx8 := x.toNat_lt
  refine Spec.of en_5 Try.func5 rfl rfl fun g => ?_
  refine WC.seq ?_
  refine WC.region ?_
  refine WL.q (q_assign rfl) rfl ?_
  refine WL.nil ?_
  refine AT.then_n ?_
  refine WC.seq ?_
  refine WC.seq ?_
  refine WC.region ?_
  refine WL.q (q_move rfl) rfl ?_
  refine WL.q (q_len rfl u_23) rfl ?_
  refine WL.q (q_gtr rfl rfl) rfl ?_
  refine WL.nil ?_
  refine AT.then_n ?_
  refine WC.cond rfl (fun h1 => ?_) (fun h1 => ?_)
  · -- if 1: yes
    try have p1 := of_decide_eq_true h1
    refine WC.seq ?_
    refine WC.region ?_
    refine WL.eff (e_call rfl c15) rfl ?_; rintro _ _ _ ⟨rfl, rfl, rfl⟩
    refine WL.q (q_assign rfl) rfl ?_
    refine WL.nil ?_
    refine AT.then_n ?_
    refine WC.ret ?_
    refine AT.then_r ?_
    exact AT.done rfl (RO.one rfl rfl) ⟨rfl, rfl, rfl⟩ (Imp.refl _ _)
  · -- if 1: no
    try have p1 := of_decide_eq_false h1
    refine WC.skip ?_
    refine AT.then_n ?_
    refine WC.seq ?_
    refine WC.region ?_
    refine WL.q (q_move rfl) rfl ?_
    refine WL.eff (e_call rfl (c16 hb0 hl0)) rfl ?_; rintro _ _ k1 ⟨A1, c1, L1, rfl, rfl, hk1, h11, h12, h13, h14⟩
    refine WL.imp Imp.orowStay ?_
    refine WL.q (q_move rfl) rfl ?_
    refine WL.eff (e_call rfl (c16 (hk1.trans hb1).left hl1)) rfl ?_; rintro _ _ k2 ⟨A2, c2, L2, rfl, rfl, hk2, h21, h22, h23, h24⟩
    refine WL.imp Imp.orowStay ?_
    have hE : Ent (k2 ∩ Row A2 (L2.flatMap Tg.cells)) K := (hk2.trans hk1.left).left
    have hR1 : Rows (k2 ∩ Row A2 (L2.flatMap Tg.cells)) A1 L1 := ⟨(hk2.trans Ent.right).left, fun y hy => (hk2.trans (h14 y hy).1.left).left⟩
    have hR2 : Rows (k2 ∩ Row A2 (L2.flatMap Tg.cells)) A2 L2 := ⟨Ent.right, fun y hy => (h24 y hy).1.left⟩
    generalize (k2 ∩ Row A2 (L2.flatMap Tg.cells)) = kE at hE hR1 hR2 ⊢
    obtain ⟨M, x, rfl⟩ := last_of h11
    obtain ⟨k1, u1, n1, t1, A0, cap0, l1⟩ := x
    have hMl : (M ++ [(Tg.mk k1 u1 n1 t1 A0 cap0 l1)]).length = M.length + 1 := by simp
    have hx := hR1.ok (Tg.mk k1 u1 n1 t1 A0 cap0 l1) (by simp)
    have hF := (h14 (Tg.mk k1 u1 n1 t1 A0 cap0 l1) (by simp)).2
    have ht1 : t1.length ≤ 90 := by have := hF.txt; rw [Tg.er_mk] at this; exact this
    have hl1k := (Tg.small_mk.1 hF.small).2.1
    refine WL.q (q_assign rfl) rfl ?_
    refine WL.q (q_assign rfl) rfl ?_
    refine WL.nil ?_
    refine AT.then_n ?_
    refine WC.seq ?_
    refine WC.region ?_
    refine WL.q (q_move rfl) rfl ?_
    refine WL.q (q_move rfl) rfl ?_
    refine WL.q (q_len rfl u_35) rfl ?_
    first | refine WL.q (q_sub64 rfl rfl (by omega)) rfl ?_ | refine WL.q (q_sub rfl rfl) rfl ?_
    refine WL.q (q_indexAddr rfl rfl u_35 i_38 (Based.row hR1.row (by simp [Tg.len])) (by simp at *; omega)) rfl ?_
    refine WL.q (q_loadA (vs := (Tg.mk k1 u1 n1 t1 A0 cap0 l1).cells) rfl a_38 i_38 (by have := Cells.at (own := own) (i := M.length) hR1.row Tg.len (by simp); simpa using this) (Tg.len _)) rfl ?_
    refine WL.eff (e_alloc i_38) rfl ?_; rintro _ _ _ ⟨b1, rfl, rfl, rfl⟩
    refine WL.effn (e_storeAll 0 rfl rfl rfl i_38 rfl (Tg.len _) (by first | (simp [Value.cells, Tg.len]; done) | (simp [Value.cells, Tg.cells]; done)) (Tg.ones _)) ?_; rintro _ _ _ ⟨rfl, rfl, rfl⟩
    refine WL.nil ?_
    refine AT.then_n ?_
    refine WC.cut (σ := Tg × (PH → Prop)) (fun ⟨T, k⟩ => Ent k kE ∧ Fair k T) (fun _ => [(15, .pointer (some (ad b1 0))), (13, .slice A1 (M ++ [(Tg.mk k1 u1 n1 t1 A0 cap0 l1)]).length c1), (14, .slice A2 L2.length c2), (3, .int .u16 w), (4, .int .u8 z.toNat), (5, .slice B5 s5.length cb5)]) (fun ⟨T, k⟩ => Pt b1 (.cells T.cells.toArray 38 (0, 0)) :: own) (fun ⟨T, k⟩ => k) ?_ ?_
    · -- cut
      refine WC.seq ?_
      refine WC.region ?_
      refine WL.q (q_move rfl) rfl ?_
      first | refine WL.q (q_rem0 rfl rfl (by omega)) rfl ?_
      refine WL.nil ?_
      refine AT.then_n ?_
      refine WC.block ?_
      refine WC.seq ?_
      refine WC.region ?_
      refine WL.q (q_eql rfl rfl) rfl ?_
      refine WL.q (q_assign rfl) rfl ?_
      refine WL.nil ?_
      refine AT.then_n ?_
      refine WC.cond rfl (fun h2 => ?_) (fun h2 => ?_)
      · -- if 2: yes
        try have p2 := of_decide_eq_true h2
        refine WC.region ?_
        refine WL.q (q_fieldAddr rfl fo_38_0) rfl ?_
        refine WL.effn (e_store 0 rfl rfl rfl i_3 rfl (by rw [Tg.len]; omega)) ?_; rintro _ _ _ ⟨rfl, rfl, rfl⟩
        refine WL.nil ?_
        refine AT.blk_n ?_
        refine AT.mid (Tg.mk 9 u1 n1 t1 A0 cap0 l1, kE) ⟨Ent.refl _, Fair.alter hF (Nat.le_refl _) hx (by first | omega | (simp; omega))⟩ ⟨rfl, rfl, rfl, rfl, rfl, rfl, trivial⟩ (Imp.eq rfl)
      · -- if 2: no
        try have p2 := of_decide_eq_false h2
        refine WC.seq ?_
        refine WC.region ?_
        refine WL.q (q_eql rfl rfl) rfl ?_
        refine WL.q (q_assign rfl) rfl ?_
        refine WL.nil ?_
        refine AT.then_n ?_
        refine WC.cond rfl (fun h3 => ?_) (fun h3 => ?_)
        · -- if 3: yes
          try have p3 := of_decide_eq_true h3
          refine WC.region ?_
          refine WL.q (q_fieldAddr rfl fo_38_1) rfl ?_
          refine WL.effn (e_store 0 rfl rfl rfl i_3 rfl (by rw [Tg.len]; omega)) ?_; rintro _ _ _ ⟨rfl, rfl, rfl⟩
          refine WL.nil ?_
          refine AT.blk_n ?_
          refine AT.mid (Tg.mk k1 7 n1 t1 A0 cap0 l1, kE) ⟨Ent.refl _, Fair.alter hF (Nat.le_refl _) hx (by first | omega | (simp; omega))⟩ ⟨rfl, rfl, rfl, rfl, rfl, rfl, trivial⟩ (Imp.eq rfl)
        · -- if 3: no
          try have p3 := of_decide_eq_false h3
          refine WC.seq ?_
          refine WC.region ?_
          refine WL.q (q_eql rfl rfl) rfl ?_
          refine WL.q (q_assign rfl) rfl ?_
          refine WL.nil ?_
          refine AT.then_n ?_
          refine WC.cond rfl (fun h4 => ?_) (fun h4 => ?_)
          · -- if 4: yes
            try have p4 := of_decide_eq_true h4
            refine WC.region ?_
            refine WL.q (q_fieldAddr rfl fo_38_2) rfl ?_
            refine WL.q (q_load rfl a_3 (by first | exact Cell.ptL 0 rfl rfl | exact Cell.ptL 1 rfl rfl | exact Cell.ptL 2 rfl rfl | exact Cell.ptL 3 rfl rfl | exact Cell.ptL 4 rfl rfl)) rfl ?_
            first | refine WL.q (q_sub64 rfl rfl (by omega)) rfl ?_ | refine WL.q (q_sub rfl rfl) rfl ?_
            refine WL.q (q_fieldAddr rfl fo_38_2) rfl ?_
            refine WL.effn (e_store 0 rfl rfl rfl i_3 rfl (by rw [Tg.len]; omega)) ?_; rintro _ _ _ ⟨rfl, rfl, rfl⟩
            refine WL.nil ?_
            refine AT.blk_n ?_
            refine AT.mid (Tg.mk k1 u1 _ t1 A0 cap0 l1, kE) ⟨Ent.refl _, Fair.alter hF (Nat.le_refl _) hx (by first | omega | (simp; omega))⟩ ⟨rfl, rfl, rfl, rfl, rfl, rfl, trivial⟩ (Imp.eq rfl)
          · -- if 4: no
            try have p4 := of_decide_eq_false h4
            refine WC.seq ?_
            refine WC.region ?_
            refine WL.q (q_eql rfl rfl) rfl ?_
            refine WL.q (q_assign rfl) rfl ?_
            refine WL.nil ?_
            refine AT.then_n ?_
            refine WC.cond rfl (fun h5 => ?_) (fun h5 => ?_)
            · -- if 5: yes
              try have p5 := of_decide_eq_true h5
              refine WC.region ?_
              refine WL.q (q_fieldAddr rfl fo_38_3) rfl ?_
              refine WL.q (q_load rfl a_9 (by first | exact Cell.ptL 0 rfl rfl | exact Cell.ptL 1 rfl rfl | exact Cell.ptL 2 rfl rfl | exact Cell.ptL 3 rfl rfl | exact Cell.ptL 4 rfl rfl)) rfl ?_
              refine WL.q (q_addS (b := eighty) rfl rfl (by simp; omega)) rfl ?_
              refine WL.q (q_fieldAddr rfl fo_38_3) rfl ?_
              refine WL.effn (e_store 0 rfl rfl rfl i_9 rfl (by rw [Tg.len]; omega)) ?_; rintro _ _ _ ⟨rfl, rfl, rfl⟩
              refine WL.nil ?_
              refine AT.blk_n ?_
              refine AT.mid (Tg.mk k1 u1 n1 (t1 ++ eighty) A0 cap0 l1, kE) ⟨Ent.refl _, Fair.alter hF (Nat.le_refl _) hx (by first | omega | (simp; omega))⟩ ⟨rfl, rfl, rfl, rfl, rfl, rfl, trivial⟩ (Imp.eq rfl)
            · -- if 5: no
              try have p5 := of_decide_eq_false h5
              refine WC.seq ?_
              refine WC.region ?_
              refine WL.q (q_eql rfl rfl) rfl ?_
              refine WL.q (q_assign rfl) rfl ?_
              refine WL.nil ?_
              refine AT.then_n ?_
              refine WC.cond rfl (fun h6 => ?_) (fun h6 => ?_)
              · -- if 6: yes
                try have p6 := of_decide_eq_true h6
                refine WC.region ?_
                refine WL.eff (e_buildSliceO (cs := []) rfl u_35 i_38 rfl rfl rfl rfl rfl rfl) rfl ?_; rintro _ _ _ ⟨b8, rfl, rfl, rfl⟩
                refine WL.q (q_fieldAddr rfl fo_38_4) rfl ?_
                refine WL.q (q_load rfl a_35 (by first | exact Cell.ptL 0 rfl rfl | exact Cell.ptL 1 rfl rfl | exact Cell.ptL 2 rfl rfl | exact Cell.ptL 3 rfl rfl | exact Cell.ptL 4 rfl rfl)) rfl ?_
                refine WL.eff (e_append 0 rfl rfl (Src.row (Ent.kids hx).row (k := l1.length) (by rw [flat_len Tg.cells 5 Tg.len]) rfl) rfl u_35 (.inl ⟨_, u_35⟩) i_38 rfl rfl (by rw [flat_len Tg.cells 5 Tg.len]) (ones_flat _) (by omega)) rfl ?_; rintro _ _ _ ⟨A8, c8, rfl, rfl, rfl, hc8⟩
                refine WL.q (q_buildL (cs := (Tg.mk 1 0 0 [] none 0 []).cells) rfl pl_38 i_38 rfl rfl) rfl ?_
                refine WL.eff (e_buildSliceK (cs := (Tg.mk 1 0 0 [] none 0 []).cells) rfl u_35 i_38 rfl rfl rfl rfl rfl) rfl ?_; rintro _ _ _ ⟨b7, rfl, rfl, rfl⟩
                refine WL.eff (e_append 0 rfl rfl (Src.row Ent.right (k := 1) rfl rfl) rfl u_35 (.inl ⟨_, u_35⟩) i_38 rfl (by simp [flat_len Tg.cells 5 Tg.len]) rfl (Tg.ones _) (by omega)) rfl ?_; rintro _ _ _ ⟨A9, c9, rfl, rfl, rfl, hc9⟩
                refine WL.q (q_fieldAddr rfl fo_38_4) rfl ?_
                refine WL.effn (e_store 1 rfl rfl rfl i_35 rfl (by rw [Tg.len]; omega)) ?_; rintro _ _ _ ⟨rfl, rfl, rfl⟩
                refine WL.nil ?_
                refine AT.blk_n ?_
                refine AT.mid (Tg.mk k1 u1 n1 t1 A9 c9 (l1 ++ [(Tg.mk 1 0 0 [] none 0 [])]), _) ⟨(Ent.refl _).left.left, Fair.grow hF (Nat.le_refl _) hx (Ent.refl _).left.left (by simpa using hc9) (by simpa using Ent.right) (by have := hF.kids; omega)⟩ ⟨rfl, rfl, rfl, rfl, rfl, rfl, trivial⟩ (Imp.trans Imp.orowStay (Imp.eq ?_))
                simp [Tg.cells]
              · -- if 6: no
                try have p6 := of_decide_eq_false h6
                refine WC.seq ?_
                refine WC.region ?_
                refine WL.q (q_eql rfl rfl) rfl ?_
                refine WL.q (q_assign rfl) rfl ?_
                refine WL.nil ?_
                refine AT.then_n ?_
                refine WC.cond rfl (fun h7 => ?_) (fun h7 => ?_)
                · -- if 7: yes
                  try have p7 := of_decide_eq_true h7
                  refine WC.region ?_
                  refine WL.q (q_fieldAddr rfl fo_38_4) rfl ?_
                  refine WL.effn (e_store 0 rfl rfl rfl i_35 rfl (by rw [Tg.len]; omega)) ?_; rintro _ _ _ ⟨rfl, rfl, rfl⟩
                  refine WL.nil ?_
                  refine AT.blk_n ?_
                  refine AT.mid (Tg.mk k1 u1 n1 t1 none 0 [], kE) ⟨Ent.refl _, Fair.bare (by omega)⟩ ⟨rfl, rfl, rfl, rfl, rfl, rfl, trivial⟩ (Imp.eq rfl)
                · -- if 7: no
                  try have p7 := of_decide_eq_false h7
                  refine WC.skip ?_
                  refine AT.blk_n ?_
                  refine AT.mid ((Tg.mk k1 u1 n1 t1 A0 cap0 l1), kE) ⟨Ent.refl _, hF.fair (by omega) hx⟩ ⟨rfl, rfl, rfl, rfl, rfl, rfl, trivial⟩ (Imp.eq rfl)
    · -- behind the cut
      rintro ⟨T, k⟩ ⟨hk, hT⟩
      simp only at hk hT ⊢
      have hE := hk.trans hE
      have hR1 := hR1.weak hk
      have hR2 := hR2.weak hk
      obtain ⟨M2, y, rfl⟩ := last_of h21
      have hMl2 : (M2 ++ [y]).length = M2.length + 1 := by simp
      have hy := (h24 y (by simp)).2.fair (by omega) (hR2.ok y (by simp))
      refine WC.seq ?_
      refine WC.drawS [1, 2, 3, 4, 7, 8, 10, 11, 13, 14, 15, 18, 19, 21, 22] _ _ mixed (NoPan.then NoPan.body) (Imp.refl _ _) rfl ?_
      refine WD.sched [(0, 0), (1, 0), (2, 0), (3, 0), (4, 0), (5, 0), (6, 0), (7, 0), (8, 0), (9, 2), (10, 0)] false (by decide +kernel) ?_
      refine WS.q 0 rfl (q_loadA rfl a_38 i_38 (Cells.pt 0 rfl) (Tg.len _)) rfl ?_
      refine WS.q 1 rfl (q_move rfl) rfl ?_
      refine WS.q 2 rfl (q_move rfl) rfl ?_
      refine WS.q 3 rfl (q_len rfl u_35) rfl ?_
      first | refine WS.q 4 rfl (q_sub64 rfl rfl (by omega)) rfl ?_ | refine WS.q 4 rfl (q_sub rfl rfl) rfl ?_
      refine WS.q 5 rfl (q_indexAddr rfl rfl u_35 i_38 (Based.row hR2.row (by simp [Tg.len])) (by simp at *; omega)) rfl ?_
      refine WS.q 6 rfl (q_loadA (vs := y.cells) rfl a_38 i_38 (by have := Cells.at (own := Pt b1 (.cells T.cells.toArray 38 (0, 0)) :: own) (i := M2.length) hR2.row Tg.len (by simp); simpa [sel, selK] using this) (Tg.len _)) rfl ?_
      refine WS.q 7 rfl (q_move rfl) rfl ?_
      refine WS.q 8 rfl (q_move rfl) rfl ?_
      refine WS.eff2 9 rfl (e_call rfl (c17 hT hy hw)) rfl ?_; rintro _ _ _ ⟨rfl, rfl, rfl⟩
      refine ⟨(by first | exact (Imp.refl _ _) | exact (Imp.sub (List.Sublist.cons _ (List.Sublist.refl _))) | exact (Imp.ent (Ent.left (Ent.refl _)))), ?_⟩
      refine WS.q 10 rfl (q_move rfl) rfl ?_
      refine WS.back ?_
      refine WD.sched [(11, 0), (12, 2), (13, 0), (14, 0)] false (by decide +kernel) ?_
      refine WS.qon 11 rfl rfl rfl rfl (q_move rfl) rfl ?_
      refine WS.effon2 12 rfl rfl rfl rfl (e_call rfl (c18 (by omega) hR1 (fun q hq => ⟨(h14 q hq).2.small, by have := (h14 q hq).2.cnt; omega, by have := (h14 q hq).2.cnt; have := (h14 q hq).2.len; omega⟩))) rfl ?_; rintro _ _ _ ⟨rfl, rfl, rfl⟩
      refine ⟨(by first | exact (Imp.refl _ _) | exact (Imp.sub (List.Sublist.cons _ (List.Sublist.refl _))) | exact (Imp.ent (Ent.left (Ent.refl _)))), ?_⟩
      refine WS.q 13 rfl (q_pickT rfl rfl rfl) rfl ?_
      refine WS.q 14 rfl (q_move rfl) rfl ?_
      refine WS.back ?_
      refine WD.sched [(15, 0), (16, 0), (17, 2), (18, 0), (19, 0)] false (by decide +kernel) ?_
      refine WS.qon 15 rfl rfl rfl rfl (q_move rfl) rfl ?_
      refine WS.qon 16 rfl rfl rfl rfl (q_b2sK rfl u_23 u_5 u_9 (hE.trans hb5)) rfl ?_
      refine WS.effon2 17 rfl rfl rfl rfl (e_call rfl (c19 (by omega))) rfl ?_; rintro _ _ _ ⟨rfl, rfl, rfl⟩
      refine ⟨(by first | exact (Imp.refl _ _) | exact (Imp.sub (List.Sublist.cons _ (List.Sublist.refl _))) | exact (Imp.ent (Ent.left (Ent.refl _)))), ?_⟩
      refine WS.q 18 rfl (q_pickT rfl rfl rfl) rfl ?_
      refine WS.q 19 rfl (q_move rfl) rfl ?_
      refine WS.back ?_
      refine WD.sched [(20, 2), (21, 0), (22, 0)] true (by decide +kernel) ?_
      refine WS.effon2 20 rfl rfl rfl rfl (e_call rfl c15) rfl ?_; rintro _ _ _ ⟨rfl, rfl, rfl⟩
      refine ⟨(by first | exact (Imp.refl _ _) | exact (Imp.sub (List.Sublist.cons _ (List.Sublist.refl _))) | exact (Imp.ent (Ent.left (Ent.refl _)))), ?_⟩
      refine WS.q 21 rfl (q_pickT rfl rfl rfl) rfl ?_
      refine WS.q 22 rfl (q_assign rfl) rfl ?_
      refine WS.done ?_
      refine AT.then_n ?_
      refine WC.ret ?_
      exact AT.done rfl (RO.one rfl rfl) ⟨rfl, rfl, rfl⟩ (Imp.drop (Imp.ent hE))

end Go.Proofs.Sl
