/- Layer 11: the law of terms: terms out of bytes. -/
import Derived.Test.YtimokikpnngikaaSlT05b
import Derived.Test.YtimokikpnngikaaSlApp
namespace Go.Proofs.Sl
open Go
set_option linter.unusedVariables false
set_option linter.unusedSimpArgs false

theorem Fr.leaf {c : Nat} {k u n : Int} {t : List UInt8} (ht : t.length ≤ 90) (hc : 1 ≤ c) : Fr c (Tg.mk k u n t none 0 []) := by
  refine ⟨Tg.small_mk.2 ⟨by omega, by simp, by simp⟩, by rw [Tg.er_mk, List.map_nil, Sl.cnt, cntL]; omega, ?_, by rw [Tg.er_mk]; exact ht⟩
  rw [Tg.er_mk, List.map_nil, Sl.cnt, cntL, putB_hd, putBL]
  have := hdB_le k u n t
  simp; omega
theorem Fr.one {c : Nat} {k u n : Int} {A : Option Addr} {x : Tg} (h : Fr c x) : Fr (c + 1) (Tg.mk k u n [] A 1 [x]) := by
  have h1 := h.cnt
  have h2 := h.len
  refine ⟨Tg.small_mk.2 ⟨by simp, by simp, by simpa using h.small⟩, by rw [Tg.er_mk, List.map_cons, List.map_nil, Sl.cnt, cntL, cntL]; omega, ?_, by rw [Tg.er_mk]; simp [Tm.text]⟩
  rw [Tg.er_mk, List.map_cons, List.map_nil, Sl.cnt, cntL, cntL, putB_hd, putBL, putBL]
  have := hdB_le k u n []
  simp at this ⊢; omega
theorem Fr.two {c d : Nat} {k u n : Int} {A : Option Addr} {x y : Tg} (h : Fr d x) (h' : Fr d y) (hc : Sl.cnt x.er + Sl.cnt y.er + 1 ≤ c) : Fr c (Tg.mk k u n [] A 2 [x, y]) := by
  have h2 := h.len
  have h3 := h'.len
  refine ⟨Tg.small_mk.2 ⟨by simp, by simp, by simpa using ⟨h.small, h'.small⟩⟩, by rw [Tg.er_mk, List.map_cons, List.map_cons, List.map_nil, Sl.cnt, cntL, cntL, cntL]; omega, ?_, by rw [Tg.er_mk]; simp [Tm.text]⟩
  rw [Tg.er_mk, List.map_cons, List.map_cons, List.map_nil, Sl.cnt, cntL, cntL, cntL, putB_hd, putBL, putBL, putBL]
  have := hdB_le k u n []
  simp at this ⊢; omega
theorem stk {P : List Tg} {N : Tg} {k k2 : PH → Prop} {c : Nat} (e : Ent k2 k) (hP : ∀ y ∈ P, Ent k y.ok ∧ Fr c y) (h1 : Ent k2 N.ok) (h2 : Fr (c + 1) N) : ∀ y ∈ P ++ [N], Ent k2 y.ok ∧ Fr (c + 1) y := fun y hy => by
  rcases List.mem_append.1 hy with hy | hy
  · exact ⟨e.trans (hP y hy).1, (hP y hy).2.mono (by omega)⟩
  · rw [List.mem_singleton.1 hy]; exact ⟨h1, h2⟩
theorem last_of {α : Type} {L : List α} (h : 1 ≤ L.length) : ∃ M x, L = M ++ [x] := by
  rcases List.eq_nil_or_concat L with rfl | ⟨M, x, rfl⟩
  · simp at h
  · exact ⟨M, x, by simp⟩
theorem take_flat {M : List Tg} {r : List Value} : (M.flatMap Tg.cells ++ r).take (M.length * 5) = M.flatMap Tg.cells := by
  rw [← flat_len Tg.cells 5 Tg.len M, List.take_left]
theorem sz300 {x y : Tm} (h : sz5 300 x + sz5 300 y < 300) : cnt x + cnt y < 300 := by
  have hx := sz5_cnt (most := 300) (by omega) x
  have hy := sz5_cnt (most := 300) (by omega) y
  have h1 := sz5_pos 300 x
  have h2 := sz5_pos 300 y
  by_cases hc : (cnt x : Int) ≤ 300
  · by_cases hd : (cnt y : Int) ≤ 300
    · rw [hx.1 hc, hy.1 hd] at h; omega
    · have := hy.2 (by omega); omega
  · have := hx.2 (by omega); omega

theorem c16 {own : List SP} {K : PH → Prop} {b : List UInt8} {A : Option Addr} {ca : Nat} (hb : Ent K (Row A (b.map bv))) (hbl : b.length ≤ 140737488355328) : Spec Try.prog 16 [.slice A b.length ca] (own) (K)
    (fun v o k => ∃ (A' : Option Addr) (c : Nat) (L : List Tg), v = .slice A' L.length c ∧ o = ORow A' c 38 5 (L.flatMap Tg.cells) :: own ∧ Ent k K ∧ 1 ≤ L.length ∧ L.length ≤ 51 ∧ L.length ≤ c ∧ ∀ y ∈ L, Ent k y.ok ∧ Fr 400 y) := by
  refine Spec.of en_16 Try.func16 rfl rfl fun g => ?_
  refine WC.seq ?_
  refine WC.region ?_
  refine WL.q (q_assign rfl) rfl ?_
  refine WL.nil ?_
  refine AT.then_n ?_
  refine WC.seq ?_
  refine WC.region ?_
  refine WL.q (q_buildL (cs := (Tg.mk 1 0 0 [] none 0 []).cells) rfl pl_38 i_38 rfl rfl) rfl ?_
  refine WL.eff (e_buildSliceO (cs := (Tg.mk 1 0 0 [] none 0 []).cells) rfl u_35 i_38 rfl rfl rfl rfl rfl rfl) rfl ?_; rintro _ _ _ ⟨b9, rfl, rfl, rfl⟩
  refine WL.q (q_assign rfl) rfl ?_
  refine WL.nil ?_
  refine AT.then_n ?_
  refine WC.seq ?_
  refine WC.seq ?_
  refine WC.region ?_
  refine WL.q (q_assign rfl) rfl ?_
  refine WL.nil ?_
  refine AT.then_n ?_
  refine WC.block ?_
  refine WC.loop (σ := Nat × List Tg × Option Addr × Nat × (PH → Prop)) (fun ⟨i, L, A2, c2, k⟩ => (i ≤ 50 ∧ i ≤ b.length) ∧ Ent k K ∧ 1 ≤ L.length ∧ L.length ≤ i + 1 ∧ L.length ≤ c2 ∧ ∀ y ∈ L, Ent k y.ok ∧ Fr (300 + i) y) (fun ⟨i, L, A2, c2, k⟩ => [(4, .int .i64 i), (3, .slice A2 L.length c2), (0, .slice A b.length ca)]) (fun ⟨i, L, A2, c2, k⟩ => ORow A2 c2 38 5 (L.flatMap Tg.cells) :: own) (fun ⟨i, L, A2, c2, k⟩ => k) (fun ⟨i, L, A2, c2, k⟩ => 50 - i) (0, [(Tg.mk 1 0 0 [] none 0 [])], some (ad b9 0), 1, K) ⟨by omega, Ent.refl _, by simp, by simp, by simp, fun y hy => by rw [List.mem_singleton.1 hy]; exact ⟨Ent.leaf, Fr.leaf (by simp) (by omega)⟩⟩ ⟨rfl, rfl, rfl, trivial⟩ (Imp.eq rfl) ?_
  rintro ⟨i, L, A2, c2, k⟩ ⟨hi, hk, hL1, hL2, hc2, hall⟩
  simp only at hi hk hL1 hL2 hc2 hall ⊢
  refine WC.seq ?_
  refine WC.seq ?_
  refine WC.region ?_
  refine WLy.enter ?_
  refine WLy.q (q_move rfl) rfl rfl ?_
  refine WLy.q (q_move rfl) rfl rfl ?_
  refine WLy.q (q_len rfl u_23) rfl rfl ?_
  refine WLy.q (q_lss rfl rfl) rfl rfl ?_
  refine WLy.q (q_move rfl) rfl rfl ?_
  refine WLy.open0 4 16 true rfl rfl ?_
  refine WLy.qg 0 rfl rfl rfl (q_move rfl) rfl rfl rfl ?_
  refine WLy.qg 0 rfl rfl rfl (q_lss rfl rfl) rfl rfl rfl ?_
  refine WLy.and0 0 rfl rfl rfl rfl rfl rfl rfl ?_
  refine WLy.done ?_
  refine AT.then_n ?_
  refine WC.cond rfl (fun h1 => ?_) (fun h1 => ?_)
  · -- if 1: yes
    try have p1 := of_decide_eq_true h1
    simp only [Bool.and_eq_true, decide_eq_true_eq] at h1
    have hlt : i < b.length := by omega
    have hrow : Ent k (Row A (b.map bv)) := hk.trans hb
    have hb8 := b[i].toNat_lt
    obtain ⟨M, x, rfl⟩ := last_of hL1
    have hMl : (M ++ [x]).length = M.length + 1 := by simp
    obtain ⟨k1, u1, n1, t1, A1, cap1, l1⟩ := x
    refine WC.skip ?_
    refine AT.then_n ?_
    refine WC.cut (σ := List Tg × Option Addr × Nat × (PH → Prop)) (fun ⟨L, A2, c2, k⟩ => Ent k K ∧ 1 ≤ L.length ∧ L.length ≤ i + 2 ∧ L.length ≤ c2 ∧ ∀ y ∈ L, Ent k y.ok ∧ Fr (300 + i + 1) y) (fun ⟨L, A2, c2, k⟩ => [(4, .int .i64 i), (3, .slice A2 L.length c2), (0, .slice A b.length ca)]) (fun ⟨L, A2, c2, k⟩ => ORow A2 c2 38 5 (L.flatMap Tg.cells) :: own) (fun ⟨L, A2, c2, k⟩ => k) ?_ ?_
    · -- cut
      refine WC.block ?_
      refine WC.seq ?_
      refine WC.drawS [0, 1, 4, 5, 8, 9, 10, 11, 12, 13, 14, 15, 16] _ _ mixed (NoPan.then (NoPan.blk (NoPan.then (NoPan.then (NoPan.blk (NoPan.then NoPan.body)))))) (Imp.refl _ _) rfl ?_
      refine WD.sched [(0, 0), (1, 0), (2, 0), (3, 0), (4, 0), (5, 0), (6, 0), (7, 0), (8, 0), (9, 0), (10, 0), (11, 0), (12, 0), (13, 0), (14, 0), (15, 0), (16, 0)] true (by decide +kernel) ?_
      refine WS.q 0 rfl (q_move rfl) rfl ?_
      refine WS.q 1 rfl (q_move rfl) rfl ?_
      refine WS.q 2 rfl (q_indexAddr rfl rfl u_23 i_5 (by first | exact Based.of _ _ | exact Based.row (by repeat (first | assumption | exact Ent.right | refine Ent.left ?_)) (by simp; omega)) (by omega)) rfl ?_
      refine WS.q 3 rfl (q_load rfl a_5 (Cell.row hrow (v := bv b[i]) (by simp [hlt]))) rfl ?_
      refine WS.q 4 rfl (q_move rfl) rfl ?_
      refine WS.q 5 rfl (q_move rfl) rfl ?_
      refine WS.q 6 rfl (q_indexAddr rfl rfl u_23 i_5 (by first | exact Based.of _ _ | exact Based.row (by repeat (first | assumption | exact Ent.right | refine Ent.left ?_)) (by simp; omega)) (by omega)) rfl ?_
      refine WS.q 7 rfl (q_load rfl a_5 (Cell.row hrow (v := bv b[i]) (by simp [hlt]))) rfl ?_
      first | refine WS.q 8 rfl (q_quo0 rfl rfl ⟨by omega, by simp [IntKind.max, IntKind.bits, IntKind.signed]; omega, by omega⟩) rfl ?_
      first | refine WS.q 9 rfl (q_convI (-9223372036854775808) 9223372036854775807 u_5 u_3 rfl rfl rfl (by omega)) rfl ?_ | refine WS.q 9 rfl (q_conv rfl u_5 u_3 rfl) rfl ?_
      first | refine WS.q 10 rfl (q_rem0 rfl rfl (by omega)) rfl ?_
      first | refine WS.q 11 rfl (q_add64 rfl rfl (by omega)) rfl ?_ | refine WS.q 11 rfl (q_add rfl rfl) rfl ?_
      refine WS.q 12 rfl (q_move rfl) rfl ?_
      refine WS.q 13 rfl (q_len rfl u_35) rfl ?_
      refine WS.q 14 rfl (q_assign rfl) rfl ?_
      refine WS.q 15 rfl (q_assign rfl) rfl ?_
      refine WS.q 16 rfl (q_assign rfl) rfl ?_
      refine WS.done ?_
      refine AT.then_n ?_
      refine WC.seq ?_
      refine WC.region ?_
      refine WL.q (q_move rfl) rfl ?_
      refine WL.q (q_move rfl) rfl ?_
      first | refine WL.q (q_sub64 rfl rfl (by omega)) rfl ?_ | refine WL.q (q_sub rfl rfl) rfl ?_
      refine WL.q (q_indexAddr rfl rfl u_35 i_38 (Based.orow 0 rfl (by simp [Tg.len])) (by simp at *; omega)) rfl ?_
      refine WL.q (q_loadA (vs := (Tg.mk k1 u1 n1 t1 A1 cap1 l1).cells) rfl a_38 i_38 (by have := Cells.orowAt (own := ORow A2 c2 38 5 ((M ++ [(Tg.mk k1 u1 n1 t1 A1 cap1 l1)]).flatMap Tg.cells) :: own) (K := k) 0 rfl Tg.len (j := M.length) (by simp); simpa using this) (Tg.len _)) rfl ?_
      refine WL.eff (e_alloc i_38) rfl ?_; rintro _ _ _ ⟨b8, rfl, rfl, rfl⟩
      refine WL.effn (e_storeAll 0 rfl rfl rfl i_38 rfl (Tg.len _) (by first | (simp [Value.cells, Tg.len]; done) | (simp [Value.cells, Tg.cells]; done)) (Tg.ones _)) ?_; rintro _ _ _ ⟨rfl, rfl, rfl⟩
      refine WL.nil ?_
      refine AT.then_n ?_
      refine WC.seq ?_
      refine WC.region ?_
      refine WL.q (q_move rfl) rfl ?_
      first | refine WL.q (q_rem0 rfl rfl (by omega)) rfl ?_
      refine WL.nil ?_
      refine AT.then_n ?_
      refine WC.block ?_
      refine WC.seq ?_
      refine WC.region ?_
      refine WL.q (q_eql rfl rfl) rfl ?_
      refine WL.q (q_assign rfl) rfl ?_
      refine WL.nil ?_
      refine AT.then_n ?_
      refine WC.cond rfl (fun h2 => ?_) (fun h2 => ?_)
      · -- if 2: yes
        try have p2 := of_decide_eq_true h2
        refine WC.region ?_
        refine WL.q (q_move rfl) rfl ?_
        refine WL.q (q_move rfl) rfl ?_
        first | refine WL.q (q_quo0 rfl rfl ⟨by omega, by simp [IntKind.max, IntKind.bits, IntKind.signed]; omega, by omega⟩) rfl ?_
        first | refine WL.q (q_convI (-9223372036854775808) 9223372036854775807 u_5 u_3 rfl rfl rfl (by omega)) rfl ?_ | refine WL.q (q_conv rfl u_5 u_3 rfl) rfl ?_
        first | refine WL.q (q_rem0 rfl rfl (by omega)) rfl ?_
        refine WL.q (q_sliceS (s := [97, 98, 99]) (l := 0) (h := ((b[i].toNat : Int) / 9 % 4).toNat) rfl rfl ⟨_, _, rfl, by omega⟩ u_9 (by simp; omega)) rfl ?_
        refine WL.q (q_buildL (cs := (Tg.mk 1 0 0 (List.take ((b[i].toNat : Int) / 9 % 4).toNat [97, 98, 99]) none 0 []).cells) rfl pl_38 i_38 rfl rfl) rfl ?_
        refine WL.eff (e_buildSliceK (cs := (Tg.mk 1 0 0 (List.take ((b[i].toNat : Int) / 9 % 4).toNat [97, 98, 99]) none 0 []).cells) rfl u_35 i_38 rfl rfl rfl rfl rfl) rfl ?_; rintro _ _ _ ⟨b4, rfl, rfl, rfl⟩
        refine WL.eff (e_append 1 rfl rfl (Src.row Ent.right (k := 1) rfl rfl) rfl u_35 (.inl ⟨_, u_35⟩) i_38 rfl (by rw [flat_len Tg.cells 5 Tg.len]) rfl (Tg.ones _) (by omega)) rfl ?_; rintro _ _ _ ⟨A9, c9, rfl, rfl, rfl, hc9⟩
        refine WL.q (q_assign rfl) rfl ?_
        refine WL.nil ?_
        refine AT.blk_n ?_
        refine AT.blk_n ?_
        refine AT.mid ((M ++ [(Tg.mk k1 u1 n1 t1 A1 cap1 l1)]) ++ [(Tg.mk 1 0 0 (List.take ((b[i].toNat : Int) / 9 % 4).toNat [97, 98, 99]) none 0 [])], A9, c9, _) ⟨(by repeat (first | assumption | exact Ent.refl _ | refine Ent.left ?_)), by simp, (by simp at *; omega), (by simpa using hc9), stk (k := k) (by repeat (first | assumption | exact Ent.refl _ | refine Ent.left ?_)) hall Ent.leaf (Fr.leaf (by simp; omega) (by omega))⟩ ⟨rfl, vsl (by simp), rfl, trivial⟩ (Imp.drop (Imp.eq ?_))
        simp [List.flatMap_append]
      · -- if 2: no
        try have p2 := of_decide_eq_false h2
        refine WC.seq ?_
        refine WC.region ?_
        refine WL.q (q_eql rfl rfl) rfl ?_
        refine WL.q (q_assign rfl) rfl ?_
        refine WL.nil ?_
        refine AT.then_n ?_
        refine WC.cond rfl (fun h3 => ?_) (fun h3 => ?_)
        · -- if 3: yes
          try have p3 := of_decide_eq_true h3
          refine WC.region ?_
          refine WL.q (q_move rfl) rfl ?_
          refine WL.q (q_move rfl) rfl ?_
          refine WL.q (q_move rfl) rfl ?_
          first | refine WL.q (q_convI (-9223372036854775808) 9223372036854775807 u_5 u_3 rfl rfl rfl (by omega)) rfl ?_ | refine WL.q (q_conv rfl u_5 u_3 rfl) rfl ?_
          first | refine WL.q (q_quo0 rfl rfl ⟨by omega, by simp [IntKind.max, IntKind.bits, IntKind.signed]; omega, by omega⟩) rfl ?_
          first | refine WL.q (q_add64 rfl rfl (by omega)) rfl ?_ | refine WL.q (q_add rfl rfl) rfl ?_
          refine WL.q (q_buildL (cs := (Tg.mk 2 (1 + (b[i].toNat : Int) / 9 % 6) (40000 + (b[i].toNat : Int) / 54) [] none 0 []).cells) rfl pl_38 i_38 rfl rfl) rfl ?_
          refine WL.eff (e_buildSliceK (cs := (Tg.mk 2 (1 + (b[i].toNat : Int) / 9 % 6) (40000 + (b[i].toNat : Int) / 54) [] none 0 []).cells) rfl u_35 i_38 rfl rfl rfl rfl rfl) rfl ?_; rintro _ _ _ ⟨b6, rfl, rfl, rfl⟩
          refine WL.eff (e_append 1 rfl rfl (Src.row Ent.right (k := 1) rfl rfl) rfl u_35 (.inl ⟨_, u_35⟩) i_38 rfl (by rw [flat_len Tg.cells 5 Tg.len]) rfl (Tg.ones _) (by omega)) rfl ?_; rintro _ _ _ ⟨A9, c9, rfl, rfl, rfl, hc9⟩
          refine WL.q (q_assign rfl) rfl ?_
          refine WL.nil ?_
          refine AT.blk_n ?_
          refine AT.blk_n ?_
          refine AT.mid ((M ++ [(Tg.mk k1 u1 n1 t1 A1 cap1 l1)]) ++ [(Tg.mk 2 (1 + (b[i].toNat : Int) / 9 % 6) (40000 + (b[i].toNat : Int) / 54) [] none 0 [])], A9, c9, _) ⟨(by repeat (first | assumption | exact Ent.refl _ | refine Ent.left ?_)), by simp, (by simp at *; omega), (by simpa using hc9), stk (k := k) (by repeat (first | assumption | exact Ent.refl _ | refine Ent.left ?_)) hall Ent.leaf (Fr.leaf (by simp) (by omega))⟩ ⟨rfl, vsl (by simp), rfl, trivial⟩ (Imp.drop (Imp.eq ?_))
          simp [List.flatMap_append]
        · -- if 3: no
          try have p3 := of_decide_eq_false h3
          refine WC.seq ?_
          refine WC.region ?_
          refine WL.q (q_eql rfl rfl) rfl ?_
          refine WL.q (q_assign rfl) rfl ?_
          refine WL.nil ?_
          refine AT.then_n ?_
          refine WC.cond rfl (fun h4 => ?_) (fun h4 => ?_)
          · -- if 4: yes
            try have p4 := of_decide_eq_true h4
            refine WC.region ?_
            refine WL.q (q_move rfl) rfl ?_
            refine WL.q (q_move rfl) rfl ?_
            refine WL.q (q_buildL (cs := (Tg.mk 3 (1 + (b[i].toNat : Int) / 9 % 6) 0 [] none 0 []).cells) rfl pl_38 i_38 rfl rfl) rfl ?_
            refine WL.eff (e_buildSliceK (cs := (Tg.mk 3 (1 + (b[i].toNat : Int) / 9 % 6) 0 [] none 0 []).cells) rfl u_35 i_38 rfl rfl rfl rfl rfl) rfl ?_; rintro _ _ _ ⟨b8, rfl, rfl, rfl⟩
            refine WL.eff (e_append 1 rfl rfl (Src.row Ent.right (k := 1) rfl rfl) rfl u_35 (.inl ⟨_, u_35⟩) i_38 rfl (by rw [flat_len Tg.cells 5 Tg.len]) rfl (Tg.ones _) (by omega)) rfl ?_; rintro _ _ _ ⟨A9, c9, rfl, rfl, rfl, hc9⟩
            refine WL.q (q_assign rfl) rfl ?_
            refine WL.nil ?_
            refine AT.blk_n ?_
            refine AT.blk_n ?_
            refine AT.mid ((M ++ [(Tg.mk k1 u1 n1 t1 A1 cap1 l1)]) ++ [(Tg.mk 3 (1 + (b[i].toNat : Int) / 9 % 6) 0 [] none 0 [])], A9, c9, _) ⟨(by repeat (first | assumption | exact Ent.refl _ | refine Ent.left ?_)), by simp, (by simp at *; omega), (by simpa using hc9), stk (k := k) (by repeat (first | assumption | exact Ent.refl _ | refine Ent.left ?_)) hall Ent.leaf (Fr.leaf (by simp) (by omega))⟩ ⟨rfl, vsl (by simp), rfl, trivial⟩ (Imp.drop (Imp.eq ?_))
            simp [List.flatMap_append]
          · -- if 4: no
            try have p4 := of_decide_eq_false h4
            refine WC.seq ?_
            refine WC.seq ?_
            refine WC.region ?_
            refine WL.q (q_eql rfl rfl) rfl ?_
            refine WL.q (q_assign rfl) rfl ?_
            refine WL.nil ?_
            refine AT.then_n ?_
            refine WC.cond rfl (fun h5 => ?_) (fun h5 => ?_)
            · -- if 5: yes
              try have p5 := of_decide_eq_true h5
              refine WC.skip ?_
              refine AT.then_n ?_
              refine WC.condHT rfl h5 ?_
              refine WC.seq ?_
              refine WC.drawS [0, 1, 2, 3, 4, 5, 11, 12, 13] _ _ mixed (NoPan.then (NoPan.blk (NoPan.blk (NoPan.then (NoPan.then (NoPan.blk (NoPan.then NoPan.body))))))) (Imp.refl _ _) rfl ?_
              refine WD.sched [(0, 0), (1, 0), (2, 0)] false (by decide +kernel) ?_
              refine WS.q 0 rfl (q_move rfl) rfl ?_
              refine WS.q 1 rfl (q_gtr rfl rfl) rfl ?_
              refine WS.q 2 rfl (q_move rfl) rfl ?_
              refine WS.back ?_
              refine WD.split 81 rfl (fun hg17_2 => ?_) (fun hg17_2 => ?_)
              · -- guard 17.2: True
                try have hp17_2 := of_decide_eq_true hg17_2
                have hM1 : 1 ≤ M.length := by simp at hp17_2; omega
                obtain ⟨M2, y, rfl⟩ := last_of hM1
                obtain ⟨k2, u2, n2, t2, A2b, cap2, l2⟩ := y
                have hMl2 : (M2 ++ [(Tg.mk k2 u2 n2 t2 A2b cap2 l2)]).length = M2.length + 1 := by simp
                have hy1 := (hall (Tg.mk k2 u2 n2 t2 A2b cap2 l2) (by simp)).1
                have hy2 := (hall (Tg.mk k2 u2 n2 t2 A2b cap2 l2) (by simp)).2
                have hx1 := (hall (Tg.mk k1 u1 n1 t1 A1 cap1 l1) (by simp)).1
                have hx2 := (hall (Tg.mk k1 u1 n1 t1 A1 cap1 l1) (by simp)).2
                have hq1 := sz5_le 300 (Tg.mk k2 u2 n2 t2 A2b cap2 l2).er
                have hq2 := sz5_pos 300 (Tg.mk k2 u2 n2 t2 A2b cap2 l2).er
                have hq3 := hy2.cnt
                have hq4 := sz5_le 300 (Tg.mk k1 u1 n1 t1 A1 cap1 l1).er
                have hq5 := sz5_pos 300 (Tg.mk k1 u1 n1 t1 A1 cap1 l1).er
                have hq6 := hx2.cnt
                refine WD.sched [(3, 0), (4, 0), (5, 0), (6, 0), (7, 0), (9, 0), (8, 2), (10, 2), (11, 0), (12, 0), (13, 0)] true (by decide +kernel) ?_
                refine WS.qon 3 rfl rfl rfl hg17_2 (q_move rfl) rfl ?_
                refine WS.qon 4 rfl rfl rfl hg17_2 (q_move rfl) rfl ?_
                first | refine WS.qon 5 rfl rfl rfl hg17_2 (q_sub64 rfl rfl (by omega)) rfl ?_ | refine WS.qon 5 rfl rfl rfl hg17_2 (q_sub rfl rfl) rfl ?_
                refine WS.qon 6 rfl rfl rfl hg17_2 (q_indexAddr rfl rfl u_35 i_38 (Based.orow 1 rfl (by simp [Tg.len])) (by simp at *; omega)) rfl ?_
                refine WS.qon 7 rfl rfl rfl hg17_2 (q_loadA (vs := (Tg.mk k2 u2 n2 t2 A2b cap2 l2).cells) rfl a_38 i_38 (by have := Cells.orowAt (own := Pt b8 (.cells (Tg.mk k1 u1 n1 t1 A1 cap1 l1).cells.toArray 38 (0, 0)) :: ORow A2 c2 38 5 ((M2 ++ [(Tg.mk k2 u2 n2 t2 A2b cap2 l2)] ++ [(Tg.mk k1 u1 n1 t1 A1 cap1 l1)]).flatMap Tg.cells) :: own) (K := k) 1 rfl Tg.len (j := M2.length) (by simp); simpa [sel, selK] using this) (Tg.len _)) rfl ?_
                refine WS.qon 9 rfl rfl rfl hg17_2 (q_loadA rfl a_38 i_38 (Cells.pt 0 rfl) (Tg.len _)) rfl ?_
                refine WS.effon2 8 rfl rfl rfl hg17_2 (e_call rfl (c29 (Tg.mk k2 u2 n2 t2 A2b cap2 l2) (most := 300) hy1 hy2.small (by have := sz5_le 300 (Tg.mk k2 u2 n2 t2 A2b cap2 l2).er; have := hy2.cnt; omega))) rfl ?_; rintro _ _ _ ⟨rfl, rfl, rfl⟩
                refine ⟨(by first | exact (Imp.refl _ _) | exact (Imp.sub (List.Sublist.cons _ (List.Sublist.refl _))) | exact (Imp.ent (Ent.left (Ent.refl _)))), ?_⟩
                refine WS.effon2 10 rfl rfl rfl hg17_2 (e_call rfl (c29 (Tg.mk k1 u1 n1 t1 A1 cap1 l1) (most := 300) hx1 hx2.small (by have := sz5_le 300 (Tg.mk k1 u1 n1 t1 A1 cap1 l1).er; have := hx2.cnt; omega))) rfl ?_; rintro _ _ _ ⟨rfl, rfl, rfl⟩
                refine ⟨(by first | exact (Imp.refl _ _) | exact (Imp.sub (List.Sublist.cons _ (List.Sublist.refl _))) | exact (Imp.ent (Ent.left (Ent.refl _)))), ?_⟩
                first | refine WS.qon 11 rfl rfl rfl hg17_2 (q_add64 rfl rfl (by omega)) rfl ?_ | refine WS.qon 11 rfl rfl rfl hg17_2 (q_add rfl rfl) rfl ?_
                refine WS.qon 12 rfl rfl rfl hg17_2 (q_lss rfl rfl) rfl ?_
                refine WS.q 13 rfl (q_pickT rfl hg17_2 rfl) rfl ?_
                refine WS.done ?_
                refine AT.then_n ?_
                refine WC.cond rfl (fun h7 => ?_) (fun h7 => ?_)
                · -- if 7: yes
                  try have p7 := of_decide_eq_true h7
                  refine WC.seq ?_
                  refine WC.region ?_
                  refine WL.q (q_move rfl) rfl ?_
                  first | refine WL.q (q_rem0 rfl rfl (by omega)) rfl ?_
                  first | refine WL.q (q_subR (0) 255 rfl rfl rfl rfl (by omega)) rfl ?_ | refine WL.q (q_sub rfl rfl) rfl ?_
                  first | refine WL.q (q_convI (-9223372036854775808) 9223372036854775807 u_5 u_3 rfl rfl rfl (by omega)) rfl ?_ | refine WL.q (q_conv rfl u_5 u_3 rfl) rfl ?_
                  first | refine WL.q (q_mul64 rfl rfl (by omega)) rfl ?_ | refine WL.q (q_mul rfl rfl) rfl ?_
                  first | refine WL.q (q_add64 rfl rfl (by omega)) rfl ?_ | refine WL.q (q_add rfl rfl) rfl ?_
                  refine WL.q (q_assign rfl) rfl ?_
                  refine WL.nil ?_
                  refine AT.then_n ?_
                  refine WC.drawS [0, 1, 2, 3, 4, 6, 7, 8, 9, 14, 17] (Pt b8 (.cells (Tg.mk k1 u1 n1 t1 A1 cap1 l1).cells.toArray 38 (0, 0)) :: ORow A2 c2 38 5 ((M2 ++ [(Tg.mk k2 u2 n2 t2 A2b cap2 l2)] ++ [(Tg.mk k1 u1 n1 t1 A1 cap1 l1)]).flatMap Tg.cells) :: []) k mixed (NoPan.blk (NoPan.blk (NoPan.then (NoPan.then (NoPan.blk (NoPan.then NoPan.body)))))) (Imp.keepRest (List.Sublist.cons_cons _ (List.Sublist.cons_cons _ (List.nil_sublist _))) (Ent.refl _)) rfl ?_
                  refine WD.sched [(0, 0), (1, 0), (2, 0), (3, 0), (4, 0), (5, 0), (6, 0), (7, 0), (8, 0), (9, 0), (10, 0), (11, 0), (12, 0), (13, 2), (14, 0), (15, 2), (16, 2), (17, 0)] true (by decide +kernel) ?_
                  refine WS.q 0 rfl (q_move rfl) rfl ?_
                  refine WS.q 1 rfl (q_move rfl) rfl ?_
                  first | refine WS.q 2 rfl (q_sub64 rfl rfl (by omega)) rfl ?_ | refine WS.q 2 rfl (q_sub rfl rfl) rfl ?_
                  refine WS.q 3 rfl (q_move rfl) rfl ?_
                  first | refine WS.q 4 rfl (q_sub64 rfl rfl (by omega)) rfl ?_ | refine WS.q 4 rfl (q_sub rfl rfl) rfl ?_
                  refine WS.q 5 rfl (q_slice3 (h := M2.length) (m := M2.length) rfl rfl rfl u_35 i_38 (by first | omega | (simp; done) | (simp; omega)) (by first | omega | (simp; done) | (simp; omega)) (by simp at hc2; omega)) rfl ?_
                  refine WS.q 6 rfl (q_move rfl) rfl ?_
                  refine WS.q 7 rfl (q_move rfl) rfl ?_
                  refine WS.q 8 rfl (q_move rfl) rfl ?_
                  first | refine WS.q 9 rfl (q_sub64 rfl rfl (by omega)) rfl ?_ | refine WS.q 9 rfl (q_sub rfl rfl) rfl ?_
                  refine WS.q 10 rfl (q_indexAddr rfl rfl u_35 i_38 (Based.orow 1 rfl (by simp [Tg.len])) (by simp at *; omega)) rfl ?_
                  refine WS.q 11 rfl (q_loadA (vs := (Tg.mk k2 u2 n2 t2 A2b cap2 l2).cells) rfl a_38 i_38 (by have := Cells.orowAt (own := Pt b8 (.cells (Tg.mk k1 u1 n1 t1 A1 cap1 l1).cells.toArray 38 (0, 0)) :: ORow A2 c2 38 5 ((M2 ++ [(Tg.mk k2 u2 n2 t2 A2b cap2 l2)] ++ [(Tg.mk k1 u1 n1 t1 A1 cap1 l1)]).flatMap Tg.cells) :: []) (K := k) 1 rfl Tg.len (j := M2.length) (by simp); simpa [sel, selK] using this) (Tg.len _)) rfl ?_
                  refine WS.q 12 rfl (q_loadA rfl a_38 i_38 (Cells.pt 0 rfl) (Tg.len _)) rfl ?_
                  refine WS.effL 13 rfl (e_buildSliceK (cs := (Tg.mk k2 u2 n2 t2 A2b cap2 l2).cells ++ (Tg.mk k1 u1 n1 t1 A1 cap1 l1).cells) rfl u_35 i_38 rfl rfl rfl rfl rfl) rfl ?_; rintro _ _ _ ⟨b7, rfl, rfl, rfl⟩
                  refine ⟨(by first | exact Imp.keepRest (List.Sublist.cons_cons _ (List.Sublist.cons_cons _ (List.nil_sublist _))) (by repeat (first | assumption | exact Ent.refl _ | refine Ent.left ?_)) | exact Imp.keepRest (List.Sublist.cons _ (List.Sublist.cons_cons _ (List.Sublist.cons_cons _ (List.nil_sublist _)))) (by repeat (first | assumption | exact Ent.refl _ | refine Ent.left ?_))), ?_⟩
                  refine WS.q 14 rfl (q_buildL (cs := (Tg.mk (4 + 2 * ((b[i].toNat : Int) % 9 - 3)) 0 0 [] (some (ad b7 0)) 2 [(Tg.mk k2 u2 n2 t2 A2b cap2 l2), (Tg.mk k1 u1 n1 t1 A1 cap1 l1)]).cells) rfl pl_38 i_38 rfl rfl) rfl ?_
                  refine WS.effL 15 rfl (e_buildSliceK (cs := (Tg.mk (4 + 2 * ((b[i].toNat : Int) % 9 - 3)) 0 0 [] (some (ad b7 0)) 2 [(Tg.mk k2 u2 n2 t2 A2b cap2 l2), (Tg.mk k1 u1 n1 t1 A1 cap1 l1)]).cells) rfl u_35 i_38 rfl rfl rfl rfl rfl) rfl ?_; rintro _ _ _ ⟨b6, rfl, rfl, rfl⟩
                  refine ⟨(by first | exact Imp.keepRest (List.Sublist.cons_cons _ (List.Sublist.cons_cons _ (List.nil_sublist _))) (by repeat (first | assumption | exact Ent.refl _ | refine Ent.left ?_)) | exact Imp.keepRest (List.Sublist.cons _ (List.Sublist.cons_cons _ (List.Sublist.cons_cons _ (List.nil_sublist _)))) (by repeat (first | assumption | exact Ent.refl _ | refine Ent.left ?_))), ?_⟩
                  refine WS.effL 16 rfl (e_appendKeep (n := M2.length) 1 rfl rfl (Src.row Ent.right (k := 1) rfl rfl) rfl u_35 (.inl ⟨_, u_35⟩) i_38 rfl (by simp [flat_len Tg.cells 5 Tg.len]; try omega) rfl (by omega) (by omega)) rfl ?_; rintro _ _ _ ⟨A9, c9, rfl, rfl, rfl, hc9⟩
                  refine ⟨(by first | exact Imp.keepRest (List.Sublist.cons_cons _ (List.Sublist.cons_cons _ (List.nil_sublist _))) (by repeat (first | assumption | exact Ent.refl _ | refine Ent.left ?_)) | exact Imp.keepRest (List.Sublist.cons _ (List.Sublist.cons_cons _ (List.Sublist.cons_cons _ (List.nil_sublist _)))) (by repeat (first | assumption | exact Ent.refl _ | refine Ent.left ?_))), ?_⟩
                  refine WS.q 17 rfl (q_assign rfl) rfl ?_
                  refine WS.done ?_
                  refine AT.blk_n ?_
                  refine AT.blk_n ?_
                  have hsz := sz300 p7
                  refine AT.mid (M2 ++ [(Tg.mk (4 + 2 * ((b[i].toNat : Int) % 9 - 3)) 0 0 [] (some (ad b7 0)) 2 [(Tg.mk k2 u2 n2 t2 A2b cap2 l2), (Tg.mk k1 u1 n1 t1 A1 cap1 l1)])], A9, c9, _) ⟨(by repeat (first | assumption | exact Ent.refl _ | refine Ent.left ?_)), by simp, by simp at *; omega, by simpa using hc9, stk (k := k) (by repeat (first | assumption | exact Ent.refl _ | refine Ent.left ?_)) (fun y hy => hall y (List.mem_append_left _ (List.mem_append_left _ hy))) (Ent.term (by simp) (Rows.two Ent.right.left rfl (Ent.left (Ent.left hy1)) (Ent.left (Ent.left hx1)))) (Fr.two hy2 hx2 (by omega))⟩ ⟨rfl, vsl (by simp), rfl, trivial⟩ (Imp.trans (Imp.sub (List.Sublist.cons_cons _ (List.Sublist.cons _ (List.Sublist.cons _ (List.Sublist.refl _))))) (Imp.eq ?_))
                  rw [List.append_assoc, List.flatMap_append, take_flat]; simp [List.flatMap_append]
                · -- if 7: no
                  try have p7 := of_decide_eq_false h7
                  refine WC.skip ?_
                  refine AT.blk_n ?_
                  refine AT.blk_n ?_
                  refine AT.mid (M2 ++ [(Tg.mk k2 u2 n2 t2 A2b cap2 l2)] ++ [(Tg.mk k1 u1 n1 t1 A1 cap1 l1)], A2, c2, k) ⟨hk, by simp, by simp at *; omega, hc2, fun y hy => ⟨(hall y hy).1, (hall y hy).2.mono (by omega)⟩⟩ ⟨rfl, rfl, rfl, trivial⟩ (Imp.drop (Imp.eq rfl))
              · -- guard 17.2: False
                try have hp17_2 := of_decide_eq_false hg17_2
                refine WD.sched [(3, 0), (4, 0), (5, 0), (6, 0), (7, 0), (8, 0), (9, 0), (10, 0), (11, 0), (12, 0), (13, 0)] true (by decide +kernel) ?_
                refine WS.qoff 3 rfl (by simp) rfl rfl hg17_2 rfl ?_
                refine WS.qoff 4 rfl (by simp) rfl rfl hg17_2 rfl ?_
                refine WS.qoff 5 rfl (by simp) rfl rfl hg17_2 rfl ?_
                refine WS.qoff 6 rfl (by simp) rfl rfl hg17_2 rfl ?_
                refine WS.qoff 7 rfl (by simp) rfl rfl hg17_2 rfl ?_
                refine WS.qoff 8 rfl (by simp) rfl rfl hg17_2 rfl ?_
                refine WS.qoff 9 rfl (by simp) rfl rfl hg17_2 rfl ?_
                refine WS.qoff 10 rfl (by simp) rfl rfl hg17_2 rfl ?_
                refine WS.qoff 11 rfl (by simp) rfl rfl hg17_2 rfl ?_
                refine WS.qoff 12 rfl (by simp) rfl rfl hg17_2 rfl ?_
                refine WS.q 13 rfl (q_pickF rfl hg17_2 rfl) rfl ?_
                refine WS.done ?_
                refine AT.then_n ?_
                refine WC.condF rfl ?_
                refine WC.skip ?_
                refine AT.blk_n ?_
                refine AT.blk_n ?_
                refine AT.mid (M ++ [(Tg.mk k1 u1 n1 t1 A1 cap1 l1)], A2, c2, k) ⟨hk, by simp, by simp at *; omega, hc2, fun y hy => ⟨(hall y hy).1, (hall y hy).2.mono (by omega)⟩⟩ ⟨rfl, rfl, rfl, trivial⟩ (Imp.drop (Imp.eq rfl))
            · -- if 5: no
              try have p5 := of_decide_eq_false h5
              refine WC.region ?_
              refine WL.q (q_eql rfl rfl) rfl ?_
              refine WL.q (q_assign rfl) rfl ?_
              refine WL.nil ?_
              refine AT.then_n ?_
              refine WC.cond rfl (fun h6 => ?_) (fun h6 => ?_)
              · -- if 6: yes
                try have p6 := of_decide_eq_true h6
                refine WC.seq ?_
                refine WC.drawS [0, 1, 2, 3, 4, 5, 11, 12, 13] _ _ mixed (NoPan.then (NoPan.blk (NoPan.blk (NoPan.then (NoPan.then (NoPan.blk (NoPan.then NoPan.body))))))) (Imp.refl _ _) rfl ?_
                refine WD.sched [(0, 0), (1, 0), (2, 0)] false (by decide +kernel) ?_
                refine WS.q 0 rfl (q_move rfl) rfl ?_
                refine WS.q 1 rfl (q_gtr rfl rfl) rfl ?_
                refine WS.q 2 rfl (q_move rfl) rfl ?_
                refine WS.back ?_
                refine WD.split 81 rfl (fun hg17_2 => ?_) (fun hg17_2 => ?_)
                · -- guard 17.2: True
                  try have hp17_2 := of_decide_eq_true hg17_2
                  have hM1 : 1 ≤ M.length := by simp at hp17_2; omega
                  obtain ⟨M2, y, rfl⟩ := last_of hM1
                  obtain ⟨k2, u2, n2, t2, A2b, cap2, l2⟩ := y
                  have hMl2 : (M2 ++ [(Tg.mk k2 u2 n2 t2 A2b cap2 l2)]).length = M2.length + 1 := by simp
                  have hy1 := (hall (Tg.mk k2 u2 n2 t2 A2b cap2 l2) (by simp)).1
                  have hy2 := (hall (Tg.mk k2 u2 n2 t2 A2b cap2 l2) (by simp)).2
                  have hx1 := (hall (Tg.mk k1 u1 n1 t1 A1 cap1 l1) (by simp)).1
                  have hx2 := (hall (Tg.mk k1 u1 n1 t1 A1 cap1 l1) (by simp)).2
                  have hq1 := sz5_le 300 (Tg.mk k2 u2 n2 t2 A2b cap2 l2).er
                  have hq2 := sz5_pos 300 (Tg.mk k2 u2 n2 t2 A2b cap2 l2).er
                  have hq3 := hy2.cnt
                  have hq4 := sz5_le 300 (Tg.mk k1 u1 n1 t1 A1 cap1 l1).er
                  have hq5 := sz5_pos 300 (Tg.mk k1 u1 n1 t1 A1 cap1 l1).er
                  have hq6 := hx2.cnt
                  refine WD.sched [(3, 0), (4, 0), (5, 0), (6, 0), (7, 0), (9, 0), (8, 2), (10, 2), (11, 0), (12, 0), (13, 0)] true (by decide +kernel) ?_
                  refine WS.qon 3 rfl rfl rfl hg17_2 (q_move rfl) rfl ?_
                  refine WS.qon 4 rfl rfl rfl hg17_2 (q_move rfl) rfl ?_
                  first | refine WS.qon 5 rfl rfl rfl hg17_2 (q_sub64 rfl rfl (by omega)) rfl ?_ | refine WS.qon 5 rfl rfl rfl hg17_2 (q_sub rfl rfl) rfl ?_
                  refine WS.qon 6 rfl rfl rfl hg17_2 (q_indexAddr rfl rfl u_35 i_38 (Based.orow 1 rfl (by simp [Tg.len])) (by simp at *; omega)) rfl ?_
                  refine WS.qon 7 rfl rfl rfl hg17_2 (q_loadA (vs := (Tg.mk k2 u2 n2 t2 A2b cap2 l2).cells) rfl a_38 i_38 (by have := Cells.orowAt (own := Pt b8 (.cells (Tg.mk k1 u1 n1 t1 A1 cap1 l1).cells.toArray 38 (0, 0)) :: ORow A2 c2 38 5 ((M2 ++ [(Tg.mk k2 u2 n2 t2 A2b cap2 l2)] ++ [(Tg.mk k1 u1 n1 t1 A1 cap1 l1)]).flatMap Tg.cells) :: own) (K := k) 1 rfl Tg.len (j := M2.length) (by simp); simpa [sel, selK] using this) (Tg.len _)) rfl ?_
                  refine WS.qon 9 rfl rfl rfl hg17_2 (q_loadA rfl a_38 i_38 (Cells.pt 0 rfl) (Tg.len _)) rfl ?_
                  refine WS.effon2 8 rfl rfl rfl hg17_2 (e_call rfl (c29 (Tg.mk k2 u2 n2 t2 A2b cap2 l2) (most := 300) hy1 hy2.small (by have := sz5_le 300 (Tg.mk k2 u2 n2 t2 A2b cap2 l2).er; have := hy2.cnt; omega))) rfl ?_; rintro _ _ _ ⟨rfl, rfl, rfl⟩
                  refine ⟨(by first | exact (Imp.refl _ _) | exact (Imp.sub (List.Sublist.cons _ (List.Sublist.refl _))) | exact (Imp.ent (Ent.left (Ent.refl _)))), ?_⟩
                  refine WS.effon2 10 rfl rfl rfl hg17_2 (e_call rfl (c29 (Tg.mk k1 u1 n1 t1 A1 cap1 l1) (most := 300) hx1 hx2.small (by have := sz5_le 300 (Tg.mk k1 u1 n1 t1 A1 cap1 l1).er; have := hx2.cnt; omega))) rfl ?_; rintro _ _ _ ⟨rfl, rfl, rfl⟩
                  refine ⟨(by first | exact (Imp.refl _ _) | exact (Imp.sub (List.Sublist.cons _ (List.Sublist.refl _))) | exact (Imp.ent (Ent.left (Ent.refl _)))), ?_⟩
                  first | refine WS.qon 11 rfl rfl rfl hg17_2 (q_add64 rfl rfl (by omega)) rfl ?_ | refine WS.qon 11 rfl rfl rfl hg17_2 (q_add rfl rfl) rfl ?_
                  refine WS.qon 12 rfl rfl rfl hg17_2 (q_lss rfl rfl) rfl ?_
                  refine WS.q 13 rfl (q_pickT rfl hg17_2 rfl) rfl ?_
                  refine WS.done ?_
                  refine AT.then_n ?_
                  refine WC.cond rfl (fun h7 => ?_) (fun h7 => ?_)
                  · -- if 7: yes
                    try have p7 := of_decide_eq_true h7
                    refine WC.seq ?_
                    refine WC.region ?_
                    refine WL.q (q_move rfl) rfl ?_
                    first | refine WL.q (q_rem0 rfl rfl (by omega)) rfl ?_
                    first | refine WL.q (q_subR (0) 255 rfl rfl rfl rfl (by omega)) rfl ?_ | refine WL.q (q_sub rfl rfl) rfl ?_
                    first | refine WL.q (q_convI (-9223372036854775808) 9223372036854775807 u_5 u_3 rfl rfl rfl (by omega)) rfl ?_ | refine WL.q (q_conv rfl u_5 u_3 rfl) rfl ?_
                    first | refine WL.q (q_mul64 rfl rfl (by omega)) rfl ?_ | refine WL.q (q_mul rfl rfl) rfl ?_
                    first | refine WL.q (q_add64 rfl rfl (by omega)) rfl ?_ | refine WL.q (q_add rfl rfl) rfl ?_
                    refine WL.q (q_assign rfl) rfl ?_
                    refine WL.nil ?_
                    refine AT.then_n ?_
                    refine WC.drawS [0, 1, 2, 3, 4, 6, 7, 8, 9, 14, 17] (Pt b8 (.cells (Tg.mk k1 u1 n1 t1 A1 cap1 l1).cells.toArray 38 (0, 0)) :: ORow A2 c2 38 5 ((M2 ++ [(Tg.mk k2 u2 n2 t2 A2b cap2 l2)] ++ [(Tg.mk k1 u1 n1 t1 A1 cap1 l1)]).flatMap Tg.cells) :: []) k mixed (NoPan.blk (NoPan.blk (NoPan.then (NoPan.then (NoPan.blk (NoPan.then NoPan.body)))))) (Imp.keepRest (List.Sublist.cons_cons _ (List.Sublist.cons_cons _ (List.nil_sublist _))) (Ent.refl _)) rfl ?_
                    refine WD.sched [(0, 0), (1, 0), (2, 0), (3, 0), (4, 0), (5, 0), (6, 0), (7, 0), (8, 0), (9, 0), (10, 0), (11, 0), (12, 0), (13, 2), (14, 0), (15, 2), (16, 2), (17, 0)] true (by decide +kernel) ?_
                    refine WS.q 0 rfl (q_move rfl) rfl ?_
                    refine WS.q 1 rfl (q_move rfl) rfl ?_
                    first | refine WS.q 2 rfl (q_sub64 rfl rfl (by omega)) rfl ?_ | refine WS.q 2 rfl (q_sub rfl rfl) rfl ?_
                    refine WS.q 3 rfl (q_move rfl) rfl ?_
                    first | refine WS.q 4 rfl (q_sub64 rfl rfl (by omega)) rfl ?_ | refine WS.q 4 rfl (q_sub rfl rfl) rfl ?_
                    refine WS.q 5 rfl (q_slice3 (h := M2.length) (m := M2.length) rfl rfl rfl u_35 i_38 (by first | omega | (simp; done) | (simp; omega)) (by first | omega | (simp; done) | (simp; omega)) (by simp at hc2; omega)) rfl ?_
                    refine WS.q 6 rfl (q_move rfl) rfl ?_
                    refine WS.q 7 rfl (q_move rfl) rfl ?_
                    refine WS.q 8 rfl (q_move rfl) rfl ?_
                    first | refine WS.q 9 rfl (q_sub64 rfl rfl (by omega)) rfl ?_ | refine WS.q 9 rfl (q_sub rfl rfl) rfl ?_
                    refine WS.q 10 rfl (q_indexAddr rfl rfl u_35 i_38 (Based.orow 1 rfl (by simp [Tg.len])) (by simp at *; omega)) rfl ?_
                    refine WS.q 11 rfl (q_loadA (vs := (Tg.mk k2 u2 n2 t2 A2b cap2 l2).cells) rfl a_38 i_38 (by have := Cells.orowAt (own := Pt b8 (.cells (Tg.mk k1 u1 n1 t1 A1 cap1 l1).cells.toArray 38 (0, 0)) :: ORow A2 c2 38 5 ((M2 ++ [(Tg.mk k2 u2 n2 t2 A2b cap2 l2)] ++ [(Tg.mk k1 u1 n1 t1 A1 cap1 l1)]).flatMap Tg.cells) :: []) (K := k) 1 rfl Tg.len (j := M2.length) (by simp); simpa [sel, selK] using this) (Tg.len _)) rfl ?_
                    refine WS.q 12 rfl (q_loadA rfl a_38 i_38 (Cells.pt 0 rfl) (Tg.len _)) rfl ?_
                    refine WS.effL 13 rfl (e_buildSliceK (cs := (Tg.mk k2 u2 n2 t2 A2b cap2 l2).cells ++ (Tg.mk k1 u1 n1 t1 A1 cap1 l1).cells) rfl u_35 i_38 rfl rfl rfl rfl rfl) rfl ?_; rintro _ _ _ ⟨b7, rfl, rfl, rfl⟩
                    refine ⟨(by first | exact Imp.keepRest (List.Sublist.cons_cons _ (List.Sublist.cons_cons _ (List.nil_sublist _))) (by repeat (first | assumption | exact Ent.refl _ | refine Ent.left ?_)) | exact Imp.keepRest (List.Sublist.cons _ (List.Sublist.cons_cons _ (List.Sublist.cons_cons _ (List.nil_sublist _)))) (by repeat (first | assumption | exact Ent.refl _ | refine Ent.left ?_))), ?_⟩
                    refine WS.q 14 rfl (q_buildL (cs := (Tg.mk (4 + 2 * ((b[i].toNat : Int) % 9 - 3)) 0 0 [] (some (ad b7 0)) 2 [(Tg.mk k2 u2 n2 t2 A2b cap2 l2), (Tg.mk k1 u1 n1 t1 A1 cap1 l1)]).cells) rfl pl_38 i_38 rfl rfl) rfl ?_
                    refine WS.effL 15 rfl (e_buildSliceK (cs := (Tg.mk (4 + 2 * ((b[i].toNat : Int) % 9 - 3)) 0 0 [] (some (ad b7 0)) 2 [(Tg.mk k2 u2 n2 t2 A2b cap2 l2), (Tg.mk k1 u1 n1 t1 A1 cap1 l1)]).cells) rfl u_35 i_38 rfl rfl rfl rfl rfl) rfl ?_; rintro _ _ _ ⟨b6, rfl, rfl, rfl⟩
                    refine ⟨(by first | exact Imp.keepRest (List.Sublist.cons_cons _ (List.Sublist.cons_cons _ (List.nil_sublist _))) (by repeat (first | assumption | exact Ent.refl _ | refine Ent.left ?_)) | exact Imp.keepRest (List.Sublist.cons _ (List.Sublist.cons_cons _ (List.Sublist.cons_cons _ (List.nil_sublist _)))) (by repeat (first | assumption | exact Ent.refl _ | refine Ent.left ?_))), ?_⟩
                    refine WS.effL 16 rfl (e_appendKeep (n := M2.length) 1 rfl rfl (Src.row Ent.right (k := 1) rfl rfl) rfl u_35 (.inl ⟨_, u_35⟩) i_38 rfl (by simp [flat_len Tg.cells 5 Tg.len]; try omega) rfl (by omega) (by omega)) rfl ?_; rintro _ _ _ ⟨A9, c9, rfl, rfl, rfl, hc9⟩
                    refine ⟨(by first | exact Imp.keepRest (List.Sublist.cons_cons _ (List.Sublist.cons_cons _ (List.nil_sublist _))) (by repeat (first | assumption | exact Ent.refl _ | refine Ent.left ?_)) | exact Imp.keepRest (List.Sublist.cons _ (List.Sublist.cons_cons _ (List.Sublist.cons_cons _ (List.nil_sublist _)))) (by repeat (first | assumption | exact Ent.refl _ | refine Ent.left ?_))), ?_⟩
                    refine WS.q 17 rfl (q_assign rfl) rfl ?_
                    refine WS.done ?_
                    refine AT.blk_n ?_
                    refine AT.blk_n ?_
                    have hsz := sz300 p7
                    refine AT.mid (M2 ++ [(Tg.mk (4 + 2 * ((b[i].toNat : Int) % 9 - 3)) 0 0 [] (some (ad b7 0)) 2 [(Tg.mk k2 u2 n2 t2 A2b cap2 l2), (Tg.mk k1 u1 n1 t1 A1 cap1 l1)])], A9, c9, _) ⟨(by repeat (first | assumption | exact Ent.refl _ | refine Ent.left ?_)), by simp, by simp at *; omega, by simpa using hc9, stk (k := k) (by repeat (first | assumption | exact Ent.refl _ | refine Ent.left ?_)) (fun y hy => hall y (List.mem_append_left _ (List.mem_append_left _ hy))) (Ent.term (by simp) (Rows.two Ent.right.left rfl (Ent.left (Ent.left hy1)) (Ent.left (Ent.left hx1)))) (Fr.two hy2 hx2 (by omega))⟩ ⟨rfl, vsl (by simp), rfl, trivial⟩ (Imp.trans (Imp.sub (List.Sublist.cons_cons _ (List.Sublist.cons _ (List.Sublist.cons _ (List.Sublist.refl _))))) (Imp.eq ?_))
                    rw [List.append_assoc, List.flatMap_append, take_flat]; simp [List.flatMap_append]
                  · -- if 7: no
                    try have p7 := of_decide_eq_false h7
                    refine WC.skip ?_
                    refine AT.blk_n ?_
                    refine AT.blk_n ?_
                    refine AT.mid (M2 ++ [(Tg.mk k2 u2 n2 t2 A2b cap2 l2)] ++ [(Tg.mk k1 u1 n1 t1 A1 cap1 l1)], A2, c2, k) ⟨hk, by simp, by simp at *; omega, hc2, fun y hy => ⟨(hall y hy).1, (hall y hy).2.mono (by omega)⟩⟩ ⟨rfl, rfl, rfl, trivial⟩ (Imp.drop (Imp.eq rfl))
                · -- guard 17.2: False
                  try have hp17_2 := of_decide_eq_false hg17_2
                  refine WD.sched [(3, 0), (4, 0), (5, 0), (6, 0), (7, 0), (8, 0), (9, 0), (10, 0), (11, 0), (12, 0), (13, 0)] true (by decide +kernel) ?_
                  refine WS.qoff 3 rfl (by simp) rfl rfl hg17_2 rfl ?_
                  refine WS.qoff 4 rfl (by simp) rfl rfl hg17_2 rfl ?_
                  refine WS.qoff 5 rfl (by simp) rfl rfl hg17_2 rfl ?_
                  refine WS.qoff 6 rfl (by simp) rfl rfl hg17_2 rfl ?_
                  refine WS.qoff 7 rfl (by simp) rfl rfl hg17_2 rfl ?_
                  refine WS.qoff 8 rfl (by simp) rfl rfl hg17_2 rfl ?_
                  refine WS.qoff 9 rfl (by simp) rfl rfl hg17_2 rfl ?_
                  refine WS.qoff 10 rfl (by simp) rfl rfl hg17_2 rfl ?_
                  refine WS.qoff 11 rfl (by simp) rfl rfl hg17_2 rfl ?_
                  refine WS.qoff 12 rfl (by simp) rfl rfl hg17_2 rfl ?_
                  refine WS.q 13 rfl (q_pickF rfl hg17_2 rfl) rfl ?_
                  refine WS.done ?_
                  refine AT.then_n ?_
                  refine WC.condF rfl ?_
                  refine WC.skip ?_
                  refine AT.blk_n ?_
                  refine AT.blk_n ?_
                  refine AT.mid (M ++ [(Tg.mk k1 u1 n1 t1 A1 cap1 l1)], A2, c2, k) ⟨hk, by simp, by simp at *; omega, hc2, fun y hy => ⟨(hall y hy).1, (hall y hy).2.mono (by omega)⟩⟩ ⟨rfl, rfl, rfl, trivial⟩ (Imp.drop (Imp.eq rfl))
              · -- if 6: no
                try have p6 := of_decide_eq_false h6
                refine WC.seq ?_
                refine WC.region ?_
                refine WL.q (q_eql rfl rfl) rfl ?_
                refine WL.q (q_assign rfl) rfl ?_
                refine WL.nil ?_
                refine AT.then_n ?_
                refine WC.cond rfl (fun h8 => ?_) (fun h8 => ?_)
                · -- if 8: yes
                  try have p8 := of_decide_eq_true h8
                  refine WC.drawS [0, 1, 2, 3, 4, 8, 11] (Pt b8 (.cells (Tg.mk k1 u1 n1 t1 A1 cap1 l1).cells.toArray 38 (0, 0)) :: []) k mixed (NoPan.blk (NoPan.blk (NoPan.then (NoPan.then (NoPan.blk (NoPan.then NoPan.body)))))) (Imp.keepRest (List.Sublist.cons_cons _ (List.nil_sublist _)) (Ent.refl _)) rfl ?_
                  refine WD.sched [(0, 0), (1, 0), (2, 0), (3, 0), (4, 0), (5, 0), (6, 0), (7, 2), (8, 0), (9, 2), (10, 2), (11, 0)] true (by decide +kernel) ?_
                  refine WS.q 0 rfl (q_move rfl) rfl ?_
                  refine WS.q 1 rfl (q_move rfl) rfl ?_
                  first | refine WS.q 2 rfl (q_sub64 rfl rfl (by omega)) rfl ?_ | refine WS.q 2 rfl (q_sub rfl rfl) rfl ?_
                  refine WS.q 3 rfl (q_move rfl) rfl ?_
                  first | refine WS.q 4 rfl (q_sub64 rfl rfl (by omega)) rfl ?_ | refine WS.q 4 rfl (q_sub rfl rfl) rfl ?_
                  refine WS.q 5 rfl (q_slice3 (h := M.length) (m := M.length) rfl rfl rfl u_35 i_38 (by first | omega | (simp; done) | (simp; omega)) (by first | omega | (simp; done) | (simp; omega)) (by simp at hc2; omega)) rfl ?_
                  refine WS.q 6 rfl (q_loadA rfl a_38 i_38 (Cells.pt 0 rfl) (Tg.len _)) rfl ?_
                  refine WS.effL 7 rfl (e_buildSliceK (cs := (Tg.mk k1 u1 n1 t1 A1 cap1 l1).cells) rfl u_35 i_38 rfl rfl rfl rfl rfl) rfl ?_; rintro _ _ _ ⟨b7, rfl, rfl, rfl⟩
                  refine ⟨(Imp.keepRest (List.Sublist.cons_cons _ (List.nil_sublist _)) (by repeat (first | assumption | exact Ent.refl _ | refine Ent.left ?_))), ?_⟩
                  refine WS.q 8 rfl (q_buildL (cs := (Tg.mk 5 0 0 [] (some (ad b7 0)) 1 [(Tg.mk k1 u1 n1 t1 A1 cap1 l1)]).cells) rfl pl_38 i_38 rfl rfl) rfl ?_
                  refine WS.effL 9 rfl (e_buildSliceK (cs := (Tg.mk 5 0 0 [] (some (ad b7 0)) 1 [(Tg.mk k1 u1 n1 t1 A1 cap1 l1)]).cells) rfl u_35 i_38 rfl rfl rfl rfl rfl) rfl ?_; rintro _ _ _ ⟨b6, rfl, rfl, rfl⟩
                  refine ⟨(Imp.keepRest (List.Sublist.cons_cons _ (List.nil_sublist _)) (by repeat (first | assumption | exact Ent.refl _ | refine Ent.left ?_))), ?_⟩
                  refine WS.effL 10 rfl (e_appendFull (n := M.length) 1 rfl rfl (Src.row Ent.right (k := 1) rfl rfl) rfl u_35 (.inl ⟨_, u_35⟩) i_38 rfl (by simp [flat_len Tg.cells 5 Tg.len]; try omega) rfl (by omega) (by omega)) rfl ?_; rintro _ _ _ ⟨A9, c9, rfl, rfl, rfl, hc9⟩
                  refine ⟨(Imp.keepRest (List.Sublist.cons_cons _ (List.nil_sublist _)) (by repeat (first | assumption | exact Ent.refl _ | refine Ent.left ?_))), ?_⟩
                  refine WS.q 11 rfl (q_assign rfl) rfl ?_
                  refine WS.done ?_
                  refine AT.blk_n ?_
                  refine AT.blk_n ?_
                  refine AT.mid (M ++ [(Tg.mk 5 0 0 [] (some (ad b7 0)) 1 [(Tg.mk k1 u1 n1 t1 A1 cap1 l1)])], A9, c9, _) ⟨(by repeat (first | assumption | exact Ent.refl _ | refine Ent.left ?_)), by simp, (by simp at *; omega), (by simpa using hc9), stk (k := k) (by repeat (first | assumption | exact Ent.refl _ | refine Ent.left ?_)) (fun y hy => hall y (List.mem_append_left _ hy)) (Ent.term (by simp) (Rows.one Ent.right.left rfl (Ent.left (Ent.left (hall (Tg.mk k1 u1 n1 t1 A1 cap1 l1) (by simp)).1)))) (Fr.one (hall (Tg.mk k1 u1 n1 t1 A1 cap1 l1) (by simp)).2)⟩ ⟨rfl, vsl (by simp), rfl, trivial⟩ (Imp.drop (Imp.eq ?_))
                  simp [take_flat, List.flatMap_append]
                · -- if 8: no
                  try have p8 := of_decide_eq_false h8
                  refine WC.seq ?_
                  refine WC.region ?_
                  refine WL.q (q_eql rfl rfl) rfl ?_
                  refine WL.q (q_assign rfl) rfl ?_
                  refine WL.nil ?_
                  refine AT.then_n ?_
                  refine WC.cond rfl (fun h9 => ?_) (fun h9 => ?_)
                  · -- if 9: yes
                    try have p9 := of_decide_eq_true h9
                    refine WC.drawS [0, 1, 2, 3, 4, 6, 9, 12] (Pt b8 (.cells (Tg.mk k1 u1 n1 t1 A1 cap1 l1).cells.toArray 38 (0, 0)) :: []) k mixed (NoPan.blk (NoPan.blk (NoPan.then (NoPan.then (NoPan.blk (NoPan.then NoPan.body)))))) (Imp.keepRest (List.Sublist.cons_cons _ (List.nil_sublist _)) (Ent.refl _)) rfl ?_
                    refine WD.sched [(0, 0), (1, 0), (2, 0), (3, 0), (4, 0), (5, 0), (6, 0), (7, 0), (8, 2), (9, 0), (10, 2), (11, 2), (12, 0)] true (by decide +kernel) ?_
                    refine WS.q 0 rfl (q_move rfl) rfl ?_
                    refine WS.q 1 rfl (q_move rfl) rfl ?_
                    first | refine WS.q 2 rfl (q_sub64 rfl rfl (by omega)) rfl ?_ | refine WS.q 2 rfl (q_sub rfl rfl) rfl ?_
                    refine WS.q 3 rfl (q_move rfl) rfl ?_
                    first | refine WS.q 4 rfl (q_sub64 rfl rfl (by omega)) rfl ?_ | refine WS.q 4 rfl (q_sub rfl rfl) rfl ?_
                    refine WS.q 5 rfl (q_slice3 (h := M.length) (m := M.length) rfl rfl rfl u_35 i_38 (by first | omega | (simp; done) | (simp; omega)) (by first | omega | (simp; done) | (simp; omega)) (by simp at hc2; omega)) rfl ?_
                    refine WS.q 6 rfl (q_move rfl) rfl ?_
                    refine WS.q 7 rfl (q_loadA rfl a_38 i_38 (Cells.pt 0 rfl) (Tg.len _)) rfl ?_
                    refine WS.effL 8 rfl (e_buildSliceK (cs := (Tg.mk k1 u1 n1 t1 A1 cap1 l1).cells) rfl u_35 i_38 rfl rfl rfl rfl rfl) rfl ?_; rintro _ _ _ ⟨b7, rfl, rfl, rfl⟩
                    refine ⟨(Imp.keepRest (List.Sublist.cons_cons _ (List.nil_sublist _)) (by repeat (first | assumption | exact Ent.refl _ | refine Ent.left ?_))), ?_⟩
                    refine WS.q 9 rfl (q_buildL (cs := (Tg.mk 7 (1 + (b[i].toNat : Int) / 9 % 6) 0 [] (some (ad b7 0)) 1 [(Tg.mk k1 u1 n1 t1 A1 cap1 l1)]).cells) rfl pl_38 i_38 rfl rfl) rfl ?_
                    refine WS.effL 10 rfl (e_buildSliceK (cs := (Tg.mk 7 (1 + (b[i].toNat : Int) / 9 % 6) 0 [] (some (ad b7 0)) 1 [(Tg.mk k1 u1 n1 t1 A1 cap1 l1)]).cells) rfl u_35 i_38 rfl rfl rfl rfl rfl) rfl ?_; rintro _ _ _ ⟨b6, rfl, rfl, rfl⟩
                    refine ⟨(Imp.keepRest (List.Sublist.cons_cons _ (List.nil_sublist _)) (by repeat (first | assumption | exact Ent.refl _ | refine Ent.left ?_))), ?_⟩
                    refine WS.effL 11 rfl (e_appendFull (n := M.length) 1 rfl rfl (Src.row Ent.right (k := 1) rfl rfl) rfl u_35 (.inl ⟨_, u_35⟩) i_38 rfl (by simp [flat_len Tg.cells 5 Tg.len]; try omega) rfl (by omega) (by omega)) rfl ?_; rintro _ _ _ ⟨A9, c9, rfl, rfl, rfl, hc9⟩
                    refine ⟨(Imp.keepRest (List.Sublist.cons_cons _ (List.nil_sublist _)) (by repeat (first | assumption | exact Ent.refl _ | refine Ent.left ?_))), ?_⟩
                    refine WS.q 12 rfl (q_assign rfl) rfl ?_
                    refine WS.done ?_
                    refine AT.blk_n ?_
                    refine AT.blk_n ?_
                    refine AT.mid (M ++ [(Tg.mk 7 (1 + (b[i].toNat : Int) / 9 % 6) 0 [] (some (ad b7 0)) 1 [(Tg.mk k1 u1 n1 t1 A1 cap1 l1)])], A9, c9, _) ⟨(by repeat (first | assumption | exact Ent.refl _ | refine Ent.left ?_)), by simp, (by simp at *; omega), (by simpa using hc9), stk (k := k) (by repeat (first | assumption | exact Ent.refl _ | refine Ent.left ?_)) (fun y hy => hall y (List.mem_append_left _ hy)) (Ent.term (by simp) (Rows.one Ent.right.left rfl (Ent.left (Ent.left (hall (Tg.mk k1 u1 n1 t1 A1 cap1 l1) (by simp)).1)))) (Fr.one (hall (Tg.mk k1 u1 n1 t1 A1 cap1 l1) (by simp)).2)⟩ ⟨rfl, vsl (by simp), rfl, trivial⟩ (Imp.drop (Imp.eq ?_))
                    simp [take_flat, List.flatMap_append]
                  · -- if 9: no
                    try have p9 := of_decide_eq_false h9
                    refine WC.seq ?_
                    refine WC.region ?_
                    refine WL.q (q_eql rfl rfl) rfl ?_
                    refine WL.q (q_assign rfl) rfl ?_
                    refine WL.nil ?_
                    refine AT.then_n ?_
                    refine WC.cond rfl (fun h10 => ?_) (fun h10 => ?_)
                    · -- if 10: yes
                      try have p10 := of_decide_eq_true h10
                      refine WC.drawS [0, 1, 2, 3, 4, 6, 7, 8, 9, 12, 15] (Pt b8 (.cells (Tg.mk k1 u1 n1 t1 A1 cap1 l1).cells.toArray 38 (0, 0)) :: []) k mixed (NoPan.blk (NoPan.blk (NoPan.then (NoPan.then (NoPan.blk (NoPan.then NoPan.body)))))) (Imp.keepRest (List.Sublist.cons_cons _ (List.nil_sublist _)) (Ent.refl _)) rfl ?_
                      refine WD.sched [(0, 0), (1, 0), (2, 0), (3, 0), (4, 0), (5, 0), (6, 0), (7, 0), (8, 0), (9, 0), (10, 0), (11, 2), (12, 0), (13, 2), (14, 2), (15, 0)] true (by decide +kernel) ?_
                      refine WS.q 0 rfl (q_move rfl) rfl ?_
                      refine WS.q 1 rfl (q_move rfl) rfl ?_
                      first | refine WS.q 2 rfl (q_sub64 rfl rfl (by omega)) rfl ?_ | refine WS.q 2 rfl (q_sub rfl rfl) rfl ?_
                      refine WS.q 3 rfl (q_move rfl) rfl ?_
                      first | refine WS.q 4 rfl (q_sub64 rfl rfl (by omega)) rfl ?_ | refine WS.q 4 rfl (q_sub rfl rfl) rfl ?_
                      refine WS.q 5 rfl (q_slice3 (h := M.length) (m := M.length) rfl rfl rfl u_35 i_38 (by first | omega | (simp; done) | (simp; omega)) (by first | omega | (simp; done) | (simp; omega)) (by simp at hc2; omega)) rfl ?_
                      refine WS.q 6 rfl (q_move rfl) rfl ?_
                      refine WS.q 7 rfl (q_move rfl) rfl ?_
                      first | refine WS.q 8 rfl (q_convI (-9223372036854775808) 9223372036854775807 u_5 u_3 rfl rfl rfl (by omega)) rfl ?_ | refine WS.q 8 rfl (q_conv rfl u_5 u_3 rfl) rfl ?_
                      first | refine WS.q 9 rfl (q_mul64 rfl rfl (by omega)) rfl ?_ | refine WS.q 9 rfl (q_mul rfl rfl) rfl ?_
                      refine WS.q 10 rfl (q_loadA rfl a_38 i_38 (Cells.pt 0 rfl) (Tg.len _)) rfl ?_
                      refine WS.effL 11 rfl (e_buildSliceK (cs := (Tg.mk k1 u1 n1 t1 A1 cap1 l1).cells) rfl u_35 i_38 rfl rfl rfl rfl rfl) rfl ?_; rintro _ _ _ ⟨b7, rfl, rfl, rfl⟩
                      refine ⟨(Imp.keepRest (List.Sublist.cons_cons _ (List.nil_sublist _)) (by repeat (first | assumption | exact Ent.refl _ | refine Ent.left ?_))), ?_⟩
                      refine WS.q 12 rfl (q_buildL (cs := (Tg.mk 8 (1 + (b[i].toNat : Int) / 9 % 6) ((b[i].toNat : Int) * 257) [] (some (ad b7 0)) 1 [(Tg.mk k1 u1 n1 t1 A1 cap1 l1)]).cells) rfl pl_38 i_38 rfl rfl) rfl ?_
                      refine WS.effL 13 rfl (e_buildSliceK (cs := (Tg.mk 8 (1 + (b[i].toNat : Int) / 9 % 6) ((b[i].toNat : Int) * 257) [] (some (ad b7 0)) 1 [(Tg.mk k1 u1 n1 t1 A1 cap1 l1)]).cells) rfl u_35 i_38 rfl rfl rfl rfl rfl) rfl ?_; rintro _ _ _ ⟨b6, rfl, rfl, rfl⟩
                      refine ⟨(Imp.keepRest (List.Sublist.cons_cons _ (List.nil_sublist _)) (by repeat (first | assumption | exact Ent.refl _ | refine Ent.left ?_))), ?_⟩
                      refine WS.effL 14 rfl (e_appendFull (n := M.length) 1 rfl rfl (Src.row Ent.right (k := 1) rfl rfl) rfl u_35 (.inl ⟨_, u_35⟩) i_38 rfl (by simp [flat_len Tg.cells 5 Tg.len]; try omega) rfl (by omega) (by omega)) rfl ?_; rintro _ _ _ ⟨A9, c9, rfl, rfl, rfl, hc9⟩
                      refine ⟨(Imp.keepRest (List.Sublist.cons_cons _ (List.nil_sublist _)) (by repeat (first | assumption | exact Ent.refl _ | refine Ent.left ?_))), ?_⟩
                      refine WS.q 15 rfl (q_assign rfl) rfl ?_
                      refine WS.done ?_
                      refine AT.blk_n ?_
                      refine AT.blk_n ?_
                      refine AT.mid (M ++ [(Tg.mk 8 (1 + (b[i].toNat : Int) / 9 % 6) ((b[i].toNat : Int) * 257) [] (some (ad b7 0)) 1 [(Tg.mk k1 u1 n1 t1 A1 cap1 l1)])], A9, c9, _) ⟨(by repeat (first | assumption | exact Ent.refl _ | refine Ent.left ?_)), by simp, (by simp at *; omega), (by simpa using hc9), stk (k := k) (by repeat (first | assumption | exact Ent.refl _ | refine Ent.left ?_)) (fun y hy => hall y (List.mem_append_left _ hy)) (Ent.term (by simp) (Rows.one Ent.right.left rfl (Ent.left (Ent.left (hall (Tg.mk k1 u1 n1 t1 A1 cap1 l1) (by simp)).1)))) (Fr.one (hall (Tg.mk k1 u1 n1 t1 A1 cap1 l1) (by simp)).2)⟩ ⟨rfl, vsl (by simp), rfl, trivial⟩ (Imp.drop (Imp.eq ?_))
                      simp [take_flat, List.flatMap_append]
                    · -- if 10: no
                      try have p10 := of_decide_eq_false h10
                      refine WC.region ?_
                      refine WL.q (q_move rfl) rfl ?_
                      refine WL.q (q_loadA rfl a_38 i_38 (Cells.pt 0 rfl) (Tg.len _)) rfl ?_
                      refine WL.eff (e_buildSliceK (cs := (Tg.mk k1 u1 n1 t1 A1 cap1 l1).cells) rfl u_35 i_38 rfl rfl rfl rfl rfl) rfl ?_; rintro _ _ _ ⟨b6, rfl, rfl, rfl⟩
                      refine WL.eff (e_append 1 rfl rfl (Src.row Ent.right (k := 1) rfl rfl) rfl u_35 (.inl ⟨_, u_35⟩) i_38 rfl (by rw [flat_len Tg.cells 5 Tg.len]) rfl (Tg.ones _) (by omega)) rfl ?_; rintro _ _ _ ⟨A9, c9, rfl, rfl, rfl, hc9⟩
                      refine WL.q (q_assign rfl) rfl ?_
                      refine WL.nil ?_
                      refine AT.blk_n ?_
                      refine AT.blk_n ?_
                      refine AT.mid ((M ++ [(Tg.mk k1 u1 n1 t1 A1 cap1 l1)]) ++ [(Tg.mk k1 u1 n1 t1 A1 cap1 l1)], A9, c9, _) ⟨(by repeat (first | assumption | exact Ent.refl _ | refine Ent.left ?_)), by simp, (by simp at *; omega), (by simpa using hc9), stk (k := k) (by repeat (first | assumption | exact Ent.refl _ | refine Ent.left ?_)) hall (Ent.left (hall (Tg.mk k1 u1 n1 t1 A1 cap1 l1) (by simp)).1) ((hall (Tg.mk k1 u1 n1 t1 A1 cap1 l1) (by simp)).2.mono (by omega))⟩ ⟨rfl, vsl (by simp), rfl, trivial⟩ (Imp.drop (Imp.eq ?_))
                      simp [List.flatMap_append]
    · -- behind the cut
      rintro ⟨L, A2, c2, k⟩ ⟨hk, hL1, hL2, hc2, hall⟩
      simp only at hk hL1 hL2 hc2 hall ⊢
      refine WC.region ?_
      refine WL.q (q_move rfl) rfl ?_
      first | refine WL.q (q_add64 rfl rfl (by omega)) rfl ?_ | refine WL.q (q_add rfl rfl) rfl ?_
      refine WL.q (q_assign rfl) rfl ?_
      refine WL.nil ?_
      refine AT.mid (i + 1, L, A2, c2, k) ⟨⟨by first | omega | (simp only; omega), hk, hL1, by first | omega | (simp only; omega), hc2, fun y hy => ⟨(hall y hy).1, (hall y hy).2.mono (by omega)⟩⟩, by first | omega | (simp only; omega)⟩ ⟨rfl, rfl, rfl, trivial⟩ (Imp.refl _ _)
  · -- if 1: no
    try have p1 := of_decide_eq_false h1
    refine WC.exit ?_
    refine AT.then_e ?_
    refine AT.then_e ?_
    refine AT.blk_e ?_
    refine AT.then_n ?_
    refine WC.seq ?_
    refine WC.region ?_
    refine WL.q (q_move rfl) rfl ?_
    refine WL.q (q_assign rfl) rfl ?_
    refine WL.nil ?_
    refine AT.then_n ?_
    refine WC.ret ?_
    exact AT.done rfl (RO.one rfl rfl) ⟨A2, c2, L, rfl, rfl, hk, hL1, by omega, hc2, fun y hy => ⟨(hall y hy).1, (hall y hy).2.mono (by omega)⟩⟩ (Imp.refl _ _)

end Go.Proofs.Sl
