/- Layer 6: the law's own functions on terms. -/
import Derived.Test.YtimokikpnngikaaSlTerm
namespace Go.Proofs.Sl
open Go
set_option linter.unusedVariables false
set_option linter.unusedSimpArgs false

theorem q_shrZ {C : Cx} {e : Env} {own : List SP} {K : PH → Prop} {ty t u : TypeId} {x y : Operand} {k k' : IntKind} {m : Int} (n : Nat) (hx : ev e x = some (.int k m)) (hy : ev e y = some (.int k' n)) (hn : n ≤ k.bits) : QO C (.binOp .shr t x y u) ty e own K (.int k (m / 2 ^ n)) :=
  ⟨by simp, fun s w hA _ => by
    have h1 : Int.fdiv m (2 ^ n) = m / 2 ^ n := Int.fdiv_eq_ediv_of_nonneg _ (by exact Int.pow_nonneg (by omega))
    have h0 : ¬ ((n : Int) < 0) := by omega
    simp only [execOp, op0, hA.ev hx, hA.ev hy]
    simp [binOp, eqGuard, Op.shift, Nat.min_eq_left hn, h1]
    intro h; omega⟩
/-- The bytes ahead of a term's parts. -/
def hdB (k u n : Int) (t : List UInt8) : List UInt8 := [u8I k] ++ (if fieldsN k &&& 1 ≠ 0 then u8I t.length :: t else []) ++ (if fieldsN k &&& 2 ≠ 0 then [u8I u] else []) ++ (if fieldsN k &&& 4 ≠ 0 then [u8I (n / 256), u8I n] else [])
theorem putB_hd (k u n : Int) (t : List UInt8) (l : List Tm) : putB (.mk k u n t l) = hdB k u n t ++ putBL l := by rw [putB_mk]; rfl
theorem hdB_0 {k u n : Int} {t : List UInt8} (h1 : ¬ k = 1) (h2 : ¬ k = 2) (h8 : ¬ k = 8) (h3 : ¬ k = 3) (h7 : ¬ k = 7) : hdB k u n t = [u8I k] := by
  have h : fieldsN k = 16 ∨ fieldsN k = 8 ∨ fieldsN k = 0 := by unfold fieldsN; simp only [if_neg h1, if_neg h2, if_neg h8, if_neg h3, if_neg h7]; (repeat' split) <;> simp
  rcases h with h | h | h <;> simp [hdB, h]
theorem hdB_le (k u n : Int) (t : List UInt8) : (hdB k u n t).length ≤ t.length + 5 := by
  unfold hdB; (repeat' split) <;> simp <;> omega
theorem may5L_map {deep : Int} {l : List Tm} : may5L deep l = l.all (may5 deep) := by
  induction l with
  | nil => rw [may5L_nil]; rfl
  | cons x l ih => rw [may5L_cons, ih]; rfl
theorem may5_take {deep : Int} {l : List Tg} {i : Nat} (h : i < l.length) : may5L deep (erL (l.take (i + 1))) = (may5L deep (erL (l.take i)) && may5 deep l[i].er) := by
  rw [List.take_succ_eq_append_getElem h, erL_map, erL_map, List.map_append, may5L_app, List.map_cons, List.map_nil, may5L_cons, may5L_nil, Bool.and_true]
theorem may5_all {deep : Int} {l : List Tg} {i : Nat} (h : may5L deep (erL (l.take i)) = false) : may5L deep (erL l) = false := by
  have e : erL l = erL (l.take i) ++ erL (l.drop i) := by rw [erL_map, erL_map, erL_map, ← List.map_append, List.take_append_drop]
  rw [e, may5L_app, h]; rfl
theorem kids5_i (k : Int) : ((kids5 k : Nat) : Int) = if k = 4 ∨ k = 6 then 2 else if k = 5 ∨ k = 7 ∨ k = 8 then 1 else 0 := by unfold kids5; (repeat' split) <;> rfl

theorem c76 (T : Tg) : ∀ {own : List SP} {K : PH → Prop} (hT : Ent K T.ok) (hs : T.small) (hl : (putB T.er).length ≤ 1000000000), Spec Try.prog 76 [.agg T.cells.toArray] (own) (K)
    (Ret (.string (bs (putB T.er))) own K) := by
  induction T using Tg.ind with
  | h k u n t A cap l ih =>
    intro own K hT hs hl
    obtain ⟨ht, hln, htx⟩ := Tg.small_mk.1 hs
    have hrow := Ent.kids hT
    have hsz : (hdB k u n t).length + (putBL (erL l)).length ≤ 1000000000 := by
      rw [Tg.er_mk, putB_hd, ← erL_map] at hl
      simpa using hl
    have hhd := hdB_le k u n t
    refine Spec.of en_76 Try.func76 rfl rfl fun g => ?_
    refine WC.seq ?_
    refine WC.region ?_
    refine WL.eff (e_box rfl) rfl ?_; rintro _ _ _ ⟨b1, rfl, rfl, rfl⟩
    refine WL.q (q_assign rfl) rfl ?_
    refine WL.nil ?_
    refine AT.then_n ?_
    refine WC.seq ?_
    refine WC.region ?_
    refine WL.q (q_fieldAddr rfl fo_38_0) rfl ?_
    refine WL.q (q_load rfl a_3 (by first | exact Cell.ptL 0 rfl rfl | exact Cell.ptL 1 rfl rfl | exact Cell.ptL 2 rfl rfl | exact Cell.ptL 3 rfl rfl)) rfl ?_
    refine WL.q (q_convBI u_3 u_5 rfl) rfl ?_
    refine WL.eff (e_buildSliceK rfl u_23 i_5 rfl rfl rfl rfl rfl) rfl ?_; rintro _ _ _ ⟨b2, rfl, rfl, rfl⟩
    refine WL.q (q_b2sK (l := [u8I k]) rfl u_23 u_5 u_9 Ent.right) rfl ?_
    refine WL.q (q_assign rfl) rfl ?_
    refine WL.nil ?_
    refine AT.then_n ?_
    refine WC.cut (σ := Unit) (fun _ => True) (fun _ => [(3, .string (bs (hdB k u n t))), (1, .pointer (some (ad b1 0)))]) (fun _ => Pt b1 (.cells (Tg.mk k u n t A cap l).cells.toArray 38 (0, 0)) :: own) (fun _ => K) ?_ ?_
    · -- cut
      refine WC.seq ?_
      refine WC.region ?_
      refine WL.q (q_fieldAddr rfl fo_38_0) rfl ?_
      refine WL.q (q_load rfl a_3 (by first | exact Cell.ptL 0 rfl rfl | exact Cell.ptL 1 rfl rfl | exact Cell.ptL 2 rfl rfl | exact Cell.ptL 3 rfl rfl)) rfl ?_
      refine WL.nil ?_
      refine AT.then_n ?_
      refine WC.block ?_
      refine WC.seq ?_
      refine WC.region ?_
      refine WL.q (q_eql rfl rfl) rfl ?_
      refine WL.q (q_assign rfl) rfl ?_
      refine WL.nil ?_
      refine AT.then_n ?_
      refine WC.cond rfl (fun h1 => ?_) (fun h1 => ?_)
      · -- if 1: yes
        try have p1 := of_decide_eq_true h1
        refine WC.region ?_
        refine WL.q (q_move rfl) rfl ?_
        refine WL.q (q_fieldAddr rfl fo_38_3) rfl ?_
        refine WL.q (q_load rfl a_9 (by first | exact Cell.ptL 0 rfl rfl | exact Cell.ptL 1 rfl rfl | exact Cell.ptL 2 rfl rfl | exact Cell.ptL 3 rfl rfl)) rfl ?_
        first | refine WL.q (q_lenB rfl u_9) rfl ?_ | refine WL.q (q_lenS rfl u_9) rfl ?_
        refine WL.q (q_convBI u_3 u_5 rfl) rfl ?_
        refine WL.eff (e_buildSliceK rfl u_23 i_5 rfl rfl rfl rfl rfl) rfl ?_; rintro _ _ _ ⟨b3, rfl, rfl, rfl⟩
        refine WL.q (q_b2sK (l := [u8I t.length]) rfl u_23 u_5 u_9 Ent.right) rfl ?_
        refine WL.q (q_fieldAddr rfl fo_38_3) rfl ?_
        refine WL.q (q_load rfl a_9 (by first | exact Cell.ptL 0 rfl rfl | exact Cell.ptL 1 rfl rfl | exact Cell.ptL 2 rfl rfl | exact Cell.ptL 3 rfl rfl)) rfl ?_
        refine WL.q (q_addS rfl rfl (by simp only [List.length_append, List.length_cons, List.length_nil] at *; omega)) rfl ?_
        refine WL.q (q_addS rfl rfl (by simp only [List.length_append, List.length_cons, List.length_nil] at *; omega)) rfl ?_
        refine WL.q (q_assign rfl) rfl ?_
        refine WL.nil ?_
        refine AT.blk_n ?_
        refine AT.mid () trivial ⟨vstr ?_, rfl, trivial⟩ (Imp.keepRest (List.Sublist.refl _) (by repeat (first | assumption | exact Ent.refl _ | refine Ent.left ?_)))
        rw [show k = 1 from p1]; simp [hdB, fieldsN]
      · -- if 1: no
        try have p1 := of_decide_eq_false h1
        refine WC.seq ?_
        refine WC.seq ?_
        refine WC.region ?_
        refine WL.q (q_eql rfl rfl) rfl ?_
        refine WL.q (q_assign rfl) rfl ?_
        refine WL.nil ?_
        refine AT.then_n ?_
        refine WC.cond rfl (fun h2 => ?_) (fun h2 => ?_)
        · -- if 2: yes
          try have p2 := of_decide_eq_true h2
          refine WC.skip ?_
          refine AT.then_n ?_
          refine WC.condHT rfl h2 ?_
          refine WC.region ?_
          refine WL.q (q_move rfl) rfl ?_
          refine WL.q (q_fieldAddr rfl fo_38_1) rfl ?_
          refine WL.q (q_load rfl a_3 (by first | exact Cell.ptL 0 rfl rfl | exact Cell.ptL 1 rfl rfl | exact Cell.ptL 2 rfl rfl | exact Cell.ptL 3 rfl rfl)) rfl ?_
          refine WL.q (q_convBI u_3 u_5 rfl) rfl ?_
          refine WL.q (q_fieldAddr rfl fo_38_2) rfl ?_
          refine WL.q (q_load rfl a_3 (by first | exact Cell.ptL 0 rfl rfl | exact Cell.ptL 1 rfl rfl | exact Cell.ptL 2 rfl rfl | exact Cell.ptL 3 rfl rfl)) rfl ?_
          refine WL.q (q_shrZ 8 rfl rfl (by decide)) rfl ?_
          refine WL.q (q_convBI u_3 u_5 rfl) rfl ?_
          refine WL.q (q_fieldAddr rfl fo_38_2) rfl ?_
          refine WL.q (q_load rfl a_3 (by first | exact Cell.ptL 0 rfl rfl | exact Cell.ptL 1 rfl rfl | exact Cell.ptL 2 rfl rfl | exact Cell.ptL 3 rfl rfl)) rfl ?_
          refine WL.q (q_convBI u_3 u_5 rfl) rfl ?_
          refine WL.eff (e_buildSliceK rfl u_23 i_5 rfl rfl rfl rfl rfl) rfl ?_; rintro _ _ _ ⟨b4, rfl, rfl, rfl⟩
          refine WL.q (q_b2sK (l := [u8I u, u8I (n / 256), u8I n]) rfl u_23 u_5 u_9 Ent.right) rfl ?_
          refine WL.q (q_addS rfl rfl (by simp only [List.length_append, List.length_cons, List.length_nil] at *; omega)) rfl ?_
          refine WL.q (q_assign rfl) rfl ?_
          refine WL.nil ?_
          refine AT.blk_n ?_
          refine AT.mid () trivial ⟨vstr ?_, rfl, trivial⟩ (Imp.keepRest (List.Sublist.refl _) (by repeat (first | assumption | exact Ent.refl _ | refine Ent.left ?_)))
          rw [show k = 2 from p2]; simp [hdB, fieldsN]
        · -- if 2: no
          try have p2 := of_decide_eq_false h2
          refine WC.region ?_
          refine WL.q (q_eql rfl rfl) rfl ?_
          refine WL.q (q_assign rfl) rfl ?_
          refine WL.nil ?_
          refine AT.then_n ?_
          refine WC.cond rfl (fun h3 => ?_) (fun h3 => ?_)
          · -- if 3: yes
            try have p3 := of_decide_eq_true h3
            refine WC.region ?_
            refine WL.q (q_move rfl) rfl ?_
            refine WL.q (q_fieldAddr rfl fo_38_1) rfl ?_
            refine WL.q (q_load rfl a_3 (by first | exact Cell.ptL 0 rfl rfl | exact Cell.ptL 1 rfl rfl | exact Cell.ptL 2 rfl rfl | exact Cell.ptL 3 rfl rfl)) rfl ?_
            refine WL.q (q_convBI u_3 u_5 rfl) rfl ?_
            refine WL.q (q_fieldAddr rfl fo_38_2) rfl ?_
            refine WL.q (q_load rfl a_3 (by first | exact Cell.ptL 0 rfl rfl | exact Cell.ptL 1 rfl rfl | exact Cell.ptL 2 rfl rfl | exact Cell.ptL 3 rfl rfl)) rfl ?_
            refine WL.q (q_shrZ 8 rfl rfl (by decide)) rfl ?_
            refine WL.q (q_convBI u_3 u_5 rfl) rfl ?_
            refine WL.q (q_fieldAddr rfl fo_38_2) rfl ?_
            refine WL.q (q_load rfl a_3 (by first | exact Cell.ptL 0 rfl rfl | exact Cell.ptL 1 rfl rfl | exact Cell.ptL 2 rfl rfl | exact Cell.ptL 3 rfl rfl)) rfl ?_
            refine WL.q (q_convBI u_3 u_5 rfl) rfl ?_
            refine WL.eff (e_buildSliceK rfl u_23 i_5 rfl rfl rfl rfl rfl) rfl ?_; rintro _ _ _ ⟨b5, rfl, rfl, rfl⟩
            refine WL.q (q_b2sK (l := [u8I u, u8I (n / 256), u8I n]) rfl u_23 u_5 u_9 Ent.right) rfl ?_
            refine WL.q (q_addS rfl rfl (by simp only [List.length_append, List.length_cons, List.length_nil] at *; omega)) rfl ?_
            refine WL.q (q_assign rfl) rfl ?_
            refine WL.nil ?_
            refine AT.blk_n ?_
            refine AT.mid () trivial ⟨vstr ?_, rfl, trivial⟩ (Imp.keepRest (List.Sublist.refl _) (by repeat (first | assumption | exact Ent.refl _ | refine Ent.left ?_)))
            rw [show k = 8 from p3]; simp [hdB, fieldsN]
          · -- if 3: no
            try have p3 := of_decide_eq_false h3
            refine WC.seq ?_
            refine WC.seq ?_
            refine WC.region ?_
            refine WL.q (q_eql rfl rfl) rfl ?_
            refine WL.q (q_assign rfl) rfl ?_
            refine WL.nil ?_
            refine AT.then_n ?_
            refine WC.cond rfl (fun h4 => ?_) (fun h4 => ?_)
            · -- if 4: yes
              try have p4 := of_decide_eq_true h4
              refine WC.skip ?_
              refine AT.then_n ?_
              refine WC.condHT rfl h4 ?_
              refine WC.region ?_
              refine WL.q (q_move rfl) rfl ?_
              refine WL.q (q_fieldAddr rfl fo_38_1) rfl ?_
              refine WL.q (q_load rfl a_3 (by first | exact Cell.ptL 0 rfl rfl | exact Cell.ptL 1 rfl rfl | exact Cell.ptL 2 rfl rfl | exact Cell.ptL 3 rfl rfl)) rfl ?_
              refine WL.q (q_convBI u_3 u_5 rfl) rfl ?_
              refine WL.eff (e_buildSliceK rfl u_23 i_5 rfl rfl rfl rfl rfl) rfl ?_; rintro _ _ _ ⟨b6, rfl, rfl, rfl⟩
              refine WL.q (q_b2sK (l := [u8I u]) rfl u_23 u_5 u_9 Ent.right) rfl ?_
              refine WL.q (q_addS rfl rfl (by simp only [List.length_append, List.length_cons, List.length_nil] at *; omega)) rfl ?_
              refine WL.q (q_assign rfl) rfl ?_
              refine WL.nil ?_
              refine AT.blk_n ?_
              refine AT.mid () trivial ⟨vstr ?_, rfl, trivial⟩ (Imp.keepRest (List.Sublist.refl _) (by repeat (first | assumption | exact Ent.refl _ | refine Ent.left ?_)))
              rw [show k = 3 from p4]; simp [hdB, fieldsN]
            · -- if 4: no
              try have p4 := of_decide_eq_false h4
              refine WC.region ?_
              refine WL.q (q_eql rfl rfl) rfl ?_
              refine WL.q (q_assign rfl) rfl ?_
              refine WL.nil ?_
              refine AT.then_n ?_
              refine WC.cond rfl (fun h5 => ?_) (fun h5 => ?_)
              · -- if 5: yes
                try have p5 := of_decide_eq_true h5
                refine WC.region ?_
                refine WL.q (q_move rfl) rfl ?_
                refine WL.q (q_fieldAddr rfl fo_38_1) rfl ?_
                refine WL.q (q_load rfl a_3 (by first | exact Cell.ptL 0 rfl rfl | exact Cell.ptL 1 rfl rfl | exact Cell.ptL 2 rfl rfl | exact Cell.ptL 3 rfl rfl)) rfl ?_
                refine WL.q (q_convBI u_3 u_5 rfl) rfl ?_
                refine WL.eff (e_buildSliceK rfl u_23 i_5 rfl rfl rfl rfl rfl) rfl ?_; rintro _ _ _ ⟨b7, rfl, rfl, rfl⟩
                refine WL.q (q_b2sK (l := [u8I u]) rfl u_23 u_5 u_9 Ent.right) rfl ?_
                refine WL.q (q_addS rfl rfl (by simp only [List.length_append, List.length_cons, List.length_nil] at *; omega)) rfl ?_
                refine WL.q (q_assign rfl) rfl ?_
                refine WL.nil ?_
                refine AT.blk_n ?_
                refine AT.mid () trivial ⟨vstr ?_, rfl, trivial⟩ (Imp.keepRest (List.Sublist.refl _) (by repeat (first | assumption | exact Ent.refl _ | refine Ent.left ?_)))
                rw [show k = 7 from p5]; simp [hdB, fieldsN]
              · -- if 5: no
                try have p5 := of_decide_eq_false h5
                refine WC.skip ?_
                refine AT.blk_n ?_
                refine AT.mid () trivial ⟨vstr ?_, rfl, trivial⟩ (Imp.keepRest (List.Sublist.refl _) (by repeat (first | assumption | exact Ent.refl _ | refine Ent.left ?_)))
                exact (hdB_0 p1 p2 p3 p4 p5).symm
    · -- behind the cut
      rintro _ -
      refine WC.seq ?_
      refine WC.seq ?_
      refine WC.region ?_
      refine WL.q (q_fieldAddr rfl fo_38_4) rfl ?_
      refine WL.q (q_load rfl a_35 (by first | exact Cell.ptL 0 rfl rfl | exact Cell.ptL 1 rfl rfl | exact Cell.ptL 2 rfl rfl | exact Cell.ptL 3 rfl rfl)) rfl ?_
      refine WL.q (q_len rfl u_35) rfl ?_
      refine WL.q (q_move rfl) rfl ?_
      refine WL.nil ?_
      refine AT.then_n ?_
      refine WC.block ?_
      refine WC.loop (σ := Nat) (fun i => i ≤ l.length) (fun i => [(56, .int .i64 i), (54, .slice A l.length cap), (55, .int .i64 l.length), (3, .string (bs (hdB k u n t ++ putBL (erL (l.take i)))))]) (fun i => Pt b1 (.cells (Tg.mk k u n t A cap l).cells.toArray 38 (0, 0)) :: own) (fun _ => K) (fun i => l.length - i) 0 (by omega) ⟨rfl, rfl, rfl, vstr (by simp [erL, putBL]), trivial⟩ (Imp.refl _ _) ?_
      rintro i hi
      refine WC.seq ?_
      refine WC.region ?_
      refine WL.q (q_lss rfl rfl) rfl ?_
      refine WL.nil ?_
      refine AT.then_n ?_
      refine WC.seq ?_
      refine WC.cond rfl (fun h6 => ?_) (fun h6 => ?_)
      · -- if 6: yes
        try have p6 := of_decide_eq_true h6
        have hlt : i < l.length := by omega
        have hnext := putBL_take hlt
        have hle := putBL_le hlt
        refine WC.skip ?_
        refine AT.then_n ?_
        refine WC.seq ?_
        refine WC.block ?_
        refine WC.seq ?_
        refine WC.region ?_
        refine WL.q (q_indexAddr rfl rfl u_35 i_38 (Based.row hrow.row (by rw [flat_len Tg.cells 5 Tg.len]; omega)) (by omega)) rfl ?_
        refine WL.q (q_loadA rfl a_38 i_38 (Cells.at hrow.row Tg.len hlt) (Tg.len _)) rfl ?_
        refine WL.eff (e_alloc i_38) rfl ?_; rintro _ _ _ ⟨b8, rfl, rfl, rfl⟩
        refine WL.effn (e_storeAll 0 rfl rfl rfl i_38 rfl (Tg.len _) (by simp [Value.cells]) (Tg.ones _)) ?_; rintro _ _ _ ⟨rfl, rfl, rfl⟩
        refine WL.nil ?_
        refine AT.then_n ?_
        refine WC.region ?_
        refine WL.q (q_move rfl) rfl ?_
        refine WL.q (q_loadA rfl a_38 i_38 (Cells.pt 0 rfl) (Tg.len _)) rfl ?_
        refine WL.eff (e_call rfl (ih _ (List.getElem_mem hlt) (hrow.ok _ (List.getElem_mem hlt)) (htx _ (List.getElem_mem hlt)) (by omega))) rfl ?_; rintro _ _ _ ⟨rfl, rfl, rfl⟩
        refine WL.q (q_addS rfl rfl (by simp only [List.length_append, List.length_cons, List.length_nil] at *; omega)) rfl ?_
        refine WL.q (q_assign rfl) rfl ?_
        refine WL.nil ?_
        refine AT.blk_n ?_
        refine AT.then_n ?_
        refine WC.region ?_
        first | refine WL.q (q_add64 rfl rfl (by omega)) rfl ?_ | refine WL.q (q_add rfl rfl) rfl ?_
        refine WL.q (q_move rfl) rfl ?_
        refine WL.nil ?_
        refine AT.mid (i + 1) ⟨by omega, by omega⟩ ⟨rfl, rfl, rfl, vstr (by rw [hnext, List.append_assoc]), trivial⟩ (Imp.drop (Imp.refl _ _))
      · -- if 6: no
        try have p6 := of_decide_eq_false h6
        refine WC.exit ?_
        refine AT.then_e ?_
        refine AT.then_e ?_
        refine AT.blk_e ?_
        refine AT.then_n ?_
        refine WC.seq ?_
        refine WC.region ?_
        refine WL.q (q_move rfl) rfl ?_
        refine WL.q (q_assign rfl) rfl ?_
        refine WL.nil ?_
        refine AT.then_n ?_
        refine WC.ret ?_
        have hi2 : i = l.length := by omega
        subst hi2
        rw [List.take_length]
        exact AT.done rfl (RO.one rfl rfl) ⟨by rw [Tg.er_mk, putB_hd, erL_map], rfl, rfl⟩ (Imp.drop (Imp.refl _ _))

theorem c29 (T : Tg) : ∀ {own : List SP} {K : PH → Prop} {most : Int} (hT : Ent K T.ok) (hs : T.small) (hl : sz5 most T.er ≤ 1000000000), Spec Try.prog 29 [.agg T.cells.toArray, .int .i64 most] (own) (K)
    (Ret (.int .i64 (sz5 most T.er)) own K) := by
  induction T using Tg.ind with
  | h k u n t A cap l ih =>
    intro own K most hT hs hl
    obtain ⟨ht, hln, htx⟩ := Tg.small_mk.1 hs
    have hrow := Ent.kids hT
    rw [Tg.er_mk, sz5_mk, ← erL_map] at hl ⊢
    refine Spec.of en_29 Try.func29 rfl rfl fun g => ?_
    refine WC.seq ?_
    refine WC.region ?_
    refine WL.eff (e_box rfl) rfl ?_; rintro _ _ _ ⟨b1, rfl, rfl, rfl⟩
    refine WL.q (q_assign rfl) rfl ?_
    refine WL.nil ?_
    refine AT.then_n ?_
    refine WC.seq ?_
    refine WC.region ?_
    refine WL.q (q_assign rfl) rfl ?_
    refine WL.nil ?_
    refine AT.then_n ?_
    refine WC.seq ?_
    refine WC.seq ?_
    refine WC.region ?_
    refine WL.q (q_fieldAddr rfl fo_38_4) rfl ?_
    refine WL.q (q_load rfl a_35 (by first | exact Cell.ptL 0 rfl rfl | exact Cell.ptL 1 rfl rfl | exact Cell.ptL 2 rfl rfl | exact Cell.ptL 3 rfl rfl)) rfl ?_
    refine WL.q (q_len rfl u_35) rfl ?_
    refine WL.q (q_move rfl) rfl ?_
    refine WL.nil ?_
    refine AT.then_n ?_
    refine WC.block ?_
    refine WC.loop (σ := Nat × Int) (fun ⟨i, m⟩ => i ≤ l.length ∧ 1 ≤ m ∧ sz5L most m (erL (l.drop i)) = sz5L most 1 (erL l)) (fun ⟨i, m⟩ => [(11, .int .i64 i), (9, .slice A l.length cap), (10, .int .i64 l.length), (5, .int .i64 m), (1, .int .i64 most)]) (fun _ => Pt b1 (.cells (Tg.mk k u n t A cap l).cells.toArray 38 (0, 0)) :: own) (fun _ => K) (fun ⟨i, _⟩ => l.length - i) (0, 1) ⟨by omega, by omega, by simp⟩ ⟨rfl, rfl, rfl, rfl, rfl, trivial⟩ (Imp.refl _ _) ?_
    rintro ⟨i, m⟩ ⟨hi, hm, hq⟩
    simp only at hi hm hq ⊢
    refine WC.seq ?_
    refine WC.region ?_
    refine WL.q (q_lss rfl rfl) rfl ?_
    refine WL.nil ?_
    refine AT.then_n ?_
    refine WC.seq ?_
    refine WC.cond rfl (fun h1 => ?_) (fun h1 => ?_)
    · -- if 1: yes
      try have p1 := of_decide_eq_true h1
      have hlt : i < l.length := by omega
      have hq : (if m > most then m else sz5L most (m + sz5 most l[i].er) (erL (l.drop (i + 1)))) = sz5L most 1 (erL l) := by rw [← sz5L_cons, ← hq, List.drop_eq_getElem_cons hlt, erL]
      refine WC.skip ?_
      refine AT.then_n ?_
      refine WC.seq ?_
      refine WC.block ?_
      refine WC.seq ?_
      refine WC.region ?_
      refine WL.q (q_indexAddr rfl rfl u_35 i_38 (Based.row hrow.row (by rw [flat_len Tg.cells 5 Tg.len]; omega)) (by omega)) rfl ?_
      refine WL.q (q_loadA rfl a_38 i_38 (Cells.at hrow.row Tg.len hlt) (Tg.len _)) rfl ?_
      refine WL.eff (e_alloc i_38) rfl ?_; rintro _ _ _ ⟨b2, rfl, rfl, rfl⟩
      refine WL.effn (e_storeAll 0 rfl rfl rfl i_38 rfl (Tg.len _) (by simp [Value.cells]) (Tg.ones _)) ?_; rintro _ _ _ ⟨rfl, rfl, rfl⟩
      refine WL.nil ?_
      refine AT.then_n ?_
      refine WC.seq ?_
      refine WC.seq ?_
      refine WC.region ?_
      refine WL.q (q_move rfl) rfl ?_
      refine WL.q (q_move rfl) rfl ?_
      refine WL.q (q_gtr rfl rfl) rfl ?_
      refine WL.nil ?_
      refine AT.then_n ?_
      refine WC.cond rfl (fun h2 => ?_) (fun h2 => ?_)
      · -- if 2: yes
        try have p2 := of_decide_eq_true h2
        rw [if_pos (by omega)] at hq
        refine WC.exit ?_
        refine AT.then_e ?_
        refine AT.blk_x rfl ?_
        refine AT.then_e ?_
        refine AT.then_e ?_
        refine AT.blk_e ?_
        refine AT.then_n ?_
        refine WC.seq ?_
        refine WC.region ?_
        refine WL.q (q_move rfl) rfl ?_
        refine WL.q (q_assign rfl) rfl ?_
        refine WL.nil ?_
        refine AT.then_n ?_
        refine WC.ret ?_
        exact AT.done rfl (RO.one rfl rfl) ⟨by rw [← hq], rfl, rfl⟩ (by first | exact Imp.drop (Imp.drop (Imp.refl _ _)) | exact Imp.drop (Imp.refl _ _))
      · -- if 2: no
        try have p2 := of_decide_eq_false h2
        rw [if_neg (by omega)] at hq
        have hq2 := hq
        have hge := sz5L_ge most (m + sz5 most l[i].er) (erL (l.drop (i + 1)))
        have hpos := sz5_pos most l[i].er
        refine WC.skip ?_
        refine AT.then_n ?_
        refine WC.region ?_
        refine WL.q (q_move rfl) rfl ?_
        refine WL.q (q_loadA rfl a_38 i_38 (Cells.pt 0 rfl) (Tg.len _)) rfl ?_
        refine WL.q (q_move rfl) rfl ?_
        refine WL.eff (e_call rfl (ih _ (List.getElem_mem hlt) (hrow.ok _ (List.getElem_mem hlt)) (htx _ (List.getElem_mem hlt)) (by omega))) rfl ?_; rintro _ _ _ ⟨rfl, rfl, rfl⟩
        first | refine WL.q (q_add64 rfl rfl (by omega)) rfl ?_ | refine WL.q (q_add rfl rfl) rfl ?_
        refine WL.q (q_assign rfl) rfl ?_
        refine WL.nil ?_
        refine AT.blk_n ?_
        refine AT.then_n ?_
        refine WC.region ?_
        first | refine WL.q (q_add64 rfl rfl (by omega)) rfl ?_ | refine WL.q (q_add rfl rfl) rfl ?_
        refine WL.q (q_move rfl) rfl ?_
        refine WL.nil ?_
        refine AT.mid (i + 1, m + sz5 most l[i].er) ⟨⟨by simp only; omega, by simp only; omega, hq2⟩, by simp only; omega⟩ ⟨rfl, rfl, rfl, rfl, rfl, trivial⟩ (Imp.drop (Imp.refl _ _))
    · -- if 1: no
      try have p1 := of_decide_eq_false h1
      rw [List.drop_eq_nil_of_le (by omega), erL, sz5L_nil] at hq
      refine WC.exit ?_
      refine AT.then_e ?_
      refine AT.then_e ?_
      refine AT.blk_e ?_
      refine AT.then_n ?_
      refine WC.seq ?_
      refine WC.region ?_
      refine WL.q (q_move rfl) rfl ?_
      refine WL.q (q_assign rfl) rfl ?_
      refine WL.nil ?_
      refine AT.then_n ?_
      refine WC.ret ?_
      exact AT.done rfl (RO.one rfl rfl) ⟨by rw [← hq], rfl, rfl⟩ (by first | exact Imp.drop (Imp.drop (Imp.refl _ _)) | exact Imp.drop (Imp.refl _ _))

theorem c30 (T : Tg) : ∀ {own : List SP} {K : PH → Prop} {deep : Int} (hT : Ent K T.ok) (hs : T.small) (hd : 0 ≤ deep ∧ deep ≤ 60), Spec Try.prog 30 [.agg T.cells.toArray, .int .i64 deep] (own) (K)
    (Ret (.bool (may5 deep T.er)) own K) := by
  induction T using Tg.ind with
  | h k u n t A cap l ih =>
    intro own K deep hT hs hd
    obtain ⟨ht, hln, htx⟩ := Tg.small_mk.1 hs
    have hrow := Ent.kids hT
    rw [Tg.er_mk, may5_mk, List.length_map, ← erL_map]
    refine Spec.of en_30 Try.func30 rfl rfl fun g => ?_
    refine WC.seq ?_
    refine WC.region ?_
    refine WL.eff (e_box rfl) rfl ?_; rintro _ _ _ ⟨b1, rfl, rfl, rfl⟩
    refine WL.q (q_assign rfl) rfl ?_
    refine WL.nil ?_
    refine AT.then_n ?_
    refine WC.seq ?_
    refine WC.region ?_
    refine WL.q (q_assign rfl) rfl ?_
    refine WL.q (q_assign rfl) rfl ?_
    refine WL.q (q_assign rfl) rfl ?_
    refine WL.q (q_assign rfl) rfl ?_
    refine WL.nil ?_
    refine AT.then_n ?_
    refine WC.cut (σ := Unit) (fun _ => 1 ≤ k ∧ k ≤ 8) (fun _ => [(5, .int .i64 (kids5 k)), (6, .bool (user5 k)), (7, .bool (num5 k)), (8, .bool (text5 k)), (1, .int .i64 deep), (2, .pointer (some (ad b1 0)))]) (fun _ => Pt b1 (.cells (Tg.mk k u n t A cap l).cells.toArray 38 (0, 0)) :: own) (fun _ => K) ?_ ?_
    · -- cut
      refine WC.seq ?_
      refine WC.region ?_
      refine WL.q (q_fieldAddr rfl fo_38_0) rfl ?_
      refine WL.q (q_load rfl a_3 (by first | exact Cell.ptL 0 rfl rfl | exact Cell.ptL 1 rfl rfl | exact Cell.ptL 2 rfl rfl | exact Cell.ptL 3 rfl rfl)) rfl ?_
      refine WL.nil ?_
      refine AT.then_n ?_
      refine WC.block ?_
      refine WC.seq ?_
      refine WC.region ?_
      refine WL.q (q_eql rfl rfl) rfl ?_
      refine WL.q (q_assign rfl) rfl ?_
      refine WL.nil ?_
      refine AT.then_n ?_
      refine WC.cond rfl (fun h1 => ?_) (fun h1 => ?_)
      · -- if 1: yes
        try have p1 := of_decide_eq_true h1
        refine WC.region ?_
        refine WL.q (q_assign rfl) rfl ?_
        refine WL.nil ?_
        refine AT.blk_n ?_
        refine AT.mid () ⟨by omega, by omega⟩ ⟨vint (by rw [kids5_i]; (repeat' split) <;> omega), vbool (by simp [user5]; omega), vbool (by simp [num5]; omega), vbool (by simp [text5]; omega), rfl, rfl, trivial⟩ (Imp.refl _ _)
      · -- if 1: no
        try have p1 := of_decide_eq_false h1
        refine WC.seq ?_
        refine WC.region ?_
        refine WL.q (q_eql rfl rfl) rfl ?_
        refine WL.q (q_assign rfl) rfl ?_
        refine WL.nil ?_
        refine AT.then_n ?_
        refine WC.cond rfl (fun h2 => ?_) (fun h2 => ?_)
        · -- if 2: yes
          try have p2 := of_decide_eq_true h2
          refine WC.region ?_
          refine WL.q (q_assign rfl) rfl ?_
          refine WL.q (q_assign rfl) rfl ?_
          refine WL.nil ?_
          refine AT.blk_n ?_
          refine AT.mid () ⟨by omega, by omega⟩ ⟨vint (by rw [kids5_i]; (repeat' split) <;> omega), vbool (by simp [user5]; omega), vbool (by simp [num5]; omega), vbool (by simp [text5]; omega), rfl, rfl, trivial⟩ (Imp.refl _ _)
        · -- if 2: no
          try have p2 := of_decide_eq_false h2
          refine WC.seq ?_
          refine WC.region ?_
          refine WL.q (q_eql rfl rfl) rfl ?_
          refine WL.q (q_assign rfl) rfl ?_
          refine WL.nil ?_
          refine AT.then_n ?_
          refine WC.cond rfl (fun h3 => ?_) (fun h3 => ?_)
          · -- if 3: yes
            try have p3 := of_decide_eq_true h3
            refine WC.region ?_
            refine WL.q (q_assign rfl) rfl ?_
            refine WL.nil ?_
            refine AT.blk_n ?_
            refine AT.mid () ⟨by omega, by omega⟩ ⟨vint (by rw [kids5_i]; (repeat' split) <;> omega), vbool (by simp [user5]; omega), vbool (by simp [num5]; omega), vbool (by simp [text5]; omega), rfl, rfl, trivial⟩ (Imp.refl _ _)
          · -- if 3: no
            try have p3 := of_decide_eq_false h3
            refine WC.seq ?_
            refine WC.seq ?_
            refine WC.region ?_
            refine WL.q (q_eql rfl rfl) rfl ?_
            refine WL.q (q_assign rfl) rfl ?_
            refine WL.nil ?_
            refine AT.then_n ?_
            refine WC.cond rfl (fun h4 => ?_) (fun h4 => ?_)
            · -- if 4: yes
              try have p4 := of_decide_eq_true h4
              refine WC.skip ?_
              refine AT.then_n ?_
              refine WC.condHT rfl h4 ?_
              refine WC.region ?_
              refine WL.q (q_assign rfl) rfl ?_
              refine WL.nil ?_
              refine AT.blk_n ?_
              refine AT.mid () ⟨by omega, by omega⟩ ⟨vint (by rw [kids5_i]; (repeat' split) <;> omega), vbool (by simp [user5]; omega), vbool (by simp [num5]; omega), vbool (by simp [text5]; omega), rfl, rfl, trivial⟩ (Imp.refl _ _)
            · -- if 4: no
              try have p4 := of_decide_eq_false h4
              refine WC.region ?_
              refine WL.q (q_eql rfl rfl) rfl ?_
              refine WL.q (q_assign rfl) rfl ?_
              refine WL.nil ?_
              refine AT.then_n ?_
              refine WC.cond rfl (fun h5 => ?_) (fun h5 => ?_)
              · -- if 5: yes
                try have p5 := of_decide_eq_true h5
                refine WC.region ?_
                refine WL.q (q_assign rfl) rfl ?_
                refine WL.nil ?_
                refine AT.blk_n ?_
                refine AT.mid () ⟨by omega, by omega⟩ ⟨vint (by rw [kids5_i]; (repeat' split) <;> omega), vbool (by simp [user5]; omega), vbool (by simp [num5]; omega), vbool (by simp [text5]; omega), rfl, rfl, trivial⟩ (Imp.refl _ _)
              · -- if 5: no
                try have p5 := of_decide_eq_false h5
                refine WC.seq ?_
                refine WC.region ?_
                refine WL.q (q_eql rfl rfl) rfl ?_
                refine WL.q (q_assign rfl) rfl ?_
                refine WL.nil ?_
                refine AT.then_n ?_
                refine WC.cond rfl (fun h6 => ?_) (fun h6 => ?_)
                · -- if 6: yes
                  try have p6 := of_decide_eq_true h6
                  refine WC.region ?_
                  refine WL.q (q_assign rfl) rfl ?_
                  refine WL.nil ?_
                  refine AT.blk_n ?_
                  refine AT.mid () ⟨by omega, by omega⟩ ⟨vint (by rw [kids5_i]; (repeat' split) <;> omega), vbool (by simp [user5]; omega), vbool (by simp [num5]; omega), vbool (by simp [text5]; omega), rfl, rfl, trivial⟩ (Imp.refl _ _)
                · -- if 6: no
                  try have p6 := of_decide_eq_false h6
                  refine WC.seq ?_
                  refine WC.region ?_
                  refine WL.q (q_eql rfl rfl) rfl ?_
                  refine WL.q (q_assign rfl) rfl ?_
                  refine WL.nil ?_
                  refine AT.then_n ?_
                  refine WC.cond rfl (fun h7 => ?_) (fun h7 => ?_)
                  · -- if 7: yes
                    try have p7 := of_decide_eq_true h7
                    refine WC.region ?_
                    refine WL.q (q_assign rfl) rfl ?_
                    refine WL.q (q_assign rfl) rfl ?_
                    refine WL.nil ?_
                    refine AT.blk_n ?_
                    refine AT.mid () ⟨by omega, by omega⟩ ⟨vint (by rw [kids5_i]; (repeat' split) <;> omega), vbool (by simp [user5]; omega), vbool (by simp [num5]; omega), vbool (by simp [text5]; omega), rfl, rfl, trivial⟩ (Imp.refl _ _)
                  · -- if 7: no
                    try have p7 := of_decide_eq_false h7
                    refine WC.seq ?_
                    refine WC.region ?_
                    refine WL.q (q_eql rfl rfl) rfl ?_
                    refine WL.q (q_assign rfl) rfl ?_
                    refine WL.nil ?_
                    refine AT.then_n ?_
                    refine WC.cond rfl (fun h8 => ?_) (fun h8 => ?_)
                    · -- if 8: yes
                      try have p8 := of_decide_eq_true h8
                      refine WC.region ?_
                      refine WL.q (q_assign rfl) rfl ?_
                      refine WL.q (q_assign rfl) rfl ?_
                      refine WL.q (q_assign rfl) rfl ?_
                      refine WL.nil ?_
                      refine AT.blk_n ?_
                      refine AT.mid () ⟨by omega, by omega⟩ ⟨vint (by rw [kids5_i]; (repeat' split) <;> omega), vbool (by simp [user5]; omega), vbool (by simp [num5]; omega), vbool (by simp [text5]; omega), rfl, rfl, trivial⟩ (Imp.refl _ _)
                    · -- if 8: no
                      try have p8 := of_decide_eq_false h8
                      refine WC.seq ?_
                      refine WC.region ?_
                      refine WL.q (q_assign rfl) rfl ?_
                      refine WL.nil ?_
                      refine AT.then_n ?_
                      refine WC.ret ?_
                      refine AT.blk_r ?_
                      refine AT.then_r ?_
                      exact AT.done rfl (RO.one rfl rfl) ⟨congrArg Value.bool (by rw [plain5, decide_eq_false (p := 1 ≤ k ∧ k ≤ 8) (by omega)]; simp), rfl, rfl⟩ (Imp.drop (Imp.refl _ _))
    · -- behind the cut
      rintro _ hk
      refine WC.seq ?_
      refine WC.region ?_
      refine WLy.enter ?_
      refine WLy.q (q_move rfl) rfl rfl ?_
      refine WLy.q (q_lss rfl rfl) rfl rfl ?_
      refine WLy.q (q_move rfl) rfl rfl ?_
      refine WLy.open0 2 30 true rfl rfl ?_
      refine WLy.qg 0 rfl rfl rfl (q_fieldAddr rfl fo_38_4) rfl rfl rfl ?_
      refine WLy.qg 0 rfl rfl rfl (q_load rfl a_35 (by first | exact Cell.ptL 0 rfl rfl | exact Cell.ptL 1 rfl rfl | exact Cell.ptL 2 rfl rfl | exact Cell.ptL 3 rfl rfl)) rfl rfl rfl ?_
      refine WLy.qg 0 rfl rfl rfl (q_len rfl u_35) rfl rfl rfl ?_
      refine WLy.qg 0 rfl rfl rfl (q_move rfl) rfl rfl rfl ?_
      refine WLy.qg 0 rfl rfl rfl (q_eql rfl rfl) rfl rfl rfl ?_
      refine WLy.and0 0 rfl rfl rfl rfl rfl rfl rfl ?_
      refine WLy.q (q_move rfl) rfl rfl ?_
      refine WLy.open0 9 37 true rfl rfl ?_
      refine WLy.qg 0 rfl rfl rfl (q_fieldAddr rfl fo_38_3) rfl rfl rfl ?_
      refine WLy.qg 0 rfl rfl rfl (q_load rfl a_9 (by first | exact Cell.ptL 0 rfl rfl | exact Cell.ptL 1 rfl rfl | exact Cell.ptL 2 rfl rfl | exact Cell.ptL 3 rfl rfl)) rfl rfl rfl ?_
      first | refine WLy.qg 0 rfl rfl rfl (q_lenB rfl u_9) rfl rfl rfl ?_ | refine WLy.qg 0 rfl rfl rfl (q_lenS rfl u_9) rfl rfl rfl ?_
      refine WLy.qg 0 rfl rfl rfl (q_leq rfl rfl) rfl rfl rfl ?_
      refine WLy.and0 0 rfl rfl rfl rfl rfl rfl rfl ?_
      refine WLy.q (q_move rfl) rfl rfl ?_
      refine WLy.open0 15 43 true rfl rfl ?_
      refine WLy.qg 0 rfl rfl rfl (q_move rfl) rfl rfl rfl ?_
      refine WLy.qg 0 rfl rfl rfl (q_move rfl) rfl rfl rfl ?_
      refine WLy.openN 0 17 45 false rfl rfl rfl ?_
      refine WLy.qg 0 rfl rfl rfl (q_fieldAddr rfl fo_38_3) rfl rfl rfl ?_
      refine WLy.qg 0 rfl rfl rfl (q_load rfl a_9 (by first | exact Cell.ptL 0 rfl rfl | exact Cell.ptL 1 rfl rfl | exact Cell.ptL 2 rfl rfl | exact Cell.ptL 3 rfl rfl)) rfl rfl rfl ?_
      refine WLy.qg 0 rfl rfl rfl (q_eqlS rfl rfl) rfl rfl rfl ?_
      refine WLy.pickN 1 rfl rfl rfl rfl rfl rfl (orP 1 0 rfl rfl rfl rfl rfl rfl) ?_
      refine WLy.and0 1 rfl rfl rfl rfl rfl rfl rfl ?_
      refine WLy.q (q_move rfl) rfl rfl ?_
      refine WLy.open0 23 51 true rfl rfl ?_
      refine WLy.qg 0 rfl rfl rfl (q_move rfl) rfl rfl rfl ?_
      refine WLy.qg 0 rfl rfl rfl (q_move rfl) rfl rfl rfl ?_
      refine WLy.openN 0 25 53 true rfl rfl rfl ?_
      refine WLy.qg 0 rfl rfl rfl (q_fieldAddr rfl fo_38_1) rfl rfl rfl ?_
      refine WLy.qg 0 rfl rfl rfl (q_load rfl a_3 (by first | exact Cell.ptL 0 rfl rfl | exact Cell.ptL 1 rfl rfl | exact Cell.ptL 2 rfl rfl | exact Cell.ptL 3 rfl rfl)) rfl rfl rfl ?_
      refine WLy.qg 0 rfl rfl rfl (q_geq rfl rfl) rfl rfl rfl ?_
      refine WLy.pickN 1 rfl rfl rfl rfl rfl rfl (andP 1 0 rfl rfl rfl rfl rfl rfl) ?_
      refine WLy.qg 1 rfl rfl rfl (q_move rfl) rfl rfl rfl ?_
      refine WLy.openN 1 30 58 true rfl rfl rfl ?_
      refine WLy.qg 0 rfl rfl rfl (q_fieldAddr rfl fo_38_1) rfl rfl rfl ?_
      refine WLy.qg 0 rfl rfl rfl (q_load rfl a_3 (by first | exact Cell.ptL 0 rfl rfl | exact Cell.ptL 1 rfl rfl | exact Cell.ptL 2 rfl rfl | exact Cell.ptL 3 rfl rfl)) rfl rfl rfl ?_
      refine WLy.qg 0 rfl rfl rfl (q_leq rfl rfl) rfl rfl rfl ?_
      refine WLy.pickN 2 rfl rfl rfl rfl rfl rfl (andP 2 0 rfl rfl rfl rfl rfl rfl) ?_
      refine WLy.qg 2 rfl rfl rfl (q_move rfl) rfl rfl rfl ?_
      refine WLy.openN 2 35 63 false rfl rfl rfl ?_
      refine WLy.qg 0 rfl rfl rfl (q_move rfl) rfl rfl rfl ?_
      refine WLy.qg 0 rfl rfl rfl (q_not rfl) rfl rfl rfl ?_
      refine WLy.qg 0 rfl rfl rfl (q_move rfl) rfl rfl rfl ?_
      refine WLy.openN 0 38 66 true rfl rfl rfl ?_
      refine WLy.qg 0 rfl rfl rfl (q_fieldAddr rfl fo_38_1) rfl rfl rfl ?_
      refine WLy.qg 0 rfl rfl rfl (q_load rfl a_3 (by first | exact Cell.ptL 0 rfl rfl | exact Cell.ptL 1 rfl rfl | exact Cell.ptL 2 rfl rfl | exact Cell.ptL 3 rfl rfl)) rfl rfl rfl ?_
      refine WLy.qg 0 rfl rfl rfl (q_eql rfl rfl) rfl rfl rfl ?_
      refine WLy.pickN 1 rfl rfl rfl rfl rfl rfl (andP 1 0 rfl rfl rfl rfl rfl rfl) ?_
      refine WLy.pickN 4 rfl rfl rfl rfl rfl rfl (orP 4 1 rfl rfl rfl rfl rfl rfl) ?_
      refine WLy.and0 4 rfl rfl rfl rfl rfl rfl rfl ?_
      refine WLy.q (q_move rfl) rfl rfl ?_
      refine WLy.open0 45 73 true rfl rfl ?_
      refine WLy.qg 0 rfl rfl rfl (q_move rfl) rfl rfl rfl ?_
      refine WLy.qg 0 rfl rfl rfl (q_move rfl) rfl rfl rfl ?_
      refine WLy.openN 0 47 75 true rfl rfl rfl ?_
      refine WLy.qg 0 rfl rfl rfl (q_fieldAddr rfl fo_38_2) rfl rfl rfl ?_
      refine WLy.qg 0 rfl rfl rfl (q_load rfl a_3 (by first | exact Cell.ptL 0 rfl rfl | exact Cell.ptL 1 rfl rfl | exact Cell.ptL 2 rfl rfl | exact Cell.ptL 3 rfl rfl)) rfl rfl rfl ?_
      refine WLy.qg 0 rfl rfl rfl (q_geq rfl rfl) rfl rfl rfl ?_
      refine WLy.pickN 1 rfl rfl rfl rfl rfl rfl (andP 1 0 rfl rfl rfl rfl rfl rfl) ?_
      refine WLy.qg 1 rfl rfl rfl (q_move rfl) rfl rfl rfl ?_
      refine WLy.openN 1 52 80 true rfl rfl rfl ?_
      refine WLy.qg 0 rfl rfl rfl (q_fieldAddr rfl fo_38_2) rfl rfl rfl ?_
      refine WLy.qg 0 rfl rfl rfl (q_load rfl a_3 (by first | exact Cell.ptL 0 rfl rfl | exact Cell.ptL 1 rfl rfl | exact Cell.ptL 2 rfl rfl | exact Cell.ptL 3 rfl rfl)) rfl rfl rfl ?_
      refine WLy.qg 0 rfl rfl rfl (q_leq rfl rfl) rfl rfl rfl ?_
      refine WLy.pickN 2 rfl rfl rfl rfl rfl rfl (andP 2 0 rfl rfl rfl rfl rfl rfl) ?_
      refine WLy.qg 2 rfl rfl rfl (q_move rfl) rfl rfl rfl ?_
      refine WLy.openN 2 57 85 false rfl rfl rfl ?_
      refine WLy.qg 0 rfl rfl rfl (q_move rfl) rfl rfl rfl ?_
      refine WLy.qg 0 rfl rfl rfl (q_not rfl) rfl rfl rfl ?_
      refine WLy.qg 0 rfl rfl rfl (q_move rfl) rfl rfl rfl ?_
      refine WLy.openN 0 60 88 true rfl rfl rfl ?_
      refine WLy.qg 0 rfl rfl rfl (q_fieldAddr rfl fo_38_2) rfl rfl rfl ?_
      refine WLy.qg 0 rfl rfl rfl (q_load rfl a_3 (by first | exact Cell.ptL 0 rfl rfl | exact Cell.ptL 1 rfl rfl | exact Cell.ptL 2 rfl rfl | exact Cell.ptL 3 rfl rfl)) rfl rfl rfl ?_
      refine WLy.qg 0 rfl rfl rfl (q_eql rfl rfl) rfl rfl rfl ?_
      refine WLy.pickN 1 rfl rfl rfl rfl rfl rfl (andP 1 0 rfl rfl rfl rfl rfl rfl) ?_
      refine WLy.pickN 4 rfl rfl rfl rfl rfl rfl (orP 4 1 rfl rfl rfl rfl rfl rfl) ?_
      refine WLy.and0 4 rfl rfl rfl rfl rfl rfl rfl ?_
      refine WLy.q (q_assign rfl) rfl rfl ?_
      refine WLy.done ?_
      refine AT.then_n ?_
      refine WC.seq ?_
      refine WC.seq ?_
      refine WC.region ?_
      refine WL.q (q_assign rfl) rfl ?_
      refine WL.nil ?_
      refine AT.then_n ?_
      refine WC.block ?_
      refine WC.loop (σ := Nat) (fun i => i ≤ l.length) (fun i => [(10, .int .i64 i), (9, .bool ((decide (deep < 60) && plain5 k u n t l.length) && may5L (deep + 1) (erL (l.take i)))), (1, .int .i64 deep), (2, .pointer (some (ad b1 0)))]) (fun i => Pt b1 (.cells (Tg.mk k u n t A cap l).cells.toArray 38 (0, 0)) :: own) (fun _ => K) (fun i => l.length - i) 0 (by omega) ⟨rfl, vbool (by rw [List.take_zero, erL, may5L_nil, plain5, decide_eq_true (p := 1 ≤ k ∧ k ≤ 8) hk, show decide ((l.length : Int) = kids5 k) = decide (l.length = kids5 k) by (rw [decide_eq_decide]; omega), show decide ((t.length : Int) ≤ 64) = decide (t.length ≤ 64) by (rw [decide_eq_decide]; omega)]; simp only [Bool.true_and, Bool.and_true, Bool.and_assoc]), rfl, rfl, trivial⟩ (Imp.refl _ _) ?_
      rintro i hi
      refine WC.seq ?_
      refine WC.seq ?_
      refine WC.region ?_
      refine WLy.enter ?_
      refine WLy.q (q_move rfl) rfl rfl ?_
      refine WLy.q (q_fieldAddr rfl fo_38_4) rfl rfl ?_
      refine WLy.q (q_load rfl a_35 (by first | exact Cell.ptL 0 rfl rfl | exact Cell.ptL 1 rfl rfl | exact Cell.ptL 2 rfl rfl | exact Cell.ptL 3 rfl rfl)) rfl rfl ?_
      refine WLy.q (q_len rfl u_35) rfl rfl ?_
      refine WLy.q (q_lss rfl rfl) rfl rfl ?_
      refine WLy.q (q_move rfl) rfl rfl ?_
      refine WLy.open0 5 100 true rfl rfl ?_
      refine WLy.qg 0 rfl rfl rfl (q_move rfl) rfl rfl rfl ?_
      refine WLy.and0 0 rfl rfl rfl rfl rfl rfl rfl ?_
      refine WLy.done ?_
      refine AT.then_n ?_
      refine WC.cond rfl (fun h9 => ?_) (fun h9 => ?_)
      · -- if 9: yes
        try have p9 := of_decide_eq_true h9
        simp only [Bool.and_eq_true, decide_eq_true_eq] at h9
        have hlt : i < l.length := by omega
        have hok : ((decide (deep < 60) && plain5 k u n t l.length) && may5L (deep + 1) (erL (l.take i))) = true := by simp only [Bool.and_eq_true, decide_eq_true_eq]; exact h9.2
        have hdp : deep < 60 := h9.2.1.1
        refine WC.skip ?_
        refine AT.then_n ?_
        refine WC.seq ?_
        refine WC.block ?_
        refine WC.region ?_
        refine WL.q (q_fieldAddr rfl fo_38_4) rfl ?_
        refine WL.q (q_load rfl a_35 (by first | exact Cell.ptL 0 rfl rfl | exact Cell.ptL 1 rfl rfl | exact Cell.ptL 2 rfl rfl | exact Cell.ptL 3 rfl rfl)) rfl ?_
        refine WL.q (q_move rfl) rfl ?_
        refine WL.q (q_indexAddr rfl rfl u_35 i_38 (Based.row hrow.row (by rw [flat_len Tg.cells 5 Tg.len]; omega)) (by omega)) rfl ?_
        refine WL.q (q_loadA rfl a_38 i_38 (Cells.at hrow.row Tg.len hlt) (Tg.len _)) rfl ?_
        refine WL.q (q_move rfl) rfl ?_
        first | refine WL.q (q_add64 rfl rfl (by omega)) rfl ?_ | refine WL.q (q_add rfl rfl) rfl ?_
        refine WL.eff (e_call rfl (ih _ (List.getElem_mem hlt) (hrow.ok _ (List.getElem_mem hlt)) (htx _ (List.getElem_mem hlt)) (by omega))) rfl ?_; rintro _ _ _ ⟨rfl, rfl, rfl⟩
        refine WL.q (q_assign rfl) rfl ?_
        refine WL.nil ?_
        refine AT.blk_n ?_
        refine AT.then_n ?_
        refine WC.region ?_
        refine WL.q (q_move rfl) rfl ?_
        first | refine WL.q (q_add64 rfl rfl (by omega)) rfl ?_ | refine WL.q (q_add rfl rfl) rfl ?_
        refine WL.q (q_assign rfl) rfl ?_
        refine WL.nil ?_
        refine AT.mid (i + 1) ⟨by omega, by omega⟩ ⟨rfl, vbool (by rw [may5_take hlt, ← Bool.and_assoc, hok, Bool.true_and]), rfl, rfl, trivial⟩ (Imp.refl _ _)
      · -- if 9: no
        try have p9 := of_decide_eq_false h9
        refine WC.exit ?_
        refine AT.then_e ?_
        refine AT.then_e ?_
        refine AT.blk_e ?_
        refine AT.then_n ?_
        refine WC.seq ?_
        refine WC.region ?_
        refine WL.q (q_move rfl) rfl ?_
        refine WL.q (q_assign rfl) rfl ?_
        refine WL.nil ?_
        refine AT.then_n ?_
        refine WC.ret ?_
        refine AT.done rfl (RO.one rfl rfl) ⟨congrArg Value.bool ?_, rfl, rfl⟩ (Imp.drop (Imp.refl _ _))
        simp only [Bool.and_eq_false_iff, decide_eq_false_iff_not] at h9
        by_cases hfin : i = l.length
        · rw [hfin, List.take_length]
        · have hno : ((decide (deep < 60) && plain5 k u n t l.length) && may5L (deep + 1) (erL (l.take i))) = false := by
            simp only [Bool.and_eq_false_iff, decide_eq_false_iff_not]
            rcases h9 with h | h
            · omega
            · exact h
          rw [hno]
          cases hb : (decide (deep < 60) && plain5 k u n t l.length) with
          | false => rfl
          | true => rw [hb, Bool.true_and] at hno; rw [may5_all hno]; rfl

end Go.Proofs.Sl
