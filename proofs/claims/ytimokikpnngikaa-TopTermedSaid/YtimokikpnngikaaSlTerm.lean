/- Layer 5: terms: which may be, how many are in one, their bytes. -/
import Derived.Test.YtimokikpnngikaaSlCmp
import Derived.Test.YtimokikpnngikaaSlTmP
import Derived.Test.YtimokikpnngikaaSlY
namespace Go.Proofs.Sl
open Go
set_option linter.unusedVariables false
set_option linter.unusedSimpArgs false

theorem fieldsN_le (k : Int) : fieldsN k ≤ 31 := by unfold fieldsN; (repeat' split) <;> omega
abbrev intC' (b : Nat) (a : Int) : SP := Pt b (.cells ([.int .i64 a] : List Value).toArray 3 (0, 0))

theorem c225 {own : List SP} {K : PH → Prop} {k : Int} : Spec Try.prog 225 [.int .i64 k] (own) (K)
    (Ret (.int .i64 (fieldsN k)) own K) := by
  refine Spec.of en_225 Try.func225 rfl rfl fun g => ?_
  refine WC.seq ?_
  refine WC.region ?_
  refine WL.q (q_assign rfl) rfl ?_
  refine WL.nil ?_
  refine AT.then_n ?_
  refine WC.seq ?_
  refine WC.seq ?_
  refine WC.region ?_
  refine WL.q (q_move rfl) rfl ?_
  refine WL.nil ?_
  refine AT.then_n ?_
  refine WC.block ?_
  refine WC.seq ?_
  refine WC.region ?_
  refine WL.q (q_eql rfl rfl) rfl ?_
  refine WL.q (q_assign rfl) rfl ?_
  refine WL.nil ?_
  refine AT.then_n ?_
  refine WC.cond rfl (fun h1 => ?_) (fun h1 => ?_)
  · -- if 1: yes
    try have p1 := of_decide_eq_true h1
    refine WC.seq ?_
    refine WC.region ?_
    refine WL.q (q_assign rfl) rfl ?_
    refine WL.nil ?_
    refine AT.then_n ?_
    refine WC.ret ?_
    refine AT.blk_r ?_
    refine AT.then_r ?_
    refine AT.done rfl (RO.one rfl rfl) ⟨?_, rfl, rfl⟩ (Imp.refl _ _)
    first | (simp_all [fieldsN]; done) | (subst_vars; rfl)
  · -- if 1: no
    try have p1 := of_decide_eq_false h1
    refine WC.seq ?_
    refine WC.region ?_
    refine WL.q (q_eql rfl rfl) rfl ?_
    refine WL.q (q_assign rfl) rfl ?_
    refine WL.nil ?_
    refine AT.then_n ?_
    refine WC.cond rfl (fun h2 => ?_) (fun h2 => ?_)
    · -- if 2: yes
      try have p2 := of_decide_eq_true h2
      refine WC.seq ?_
      refine WC.region ?_
      refine WL.q (q_assign rfl) rfl ?_
      refine WL.nil ?_
      refine AT.then_n ?_
      refine WC.ret ?_
      refine AT.blk_r ?_
      refine AT.then_r ?_
      refine AT.done rfl (RO.one rfl rfl) ⟨?_, rfl, rfl⟩ (Imp.refl _ _)
      first | (simp_all [fieldsN]; done) | (subst_vars; rfl)
    · -- if 2: no
      try have p2 := of_decide_eq_false h2
      refine WC.seq ?_
      refine WC.region ?_
      refine WL.q (q_eql rfl rfl) rfl ?_
      refine WL.q (q_assign rfl) rfl ?_
      refine WL.nil ?_
      refine AT.then_n ?_
      refine WC.cond rfl (fun h3 => ?_) (fun h3 => ?_)
      · -- if 3: yes
        try have p3 := of_decide_eq_true h3
        refine WC.seq ?_
        refine WC.region ?_
        refine WL.q (q_assign rfl) rfl ?_
        refine WL.nil ?_
        refine AT.then_n ?_
        refine WC.ret ?_
        refine AT.blk_r ?_
        refine AT.then_r ?_
        refine AT.done rfl (RO.one rfl rfl) ⟨?_, rfl, rfl⟩ (Imp.refl _ _)
        first | (simp_all [fieldsN]; done) | (subst_vars; rfl)
      · -- if 3: no
        try have p3 := of_decide_eq_false h3
        refine WC.seq ?_
        refine WC.seq ?_
        refine WC.region ?_
        refine WL.q (q_eql rfl rfl) rfl ?_
        refine WL.q (q_assign rfl) rfl ?_
        refine WL.nil ?_
        refine AT.then_n ?_
        refine WC.cond rfl (fun h4 => ?_) (fun h4 => ?_)
        · -- if 4: yes
          try have p4 := of_decide_eq_true h4
          refine WC.skip ?_
          refine AT.then_n ?_
          refine WC.condHT rfl h4 ?_
          refine WC.seq ?_
          refine WC.region ?_
          refine WL.q (q_assign rfl) rfl ?_
          refine WL.nil ?_
          refine AT.then_n ?_
          refine WC.ret ?_
          refine AT.blk_r ?_
          refine AT.then_r ?_
          refine AT.done rfl (RO.one rfl rfl) ⟨?_, rfl, rfl⟩ (Imp.refl _ _)
          first | (simp_all [fieldsN]; done) | (subst_vars; rfl)
        · -- if 4: no
          try have p4 := of_decide_eq_false h4
          refine WC.region ?_
          refine WL.q (q_eql rfl rfl) rfl ?_
          refine WL.q (q_assign rfl) rfl ?_
          refine WL.nil ?_
          refine AT.then_n ?_
          refine WC.cond rfl (fun h5 => ?_) (fun h5 => ?_)
          · -- if 5: yes
            try have p5 := of_decide_eq_true h5
            refine WC.seq ?_
            refine WC.region ?_
            refine WL.q (q_assign rfl) rfl ?_
            refine WL.nil ?_
            refine AT.then_n ?_
            refine WC.ret ?_
            refine AT.blk_r ?_
            refine AT.then_r ?_
            refine AT.done rfl (RO.one rfl rfl) ⟨?_, rfl, rfl⟩ (Imp.refl _ _)
            first | (simp_all [fieldsN]; done) | (subst_vars; rfl)
          · -- if 5: no
            try have p5 := of_decide_eq_false h5
            refine WC.seq ?_
            refine WC.region ?_
            refine WL.q (q_eql rfl rfl) rfl ?_
            refine WL.q (q_assign rfl) rfl ?_
            refine WL.nil ?_
            refine AT.then_n ?_
            refine WC.cond rfl (fun h6 => ?_) (fun h6 => ?_)
            · -- if 6: yes
              try have p6 := of_decide_eq_true h6
              refine WC.seq ?_
              refine WC.region ?_
              refine WL.q (q_assign rfl) rfl ?_
              refine WL.nil ?_
              refine AT.then_n ?_
              refine WC.ret ?_
              refine AT.blk_r ?_
              refine AT.then_r ?_
              refine AT.done rfl (RO.one rfl rfl) ⟨?_, rfl, rfl⟩ (Imp.refl _ _)
              first | (simp_all [fieldsN]; done) | (subst_vars; rfl)
            · -- if 6: no
              try have p6 := of_decide_eq_false h6
              refine WC.seq ?_
              refine WC.region ?_
              refine WL.q (q_eql rfl rfl) rfl ?_
              refine WL.q (q_assign rfl) rfl ?_
              refine WL.nil ?_
              refine AT.then_n ?_
              refine WC.cond rfl (fun h7 => ?_) (fun h7 => ?_)
              · -- if 7: yes
                try have p7 := of_decide_eq_true h7
                refine WC.seq ?_
                refine WC.region ?_
                refine WL.q (q_assign rfl) rfl ?_
                refine WL.nil ?_
                refine AT.then_n ?_
                refine WC.ret ?_
                refine AT.blk_r ?_
                refine AT.then_r ?_
                refine AT.done rfl (RO.one rfl rfl) ⟨?_, rfl, rfl⟩ (Imp.refl _ _)
                first | (simp_all [fieldsN]; done) | (subst_vars; rfl)
              · -- if 7: no
                try have p7 := of_decide_eq_false h7
                refine WC.seq ?_
                refine WC.region ?_
                refine WL.q (q_eql rfl rfl) rfl ?_
                refine WL.q (q_assign rfl) rfl ?_
                refine WL.nil ?_
                refine AT.then_n ?_
                refine WC.cond rfl (fun h8 => ?_) (fun h8 => ?_)
                · -- if 8: yes
                  try have p8 := of_decide_eq_true h8
                  refine WC.seq ?_
                  refine WC.region ?_
                  refine WL.q (q_assign rfl) rfl ?_
                  refine WL.nil ?_
                  refine AT.then_n ?_
                  refine WC.ret ?_
                  refine AT.blk_r ?_
                  refine AT.then_r ?_
                  refine AT.done rfl (RO.one rfl rfl) ⟨?_, rfl, rfl⟩ (Imp.refl _ _)
                  first | (simp_all [fieldsN]; done) | (subst_vars; rfl)
                · -- if 8: no
                  try have p8 := of_decide_eq_false h8
                  refine WC.skip ?_
                  refine AT.blk_n ?_
                  refine AT.then_n ?_
                  refine WC.seq ?_
                  refine WC.region ?_
                  refine WL.q (q_assign rfl) rfl ?_
                  refine WL.nil ?_
                  refine AT.then_n ?_
                  refine WC.ret ?_
                  refine AT.done rfl (RO.one rfl rfl) ⟨?_, rfl, rfl⟩ (Imp.refl _ _)
                  first | (simp_all [fieldsN]; done) | (subst_vars; rfl)

theorem c226 {own : List SP} {K : PH → Prop} {f m : Nat} (hf : f ≤ 31) (hm : m ≤ 31) : Spec Try.prog 226 [.int .i64 f, .int .i64 m] (own) (K)
    (Ret (.bool (decide (f &&& m ≠ 0))) own K) := by
  refine Spec.of en_226 Try.func226 rfl rfl fun g => ?_
  refine WC.seq ?_
  refine WC.region ?_
  refine WL.q (q_assign rfl) rfl ?_
  refine WL.nil ?_
  refine AT.then_n ?_
  refine WC.seq ?_
  refine WC.region ?_
  refine WL.q (q_move rfl) rfl ?_
  refine WL.q (q_move rfl) rfl ?_
  refine WL.q (q_and rfl rfl (by simp [IntKind.max, IntKind.bits, IntKind.signed]; omega) (by simp [IntKind.max, IntKind.bits, IntKind.signed]; omega)) rfl ?_
  refine WL.q (q_neq rfl rfl) rfl ?_
  refine WL.q (q_assign rfl) rfl ?_
  refine WL.nil ?_
  refine AT.then_n ?_
  refine WC.ret ?_
  refine AT.done rfl (RO.one rfl rfl) ⟨?_, rfl, rfl⟩ (Imp.refl _ _)
  congr 1; simp only [ne_eq, decide_eq_decide]; omega

theorem c228 {own : List SP} {K : PH → Prop} {u : Int} : Spec Try.prog 228 [.int .i64 u] (own) (K)
    (Ret (.bool (knownB u)) own K) := by
  refine Spec.of en_228 Try.func228 rfl rfl fun g => ?_
  refine WC.seq ?_
  refine WC.region ?_
  refine WL.q (q_assign rfl) rfl ?_
  refine WL.nil ?_
  refine AT.then_n ?_
  refine WC.seq ?_
  refine WC.region ?_
  refine WL.q (q_move rfl) rfl ?_
  refine WL.q (q_geq rfl rfl) rfl ?_
  refine WL.q (q_move rfl) rfl ?_
  refine WL.split 5 rfl (fun hg1_2 => ?_) (fun hg1_2 => ?_)
  · -- guard 1.2: True
    try have hp1_2 := of_decide_eq_true hg1_2
    refine WL.on rfl rfl hg1_2 ?_
    refine WL.q (q_move rfl) rfl ?_
    refine WL.on rfl rfl hg1_2 ?_
    refine WL.q (q_leq rfl rfl) rfl ?_
    refine WL.q (q_pickT rfl hg1_2 rfl) rfl ?_
    refine WL.q (q_assign rfl) rfl ?_
    refine WL.nil ?_
    refine AT.then_n ?_
    refine WC.ret ?_
    refine AT.done rfl (RO.one rfl rfl) ⟨?_, rfl, rfl⟩ (Imp.refl _ _)
    simp [knownB, *]
  · -- guard 1.2: False
    try have hp1_2 := of_decide_eq_false hg1_2
    refine WL.off rfl rfl hg1_2 rfl ?_
    refine WL.off rfl rfl hg1_2 rfl ?_
    refine WL.q (q_pickF rfl hg1_2 rfl) rfl ?_
    refine WL.q (q_assign rfl) rfl ?_
    refine WL.nil ?_
    refine AT.then_n ?_
    refine WC.ret ?_
    refine AT.done rfl (RO.one rfl rfl) ⟨?_, rfl, rfl⟩ (Imp.refl _ _)
    simp [knownB, *]

theorem c229 {own : List SP} {K : PH → Prop} {f : Nat} (hf : f ≤ 31) : Spec Try.prog 229 [.int .i64 f] (own) (K)
    (Ret (.int .i64 (kidsN f)) own K) := by
  refine Spec.of en_229 Try.func229 rfl rfl fun g => ?_
  refine WC.seq ?_
  refine WC.region ?_
  refine WL.q (q_assign rfl) rfl ?_
  refine WL.nil ?_
  refine AT.then_n ?_
  refine WC.seq ?_
  refine WC.block ?_
  refine WC.seq ?_
  refine WC.region ?_
  refine WL.q (q_move rfl) rfl ?_
  refine WL.eff (e_call rfl (c226 (m := 16) hf (by decide))) rfl ?_; rintro _ _ _ ⟨rfl, rfl, rfl⟩
  refine WL.q (q_assign rfl) rfl ?_
  refine WL.nil ?_
  refine AT.then_n ?_
  refine WC.cond rfl (fun h1 => ?_) (fun h1 => ?_)
  · -- if 1: yes
    try have p1 := of_decide_eq_true h1
    refine WC.seq ?_
    refine WC.region ?_
    refine WL.q (q_assign rfl) rfl ?_
    refine WL.nil ?_
    refine AT.then_n ?_
    refine WC.ret ?_
    refine AT.blk_r ?_
    refine AT.then_r ?_
    refine AT.done rfl (RO.one rfl rfl) ⟨?_, rfl, rfl⟩ (Imp.refl _ _)
    simp_all [kidsN]
  · -- if 1: no
    try have p1 := of_decide_eq_false h1
    refine WC.seq ?_
    refine WC.region ?_
    refine WL.q (q_move rfl) rfl ?_
    refine WL.eff (e_call rfl (c226 (m := 8) hf (by decide))) rfl ?_; rintro _ _ _ ⟨rfl, rfl, rfl⟩
    refine WL.q (q_assign rfl) rfl ?_
    refine WL.nil ?_
    refine AT.then_n ?_
    refine WC.cond rfl (fun h2 => ?_) (fun h2 => ?_)
    · -- if 2: yes
      try have p2 := of_decide_eq_true h2
      refine WC.seq ?_
      refine WC.region ?_
      refine WL.q (q_assign rfl) rfl ?_
      refine WL.nil ?_
      refine AT.then_n ?_
      refine WC.ret ?_
      refine AT.blk_r ?_
      refine AT.then_r ?_
      refine AT.done rfl (RO.one rfl rfl) ⟨?_, rfl, rfl⟩ (Imp.refl _ _)
      simp_all [kidsN]
    · -- if 2: no
      try have p2 := of_decide_eq_false h2
      refine WC.skip ?_
      refine AT.blk_n ?_
      refine AT.then_n ?_
      refine WC.seq ?_
      refine WC.region ?_
      refine WL.q (q_assign rfl) rfl ?_
      refine WL.nil ?_
      refine AT.then_n ?_
      refine WC.ret ?_
      refine AT.done rfl (RO.one rfl rfl) ⟨?_, rfl, rfl⟩ (Imp.refl _ _)
      simp_all [kidsN]

theorem c267 {own : List SP} {K : PH → Prop} {k u n : Int} {t : List UInt8} {A : Option Addr} {cap : Nat} {l : List Tg} (ht : t.length ≤ 100000) : Spec Try.prog 267 [.agg (Tg.mk k u n t A cap l).cells.toArray] (own) (K)
    (Ret (.bool (plainB k u n t l.length)) own K) := by
  refine Spec.of en_267 Try.func267 rfl rfl fun g => ?_
  refine WC.seq ?_
  refine WC.region ?_
  refine WLy.enter ?_
  refine WLy.eff (e_box rfl) rfl rfl ?_; rintro _ _ _ ⟨b1, rfl, rfl, rfl⟩
  refine WLy.q (q_assign rfl) rfl rfl ?_
  refine WLy.done ?_
  refine AT.then_n ?_
  refine WC.seq ?_
  refine WC.region ?_
  refine WLy.enter ?_
  refine WLy.q (q_fieldAddr rfl fo_38_0) rfl rfl ?_
  refine WLy.q (q_load rfl a_3 (by first | exact Cell.ptL 0 rfl rfl | exact Cell.ptL 1 rfl rfl | exact Cell.ptL 2 rfl rfl | exact Cell.ptL 3 rfl rfl)) rfl rfl ?_
  refine WLy.eff (e_call rfl (c225 (k := k))) rfl rfl ?_; rintro _ _ _ ⟨rfl, rfl, rfl⟩
  refine WLy.q (q_assign rfl) rfl rfl ?_
  refine WLy.done ?_
  refine AT.then_n ?_
  refine WC.seq ?_
  refine WC.drawY [0, 1, 2, 3, 5, 6, 8, 9, 10, 11, 13, 14, 15, 16, 17, 19, 20, 22, 23, 24, 25] _ _ [(0, 0), (1, 0), (2, 0), (3, 0), (4, 0), (5, 0), (6, 0), (7, 2), (8, 0), (9, 0), (10, 0), (11, 0), (12, 0), (13, 0), (14, 0), (15, 0), (16, 0), (17, 0), (18, 2), (19, 0), (20, 0), (21, 0), (22, 0), (23, 0), (24, 0), (25, 0)] mixed (NoPan.then NoPan.body) (Imp.refl _ _) rfl (by decide +kernel) ?_
  first | refine WSy.q 0 rfl (q_move rfl) rfl rfl ?_
  first | refine WSy.q 1 rfl (q_neq rfl rfl) rfl rfl ?_
  first | refine WSy.q 2 rfl (q_move rfl) rfl rfl ?_
  refine WSy.open0 2 10 true rfl rfl ?_
  first | refine WSy.qg 3 0 rfl rfl rfl rfl (q_fieldAddr rfl fo_38_4) rfl rfl rfl ?_
  first | refine WSy.qg 4 0 rfl rfl rfl rfl (q_load rfl a_35 (by first | exact Cell.ptL 0 rfl rfl | exact Cell.ptL 1 rfl rfl | exact Cell.ptL 2 rfl rfl | exact Cell.ptL 3 rfl rfl)) rfl rfl rfl ?_
  first | refine WSy.qg 5 0 rfl rfl rfl rfl (q_len rfl u_35) rfl rfl rfl ?_
  first | refine WSy.qg 6 0 rfl rfl rfl rfl (q_move rfl) rfl rfl rfl ?_
  first | refine WSy.eg 7 0 rfl rfl rfl rfl (e_call rfl (c229 (f := fieldsN k) (fieldsN_le _))) rfl rfl rfl (by first | exact Imp.refl _ _ | exact Imp.drop (Imp.refl _ _) | exact Imp.ent (Ent.left (Ent.refl _)) | exact Imp.keepRest (List.nil_sublist _) (fun _ _ => trivial)) ?_
  first | refine WSy.qg 8 0 rfl rfl rfl rfl (q_eql rfl rfl) rfl rfl rfl ?_
  refine WSy.pick0 9 rfl rfl rfl (and0P 0 rfl rfl rfl rfl rfl) ?_
  first | refine WSy.q 10 rfl (q_move rfl) rfl rfl ?_
  refine WSy.open0 10 18 true rfl rfl ?_
  first | refine WSy.qg 11 0 rfl rfl rfl rfl (q_fieldAddr rfl fo_38_3) rfl rfl rfl ?_
  first | refine WSy.qg 12 0 rfl rfl rfl rfl (q_load rfl a_9 (by first | exact Cell.ptL 0 rfl rfl | exact Cell.ptL 1 rfl rfl | exact Cell.ptL 2 rfl rfl | exact Cell.ptL 3 rfl rfl)) rfl rfl rfl ?_
  first | refine WSy.qg 13 0 rfl rfl rfl rfl (q_lenB rfl u_9) rfl rfl rfl ?_ | refine WSy.qg 13 0 rfl rfl rfl rfl (q_lenS rfl u_9) rfl rfl rfl ?_
  first | refine WSy.qg 14 0 rfl rfl rfl rfl (q_leq rfl rfl) rfl rfl rfl ?_
  refine WSy.pick0 15 rfl rfl rfl (and0P 0 rfl rfl rfl rfl rfl) ?_
  first | refine WSy.q 16 rfl (q_move rfl) rfl rfl ?_
  refine WSy.open0 16 24 true rfl rfl ?_
  first | refine WSy.qg 17 0 rfl rfl rfl rfl (q_move rfl) rfl rfl rfl ?_
  first | refine WSy.eg 18 0 rfl rfl rfl rfl (e_call rfl (c226 (f := fieldsN k) (m := 1) (fieldsN_le _) (by decide))) rfl rfl rfl (by first | exact Imp.refl _ _ | exact Imp.drop (Imp.refl _ _) | exact Imp.ent (Ent.left (Ent.refl _)) | exact Imp.keepRest (List.nil_sublist _) (fun _ _ => trivial)) ?_
  first | refine WSy.qg 19 0 rfl rfl rfl rfl (q_move rfl) rfl rfl rfl ?_
  refine WSy.openN 0 19 27 false rfl rfl rfl ?_
  first | refine WSy.qg 20 0 rfl rfl rfl rfl (q_fieldAddr rfl fo_38_3) rfl rfl rfl ?_
  first | refine WSy.qg 21 0 rfl rfl rfl rfl (q_load rfl a_9 (by first | exact Cell.ptL 0 rfl rfl | exact Cell.ptL 1 rfl rfl | exact Cell.ptL 2 rfl rfl | exact Cell.ptL 3 rfl rfl)) rfl rfl rfl ?_
  first | refine WSy.qg 22 0 rfl rfl rfl rfl (q_eqlS rfl rfl) rfl rfl rfl ?_
  refine WSy.pickN 23 1 rfl rfl rfl rfl rfl rfl rfl (orP 1 0 rfl rfl rfl rfl rfl rfl) ?_
  refine WSy.pick0 24 rfl rfl rfl (and0P 1 rfl rfl rfl rfl rfl) ?_
  first | refine WSy.q 25 rfl (q_assign rfl) rfl rfl ?_
  refine WSy.done ?_
  refine AT.then_n ?_
  refine WC.seq ?_
  refine WC.region ?_
  refine WLy.enter ?_
  refine WLy.q (q_move rfl) rfl rfl ?_
  refine WLy.q (q_move rfl) rfl rfl ?_
  refine WLy.open0 1 34 true rfl rfl ?_
  refine WLy.qg 0 rfl rfl rfl (q_move rfl) rfl rfl rfl ?_
  refine WLy.eg 0 rfl rfl rfl (e_call rfl (c226 (f := fieldsN k) (m := 2) (fieldsN_le _) (by decide))) rfl rfl rfl ?_
  refine WLy.qg 0 rfl rfl rfl (q_move rfl) rfl rfl rfl ?_
  refine WLy.openN 0 4 37 true rfl rfl rfl ?_
  refine WLy.qg 0 rfl rfl rfl (q_fieldAddr rfl fo_38_1) rfl rfl rfl ?_
  refine WLy.qg 0 rfl rfl rfl (q_load rfl a_3 (by first | exact Cell.ptL 0 rfl rfl | exact Cell.ptL 1 rfl rfl | exact Cell.ptL 2 rfl rfl | exact Cell.ptL 3 rfl rfl)) rfl rfl rfl ?_
  refine WLy.eg 0 rfl rfl rfl (e_call rfl (c228 (u := u))) rfl rfl rfl ?_
  refine WLy.pickN 1 rfl rfl rfl rfl rfl rfl (andP 1 0 rfl rfl rfl rfl rfl rfl) ?_
  refine WLy.qg 1 rfl rfl rfl (q_move rfl) rfl rfl rfl ?_
  refine WLy.openN 1 9 42 false rfl rfl rfl ?_
  refine WLy.qg 0 rfl rfl rfl (q_move rfl) rfl rfl rfl ?_
  refine WLy.eg 0 rfl rfl rfl (e_call rfl (c226 (f := fieldsN k) (m := 2) (fieldsN_le _) (by decide))) rfl rfl rfl ?_
  refine WLy.qg 0 rfl rfl rfl (q_not rfl) rfl rfl rfl ?_
  refine WLy.qg 0 rfl rfl rfl (q_move rfl) rfl rfl rfl ?_
  refine WLy.openN 0 13 46 true rfl rfl rfl ?_
  refine WLy.qg 0 rfl rfl rfl (q_fieldAddr rfl fo_38_1) rfl rfl rfl ?_
  refine WLy.qg 0 rfl rfl rfl (q_load rfl a_3 (by first | exact Cell.ptL 0 rfl rfl | exact Cell.ptL 1 rfl rfl | exact Cell.ptL 2 rfl rfl | exact Cell.ptL 3 rfl rfl)) rfl rfl rfl ?_
  refine WLy.qg 0 rfl rfl rfl (q_eql rfl rfl) rfl rfl rfl ?_
  refine WLy.pickN 1 rfl rfl rfl rfl rfl rfl (andP 1 0 rfl rfl rfl rfl rfl rfl) ?_
  refine WLy.pickN 3 rfl rfl rfl rfl rfl rfl (orP 3 1 rfl rfl rfl rfl rfl rfl) ?_
  refine WLy.and0 3 rfl rfl rfl rfl rfl rfl rfl ?_
  refine WLy.q (q_assign rfl) rfl rfl ?_
  refine WLy.done ?_
  refine AT.then_n ?_
  refine WC.seq ?_
  refine WC.region ?_
  refine WLy.enter ?_
  refine WLy.q (q_move rfl) rfl rfl ?_
  refine WLy.q (q_move rfl) rfl rfl ?_
  refine WLy.open0 1 54 true rfl rfl ?_
  refine WLy.qg 0 rfl rfl rfl (q_move rfl) rfl rfl rfl ?_
  refine WLy.eg 0 rfl rfl rfl (e_call rfl (c226 (f := fieldsN k) (m := 4) (fieldsN_le _) (by decide))) rfl rfl rfl ?_
  refine WLy.qg 0 rfl rfl rfl (q_move rfl) rfl rfl rfl ?_
  refine WLy.openN 0 4 57 true rfl rfl rfl ?_
  refine WLy.qg 0 rfl rfl rfl (q_fieldAddr rfl fo_38_2) rfl rfl rfl ?_
  refine WLy.qg 0 rfl rfl rfl (q_load rfl a_3 (by first | exact Cell.ptL 0 rfl rfl | exact Cell.ptL 1 rfl rfl | exact Cell.ptL 2 rfl rfl | exact Cell.ptL 3 rfl rfl)) rfl rfl rfl ?_
  refine WLy.qg 0 rfl rfl rfl (q_geq rfl rfl) rfl rfl rfl ?_
  refine WLy.pickN 1 rfl rfl rfl rfl rfl rfl (andP 1 0 rfl rfl rfl rfl rfl rfl) ?_
  refine WLy.qg 1 rfl rfl rfl (q_move rfl) rfl rfl rfl ?_
  refine WLy.openN 1 9 62 true rfl rfl rfl ?_
  refine WLy.qg 0 rfl rfl rfl (q_fieldAddr rfl fo_38_2) rfl rfl rfl ?_
  refine WLy.qg 0 rfl rfl rfl (q_load rfl a_3 (by first | exact Cell.ptL 0 rfl rfl | exact Cell.ptL 1 rfl rfl | exact Cell.ptL 2 rfl rfl | exact Cell.ptL 3 rfl rfl)) rfl rfl rfl ?_
  refine WLy.qg 0 rfl rfl rfl (q_leq rfl rfl) rfl rfl rfl ?_
  refine WLy.pickN 2 rfl rfl rfl rfl rfl rfl (andP 2 0 rfl rfl rfl rfl rfl rfl) ?_
  refine WLy.qg 2 rfl rfl rfl (q_move rfl) rfl rfl rfl ?_
  refine WLy.openN 2 14 67 false rfl rfl rfl ?_
  refine WLy.qg 0 rfl rfl rfl (q_move rfl) rfl rfl rfl ?_
  refine WLy.eg 0 rfl rfl rfl (e_call rfl (c226 (f := fieldsN k) (m := 4) (fieldsN_le _) (by decide))) rfl rfl rfl ?_
  refine WLy.qg 0 rfl rfl rfl (q_not rfl) rfl rfl rfl ?_
  refine WLy.qg 0 rfl rfl rfl (q_move rfl) rfl rfl rfl ?_
  refine WLy.openN 0 18 71 true rfl rfl rfl ?_
  refine WLy.qg 0 rfl rfl rfl (q_fieldAddr rfl fo_38_2) rfl rfl rfl ?_
  refine WLy.qg 0 rfl rfl rfl (q_load rfl a_3 (by first | exact Cell.ptL 0 rfl rfl | exact Cell.ptL 1 rfl rfl | exact Cell.ptL 2 rfl rfl | exact Cell.ptL 3 rfl rfl)) rfl rfl rfl ?_
  refine WLy.qg 0 rfl rfl rfl (q_eql rfl rfl) rfl rfl rfl ?_
  refine WLy.pickN 1 rfl rfl rfl rfl rfl rfl (andP 1 0 rfl rfl rfl rfl rfl rfl) ?_
  refine WLy.pickN 4 rfl rfl rfl rfl rfl rfl (orP 4 1 rfl rfl rfl rfl rfl rfl) ?_
  refine WLy.and0 4 rfl rfl rfl rfl rfl rfl rfl ?_
  refine WLy.q (q_assign rfl) rfl rfl ?_
  refine WLy.done ?_
  refine AT.then_n ?_
  refine WC.ret ?_
  refine AT.done rfl (RO.one rfl rfl) ⟨congrArg Value.bool ?_, rfl, rfl⟩ (Imp.drop (Imp.refl _ _))
  have e1 : decide ((fieldsN k : Int) ≠ 0) = decide (fieldsN k ≠ 0) := by rw [decide_eq_decide]; omega
  have e2 : decide ((l.length : Int) = kidsN (fieldsN k)) = decide (l.length = kidsN (fieldsN k)) := by rw [decide_eq_decide]; omega
  have e3 : decide ((t.length : Int) ≤ 64) = decide (t.length ≤ 64) := by rw [decide_eq_decide]; omega
  rw [e1, e2, e3]; unfold plainB; simp only [Bool.and_assoc]

theorem c224 (T : Tg) : ∀ {own : List SP} {K : PH → Prop} {deep left : Int} {p : Nat} (hT : Ent K T.ok) (hdeep : 0 ≤ deep ∧ deep ≤ 61) (hleft : 0 ≤ left ∧ left ≤ 1200) (hs : T.small), Spec Try.prog 224 [.agg T.cells.toArray, .int .i64 deep, .pointer (some (ad p 0))] (intC' p left :: own) (K)
    (Ret (.bool (wk deep left T.er).1) (intC' p (wk deep left T.er).2 :: own) K) := by
  induction T using Tg.ind with
  | h k u n t A cap l ih =>
    intro own K deep left p hT hdeep hleft hs
    obtain ⟨ht, hln, htx⟩ := Tg.small_mk.1 hs
    have hrow := Ent.kids hT
    rw [Tg.er_mk, wk_mk, List.length_map, ← erL_map]
    refine Spec.of en_224 Try.func224 rfl rfl fun g => ?_
    refine WC.seq ?_
    refine WC.region ?_
    refine WLy.enter ?_
    refine WLy.eff (e_box rfl) rfl rfl ?_; rintro _ _ _ ⟨b1, rfl, rfl, rfl⟩
    refine WLy.q (q_assign rfl) rfl rfl ?_
    refine WLy.done ?_
    refine AT.then_n ?_
    refine WC.seq ?_
    refine WC.seq ?_
    refine WC.region ?_
    refine WLy.enter ?_
    refine WLy.q (q_move rfl) rfl rfl ?_
    refine WLy.q (q_nil rfl) rfl rfl ?_
    refine WLy.q (q_load rfl a_3 (by first | exact Cell.ptL 0 rfl rfl | exact Cell.ptL 1 rfl rfl | exact Cell.ptL 2 rfl rfl | exact Cell.ptL 3 rfl rfl)) rfl rfl ?_
    first | refine WLy.q (q_sub64 rfl rfl (by omega)) rfl rfl ?_ | refine WLy.q (q_sub rfl rfl) rfl rfl ?_
    refine WLy.q (q_nil rfl) rfl rfl ?_
    refine WLy.effn (e_store 1 rfl rfl rfl i_3 rfl (by simp)) ?_; rintro _ _ _ ⟨rfl, rfl, rfl⟩
    refine WLy.done ?_
    refine AT.then_n ?_
    refine WC.seq ?_
    refine WC.region ?_
    refine WLy.enter ?_
    refine WLy.q (q_move rfl) rfl rfl ?_
    refine WLy.q (q_nil rfl) rfl rfl ?_
    refine WLy.q (q_load rfl a_3 (by first | exact Cell.ptL 0 rfl rfl | exact Cell.ptL 1 rfl rfl | exact Cell.ptL 2 rfl rfl | exact Cell.ptL 3 rfl rfl)) rfl rfl ?_
    refine WLy.q (q_lss rfl rfl) rfl rfl ?_
    refine WLy.q (q_move rfl) rfl rfl ?_
    refine WLy.open0 4 18 false rfl rfl ?_
    refine WLy.qg 0 rfl rfl rfl (q_move rfl) rfl rfl rfl ?_
    refine WLy.qg 0 rfl rfl rfl (q_gtr rfl rfl) rfl rfl rfl ?_
    refine WLy.or0 0 rfl rfl rfl rfl rfl rfl rfl ?_
    refine WLy.q (q_move rfl) rfl rfl ?_
    refine WLy.open0 8 22 false rfl rfl ?_
    refine WLy.qg 0 rfl rfl rfl (q_loadA rfl a_38 i_38 (Cells.pt 0 rfl) (Tg.len _)) rfl rfl rfl ?_
    refine WLy.eg 0 rfl rfl rfl (e_call rfl (c267 (k := k) (u := u) (n := n) (t := t) (A := A) (cap := cap) (l := l) ht)) rfl rfl rfl ?_
    refine WLy.qg 0 rfl rfl rfl (q_not rfl) rfl rfl rfl ?_
    refine WLy.or0 0 rfl rfl rfl rfl rfl rfl rfl ?_
    refine WLy.done ?_
    refine AT.then_n ?_
    refine WC.cond rfl (fun h1 => ?_) (fun h1 => ?_)
    · -- if 1: yes
      try have p1 := of_decide_eq_true h1
      have hbad : left - 1 < 0 ∨ 60 < deep ∨ plainB k u n t l.length = false := by
        simp only [Bool.or_eq_true, decide_eq_true_eq, Bool.not_eq_true'] at h1
        rcases h1 with (h1 | h1) | h1
        · exact .inl h1
        · exact .inr (.inl h1)
        · exact .inr (.inr h1)
      rw [if_pos hbad]
      refine WC.seq ?_
      refine WC.region ?_
      refine WLy.enter ?_
      refine WLy.q (q_assign rfl) rfl rfl ?_
      refine WLy.done ?_
      refine AT.then_n ?_
      refine WC.ret ?_
      refine AT.then_r ?_
      exact AT.done rfl (RO.one rfl rfl) ⟨rfl, rfl, rfl⟩ (Imp.drop (Imp.eq rfl))
    · -- if 1: no
      try have p1 := of_decide_eq_false h1
      have hgood : ¬ (left - 1 < 0 ∨ 60 < deep ∨ plainB k u n t l.length = false) := by
        simp only [Bool.or_eq_false_iff, decide_eq_false_iff_not, Bool.not_eq_false'] at h1
        rintro (h | h | h)
        · exact h1.1.1 h
        · exact h1.1.2 h
        · rw [h1.2] at h; cases h
      rw [if_neg hgood]
      have hl0 : 0 ≤ left - 1 := by omega
      have hd0 : deep ≤ 60 := by omega
      refine WC.skip ?_
      refine AT.then_n ?_
      refine WC.seq ?_
      refine WC.seq ?_
      refine WC.region ?_
      refine WLy.enter ?_
      refine WLy.q (q_fieldAddr rfl fo_38_4) rfl rfl ?_
      refine WLy.q (q_load rfl a_35 (by first | exact Cell.ptL 0 rfl rfl | exact Cell.ptL 1 rfl rfl | exact Cell.ptL 2 rfl rfl | exact Cell.ptL 3 rfl rfl)) rfl rfl ?_
      refine WLy.q (q_len rfl u_35) rfl rfl ?_
      refine WLy.q (q_move rfl) rfl rfl ?_
      refine WLy.done ?_
      refine AT.then_n ?_
      refine WC.block ?_
      refine WC.loop (σ := Nat) (fun i => i ≤ l.length ∧ (wkL (deep + 1) (left - 1) (erL (l.take i))).1 = true) (fun i => [(30, .int .i64 i), (28, .slice A l.length cap), (29, .int .i64 l.length), (1, .int .i64 deep), (2, .pointer (some (ad p 0)))]) (fun i => Pt b1 (.cells (Tg.mk k u n t A cap l).cells.toArray 38 (0, 0)) :: intC' p (wkL (deep + 1) (left - 1) (erL (l.take i))).2 :: own) (fun _ => K) (fun i => l.length - i) 0 ⟨by omega, by simp [erL, wkL_nil]⟩ ⟨rfl, rfl, rfl, rfl, rfl, trivial⟩ (Imp.eq (by simp [erL, wkL_nil, Value.cells])) ?_
      rintro i ⟨hi, hw⟩
      obtain ⟨w1, w2, w3⟩ := wkL_le (deep + 1) (left - 1) (erL (l.take i))
      have w4 := w3 hl0 hw
      refine WC.seq ?_
      refine WC.region ?_
      refine WLy.enter ?_
      refine WLy.q (q_lss rfl rfl) rfl rfl ?_
      refine WLy.done ?_
      refine AT.then_n ?_
      refine WC.seq ?_
      refine WC.cond rfl (fun h2 => ?_) (fun h2 => ?_)
      · -- if 2: yes
        try have p2 := of_decide_eq_true h2
        have hlt : i < l.length := by omega
        have hnext : wkL (deep + 1) (left - 1) (erL (l.take (i + 1))) = wk (deep + 1) (wkL (deep + 1) (left - 1) (erL (l.take i))).2 l[i].er := by
          rw [List.take_succ_eq_append_getElem hlt, erL_map, List.map_append, wkL_app, ← erL_map, if_pos hw, List.map_cons, List.map_nil, wkL_one]
        refine WC.skip ?_
        refine AT.then_n ?_
        refine WC.seq ?_
        refine WC.block ?_
        refine WC.seq ?_
        refine WC.region ?_
        refine WLy.enter ?_
        refine WLy.q (q_indexAddr rfl rfl u_35 i_38 (Based.row hrow.row (by rw [flat_len Tg.cells 5 Tg.len]; omega)) (by omega)) rfl rfl ?_
        refine WLy.q (q_loadA rfl a_38 i_38 (Cells.at hrow.row Tg.len hlt) (Tg.len _)) rfl rfl ?_
        refine WLy.eff (e_alloc i_38) rfl rfl ?_; rintro _ _ _ ⟨b3, rfl, rfl, rfl⟩
        refine WLy.effn (e_storeAll 0 rfl rfl rfl i_38 rfl (Tg.len _) (by simp [Value.cells]) (Tg.ones _)) ?_; rintro _ _ _ ⟨rfl, rfl, rfl⟩
        refine WLy.done ?_
        refine AT.then_n ?_
        refine WC.seq ?_
        refine WC.region ?_
        refine WLy.enter ?_
        refine WLy.q (q_loadA rfl a_38 i_38 (Cells.pt 0 rfl) (Tg.len _)) rfl rfl ?_
        refine WLy.q (q_move rfl) rfl rfl ?_
        first | refine WLy.q (q_add64 rfl rfl (by omega)) rfl rfl ?_ | refine WLy.q (q_add rfl rfl) rfl rfl ?_
        refine WLy.q (q_move rfl) rfl rfl ?_
        refine WLy.eff (e_call rfl (Spec.at_ 2 rfl (ih _ (List.getElem_mem hlt) (hrow.ok _ (List.getElem_mem hlt)) (deep := deep + 1) (by omega) ⟨w4, by omega⟩ (htx _ (List.getElem_mem hlt))))) rfl rfl ?_; rintro _ _ _ ⟨rfl, rfl, rfl⟩
        refine WLy.q (q_not rfl) rfl rfl ?_
        refine WLy.done ?_
        refine AT.then_n ?_
        refine WC.cond rfl (fun h3 => ?_) (fun h3 => ?_)
        · -- if 3: yes
          try have p3 := of_decide_eq_true h3
          refine WC.seq ?_
          refine WC.region ?_
          refine WLy.enter ?_
          refine WLy.q (q_assign rfl) rfl rfl ?_
          refine WLy.done ?_
          refine AT.then_n ?_
          refine WC.ret ?_
          refine AT.blk_r ?_
          refine AT.then_r ?_
          refine AT.then_r ?_
          refine AT.blk_r ?_
          refine AT.then_r ?_
          have hw2 : (wkL (deep + 1) (left - 1) (erL l)) = (false, (wkL (deep + 1) (left - 1) (erL (l.take (i + 1)))).2) := by
            have e : erL l = erL (l.take (i + 1)) ++ erL (l.drop (i + 1)) := by rw [erL_map, erL_map, erL_map, ← List.map_append, List.take_append_drop]
            have hf : ¬ (wkL (deep + 1) (left - 1) (erL (l.take (i + 1)))).1 = true := by rw [hnext]; simpa using h3
            rw [e, wkL_app, if_neg hf]
          rw [hw2]
          exact AT.done rfl (RO.one rfl rfl) ⟨rfl, rfl, rfl⟩ (Imp.drop (Imp.drop (Imp.eq (by rw [hnext]; rfl))))
        · -- if 3: no
          try have p3 := of_decide_eq_false h3
          refine WC.skip ?_
          refine AT.blk_n ?_
          refine AT.then_n ?_
          refine WC.region ?_
          refine WLy.enter ?_
          first | refine WLy.q (q_add64 rfl rfl (by omega)) rfl rfl ?_ | refine WLy.q (q_add rfl rfl) rfl rfl ?_
          refine WLy.q (q_move rfl) rfl rfl ?_
          refine WLy.done ?_
          refine AT.mid (i + 1) ⟨⟨by omega, by rw [hnext]; simpa using h3⟩, by omega⟩ ⟨rfl, rfl, rfl, rfl, rfl, trivial⟩ (Imp.drop (Imp.eq ?_))
          rw [hnext]; rfl
      · -- if 2: no
        try have p2 := of_decide_eq_false h2
        refine WC.exit ?_
        refine AT.then_e ?_
        refine AT.then_e ?_
        refine AT.blk_e ?_
        refine AT.then_n ?_
        refine WC.seq ?_
        refine WC.region ?_
        refine WLy.enter ?_
        refine WLy.q (q_assign rfl) rfl rfl ?_
        refine WLy.done ?_
        refine AT.then_n ?_
        refine WC.ret ?_
        have hi2 : i = l.length := by omega
        subst hi2
        rw [List.take_length] at hw ⊢
        exact AT.done rfl (RO.one rfl rfl) ⟨congrArg Value.bool hw, rfl, rfl⟩ (Imp.drop (Imp.eq rfl))

theorem c161 {own : List SP} {K : PH → Prop} {T : Tg} (hT : Ent K T.ok) (hs : T.small) : Spec Try.prog 161 [.agg T.cells.toArray] (own) (K)
    (Ret (.int .i64 (szP T.er)) own K) := by
  refine Spec.of en_161 Try.func161 rfl rfl fun g => ?_
  refine WC.seq ?_
  refine WC.region ?_
  refine WL.eff (e_box rfl) rfl ?_; rintro _ _ _ ⟨b1, rfl, rfl, rfl⟩
  refine WL.q (q_assign rfl) rfl ?_
  refine WL.nil ?_
  refine AT.then_n ?_
  refine WC.seq ?_
  refine WC.region ?_
  refine WL.eff (e_alloc i_3) rfl ?_; rintro _ _ _ ⟨b2, rfl, rfl, rfl⟩
  refine WL.effn (e_store 0 rfl rfl rfl i_3 rfl (by simp [Value.cells])) ?_; rintro _ _ _ ⟨rfl, rfl, rfl⟩
  refine WL.nil ?_
  refine AT.then_n ?_
  refine WC.seq ?_
  refine WC.seq ?_
  refine WC.region ?_
  refine WL.q (q_loadA rfl a_38 i_38 (Cells.pt 1 rfl) (Tg.len _)) rfl ?_
  refine WL.eff (e_call rfl (c224 T (own := Pt b1 (.cells (Value.agg T.cells.toArray).cells 38 (0, 0)) :: own) (deep := 1) (left := 1200) (p := b2) hT (by omega) (by omega) hs)) rfl ?_; rintro _ _ _ ⟨rfl, rfl, rfl⟩
  obtain ⟨w1, w2, w3⟩ := wk_le 1 1200 T.er
  have w4 := w2 (by omega)
  refine WL.q (q_not rfl) rfl ?_
  refine WL.nil ?_
  refine AT.then_n ?_
  refine WC.cond rfl (fun h1 => ?_) (fun h1 => ?_)
  · -- if 1: yes
    try have p1 := of_decide_eq_true h1
    refine WC.seq ?_
    refine WC.region ?_
    refine WL.q (q_assign rfl) rfl ?_
    refine WL.nil ?_
    refine AT.then_n ?_
    refine WC.ret ?_
    refine AT.then_r ?_
    refine AT.done rfl (RO.one rfl rfl) ⟨?_, rfl, rfl⟩ (Imp.drop (Imp.drop (Imp.refl _ _)))
    unfold szP; rw [if_neg (by simpa using h1)]
  · -- if 1: no
    try have p1 := of_decide_eq_false h1
    refine WC.skip ?_
    refine AT.then_n ?_
    refine WC.seq ?_
    refine WC.region ?_
    refine WL.q (q_load rfl a_3 (by first | exact Cell.ptL 0 rfl rfl | exact Cell.ptL 1 rfl rfl | exact Cell.ptL 2 rfl rfl | exact Cell.ptL 3 rfl rfl)) rfl ?_
    first | refine WL.q (q_sub64 rfl rfl (by omega)) rfl ?_ | refine WL.q (q_sub rfl rfl) rfl ?_
    refine WL.q (q_assign rfl) rfl ?_
    refine WL.nil ?_
    refine AT.then_n ?_
    refine WC.ret ?_
    refine AT.done rfl (RO.one rfl rfl) ⟨?_, rfl, rfl⟩ (Imp.drop (Imp.drop (Imp.refl _ _)))
    unfold szP; rw [if_pos (by simpa using h1)]

theorem c71 {own : List SP} {K : PH → Prop} {T : Tg} (hT : Ent K T.ok) (hs : T.small) : Spec Try.prog 71 [.agg T.cells.toArray] (own) (K)
    (Ret (.int .i64 (szP T.er)) own K) := by
  refine Spec.of en_71 Try.func71 rfl rfl fun g => ?_
  refine WC.seq ?_
  refine WC.region ?_
  refine WL.eff (e_box rfl) rfl ?_; rintro _ _ _ ⟨b1, rfl, rfl, rfl⟩
  refine WL.q (q_assign rfl) rfl ?_
  refine WL.nil ?_
  refine AT.then_n ?_
  refine WC.seq ?_
  refine WC.region ?_
  refine WL.q (q_loadA rfl a_38 i_38 (Cells.pt 0 rfl) (Tg.len _)) rfl ?_
  refine WL.eff (e_call rfl (c161 (T := T) hT hs)) rfl ?_; rintro _ _ _ ⟨rfl, rfl, rfl⟩
  refine WL.q (q_assign rfl) rfl ?_
  refine WL.nil ?_
  refine AT.then_n ?_
  refine WC.ret ?_
  exact AT.done rfl (RO.one rfl rfl) ⟨rfl, rfl, rfl⟩ (Imp.drop (Imp.refl _ _))

theorem c73 {own : List SP} {K : PH → Prop} {T : Tg} (hT : Ent K T.ok) (hs : T.small) : Spec Try.prog 73 [.agg T.cells.toArray] (own) (K)
    (Ret (.int .i64 (if szP T.er = 0 then 150 else 0)) own K) := by
  refine Spec.of en_73 Try.func73 rfl rfl fun g => ?_
  refine WC.seq ?_
  refine WC.region ?_
  refine WL.eff (e_box rfl) rfl ?_; rintro _ _ _ ⟨b1, rfl, rfl, rfl⟩
  refine WL.q (q_assign rfl) rfl ?_
  refine WL.nil ?_
  refine AT.then_n ?_
  refine WC.seq ?_
  refine WC.seq ?_
  refine WC.region ?_
  refine WL.q (q_loadA rfl a_38 i_38 (Cells.pt 0 rfl) (Tg.len _)) rfl ?_
  refine WL.eff (e_call rfl (c161 (T := T) hT hs)) rfl ?_; rintro _ _ _ ⟨rfl, rfl, rfl⟩
  refine WL.q (q_eql rfl rfl) rfl ?_
  refine WL.nil ?_
  refine AT.then_n ?_
  refine WC.cond rfl (fun h1 => ?_) (fun h1 => ?_)
  · -- if 1: yes
    try have p1 := of_decide_eq_true h1
    refine WC.seq ?_
    refine WC.region ?_
    refine WL.q (q_assign rfl) rfl ?_
    refine WL.nil ?_
    refine AT.then_n ?_
    refine WC.ret ?_
    refine AT.then_r ?_
    exact AT.done rfl (RO.one rfl rfl) ⟨by rw [if_pos p1], rfl, rfl⟩ (Imp.drop (Imp.refl _ _))
  · -- if 1: no
    try have p1 := of_decide_eq_false h1
    refine WC.skip ?_
    refine AT.then_n ?_
    refine WC.seq ?_
    refine WC.region ?_
    refine WL.q (q_assign rfl) rfl ?_
    refine WL.nil ?_
    refine AT.then_n ?_
    refine WC.ret ?_
    exact AT.done rfl (RO.one rfl rfl) ⟨by rw [if_neg p1], rfl, rfl⟩ (Imp.drop (Imp.refl _ _))


theorem wrapB (n : Int) : IntKind.u8.wrap n = ((u8I n).toNat : Int) := by
  unfold u8I
  simp [IntKind.wrap, IntKind.bits, IntKind.signed]
  omega
theorem q_convBI {C : Cx} {e : Env} {own : List SP} {K : PH → Prop} {ty s d : TypeId} {x : Operand} {k : IntKind} {m : Int} (hs : Und C.P s (.int k)) (hd : Und C.P d (.int .u8)) (hx : ev e x = some (.int k m)) : QO C (.convert s d x) ty e own K (bv (u8I m)) := by
  have := q_conv (C := C) (e := e) (own := own) (K := K) (ty := ty) rfl hs hd hx
  rwa [wrapB] at this
theorem wrap16 (n : Int) : IntKind.u16.wrap n = ((n % 65536).toNat : Int) := by
  simp [IntKind.wrap, IntKind.bits, IntKind.signed]
  omega
theorem q_conv16 {C : Cx} {e : Env} {own : List SP} {K : PH → Prop} {ty s d : TypeId} {x : Operand} {k : IntKind} {m : Int} (hs : Und C.P s (.int k)) (hd : Und C.P d (.int .u16)) (hx : ev e x = some (.int k m)) : QO C (.convert s d x) ty e own K (.int .u16 ((m % 65536).toNat : Int)) := by
  have := q_conv (C := C) (e := e) (own := own) (K := K) (ty := ty) rfl hs hd hx
  rwa [wrap16] at this
theorem be16 (n : Int) : be 2 (n % 65536).toNat = [u8I (n / 256), u8I n] := by
  simp only [be, List.range, List.range.loop, List.map_cons, List.map_nil, u8I]
  congr 1
  · apply UInt8.toNat_inj.1; simp; omega
  · congr 1; apply UInt8.toNat_inj.1; simp; omega
/-- Bytes behind bytes. -/
theorem e_appendB {C : Cx} {e : Env} {own : List SP} {K : PH → Prop} (i : Nat) {t u el ty : TypeId} {x y : Operand} {v : Value} {A : Option Addr} {n cap k : Nat} {z : Value} {b new : List UInt8} (hx : ev e x = some (.slice A n cap)) (hy : ev e y = some v) (hn : n = b.length)
    (hsrc : Src C.P own K 1 v k (new.map bv)) (hk : k = new.length) (hi : own[i]? = some (ORow A cap el 1 (b.map bv))) (hu : Und C.P t (.slice el)) (hu2 : (∃ el', Und C.P u (.slice el')) ∨ Und C.P u .string) (hinf : Inf C.P el 1 1 z) (hz : z.cells.size = 1) (hb : b.length + new.length ≤ 140737488355328) :
    EO C (.call { callee := .builtin .append, args := #[x, y], argTypes := #[t, u] }) ty e own K
      (fun r own' K' => ∃ A' cap', r = .slice A' (b ++ new).length cap' ∧ own' = own.set i (ORow A' cap' el 1 ((b ++ new).map bv)) ∧ K = K') := by
  subst hn hk
  exact (e_append i hx hy hsrc hi hu hu2 hinf hz (by simp) (by simp) (ones_bv _) (by omega)).weak fun v o k ⟨A', cap', h1, h2, h3, _⟩ => ⟨o, k, Imp.refl _ _, A', cap', by rw [List.length_append]; exact h1, by rw [h2, List.map_append], h3⟩
theorem putBL_take {l : List Tg} {i : Nat} (h : i < l.length) : putBL (erL (l.take (i + 1))) = putBL (erL (l.take i)) ++ putB l[i].er := by
  rw [putBL_flat, putBL_flat, List.take_succ_eq_append_getElem h, erL_map, erL_map, List.map_append, List.flatMap_append]; simp
theorem putBL_le {l : List Tg} {i : Nat} (h : i < l.length) : (putBL (erL (l.take i))).length + (putB l[i].er).length ≤ (putBL (erL l)).length := by
  have e : putBL (erL l) = putBL (erL (l.take (i + 1))) ++ putBL (erL (l.drop (i + 1))) := by
    rw [putBL_flat, putBL_flat, putBL_flat, erL_map, erL_map, erL_map, ← List.flatMap_append, ← List.map_append, List.take_append_drop]
  rw [e, putBL_take h]; simp

theorem c162 (T : Tg) : ∀ {own : List SP} {K : PH → Prop} {b : List UInt8} {A : Option Addr} {cap : Nat} (hT : Ent K T.ok) (hs : T.small) (hlen : b.length + (putB T.er).length ≤ 1000000000), Spec Try.prog 162 [.slice A b.length cap, .agg T.cells.toArray] (ORow A cap 5 1 (b.map bv) :: own) (K)
    (fun v o k => ∃ A' cap', v = .slice A' (b ++ putB T.er).length cap' ∧ o = ORow A' cap' 5 1 ((b ++ putB T.er).map bv) :: own ∧ Ent k K) := by
  induction T using Tg.ind with
  | h k u n t A cap l ih =>
    intro own K b A0 cap0 hT hs hlen
    obtain ⟨ht, hln, htx⟩ := Tg.small_mk.1 hs
    have hrow := Ent.kids hT
    have hsz : b.length + 1 + (if fieldsN k &&& 1 ≠ 0 then u8I t.length :: t else []).length + (if fieldsN k &&& 2 ≠ 0 then [u8I u] else []).length + (if fieldsN k &&& 4 ≠ 0 then [u8I (n / 256), u8I n] else []).length + (putBL (erL l)).length ≤ 1000000000 := by
      rw [Tg.er_mk, putB_mk, ← erL_map] at hlen
      simp only [List.length_append, List.length_cons, List.length_nil] at hlen ⊢
      omega
    refine Spec.of en_162 Try.func162 rfl rfl fun g => ?_
    refine WC.seq ?_
    refine WC.region ?_
    refine WL.eff (e_box rfl) rfl ?_; rintro _ _ _ ⟨b1, rfl, rfl, rfl⟩
    refine WL.q (q_assign rfl) rfl ?_
    refine WL.nil ?_
    refine AT.then_n ?_
    refine WC.seq ?_
    refine WC.region ?_
    refine WL.q (q_fieldAddr rfl fo_38_0) rfl ?_
    refine WL.q (q_load rfl a_3 (by first | exact Cell.ptL 0 rfl rfl | exact Cell.ptL 1 rfl rfl | exact Cell.ptL 2 rfl rfl | exact Cell.ptL 3 rfl rfl)) rfl ?_
    refine WL.eff (e_call rfl (c225 (k := k))) rfl ?_; rintro _ _ _ ⟨rfl, rfl, rfl⟩
    refine WL.q (q_assign rfl) rfl ?_
    refine WL.nil ?_
    refine AT.then_n ?_
    refine WC.seq ?_
    refine WC.region ?_
    refine WL.q (q_move rfl) rfl ?_
    refine WL.q (q_fieldAddr rfl fo_38_0) rfl ?_
    refine WL.q (q_load rfl a_3 (by first | exact Cell.ptL 0 rfl rfl | exact Cell.ptL 1 rfl rfl | exact Cell.ptL 2 rfl rfl | exact Cell.ptL 3 rfl rfl)) rfl ?_
    refine WL.q (q_convBI u_3 u_5 rfl) rfl ?_
    refine WL.eff (e_buildSliceK rfl u_23 i_5 rfl rfl rfl rfl rfl) rfl ?_; rintro _ _ _ ⟨b3, rfl, rfl, rfl⟩
    refine WL.eff (e_appendB 1 (b := b) (new := [u8I k]) rfl rfl rfl (Src.row Ent.right (k := 1) rfl rfl) rfl rfl u_23 (.inl ⟨_, u_23⟩) i_5 rfl (by simp only [List.length_append, List.length_cons, List.length_nil] at *; omega)) rfl ?_; rintro _ _ _ ⟨A9, c9, rfl, rfl, rfl⟩
    refine WL.q (q_assign rfl) rfl ?_
    refine WL.nil ?_
    refine AT.then_n ?_
    refine WC.cut (σ := Option Addr × Nat × (PH → Prop)) (fun ⟨A2, c2, k2⟩ => Ent k2 K) (fun ⟨A2, c2, k2⟩ => [(0, .slice A2 (b ++ [u8I k] ++ (if fieldsN k &&& 1 ≠ 0 then u8I t.length :: t else [])).length c2), (5, .int .i64 (fieldsN k)), (3, .pointer (some (ad b1 0)))]) (fun ⟨A2, c2, k2⟩ => Pt b1 (.cells (Tg.mk k u n t A cap l).cells.toArray 38 (0, 0)) :: ORow A2 c2 5 1 ((b ++ [u8I k] ++ (if fieldsN k &&& 1 ≠ 0 then u8I t.length :: t else [])).map bv) :: own) (fun ⟨A2, c2, k2⟩ => k2) ?_ ?_
    · -- cut
      refine WC.seq ?_
      refine WC.region ?_
      refine WL.q (q_move rfl) rfl ?_
      refine WL.eff (e_call rfl (c226 (f := fieldsN k) (m := 1) (fieldsN_le _) (by decide))) rfl ?_; rintro _ _ _ ⟨rfl, rfl, rfl⟩
      refine WL.nil ?_
      refine AT.then_n ?_
      refine WC.cond rfl (fun h1 => ?_) (fun h1 => ?_)
      · -- if 1: yes
        try have p1 := of_decide_eq_true h1
        refine WC.drawS [0, 1, 3, 4, 7, 10] (Pt b1 (.cells (Tg.mk k u n t A cap l).cells.toArray 38 (0, 0)) :: []) K mixed (NoPan.then NoPan.body) (Imp.keepRest (List.Sublist.cons_cons _ (List.nil_sublist _)) (Ent.refl _).left) rfl ?_
        refine WD.sched [(0, 0), (1, 0), (2, 0), (3, 0), (4, 0), (7, 0), (8, 0), (5, 2), (6, 2), (9, 2), (10, 0)] true (by decide +kernel) ?_
        refine WS.q 0 rfl (q_move rfl) rfl ?_
        refine WS.q 1 rfl (q_fieldAddr rfl fo_38_3) rfl ?_
        refine WS.q 2 rfl (q_load rfl a_9 (by first | exact Cell.ptL 0 rfl rfl | exact Cell.ptL 1 rfl rfl | exact Cell.ptL 2 rfl rfl | exact Cell.ptL 3 rfl rfl)) rfl ?_
        first | refine WS.q 3 rfl (q_lenB rfl u_9) rfl ?_ | refine WS.q 3 rfl (q_lenS rfl u_9) rfl ?_
        refine WS.q 4 rfl (q_convBI u_3 u_5 rfl) rfl ?_
        refine WS.q 7 rfl (q_fieldAddr rfl fo_38_3) rfl ?_
        refine WS.q 8 rfl (q_load rfl a_9 (by first | exact Cell.ptL 0 rfl rfl | exact Cell.ptL 1 rfl rfl | exact Cell.ptL 2 rfl rfl | exact Cell.ptL 3 rfl rfl)) rfl ?_
        refine WS.effL 5 rfl (e_buildSliceK rfl u_23 i_5 rfl rfl rfl rfl rfl) rfl ?_; rintro _ _ _ ⟨b6, rfl, rfl, rfl⟩
        refine ⟨(Imp.keepRest (List.Sublist.cons_cons _ (List.nil_sublist _)) (by repeat (first | assumption | exact Ent.refl _ | refine Ent.left ?_))), ?_⟩
        refine WS.effL 6 rfl (e_appendB 1 (b := (b ++ [u8I k])) (new := [u8I t.length]) rfl rfl rfl (Src.row Ent.right (k := 1) rfl rfl) rfl rfl u_23 (.inl ⟨_, u_23⟩) i_5 rfl (by simp only [List.length_append, List.length_cons, List.length_nil] at *; omega)) rfl ?_; rintro _ _ _ ⟨A9, c9, rfl, rfl, rfl⟩
        refine ⟨(Imp.keepRest (List.Sublist.cons_cons _ (List.nil_sublist _)) (by repeat (first | assumption | exact Ent.refl _ | refine Ent.left ?_))), ?_⟩
        refine WS.effL 9 rfl (e_appendB 1 (b := (b ++ [u8I k]) ++ [u8I t.length]) (new := t) rfl rfl rfl (Src.str rfl) rfl rfl u_23 (.inr u_9) i_5 rfl (by rw [if_pos p1] at hsz; simp only [List.length_append, List.length_cons, List.length_nil] at *; omega)) rfl ?_; rintro _ _ _ ⟨A8, c8, rfl, rfl, rfl⟩
        refine ⟨(Imp.keepRest (List.Sublist.cons_cons _ (List.nil_sublist _)) (by repeat (first | assumption | exact Ent.refl _ | refine Ent.left ?_))), ?_⟩
        refine WS.q 10 rfl (q_assign rfl) rfl ?_
        refine WS.done ?_
        refine AT.mid (A8, c8, _) (by repeat (first | assumption | exact Ent.refl _ | refine Ent.left ?_)) ⟨vsl (by rw [if_pos p1]; simp), rfl, rfl, trivial⟩ (Imp.eq ?_)
        rw [if_pos p1]; simp [List.append_assoc, List.set_cons_succ]; try rfl
      · -- if 1: no
        try have p1 := of_decide_eq_false h1
        refine WC.skip ?_
        refine AT.mid (A9, c9, _) (by repeat (first | assumption | exact Ent.refl _ | refine Ent.left ?_)) ⟨vsl (by rw [if_neg p1]; simp), rfl, rfl, trivial⟩ (Imp.eq ?_)
        rw [if_neg p1]; simp [List.set_cons_succ]; try rfl
    · -- behind the cut
      rintro ⟨A2, c2, k2⟩ hk2
      simp only at hk2 ⊢
      refine WC.cut (σ := Option Addr × Nat × (PH → Prop)) (fun ⟨A2, c2, k2⟩ => Ent k2 K) (fun ⟨A2, c2, k2⟩ => [(0, .slice A2 (b ++ [u8I k] ++ (if fieldsN k &&& 1 ≠ 0 then u8I t.length :: t else []) ++ (if fieldsN k &&& 2 ≠ 0 then [u8I u] else [])).length c2), (5, .int .i64 (fieldsN k)), (3, .pointer (some (ad b1 0)))]) (fun ⟨A2, c2, k2⟩ => Pt b1 (.cells (Tg.mk k u n t A cap l).cells.toArray 38 (0, 0)) :: ORow A2 c2 5 1 ((b ++ [u8I k] ++ (if fieldsN k &&& 1 ≠ 0 then u8I t.length :: t else []) ++ (if fieldsN k &&& 2 ≠ 0 then [u8I u] else [])).map bv) :: own) (fun ⟨A2, c2, k2⟩ => k2) ?_ ?_
      · -- cut
        refine WC.seq ?_
        refine WC.region ?_
        refine WL.q (q_move rfl) rfl ?_
        refine WL.eff (e_call rfl (c226 (f := fieldsN k) (m := 2) (fieldsN_le _) (by decide))) rfl ?_; rintro _ _ _ ⟨rfl, rfl, rfl⟩
        refine WL.nil ?_
        refine AT.then_n ?_
        refine WC.cond rfl (fun h2 => ?_) (fun h2 => ?_)
        · -- if 2: yes
          try have p2 := of_decide_eq_true h2
          refine WC.region ?_
          refine WL.q (q_move rfl) rfl ?_
          refine WL.q (q_fieldAddr rfl fo_38_1) rfl ?_
          refine WL.q (q_load rfl a_3 (by first | exact Cell.ptL 0 rfl rfl | exact Cell.ptL 1 rfl rfl | exact Cell.ptL 2 rfl rfl | exact Cell.ptL 3 rfl rfl)) rfl ?_
          refine WL.q (q_convBI u_3 u_5 rfl) rfl ?_
          refine WL.eff (e_buildSliceK rfl u_23 i_5 rfl rfl rfl rfl rfl) rfl ?_; rintro _ _ _ ⟨b10, rfl, rfl, rfl⟩
          refine WL.eff (e_appendB 1 (b := (b ++ [u8I k] ++ (if fieldsN k &&& 1 ≠ 0 then u8I t.length :: t else []))) (new := [u8I u]) rfl rfl rfl (Src.row Ent.right (k := 1) rfl rfl) rfl rfl u_23 (.inl ⟨_, u_23⟩) i_5 rfl (by simp only [List.length_append, List.length_cons, List.length_nil] at *; omega)) rfl ?_; rintro _ _ _ ⟨A9, c9, rfl, rfl, rfl⟩
          refine WL.q (q_assign rfl) rfl ?_
          refine WL.nil ?_
          refine AT.mid (A9, c9, _) (by repeat (first | assumption | exact Ent.refl _ | refine Ent.left ?_)) ⟨vsl (by rw [if_pos p2]), rfl, rfl, trivial⟩ (Imp.eq ?_)
          rw [if_pos p2]; rfl
        · -- if 2: no
          try have p2 := of_decide_eq_false h2
          refine WC.skip ?_
          refine AT.mid (A2, c2, _) (by repeat (first | assumption | exact Ent.refl _ | refine Ent.left ?_)) ⟨vsl (by rw [if_neg p2]; simp), rfl, rfl, trivial⟩ (Imp.eq ?_)
          rw [if_neg p2]; simp
      · -- behind the cut
        rintro ⟨A2, c2, k2⟩ hk2
        simp only at hk2 ⊢
        refine WC.cut (σ := Option Addr × Nat × (PH → Prop)) (fun ⟨A2, c2, k2⟩ => Ent k2 K) (fun ⟨A2, c2, k2⟩ => [(0, .slice A2 (b ++ [u8I k] ++ (if fieldsN k &&& 1 ≠ 0 then u8I t.length :: t else []) ++ (if fieldsN k &&& 2 ≠ 0 then [u8I u] else []) ++ (if fieldsN k &&& 4 ≠ 0 then [u8I (n / 256), u8I n] else [])).length c2), (5, .int .i64 (fieldsN k)), (3, .pointer (some (ad b1 0)))]) (fun ⟨A2, c2, k2⟩ => Pt b1 (.cells (Tg.mk k u n t A cap l).cells.toArray 38 (0, 0)) :: ORow A2 c2 5 1 ((b ++ [u8I k] ++ (if fieldsN k &&& 1 ≠ 0 then u8I t.length :: t else []) ++ (if fieldsN k &&& 2 ≠ 0 then [u8I u] else []) ++ (if fieldsN k &&& 4 ≠ 0 then [u8I (n / 256), u8I n] else [])).map bv) :: own) (fun ⟨A2, c2, k2⟩ => k2) ?_ ?_
        · -- cut
          refine WC.seq ?_
          refine WC.region ?_
          refine WL.q (q_move rfl) rfl ?_
          refine WL.eff (e_call rfl (c226 (f := fieldsN k) (m := 4) (fieldsN_le _) (by decide))) rfl ?_; rintro _ _ _ ⟨rfl, rfl, rfl⟩
          refine WL.nil ?_
          refine AT.then_n ?_
          refine WC.cond rfl (fun h3 => ?_) (fun h3 => ?_)
          · -- if 3: yes
            try have p3 := of_decide_eq_true h3
            refine WC.region ?_
            refine WL.q (q_move rfl) rfl ?_
            refine WL.q (q_fieldAddr rfl fo_38_2) rfl ?_
            refine WL.q (q_load rfl a_3 (by first | exact Cell.ptL 0 rfl rfl | exact Cell.ptL 1 rfl rfl | exact Cell.ptL 2 rfl rfl | exact Cell.ptL 3 rfl rfl)) rfl ?_
            refine WL.q (q_conv16 u_3 u_34 rfl) rfl ?_
            refine WL.imp (Imp.trans (Imp.front 1 rfl) Imp.orowStay) ?_
            refine WL.eff (e_call rfl (c38O (b := (b ++ [u8I k] ++ (if fieldsN k &&& 1 ≠ 0 then u8I t.length :: t else []) ++ (if fieldsN k &&& 2 ≠ 0 then [u8I u] else []))) Ent.right (by simp only [List.length_append, List.length_cons, List.length_nil] at *; omega) (by omega))) rfl ?_; rintro _ _ _ ⟨A9, rfl, rfl, rfl⟩
            refine WL.q (q_assign rfl) rfl ?_
            refine WL.nil ?_
            refine AT.mid (A9, _, _) (by repeat (first | assumption | exact Ent.refl _ | refine Ent.left ?_)) ⟨vsl (by rw [if_pos p3]; simp [Nat.add_assoc]), rfl, rfl, trivial⟩ (Imp.trans Imp.swap (Imp.eq ?_))
            rw [if_pos p3, be16]; simp
          · -- if 3: no
            try have p3 := of_decide_eq_false h3
            refine WC.skip ?_
            refine AT.mid (A2, c2, _) (by repeat (first | assumption | exact Ent.refl _ | refine Ent.left ?_)) ⟨vsl (by rw [if_neg p3]; simp), rfl, rfl, trivial⟩ (Imp.eq ?_)
            rw [if_neg p3]; simp
        · -- behind the cut
          rintro ⟨A2, c2, k2⟩ hk2
          simp only at hk2 ⊢
          refine WC.seq ?_
          refine WC.seq ?_
          refine WC.region ?_
          refine WL.q (q_fieldAddr rfl fo_38_4) rfl ?_
          refine WL.q (q_load rfl a_35 (by first | exact Cell.ptL 0 rfl rfl | exact Cell.ptL 1 rfl rfl | exact Cell.ptL 2 rfl rfl | exact Cell.ptL 3 rfl rfl)) rfl ?_
          refine WL.q (q_len rfl u_35) rfl ?_
          refine WL.q (q_move rfl) rfl ?_
          refine WL.nil ?_
          refine AT.then_n ?_
          refine WC.block ?_
          refine WC.loop (σ := Nat × Option Addr × Nat × (PH → Prop)) (fun ⟨i, A2, c2, k2⟩ => i ≤ l.length ∧ Ent k2 K) (fun ⟨i, A2, c2, k2⟩ => [(47, .int .i64 i), (45, .slice A l.length cap), (46, .int .i64 l.length), (0, .slice A2 ((b ++ [u8I k] ++ (if fieldsN k &&& 1 ≠ 0 then u8I t.length :: t else []) ++ (if fieldsN k &&& 2 ≠ 0 then [u8I u] else []) ++ (if fieldsN k &&& 4 ≠ 0 then [u8I (n / 256), u8I n] else [])) ++ putBL (erL (l.take i))).length c2)]) (fun ⟨i, A2, c2, k2⟩ => Pt b1 (.cells (Tg.mk k u n t A cap l).cells.toArray 38 (0, 0)) :: ORow A2 c2 5 1 (((b ++ [u8I k] ++ (if fieldsN k &&& 1 ≠ 0 then u8I t.length :: t else []) ++ (if fieldsN k &&& 2 ≠ 0 then [u8I u] else []) ++ (if fieldsN k &&& 4 ≠ 0 then [u8I (n / 256), u8I n] else [])) ++ putBL (erL (l.take i))).map bv) :: own) (fun ⟨i, A2, c2, k2⟩ => k2) (fun ⟨i, _⟩ => l.length - i) (0, A2, c2, k2) ⟨by omega, hk2⟩ ⟨rfl, rfl, rfl, vsl (by simp [erL, putBL]), trivial⟩ (Imp.eq (by simp [erL, putBL])) ?_
          rintro ⟨i, A3, c3, k3⟩ ⟨hi, hk3⟩
          simp only at hi hk3 ⊢
          refine WC.seq ?_
          refine WC.region ?_
          refine WL.q (q_lss rfl rfl) rfl ?_
          refine WL.nil ?_
          refine AT.then_n ?_
          refine WC.seq ?_
          refine WC.cond rfl (fun h4 => ?_) (fun h4 => ?_)
          · -- if 4: yes
            try have p4 := of_decide_eq_true h4
            have hlt : i < l.length := by omega
            have hnext := putBL_take hlt
            have hle := putBL_le hlt
            have hrow := hrow.weak hk3
            refine WC.skip ?_
            refine AT.then_n ?_
            refine WC.seq ?_
            refine WC.block ?_
            refine WC.seq ?_
            refine WC.region ?_
            refine WL.q (q_indexAddr rfl rfl u_35 i_38 (Based.row hrow.row (by rw [flat_len Tg.cells 5 Tg.len]; omega)) (by omega)) rfl ?_
            refine WL.q (q_loadA rfl a_38 i_38 (Cells.at hrow.row Tg.len hlt) (Tg.len _)) rfl ?_
            refine WL.eff (e_alloc i_38) rfl ?_; rintro _ _ _ ⟨b14, rfl, rfl, rfl⟩
            refine WL.effn (e_storeAll 0 rfl rfl rfl i_38 rfl (Tg.len _) (by simp [Value.cells]) (Tg.ones _)) ?_; rintro _ _ _ ⟨rfl, rfl, rfl⟩
            refine WL.nil ?_
            refine AT.then_n ?_
            refine WC.region ?_
            refine WL.q (q_move rfl) rfl ?_
            refine WL.q (q_loadA rfl a_38 i_38 (Cells.pt 0 rfl) (Tg.len _)) rfl ?_
            refine WL.eff (e_call rfl (Spec.pre (Imp.front 2 rfl) (ih _ (List.getElem_mem hlt) (b := (b ++ [u8I k] ++ (if fieldsN k &&& 1 ≠ 0 then u8I t.length :: t else []) ++ (if fieldsN k &&& 2 ≠ 0 then [u8I u] else []) ++ (if fieldsN k &&& 4 ≠ 0 then [u8I (n / 256), u8I n] else [])) ++ putBL (erL (l.take i))) (K := k3) (hrow.ok _ (List.getElem_mem hlt)) (htx _ (List.getElem_mem hlt)) (by simp only [List.length_append, List.length_cons, List.length_nil] at *; omega)))) rfl ?_; rintro _ _ k9 ⟨A9, c9, rfl, rfl, hk9⟩
            refine WL.q (q_assign rfl) rfl ?_
            refine WL.nil ?_
            refine AT.blk_n ?_
            refine AT.then_n ?_
            refine WC.region ?_
            first | refine WL.q (q_add64 rfl rfl (by omega)) rfl ?_ | refine WL.q (q_add rfl rfl) rfl ?_
            refine WL.q (q_move rfl) rfl ?_
            refine WL.nil ?_
            refine AT.mid (i + 1, A9, c9, k9) ⟨⟨by simp only; omega, hk9.trans hk3⟩, by simp only; omega⟩ ⟨rfl, rfl, rfl, vsl (by rw [hnext, List.append_assoc]), trivial⟩ (Imp.trans (Imp.sub (List.Sublist.cons_cons _ (List.Sublist.cons _ (List.Sublist.refl _)))) (Imp.trans Imp.swap (Imp.eq (by rw [hnext, List.append_assoc]; rfl))))
          · -- if 4: no
            try have p4 := of_decide_eq_false h4
            refine WC.exit ?_
            refine AT.then_e ?_
            refine AT.then_e ?_
            refine AT.blk_e ?_
            refine AT.then_n ?_
            refine WC.seq ?_
            refine WC.region ?_
            refine WL.q (q_move rfl) rfl ?_
            refine WL.q (q_assign rfl) rfl ?_
            refine WL.nil ?_
            refine AT.then_n ?_
            refine WC.ret ?_
            have hi2 : i = l.length := by omega
            subst hi2
            rw [List.take_length]
            have hfin : (b ++ [u8I k] ++ (if fieldsN k &&& 1 ≠ 0 then u8I t.length :: t else []) ++ (if fieldsN k &&& 2 ≠ 0 then [u8I u] else []) ++ (if fieldsN k &&& 4 ≠ 0 then [u8I (n / 256), u8I n] else [])) ++ putBL (erL l) = b ++ putB (Tg.mk k u n t A cap l).er := by
              rw [Tg.er_mk, putB_mk, ← erL_map]; simp [List.append_assoc]
            rw [hfin]
            exact AT.done rfl (RO.one rfl rfl) ⟨A3, c3, rfl, rfl, hk3⟩ (Imp.drop (Imp.refl _ _))

theorem c63_no {own : List SP} {K : PH → Prop} {T : Tg} (hT : Ent K T.ok) (hs : T.small) (hz : szP T.er = 0) : Spec Try.prog 63 [.agg T.cells.toArray] (own) (K)
    (Ret (.tuple #[.slice none 0 0, .int .i64 150]) own K) := by
  refine Spec.of en_63 Try.func63 rfl rfl fun g => ?_
  refine WC.seq ?_
  refine WC.region ?_
  refine WL.eff (e_box rfl) rfl ?_; rintro _ _ _ ⟨b1, rfl, rfl, rfl⟩
  refine WL.q (q_assign rfl) rfl ?_
  refine WL.q (q_assign rfl) rfl ?_
  refine WL.nil ?_
  refine AT.then_n ?_
  refine WC.seq ?_
  refine WC.seq ?_
  refine WC.region ?_
  refine WL.q (q_loadA rfl a_38 i_38 (Cells.pt 0 rfl) (Tg.len _)) rfl ?_
  refine WL.eff (e_call rfl (c161 (T := T) hT hs)) rfl ?_; rintro _ _ _ ⟨rfl, rfl, rfl⟩
  refine WL.q (q_eql rfl rfl) rfl ?_
  refine WL.nil ?_
  refine AT.then_n ?_
  refine WC.condHT rfl (by rw [hz]; rfl) ?_
  refine WC.seq ?_
  refine WC.region ?_
  refine WL.q (q_assign rfl) rfl ?_
  refine WL.q (q_assign rfl) rfl ?_
  refine WL.nil ?_
  refine AT.then_n ?_
  refine WC.ret ?_
  refine AT.then_r ?_
  exact AT.done rfl (RO.two rfl rfl rfl) ⟨rfl, rfl, rfl⟩ (Imp.drop (Imp.refl _ _))

theorem c63_ok {own : List SP} {K : PH → Prop} {T : Tg} (hT : Ent K T.ok) (hs : T.small) (hz : szP T.er ≠ 0) (hl : (putB T.er).length ≤ 1000000000) : Spec Try.prog 63 [.agg T.cells.toArray] (own) (K)
    (fun v o k => ∃ A' cap', v = .tuple #[.slice A' (putB T.er).length cap', .int .i64 0] ∧ o = ORow A' cap' 5 1 ((putB T.er).map bv) :: own ∧ Ent k K) := by
  refine Spec.of en_63 Try.func63 rfl rfl fun g => ?_
  refine WC.seq ?_
  refine WC.region ?_
  refine WL.eff (e_box rfl) rfl ?_; rintro _ _ _ ⟨b1, rfl, rfl, rfl⟩
  refine WL.q (q_assign rfl) rfl ?_
  refine WL.q (q_assign rfl) rfl ?_
  refine WL.nil ?_
  refine AT.then_n ?_
  refine WC.seq ?_
  refine WC.seq ?_
  refine WC.region ?_
  refine WL.q (q_loadA rfl a_38 i_38 (Cells.pt 0 rfl) (Tg.len _)) rfl ?_
  refine WL.eff (e_call rfl (c161 (T := T) hT hs)) rfl ?_; rintro _ _ _ ⟨rfl, rfl, rfl⟩
  refine WL.q (q_eql rfl rfl) rfl ?_
  refine WL.nil ?_
  refine AT.then_n ?_
  refine WC.condHF rfl (by simpa using hz) ?_
  refine WC.skip ?_
  refine AT.then_n ?_
  refine WC.seq ?_
  refine WC.region ?_
  refine WL.q (q_loadA rfl a_38 i_38 (Cells.pt 0 rfl) (Tg.len _)) rfl ?_
  refine WL.eff (e_call rfl (Spec.pre (Imp.orowNil 5 1) (c162 T (b := []) hT hs (by simpa using hl)))) rfl ?_; rintro _ _ k3 ⟨A3, c3, rfl, rfl, hk3⟩
  refine WL.q (q_assign rfl) rfl ?_
  refine WL.q (q_assign rfl) rfl ?_
  refine WL.nil ?_
  refine AT.then_n ?_
  refine WC.ret ?_
  exact AT.done rfl (RO.two rfl rfl rfl) ⟨A3, c3, rfl, rfl, hk3⟩ (Imp.trans Imp.swap (Imp.drop (Imp.refl _ _)))

theorem c166 {own : List SP} {K : PH → Prop} {A B : Option Addr} {ca cb : Nat} {a b : List UInt8} (ha : Bts own K A a) (hb : Bts own K B b) : Spec Try.prog 166 [.slice A a.length ca, .slice B b.length cb] (own) (K)
    (Ret (.int .i64 (Lib.compareBytes a b)) own K) := by
  refine Spec.of en_166 Try.func166 rfl rfl fun g => ?_
  refine WC.seq ?_
  refine WC.region ?_
  refine WL.q (q_assign rfl) rfl ?_
  refine WL.nil ?_
  refine AT.then_n ?_
  refine WC.seq ?_
  refine WC.region ?_
  refine WL.q (q_move rfl) rfl ?_
  refine WL.q (q_move rfl) rfl ?_
  refine WL.q (q_cmp rfl rfl rfl ha hb) rfl ?_
  refine WL.q (q_assign rfl) rfl ?_
  refine WL.nil ?_
  refine AT.then_n ?_
  refine WC.ret ?_
  exact AT.done rfl (RO.one rfl rfl) ⟨rfl, rfl, rfl⟩ (Imp.refl _ _)

theorem c75_a {own : List SP} {K : PH → Prop} {T U : Tg} (hT : Ent K T.ok) (hs : T.small) (hU : Ent K U.ok) (hsU : U.small) (hz : szP T.er ≤ 0) : Spec Try.prog 75 [.agg T.cells.toArray, .agg U.cells.toArray] (own) (K)
    (Ret (.bool false) own K) := by
  refine Spec.of en_75 Try.func75 rfl rfl fun g => ?_
  refine WC.seq ?_
  refine WC.region ?_
  refine WL.eff (e_box rfl) rfl ?_; rintro _ _ _ ⟨b1, rfl, rfl, rfl⟩
  refine WL.eff (e_box rfl) rfl ?_; rintro _ _ _ ⟨b2, rfl, rfl, rfl⟩
  refine WL.q (q_assign rfl) rfl ?_
  refine WL.nil ?_
  refine AT.then_n ?_
  refine WC.seq ?_
  refine WC.drawS [2, 3, 6, 7, 8, 14, 15, 16] _ _ mixed (NoPan.then NoPan.body) (Imp.refl _ _) rfl ?_
  refine WD.sched [(0, 0), (1, 2), (2, 0), (3, 0)] false (by decide +kernel) ?_
  refine WS.q 0 rfl (q_loadA rfl a_38 i_38 (Cells.pt 1 rfl) (Tg.len _)) rfl ?_
  refine WS.eff2 1 rfl (e_call rfl (c161 (T := T) hT hs)) rfl ?_; rintro _ _ _ ⟨rfl, rfl, rfl⟩
  refine ⟨(by first | exact (Imp.refl _ _) | exact (Imp.sub (List.Sublist.cons _ (List.Sublist.refl _))) | exact (Imp.ent (Ent.left (Ent.refl _)))), ?_⟩
  refine WS.q 2 rfl (q_gtr rfl rfl) rfl ?_
  refine WS.q 3 rfl (q_move rfl) rfl ?_
  refine WS.back ?_
  refine WD.sched [(4, 0), (5, 0), (6, 0), (7, 0), (8, 0), (9, 0), (10, 0), (11, 0), (12, 0), (13, 0), (14, 0), (15, 0), (16, 0)] true (by decide +kernel) ?_
  refine WS.qoff 4 rfl (by simp) rfl rfl (decide_eq_false (by omega)) rfl ?_
  refine WS.qoff 5 rfl (by simp) rfl rfl (decide_eq_false (by omega)) rfl ?_
  refine WS.qoff 6 rfl (by simp) rfl rfl (decide_eq_false (by omega)) rfl ?_
  refine WS.q 7 rfl (q_pickF rfl (decide_eq_false (by omega)) rfl) rfl ?_
  refine WS.q 8 rfl (q_move rfl) rfl ?_
  refine WS.qoff 9 rfl (by simp) rfl rfl rfl rfl ?_
  refine WS.qoff 10 rfl (by simp) rfl rfl rfl rfl ?_
  refine WS.qoff 11 rfl (by simp) rfl rfl rfl rfl ?_
  refine WS.qoff 12 rfl (by simp) rfl rfl rfl rfl ?_
  refine WS.qoff 13 rfl (by simp) rfl rfl rfl rfl ?_
  refine WS.qoff 14 rfl (by simp) rfl rfl rfl rfl ?_
  refine WS.q 15 rfl (q_pickF rfl rfl rfl) rfl ?_
  refine WS.q 16 rfl (q_assign rfl) rfl ?_
  refine WS.done ?_
  refine AT.then_n ?_
  refine WC.ret ?_
  exact AT.done rfl (RO.one rfl rfl) ⟨rfl, rfl, rfl⟩ (Imp.drop (Imp.drop (Imp.refl _ _)))

theorem c75_b {own : List SP} {K : PH → Prop} {T U : Tg} (hT : Ent K T.ok) (hs : T.small) (hU : Ent K U.ok) (hsU : U.small) (hz : 0 < szP T.er) (hz2 : szP U.er ≤ 0) : Spec Try.prog 75 [.agg T.cells.toArray, .agg U.cells.toArray] (own) (K)
    (Ret (.bool false) own K) := by
  refine Spec.of en_75 Try.func75 rfl rfl fun g => ?_
  refine WC.seq ?_
  refine WC.region ?_
  refine WL.eff (e_box rfl) rfl ?_; rintro _ _ _ ⟨b1, rfl, rfl, rfl⟩
  refine WL.eff (e_box rfl) rfl ?_; rintro _ _ _ ⟨b2, rfl, rfl, rfl⟩
  refine WL.q (q_assign rfl) rfl ?_
  refine WL.nil ?_
  refine AT.then_n ?_
  refine WC.seq ?_
  refine WC.drawS [2, 3, 6, 7, 8, 14, 15, 16] _ _ mixed (NoPan.then NoPan.body) (Imp.refl _ _) rfl ?_
  refine WD.sched [(0, 0), (1, 2), (2, 0), (3, 0)] false (by decide +kernel) ?_
  refine WS.q 0 rfl (q_loadA rfl a_38 i_38 (Cells.pt 1 rfl) (Tg.len _)) rfl ?_
  refine WS.eff2 1 rfl (e_call rfl (c161 (T := T) hT hs)) rfl ?_; rintro _ _ _ ⟨rfl, rfl, rfl⟩
  refine ⟨(by first | exact (Imp.refl _ _) | exact (Imp.sub (List.Sublist.cons _ (List.Sublist.refl _))) | exact (Imp.ent (Ent.left (Ent.refl _)))), ?_⟩
  refine WS.q 2 rfl (q_gtr rfl rfl) rfl ?_
  refine WS.q 3 rfl (q_move rfl) rfl ?_
  refine WS.back ?_
  refine WD.sched [(4, 0), (5, 2), (6, 0), (7, 0), (8, 0)] false (by decide +kernel) ?_
  refine WS.qon 4 rfl rfl rfl (decide_eq_true (by omega)) (q_loadA rfl a_38 i_38 (Cells.pt 0 rfl) (Tg.len _)) rfl ?_
  refine WS.effon2 5 rfl rfl rfl (decide_eq_true (by omega)) (e_call rfl (c161 (T := U) hU hsU)) rfl ?_; rintro _ _ _ ⟨rfl, rfl, rfl⟩
  refine ⟨(by first | exact (Imp.refl _ _) | exact (Imp.sub (List.Sublist.cons _ (List.Sublist.refl _))) | exact (Imp.ent (Ent.left (Ent.refl _)))), ?_⟩
  refine WS.qon 6 rfl rfl rfl (decide_eq_true (by omega)) (q_gtr rfl rfl) rfl ?_
  refine WS.q 7 rfl (q_pickT rfl (decide_eq_true (by omega)) rfl) rfl ?_
  refine WS.q 8 rfl (q_move rfl) rfl ?_
  refine WS.back ?_
  refine WD.sched [(9, 0), (10, 0), (11, 0), (12, 0), (13, 0), (14, 0), (15, 0), (16, 0)] true (by decide +kernel) ?_
  refine WS.qoff 9 rfl (by simp) rfl rfl (decide_eq_false (by omega)) rfl ?_
  refine WS.qoff 10 rfl (by simp) rfl rfl (decide_eq_false (by omega)) rfl ?_
  refine WS.qoff 11 rfl (by simp) rfl rfl (decide_eq_false (by omega)) rfl ?_
  refine WS.qoff 12 rfl (by simp) rfl rfl (decide_eq_false (by omega)) rfl ?_
  refine WS.qoff 13 rfl (by simp) rfl rfl (decide_eq_false (by omega)) rfl ?_
  refine WS.qoff 14 rfl (by simp) rfl rfl (decide_eq_false (by omega)) rfl ?_
  refine WS.q 15 rfl (q_pickF rfl (decide_eq_false (by omega)) rfl) rfl ?_
  refine WS.q 16 rfl (q_assign rfl) rfl ?_
  refine WS.done ?_
  refine AT.then_n ?_
  refine WC.ret ?_
  exact AT.done rfl (RO.one rfl rfl) ⟨rfl, rfl, rfl⟩ (Imp.drop (Imp.drop (Imp.refl _ _)))

theorem c75_c {own : List SP} {K : PH → Prop} {T U : Tg} (hT : Ent K T.ok) (hs : T.small) (hU : Ent K U.ok) (hsU : U.small) (hz : 0 < szP T.er) (hz2 : 0 < szP U.er) (hl : (putB T.er).length ≤ 1000000000) (hl2 : (putB U.er).length ≤ 1000000000) : Spec Try.prog 75 [.agg T.cells.toArray, .agg U.cells.toArray] (own) (K)
    (Ret (.bool (Op.bytesLess (putB T.er) (putB U.er))) own K) := by
  refine Spec.of en_75 Try.func75 rfl rfl fun g => ?_
  refine WC.seq ?_
  refine WC.region ?_
  refine WL.eff (e_box rfl) rfl ?_; rintro _ _ _ ⟨b1, rfl, rfl, rfl⟩
  refine WL.eff (e_box rfl) rfl ?_; rintro _ _ _ ⟨b2, rfl, rfl, rfl⟩
  refine WL.q (q_assign rfl) rfl ?_
  refine WL.nil ?_
  refine AT.then_n ?_
  refine WC.seq ?_
  refine WC.drawS [2, 3, 6, 7, 8, 14, 15, 16] (Pt b2 (.cells (Value.agg U.cells.toArray).cells 38 (0, 0)) :: Pt b1 (.cells (Value.agg T.cells.toArray).cells 38 (0, 0)) :: []) K mixed (NoPan.then NoPan.body) (Imp.keepRest (List.Sublist.cons_cons _ (List.Sublist.cons_cons _ (List.nil_sublist _))) (Ent.refl _)) rfl ?_
  refine WD.sched [(0, 0), (1, 2), (2, 0), (3, 0)] false (by decide +kernel) ?_
  refine WS.q 0 rfl (q_loadA rfl a_38 i_38 (Cells.pt 1 rfl) (Tg.len _)) rfl ?_
  refine WS.effL 1 rfl (e_call rfl (c161 (T := T) hT hs)) rfl ?_; rintro _ _ _ ⟨rfl, rfl, rfl⟩
  refine ⟨(by first | exact Imp.keepRest (List.Sublist.cons_cons _ (List.Sublist.cons_cons _ (List.nil_sublist _))) (Ent.refl _) | exact Imp.keepRest (List.Sublist.cons _ (List.Sublist.cons_cons _ (List.Sublist.cons_cons _ (List.nil_sublist _)))) hk8 | exact Imp.keepRest (List.Sublist.cons _ (List.Sublist.cons _ (List.Sublist.cons_cons _ (List.Sublist.cons_cons _ (List.nil_sublist _))))) (hk9.trans hk8)), ?_⟩
  refine WS.q 2 rfl (q_gtr rfl rfl) rfl ?_
  refine WS.q 3 rfl (q_move rfl) rfl ?_
  refine WS.back ?_
  refine WD.sched [(4, 0), (5, 2), (6, 0), (7, 0), (8, 0)] false (by decide +kernel) ?_
  refine WS.qon 4 rfl rfl rfl (decide_eq_true (by omega)) (q_loadA rfl a_38 i_38 (Cells.pt 0 rfl) (Tg.len _)) rfl ?_
  refine WS.effonL 5 rfl rfl rfl (decide_eq_true (by omega)) (e_call rfl (c161 (T := U) hU hsU)) rfl ?_; rintro _ _ _ ⟨rfl, rfl, rfl⟩
  refine ⟨(by first | exact Imp.keepRest (List.Sublist.cons_cons _ (List.Sublist.cons_cons _ (List.nil_sublist _))) (Ent.refl _) | exact Imp.keepRest (List.Sublist.cons _ (List.Sublist.cons_cons _ (List.Sublist.cons_cons _ (List.nil_sublist _)))) hk8 | exact Imp.keepRest (List.Sublist.cons _ (List.Sublist.cons _ (List.Sublist.cons_cons _ (List.Sublist.cons_cons _ (List.nil_sublist _))))) (hk9.trans hk8)), ?_⟩
  refine WS.qon 6 rfl rfl rfl (decide_eq_true (by omega)) (q_gtr rfl rfl) rfl ?_
  refine WS.q 7 rfl (q_pickT rfl (decide_eq_true (by omega)) rfl) rfl ?_
  refine WS.q 8 rfl (q_move rfl) rfl ?_
  refine WS.back ?_
  refine WD.sched [(9, 0), (11, 0), (10, 2), (12, 2), (13, 2), (14, 0), (15, 0), (16, 0)] true (by decide +kernel) ?_
  refine WS.qon 9 rfl rfl rfl (decide_eq_true (by omega)) (q_loadA rfl a_38 i_38 (Cells.pt 1 rfl) (Tg.len _)) rfl ?_
  refine WS.qon 11 rfl rfl rfl (decide_eq_true (by omega)) (q_loadA rfl a_38 i_38 (Cells.pt 0 rfl) (Tg.len _)) rfl ?_
  refine WS.effonL 10 rfl rfl rfl (decide_eq_true (by omega)) (e_call rfl (Spec.pre (Imp.orowNil 5 1) (c162 T (b := []) hT hs (by simpa using hl)))) rfl ?_; rintro _ _ k8 ⟨A8, c8, rfl, rfl, hk8⟩
  refine ⟨(by first | exact Imp.keepRest (List.Sublist.cons_cons _ (List.Sublist.cons_cons _ (List.nil_sublist _))) (Ent.refl _) | exact Imp.keepRest (List.Sublist.cons _ (List.Sublist.cons_cons _ (List.Sublist.cons_cons _ (List.nil_sublist _)))) hk8 | exact Imp.keepRest (List.Sublist.cons _ (List.Sublist.cons _ (List.Sublist.cons_cons _ (List.Sublist.cons_cons _ (List.nil_sublist _))))) (hk9.trans hk8)), ?_⟩
  refine WS.effonL 12 rfl rfl rfl (decide_eq_true (by omega)) (e_call rfl (Spec.pre (Imp.orowNil 5 1) (c162 U (b := []) (hk8.trans hU) hsU (by simpa using hl2)))) rfl ?_; rintro _ _ k9 ⟨A9, c9, rfl, rfl, hk9⟩
  refine ⟨(by first | exact Imp.keepRest (List.Sublist.cons_cons _ (List.Sublist.cons_cons _ (List.nil_sublist _))) (Ent.refl _) | exact Imp.keepRest (List.Sublist.cons _ (List.Sublist.cons_cons _ (List.Sublist.cons_cons _ (List.nil_sublist _)))) hk8 | exact Imp.keepRest (List.Sublist.cons _ (List.Sublist.cons _ (List.Sublist.cons_cons _ (List.Sublist.cons_cons _ (List.nil_sublist _))))) (hk9.trans hk8)), ?_⟩
  refine WS.effonL 13 rfl rfl rfl (decide_eq_true (by omega)) (e_call rfl (c166 (a := putB T.er) (b := putB U.er) (Bts.orow 1 rfl) (Bts.orow 0 rfl))) rfl ?_; rintro _ _ _ ⟨rfl, rfl, rfl⟩
  refine ⟨(by first | exact Imp.keepRest (List.Sublist.cons_cons _ (List.Sublist.cons_cons _ (List.nil_sublist _))) (Ent.refl _) | exact Imp.keepRest (List.Sublist.cons _ (List.Sublist.cons_cons _ (List.Sublist.cons_cons _ (List.nil_sublist _)))) hk8 | exact Imp.keepRest (List.Sublist.cons _ (List.Sublist.cons _ (List.Sublist.cons_cons _ (List.Sublist.cons_cons _ (List.nil_sublist _))))) (hk9.trans hk8)), ?_⟩
  refine WS.qon 14 rfl rfl rfl (decide_eq_true (by omega)) (q_lss rfl rfl) rfl ?_
  refine WS.q 15 rfl (q_pickT rfl (decide_eq_true (by omega)) rfl) rfl ?_
  refine WS.q 16 rfl (q_assign rfl) rfl ?_
  refine WS.done ?_
  refine AT.then_n ?_
  refine WC.ret ?_
  refine AT.done rfl (RO.one rfl rfl) ⟨congrArg Value.bool ?_, rfl, rfl⟩ (Imp.keepRest (List.Sublist.cons _ (List.Sublist.cons _ (List.Sublist.cons _ (List.Sublist.cons _ (List.Sublist.refl _))))) (hk9.trans hk8))
  rw [Bool.eq_iff_iff, decide_eq_true_iff, less_iff]


theorem beqTL_of {l m : List Tg} (hlen : l.length = m.length) (h : ∀ j (h1 : j < l.length) (h2 : j < m.length), beqT l[j].er m[j].er = true) : beqTL (erL l) (erL m) = true := by
  rw [beqTL_iff, erL_map, erL_map]
  refine List.ext_getElem (by simpa using hlen) fun j h1 h2 => ?_
  simp at h1 h2
  simp only [List.getElem_map]
  exact (beqT_iff _ _).1 (h j h1 h2)
theorem beqTL_no {l m : List Tg} {j : Nat} (h1 : j < l.length) (h2 : j < m.length) (h : beqT l[j].er m[j].er = false) : beqTL (erL l) (erL m) = false := by
  rw [← Bool.not_eq_true, beqTL_iff, erL_map, erL_map]
  intro he
  have := congrArg (fun L => L[j]?) he
  simp [h1, h2] at this
  rw [this, (beqT_iff _ _).2 rfl] at h; cases h
theorem beqTL_len {l m : List Tg} (h : l.length ≠ m.length) : beqTL (erL l) (erL m) = false := by
  rw [← Bool.not_eq_true, beqTL_iff, erL_map, erL_map]
  intro he
  have := congrArg List.length he
  simp at this; exact h this

theorem c167 {own : List SP} {K : PH → Prop} {g : Os × Array (Nat × ByteArray)} {A B : Option Addr} {ca cb : Nat} {l m : List Tg} (hrow : Rows K A l) (hrow2 : Rows K B m) (hln : l.length ≤ 100000) (hf : ∀ j (h1 : j < l.length) (h2 : j < m.length) (o : List SP), VS Try.prog g (.func (.func 77) #[] #[]) [.agg l[j].cells.toArray, .agg m[j].cells.toArray] o K (Ret (.bool (beqT l[j].er m[j].er)) o K)) : SpecAt g Try.prog 167 [.slice A l.length ca, .slice B m.length cb, .func (.func 77) #[] #[]] (own) (K)
    (Ret (.bool (beqTL (erL l) (erL m))) own K) := by
  refine SpecAt.of en_167 Try.func167 rfl rfl ?_
  refine WC.seq ?_
  refine WC.region ?_
  refine WL.q (q_assign rfl) rfl ?_
  refine WL.nil ?_
  refine AT.then_n ?_
  refine WC.seq ?_
  refine WC.seq ?_
  refine WC.region ?_
  refine WL.q (q_move rfl) rfl ?_
  refine WL.q (q_len rfl u_35) rfl ?_
  refine WL.q (q_move rfl) rfl ?_
  refine WL.q (q_len rfl u_35) rfl ?_
  refine WL.q (q_neq rfl rfl) rfl ?_
  refine WL.nil ?_
  refine AT.then_n ?_
  refine WC.cond rfl (fun h1 => ?_) (fun h1 => ?_)
  · -- if 1: yes
    try have p1 := of_decide_eq_true h1
    refine WC.seq ?_
    refine WC.region ?_
    refine WL.q (q_assign rfl) rfl ?_
    refine WL.nil ?_
    refine AT.then_n ?_
    refine WC.ret ?_
    refine AT.then_r ?_
    exact AT.done rfl (RO.one rfl rfl) ⟨congrArg Value.bool (beqTL_len (by omega)), rfl, rfl⟩ (Imp.refl _ _)
  · -- if 1: no
    try have p1 := of_decide_eq_false h1
    have hlen : l.length = m.length := by omega
    refine WC.skip ?_
    refine AT.then_n ?_
    refine WC.seq ?_
    refine WC.seq ?_
    refine WC.region ?_
    refine WL.q (q_move rfl) rfl ?_
    refine WL.q (q_len rfl u_35) rfl ?_
    refine WL.q (q_move rfl) rfl ?_
    refine WL.nil ?_
    refine AT.then_n ?_
    refine WC.block ?_
    refine WC.loop (σ := Nat) (fun i => i ≤ l.length ∧ ∀ j (h1 : j < l.length) (h2 : j < m.length), j < i → beqT l[j].er m[j].er = true) (fun i => [(17, .int .i64 i), (15, .slice A l.length ca), (16, .int .i64 l.length), (1, .slice B m.length cb), (2, .func (.func 77) #[] #[])]) (fun _ => own) (fun _ => K) (fun i => l.length - i) 0 ⟨by omega, fun j _ _ h => by omega⟩ ⟨rfl, rfl, rfl, rfl, rfl, trivial⟩ (Imp.refl _ _) ?_
    rintro i ⟨hi, hall⟩
    refine WC.seq ?_
    refine WC.region ?_
    refine WL.q (q_lss rfl rfl) rfl ?_
    refine WL.nil ?_
    refine AT.then_n ?_
    refine WC.seq ?_
    refine WC.cond rfl (fun h2 => ?_) (fun h2 => ?_)
    · -- if 2: yes
      try have p2 := of_decide_eq_true h2
      have hlt : i < l.length := by omega
      have hlt2 : i < m.length := by omega
      refine WC.skip ?_
      refine AT.then_n ?_
      refine WC.seq ?_
      refine WC.block ?_
      refine WC.seq ?_
      refine WC.region ?_
      refine WL.q (q_move rfl) rfl ?_
      refine WL.q (q_indexAddr rfl rfl u_35 i_38 (Based.row hrow.row (by rw [flat_len Tg.cells 5 Tg.len]; omega)) (by omega)) rfl ?_
      refine WL.q (q_loadA rfl a_38 i_38 (Cells.at hrow.row Tg.len hlt) (Tg.len _)) rfl ?_
      refine WL.eff (e_alloc i_38) rfl ?_; rintro _ _ _ ⟨b1, rfl, rfl, rfl⟩
      refine WL.q (q_assign rfl) rfl ?_
      refine WL.effn (e_storeAll 0 rfl rfl rfl i_38 rfl (Tg.len _) (by simp [Value.cells]) (Tg.ones _)) ?_; rintro _ _ _ ⟨rfl, rfl, rfl⟩
      refine WL.nil ?_
      refine AT.then_n ?_
      refine WC.seq ?_
      refine WC.region ?_
      refine WL.q (q_move rfl) rfl ?_
      refine WL.q (q_move rfl) rfl ?_
      refine WL.q (q_indexAddr rfl rfl u_35 i_38 (Based.row hrow2.row (by rw [flat_len Tg.cells 5 Tg.len]; omega)) (by omega)) rfl ?_
      refine WL.q (q_loadA rfl a_38 i_38 (Cells.at hrow2.row Tg.len hlt2) (Tg.len _)) rfl ?_
      refine WL.eff (e_alloc i_38) rfl ?_; rintro _ _ _ ⟨b3, rfl, rfl, rfl⟩
      refine WL.effn (e_storeAll 0 rfl rfl rfl i_38 rfl (Tg.len _) (by simp [Value.cells]) (Tg.ones _)) ?_; rintro _ _ _ ⟨rfl, rfl, rfl⟩
      refine WL.nil ?_
      refine AT.then_n ?_
      refine WC.seq ?_
      refine WC.region ?_
      refine WL.q (q_move rfl) rfl ?_
      refine WL.q (q_loadA rfl a_38 i_38 (Cells.pt 1 rfl) (Tg.len _)) rfl ?_
      refine WL.q (q_loadA rfl a_38 i_38 (Cells.pt 0 rfl) (Tg.len _)) rfl ?_
      refine WL.eff (e_callV rfl rfl (hf i hlt hlt2 _)) rfl ?_; rintro _ _ _ ⟨rfl, rfl, rfl⟩
      refine WL.q (q_not rfl) rfl ?_
      refine WL.nil ?_
      refine AT.then_n ?_
      refine WC.cond rfl (fun h3 => ?_) (fun h3 => ?_)
      · -- if 3: yes
        try have p3 := of_decide_eq_true h3
        refine WC.seq ?_
        refine WC.region ?_
        refine WL.q (q_assign rfl) rfl ?_
        refine WL.nil ?_
        refine AT.then_n ?_
        refine WC.ret ?_
        refine AT.blk_r ?_
        refine AT.then_r ?_
        refine AT.then_r ?_
        refine AT.blk_r ?_
        refine AT.then_r ?_
        exact AT.done rfl (RO.one rfl rfl) ⟨congrArg Value.bool (beqTL_no hlt hlt2 (by simpa using h3)), rfl, rfl⟩ (Imp.drop (Imp.drop (Imp.refl _ _)))
      · -- if 3: no
        try have p3 := of_decide_eq_false h3
        refine WC.skip ?_
        refine AT.blk_n ?_
        refine AT.then_n ?_
        refine WC.region ?_
        first | refine WL.q (q_add64 rfl rfl (by omega)) rfl ?_ | refine WL.q (q_add rfl rfl) rfl ?_
        refine WL.q (q_move rfl) rfl ?_
        refine WL.nil ?_
        refine AT.mid (i + 1) ⟨⟨by omega, fun j h1 h2 h5 => ?_⟩, by omega⟩ ⟨rfl, rfl, rfl, rfl, rfl, trivial⟩ (Imp.drop (Imp.drop (Imp.refl _ _)))
        by_cases hj : j = i
        · subst hj; simpa using h3
        · exact hall j h1 h2 (by omega)
    · -- if 2: no
      try have p2 := of_decide_eq_false h2
      refine WC.exit ?_
      refine AT.then_e ?_
      refine AT.then_e ?_
      refine AT.blk_e ?_
      refine AT.then_n ?_
      refine WC.seq ?_
      refine WC.region ?_
      refine WL.q (q_assign rfl) rfl ?_
      refine WL.nil ?_
      refine AT.then_n ?_
      refine WC.ret ?_
      exact AT.done rfl (RO.one rfl rfl) ⟨congrArg Value.bool (beqTL_of hlen fun j h1 h4 => hall j h1 h4 (by omega)), rfl, rfl⟩ (Imp.refl _ _)

theorem c77 (T : Tg) : ∀ {own : List SP} {K : PH → Prop} {U : Tg} (hT : Ent K T.ok) (hs : T.small) (hU : Ent K U.ok), Spec Try.prog 77 [.agg T.cells.toArray, .agg U.cells.toArray] (own) (K)
    (Ret (.bool (beqT T.er U.er)) own K) := by
  induction T using Tg.ind with
  | h k u n t A cap l ih =>
    intro own K U hT hs hU
    obtain ⟨ht, hln, htx⟩ := Tg.small_mk.1 hs
    have hrow := Ent.kids hT
    obtain ⟨k2, u2, n2, t2, B, capB, m⟩ := U
    have hrow2 := Ent.kids hU
    refine Spec.of en_77 Try.func77 rfl rfl fun g => ?_
    refine WC.seq ?_
    refine WC.region ?_
    refine WLy.enter ?_
    refine WLy.eff (e_box rfl) rfl rfl ?_; rintro _ _ _ ⟨b1, rfl, rfl, rfl⟩
    refine WLy.eff (e_box rfl) rfl rfl ?_; rintro _ _ _ ⟨b2, rfl, rfl, rfl⟩
    refine WLy.q (q_assign rfl) rfl rfl ?_
    refine WLy.done ?_
    refine AT.then_n ?_
    refine WC.seq ?_
    refine WC.region ?_
    refine WLy.enter ?_
    refine WLy.q (q_fieldAddr rfl fo_38_0) rfl rfl ?_
    refine WLy.q (q_load rfl a_3 (by first | exact Cell.ptL 0 rfl rfl | exact Cell.ptL 1 rfl rfl | exact Cell.ptL 2 rfl rfl | exact Cell.ptL 3 rfl rfl)) rfl rfl ?_
    refine WLy.q (q_fieldAddr rfl fo_38_0) rfl rfl ?_
    refine WLy.q (q_load rfl a_3 (by first | exact Cell.ptL 0 rfl rfl | exact Cell.ptL 1 rfl rfl | exact Cell.ptL 2 rfl rfl | exact Cell.ptL 3 rfl rfl)) rfl rfl ?_
    refine WLy.q (q_eql rfl rfl) rfl rfl ?_
    refine WLy.q (q_move rfl) rfl rfl ?_
    refine WLy.open0 5 10 true rfl rfl ?_
    refine WLy.qg 0 rfl rfl rfl (q_fieldAddr rfl fo_38_1) rfl rfl rfl ?_
    refine WLy.qg 0 rfl rfl rfl (q_load rfl a_3 (by first | exact Cell.ptL 0 rfl rfl | exact Cell.ptL 1 rfl rfl | exact Cell.ptL 2 rfl rfl | exact Cell.ptL 3 rfl rfl)) rfl rfl rfl ?_
    refine WLy.qg 0 rfl rfl rfl (q_fieldAddr rfl fo_38_1) rfl rfl rfl ?_
    refine WLy.qg 0 rfl rfl rfl (q_load rfl a_3 (by first | exact Cell.ptL 0 rfl rfl | exact Cell.ptL 1 rfl rfl | exact Cell.ptL 2 rfl rfl | exact Cell.ptL 3 rfl rfl)) rfl rfl rfl ?_
    refine WLy.qg 0 rfl rfl rfl (q_eql rfl rfl) rfl rfl rfl ?_
    refine WLy.and0 0 rfl rfl rfl rfl rfl rfl rfl ?_
    refine WLy.q (q_move rfl) rfl rfl ?_
    refine WLy.open0 12 17 true rfl rfl ?_
    refine WLy.qg 0 rfl rfl rfl (q_fieldAddr rfl fo_38_2) rfl rfl rfl ?_
    refine WLy.qg 0 rfl rfl rfl (q_load rfl a_3 (by first | exact Cell.ptL 0 rfl rfl | exact Cell.ptL 1 rfl rfl | exact Cell.ptL 2 rfl rfl | exact Cell.ptL 3 rfl rfl)) rfl rfl rfl ?_
    refine WLy.qg 0 rfl rfl rfl (q_fieldAddr rfl fo_38_2) rfl rfl rfl ?_
    refine WLy.qg 0 rfl rfl rfl (q_load rfl a_3 (by first | exact Cell.ptL 0 rfl rfl | exact Cell.ptL 1 rfl rfl | exact Cell.ptL 2 rfl rfl | exact Cell.ptL 3 rfl rfl)) rfl rfl rfl ?_
    refine WLy.qg 0 rfl rfl rfl (q_eql rfl rfl) rfl rfl rfl ?_
    refine WLy.and0 0 rfl rfl rfl rfl rfl rfl rfl ?_
    refine WLy.q (q_move rfl) rfl rfl ?_
    refine WLy.open0 19 24 true rfl rfl ?_
    refine WLy.qg 0 rfl rfl rfl (q_fieldAddr rfl fo_38_3) rfl rfl rfl ?_
    refine WLy.qg 0 rfl rfl rfl (q_load rfl a_9 (by first | exact Cell.ptL 0 rfl rfl | exact Cell.ptL 1 rfl rfl | exact Cell.ptL 2 rfl rfl | exact Cell.ptL 3 rfl rfl)) rfl rfl rfl ?_
    refine WLy.qg 0 rfl rfl rfl (q_fieldAddr rfl fo_38_3) rfl rfl rfl ?_
    refine WLy.qg 0 rfl rfl rfl (q_load rfl a_9 (by first | exact Cell.ptL 0 rfl rfl | exact Cell.ptL 1 rfl rfl | exact Cell.ptL 2 rfl rfl | exact Cell.ptL 3 rfl rfl)) rfl rfl rfl ?_
    refine WLy.qg 0 rfl rfl rfl (q_eqlS rfl rfl) rfl rfl rfl ?_
    refine WLy.and0 0 rfl rfl rfl rfl rfl rfl rfl ?_
    refine WLy.q (q_move rfl) rfl rfl ?_
    refine WLy.open0 26 31 true rfl rfl ?_
    refine WLy.qg 0 rfl rfl rfl (q_fieldAddr rfl fo_38_4) rfl rfl rfl ?_
    refine WLy.qg 0 rfl rfl rfl (q_load rfl a_35 (by first | exact Cell.ptL 0 rfl rfl | exact Cell.ptL 1 rfl rfl | exact Cell.ptL 2 rfl rfl | exact Cell.ptL 3 rfl rfl)) rfl rfl rfl ?_
    refine WLy.qg 0 rfl rfl rfl (q_fieldAddr rfl fo_38_4) rfl rfl rfl ?_
    refine WLy.qg 0 rfl rfl rfl (q_load rfl a_35 (by first | exact Cell.ptL 0 rfl rfl | exact Cell.ptL 1 rfl rfl | exact Cell.ptL 2 rfl rfl | exact Cell.ptL 3 rfl rfl)) rfl rfl rfl ?_
    refine WLy.eg 0 rfl rfl rfl (e_callAt rfl (c167 (l := l) (m := m) hrow hrow2 hln fun j h1 h2 o => VS.fn (f := 77) (first := []) (cap := []) ((ih _ (List.getElem_mem h1) (hrow.ok _ (List.getElem_mem h1)) (htx _ (List.getElem_mem h1)) (hrow2.ok _ (List.getElem_mem h2))).at g))) rfl rfl rfl ?_
    refine WLy.and0 0 rfl rfl rfl rfl rfl rfl rfl ?_
    refine WLy.q (q_assign rfl) rfl rfl ?_
    refine WLy.done ?_
    refine AT.then_n ?_
    refine WC.ret ?_
    refine AT.done rfl (RO.one rfl rfl) ⟨congrArg Value.bool ?_, rfl, rfl⟩ (Imp.drop (Imp.drop (Imp.refl _ _)))
    rw [Tg.er, Tg.er, beqT]

end Go.Proofs.Sl
