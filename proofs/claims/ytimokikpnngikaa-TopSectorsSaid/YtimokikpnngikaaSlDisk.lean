/- Layer 2: a disk, and the writes that may be lost: what the functions come to. -/
import Derived.Test.YtimokikpnngikaaSlOct
import Derived.Test.YtimokikpnngikaaSlN
import Derived.Test.YtimokikpnngikaaSlTb
namespace Go.Proofs.Sl
open Go
set_option linter.unusedVariables false
set_option linter.unusedSimpArgs false

/-- A disk's cells. -/
abbrev dk (n : Int) (m : Nat) (A : Option Addr) (k cap : Nat) (out aon : Bool) (al : Int) (fon : Bool) (fl ops : Int) : List Value :=
  [.int .i64 n, .map (some m), .slice A k cap, .bool out, .bool aon, .int .i64 al, .bool fon, .int .i64 fl, .int .i64 ops]
def blkV (b : List UInt8) : Value := .agg (b.map bv).toArray
/-- A count, one step on: whether it happens, and what it is then. -/
def met (on : Bool) (left : Int) : Bool × Bool × Int := if on = true ∧ left = 0 then (true, false, 0) else (false, on, if on = true then left - 1 else left)

theorem c222_arms {own : List SP} {K : PH → Prop} {b m k cap : Nat} {A : Option Addr} {n al fl ops : Int} {out aon fon : Bool} (hl : -1000000 ≤ al ∧ al ≤ 1000000) : Spec Try.prog 222 [.pointer (some (ad b 4))] (Pt b (.cells (dk (n) (m) (A) (k) (cap) (out) (aon) (al) (fon) (fl) (ops)).toArray 218 (0, 0)) :: own) (K)
    (Ret (.bool (met aon al).1) (Pt b (.cells (dk (n) (m) (A) (k) (cap) (out) ((met aon al).2.1) ((met aon al).2.2) (fon) (fl) (ops)).toArray 218 (0, 0)) :: own) K) := by
  refine Spec.of en_222 Try.func222 rfl rfl fun g => ?_
  refine WC.seq ?_
  refine WC.region ?_
  refine WL.q (q_assign rfl) rfl ?_
  refine WL.nil ?_
  refine AT.then_n ?_
  refine WC.seq ?_
  refine WC.seq ?_
  refine WC.region ?_
  refine WL.q (q_move rfl) rfl ?_
  refine WL.q (q_nil rfl) rfl ?_
  refine WL.q (q_fieldAddr rfl fo_214_0) rfl ?_
  refine WL.q (q_load rfl a_4 (by first | exact Cell.ptL 0 rfl rfl | exact Cell.ptL 1 rfl rfl | exact Cell.ptL 2 rfl rfl | exact Cell.ptL 3 rfl rfl)) rfl ?_
  refine WL.q (q_move rfl) rfl ?_
  refine WL.split 7 rfl (fun hg1_4 => ?_) (fun hg1_4 => ?_)
  · -- guard 1.4: True
    try have hp1_4 := of_decide_eq_true hg1_4
    refine WL.on rfl rfl hg1_4 ?_
    refine WL.q (q_move rfl) rfl ?_
    refine WL.on rfl rfl hg1_4 ?_
    refine WL.q (q_nil rfl) rfl ?_
    refine WL.on rfl rfl hg1_4 ?_
    refine WL.q (q_fieldAddr rfl fo_214_1) rfl ?_
    refine WL.on rfl rfl hg1_4 ?_
    refine WL.q (q_load rfl a_3 (by first | exact Cell.ptL 0 rfl rfl | exact Cell.ptL 1 rfl rfl | exact Cell.ptL 2 rfl rfl | exact Cell.ptL 3 rfl rfl)) rfl ?_
    refine WL.on rfl rfl hg1_4 ?_
    refine WL.q (q_eql rfl rfl) rfl ?_
    refine WL.q (q_pickT rfl hg1_4 rfl) rfl ?_
    refine WL.nil ?_
    refine AT.then_n ?_
    refine WC.cond rfl (fun h1 => ?_) (fun h1 => ?_)
    · -- if 1: yes
      try have p1 := of_decide_eq_true h1
      refine WC.seq ?_
      refine WC.region ?_
      refine WL.q (q_move rfl) rfl ?_
      refine WL.q (q_buildL rfl pl_214 i_214 rfl rfl) rfl ?_
      refine WL.q (q_nil rfl) rfl ?_
      first | refine WL.effn (e_storeN 0 rfl rfl rfl i_214 rfl rfl (by simp) (by first | exact ones_bv _ | simp [Ones, Value.oneCell', bv, setsL, cellsL, Value.cells])) ?_ | refine WL.effn (e_storeN 1 rfl rfl rfl i_214 rfl rfl (by simp) (by first | exact ones_bv _ | simp [Ones, Value.oneCell', bv, setsL, cellsL, Value.cells])) ?_ | refine WL.effn (e_storeN 2 rfl rfl rfl i_214 rfl rfl (by simp) (by first | exact ones_bv _ | simp [Ones, Value.oneCell', bv, setsL, cellsL, Value.cells])) ?_ | refine WL.effn (e_storeN 3 rfl rfl rfl i_214 rfl rfl (by simp) (by first | exact ones_bv _ | simp [Ones, Value.oneCell', bv, setsL, cellsL, Value.cells])) ?_
      rintro _ _ _ ⟨rfl, rfl, rfl⟩
      refine WL.nil ?_
      refine AT.then_n ?_
      refine WC.seq ?_
      refine WC.region ?_
      refine WL.q (q_assign rfl) rfl ?_
      refine WL.nil ?_
      refine AT.then_n ?_
      refine WC.ret ?_
      refine AT.then_r ?_
      refine AT.done rfl (RO.one rfl rfl) ⟨?_, rfl, rfl⟩ (Imp.eq ?_) <;> first | (simp [met, *]; done) | (exfalso; simp_all; done)
    · -- if 1: no
      try have p1 := of_decide_eq_false h1
      refine WC.skip ?_
      refine AT.then_n ?_
      refine WC.seq ?_
      refine WC.seq ?_
      refine WC.region ?_
      refine WL.q (q_move rfl) rfl ?_
      refine WL.q (q_nil rfl) rfl ?_
      refine WL.q (q_fieldAddr rfl fo_214_0) rfl ?_
      refine WL.q (q_load rfl a_4 (by first | exact Cell.ptL 0 rfl rfl | exact Cell.ptL 1 rfl rfl | exact Cell.ptL 2 rfl rfl | exact Cell.ptL 3 rfl rfl)) rfl ?_
      refine WL.nil ?_
      refine AT.then_n ?_
      refine WC.cond rfl (fun h2 => ?_) (fun h2 => ?_)
      · -- if 2: yes
        try have p2 := of_decide_eq_true h2
        refine WC.region ?_
        refine WL.q (q_move rfl) rfl ?_
        refine WL.q (q_nil rfl) rfl ?_
        refine WL.q (q_fieldAddr rfl fo_214_1) rfl ?_
        refine WL.q (q_load rfl a_3 (by first | exact Cell.ptL 0 rfl rfl | exact Cell.ptL 1 rfl rfl | exact Cell.ptL 2 rfl rfl | exact Cell.ptL 3 rfl rfl)) rfl ?_
        first | refine WL.q (q_sub64 rfl rfl (by omega)) rfl ?_ | refine WL.q (q_sub rfl rfl) rfl ?_
        refine WL.q (q_nil rfl) rfl ?_
        refine WL.q (q_fieldAddr rfl fo_214_1) rfl ?_
        first | refine WL.effn (e_store 0 rfl rfl rfl i_3 rfl (by simp)) ?_ | refine WL.effn (e_store 1 rfl rfl rfl i_3 rfl (by simp)) ?_ | refine WL.effn (e_store 2 rfl rfl rfl i_3 rfl (by simp)) ?_ | refine WL.effn (e_store 3 rfl rfl rfl i_3 rfl (by simp)) ?_
        rintro _ _ _ ⟨rfl, rfl, rfl⟩
        refine WL.nil ?_
        refine AT.then_n ?_
        refine WC.seq ?_
        refine WC.region ?_
        refine WL.q (q_assign rfl) rfl ?_
        refine WL.nil ?_
        refine AT.then_n ?_
        refine WC.ret ?_
        refine AT.done rfl (RO.one rfl rfl) ⟨?_, rfl, rfl⟩ (Imp.eq ?_) <;> first | (simp [met, *]; done) | (exfalso; simp_all; done)
      · -- if 2: no
        try have p2 := of_decide_eq_false h2
        refine WC.skip ?_
        refine AT.then_n ?_
        refine WC.seq ?_
        refine WC.region ?_
        refine WL.q (q_assign rfl) rfl ?_
        refine WL.nil ?_
        refine AT.then_n ?_
        refine WC.ret ?_
        refine AT.done rfl (RO.one rfl rfl) ⟨?_, rfl, rfl⟩ (Imp.eq ?_) <;> first | (simp [met, *]; done) | (exfalso; simp_all; done)
  · -- guard 1.4: False
    try have hp1_4 := of_decide_eq_false hg1_4
    refine WL.off rfl rfl hg1_4 rfl ?_
    refine WL.off rfl rfl hg1_4 rfl ?_
    refine WL.off rfl rfl hg1_4 rfl ?_
    refine WL.off rfl rfl hg1_4 rfl ?_
    refine WL.off rfl rfl hg1_4 rfl ?_
    refine WL.q (q_pickF rfl hg1_4 rfl) rfl ?_
    refine WL.nil ?_
    refine AT.then_n ?_
    refine WC.condF rfl ?_
    refine WC.skip ?_
    refine AT.then_n ?_
    refine WC.seq ?_
    refine WC.seq ?_
    refine WC.region ?_
    refine WL.q (q_move rfl) rfl ?_
    refine WL.q (q_nil rfl) rfl ?_
    refine WL.q (q_fieldAddr rfl fo_214_0) rfl ?_
    refine WL.q (q_load rfl a_4 (by first | exact Cell.ptL 0 rfl rfl | exact Cell.ptL 1 rfl rfl | exact Cell.ptL 2 rfl rfl | exact Cell.ptL 3 rfl rfl)) rfl ?_
    refine WL.nil ?_
    refine AT.then_n ?_
    refine WC.cond rfl (fun h2 => ?_) (fun h2 => ?_)
    · -- if 2: yes
      try have p2 := of_decide_eq_true h2
      refine WC.region ?_
      refine WL.q (q_move rfl) rfl ?_
      refine WL.q (q_nil rfl) rfl ?_
      refine WL.q (q_fieldAddr rfl fo_214_1) rfl ?_
      refine WL.q (q_load rfl a_3 (by first | exact Cell.ptL 0 rfl rfl | exact Cell.ptL 1 rfl rfl | exact Cell.ptL 2 rfl rfl | exact Cell.ptL 3 rfl rfl)) rfl ?_
      first | refine WL.q (q_sub64 rfl rfl (by omega)) rfl ?_ | refine WL.q (q_sub rfl rfl) rfl ?_
      refine WL.q (q_nil rfl) rfl ?_
      refine WL.q (q_fieldAddr rfl fo_214_1) rfl ?_
      first | refine WL.effn (e_store 0 rfl rfl rfl i_3 rfl (by simp)) ?_ | refine WL.effn (e_store 1 rfl rfl rfl i_3 rfl (by simp)) ?_ | refine WL.effn (e_store 2 rfl rfl rfl i_3 rfl (by simp)) ?_ | refine WL.effn (e_store 3 rfl rfl rfl i_3 rfl (by simp)) ?_
      rintro _ _ _ ⟨rfl, rfl, rfl⟩
      refine WL.nil ?_
      refine AT.then_n ?_
      refine WC.seq ?_
      refine WC.region ?_
      refine WL.q (q_assign rfl) rfl ?_
      refine WL.nil ?_
      refine AT.then_n ?_
      refine WC.ret ?_
      refine AT.done rfl (RO.one rfl rfl) ⟨?_, rfl, rfl⟩ (Imp.eq ?_) <;> first | (simp [met, *]; done) | (exfalso; simp_all; done)
    · -- if 2: no
      try have p2 := of_decide_eq_false h2
      refine WC.skip ?_
      refine AT.then_n ?_
      refine WC.seq ?_
      refine WC.region ?_
      refine WL.q (q_assign rfl) rfl ?_
      refine WL.nil ?_
      refine AT.then_n ?_
      refine WC.ret ?_
      refine AT.done rfl (RO.one rfl rfl) ⟨?_, rfl, rfl⟩ (Imp.eq ?_) <;> first | (simp [met, *]; done) | (exfalso; simp_all; done)

theorem c160_arms {own : List SP} {K : PH → Prop} {b m k cap : Nat} {A : Option Addr} {n al fl ops : Int} {out aon fon : Bool} {v : Int} : Spec Try.prog 160 [.pointer (some (ad b 4)), .int .i64 v] (Pt b (.cells (dk (n) (m) (A) (k) (cap) (out) (aon) (al) (fon) (fl) (ops)).toArray 218 (0, 0)) :: own) (K)
    (Ret (.tuple #[]) (Pt b (.cells (dk (n) (m) (A) (k) (cap) (out) (decide (v ≥ 0)) (v) (fon) (fl) (ops)).toArray 218 (0, 0)) :: own) K) := by
  refine Spec.of en_160 Try.func160 rfl rfl fun g => ?_
  refine WC.region ?_
  refine WL.q (q_move rfl) rfl ?_
  refine WL.q (q_move rfl) rfl ?_
  refine WL.q (q_geq rfl rfl) rfl ?_
  refine WL.q (q_move rfl) rfl ?_
  refine WL.q (q_buildL rfl pl_214 i_214 rfl rfl) rfl ?_
  refine WL.q (q_nil rfl) rfl ?_
  first | refine WL.effn (e_storeN 0 rfl rfl rfl i_214 rfl rfl (by simp) (by first | exact ones_bv _ | simp [Ones, Value.oneCell', bv, setsL, cellsL, Value.cells])) ?_ | refine WL.effn (e_storeN 1 rfl rfl rfl i_214 rfl rfl (by simp) (by first | exact ones_bv _ | simp [Ones, Value.oneCell', bv, setsL, cellsL, Value.cells])) ?_ | refine WL.effn (e_storeN 2 rfl rfl rfl i_214 rfl rfl (by simp) (by first | exact ones_bv _ | simp [Ones, Value.oneCell', bv, setsL, cellsL, Value.cells])) ?_ | refine WL.effn (e_storeN 3 rfl rfl rfl i_214 rfl rfl (by simp) (by first | exact ones_bv _ | simp [Ones, Value.oneCell', bv, setsL, cellsL, Value.cells])) ?_
  rintro _ _ _ ⟨rfl, rfl, rfl⟩
  refine WL.nil ?_
  exact AT.doneN rfl (RO.none rfl) ⟨rfl, rfl, rfl⟩ (Imp.eq rfl)

theorem c222_fails {own : List SP} {K : PH → Prop} {b m k cap : Nat} {A : Option Addr} {n al fl ops : Int} {out aon fon : Bool} (hl : -1000000 ≤ fl ∧ fl ≤ 1000000) : Spec Try.prog 222 [.pointer (some (ad b 6))] (Pt b (.cells (dk (n) (m) (A) (k) (cap) (out) (aon) (al) (fon) (fl) (ops)).toArray 218 (0, 0)) :: own) (K)
    (Ret (.bool (met fon fl).1) (Pt b (.cells (dk (n) (m) (A) (k) (cap) (out) (aon) (al) ((met fon fl).2.1) ((met fon fl).2.2) (ops)).toArray 218 (0, 0)) :: own) K) := by
  refine Spec.of en_222 Try.func222 rfl rfl fun g => ?_
  refine WC.seq ?_
  refine WC.region ?_
  refine WL.q (q_assign rfl) rfl ?_
  refine WL.nil ?_
  refine AT.then_n ?_
  refine WC.seq ?_
  refine WC.seq ?_
  refine WC.region ?_
  refine WL.q (q_move rfl) rfl ?_
  refine WL.q (q_nil rfl) rfl ?_
  refine WL.q (q_fieldAddr rfl fo_214_0) rfl ?_
  refine WL.q (q_load rfl a_4 (by first | exact Cell.ptL 0 rfl rfl | exact Cell.ptL 1 rfl rfl | exact Cell.ptL 2 rfl rfl | exact Cell.ptL 3 rfl rfl)) rfl ?_
  refine WL.q (q_move rfl) rfl ?_
  refine WL.split 7 rfl (fun hg1_4 => ?_) (fun hg1_4 => ?_)
  · -- guard 1.4: True
    try have hp1_4 := of_decide_eq_true hg1_4
    refine WL.on rfl rfl hg1_4 ?_
    refine WL.q (q_move rfl) rfl ?_
    refine WL.on rfl rfl hg1_4 ?_
    refine WL.q (q_nil rfl) rfl ?_
    refine WL.on rfl rfl hg1_4 ?_
    refine WL.q (q_fieldAddr rfl fo_214_1) rfl ?_
    refine WL.on rfl rfl hg1_4 ?_
    refine WL.q (q_load rfl a_3 (by first | exact Cell.ptL 0 rfl rfl | exact Cell.ptL 1 rfl rfl | exact Cell.ptL 2 rfl rfl | exact Cell.ptL 3 rfl rfl)) rfl ?_
    refine WL.on rfl rfl hg1_4 ?_
    refine WL.q (q_eql rfl rfl) rfl ?_
    refine WL.q (q_pickT rfl hg1_4 rfl) rfl ?_
    refine WL.nil ?_
    refine AT.then_n ?_
    refine WC.cond rfl (fun h1 => ?_) (fun h1 => ?_)
    · -- if 1: yes
      try have p1 := of_decide_eq_true h1
      refine WC.seq ?_
      refine WC.region ?_
      refine WL.q (q_move rfl) rfl ?_
      refine WL.q (q_buildL rfl pl_214 i_214 rfl rfl) rfl ?_
      refine WL.q (q_nil rfl) rfl ?_
      first | refine WL.effn (e_storeN 0 rfl rfl rfl i_214 rfl rfl (by simp) (by first | exact ones_bv _ | simp [Ones, Value.oneCell', bv, setsL, cellsL, Value.cells])) ?_ | refine WL.effn (e_storeN 1 rfl rfl rfl i_214 rfl rfl (by simp) (by first | exact ones_bv _ | simp [Ones, Value.oneCell', bv, setsL, cellsL, Value.cells])) ?_ | refine WL.effn (e_storeN 2 rfl rfl rfl i_214 rfl rfl (by simp) (by first | exact ones_bv _ | simp [Ones, Value.oneCell', bv, setsL, cellsL, Value.cells])) ?_ | refine WL.effn (e_storeN 3 rfl rfl rfl i_214 rfl rfl (by simp) (by first | exact ones_bv _ | simp [Ones, Value.oneCell', bv, setsL, cellsL, Value.cells])) ?_
      rintro _ _ _ ⟨rfl, rfl, rfl⟩
      refine WL.nil ?_
      refine AT.then_n ?_
      refine WC.seq ?_
      refine WC.region ?_
      refine WL.q (q_assign rfl) rfl ?_
      refine WL.nil ?_
      refine AT.then_n ?_
      refine WC.ret ?_
      refine AT.then_r ?_
      refine AT.done rfl (RO.one rfl rfl) ⟨?_, rfl, rfl⟩ (Imp.eq ?_) <;> first | (simp [met, *]; done) | (exfalso; simp_all; done)
    · -- if 1: no
      try have p1 := of_decide_eq_false h1
      refine WC.skip ?_
      refine AT.then_n ?_
      refine WC.seq ?_
      refine WC.seq ?_
      refine WC.region ?_
      refine WL.q (q_move rfl) rfl ?_
      refine WL.q (q_nil rfl) rfl ?_
      refine WL.q (q_fieldAddr rfl fo_214_0) rfl ?_
      refine WL.q (q_load rfl a_4 (by first | exact Cell.ptL 0 rfl rfl | exact Cell.ptL 1 rfl rfl | exact Cell.ptL 2 rfl rfl | exact Cell.ptL 3 rfl rfl)) rfl ?_
      refine WL.nil ?_
      refine AT.then_n ?_
      refine WC.cond rfl (fun h2 => ?_) (fun h2 => ?_)
      · -- if 2: yes
        try have p2 := of_decide_eq_true h2
        refine WC.region ?_
        refine WL.q (q_move rfl) rfl ?_
        refine WL.q (q_nil rfl) rfl ?_
        refine WL.q (q_fieldAddr rfl fo_214_1) rfl ?_
        refine WL.q (q_load rfl a_3 (by first | exact Cell.ptL 0 rfl rfl | exact Cell.ptL 1 rfl rfl | exact Cell.ptL 2 rfl rfl | exact Cell.ptL 3 rfl rfl)) rfl ?_
        first | refine WL.q (q_sub64 rfl rfl (by omega)) rfl ?_ | refine WL.q (q_sub rfl rfl) rfl ?_
        refine WL.q (q_nil rfl) rfl ?_
        refine WL.q (q_fieldAddr rfl fo_214_1) rfl ?_
        first | refine WL.effn (e_store 0 rfl rfl rfl i_3 rfl (by simp)) ?_ | refine WL.effn (e_store 1 rfl rfl rfl i_3 rfl (by simp)) ?_ | refine WL.effn (e_store 2 rfl rfl rfl i_3 rfl (by simp)) ?_ | refine WL.effn (e_store 3 rfl rfl rfl i_3 rfl (by simp)) ?_
        rintro _ _ _ ⟨rfl, rfl, rfl⟩
        refine WL.nil ?_
        refine AT.then_n ?_
        refine WC.seq ?_
        refine WC.region ?_
        refine WL.q (q_assign rfl) rfl ?_
        refine WL.nil ?_
        refine AT.then_n ?_
        refine WC.ret ?_
        refine AT.done rfl (RO.one rfl rfl) ⟨?_, rfl, rfl⟩ (Imp.eq ?_) <;> first | (simp [met, *]; done) | (exfalso; simp_all; done)
      · -- if 2: no
        try have p2 := of_decide_eq_false h2
        refine WC.skip ?_
        refine AT.then_n ?_
        refine WC.seq ?_
        refine WC.region ?_
        refine WL.q (q_assign rfl) rfl ?_
        refine WL.nil ?_
        refine AT.then_n ?_
        refine WC.ret ?_
        refine AT.done rfl (RO.one rfl rfl) ⟨?_, rfl, rfl⟩ (Imp.eq ?_) <;> first | (simp [met, *]; done) | (exfalso; simp_all; done)
  · -- guard 1.4: False
    try have hp1_4 := of_decide_eq_false hg1_4
    refine WL.off rfl rfl hg1_4 rfl ?_
    refine WL.off rfl rfl hg1_4 rfl ?_
    refine WL.off rfl rfl hg1_4 rfl ?_
    refine WL.off rfl rfl hg1_4 rfl ?_
    refine WL.off rfl rfl hg1_4 rfl ?_
    refine WL.q (q_pickF rfl hg1_4 rfl) rfl ?_
    refine WL.nil ?_
    refine AT.then_n ?_
    refine WC.condF rfl ?_
    refine WC.skip ?_
    refine AT.then_n ?_
    refine WC.seq ?_
    refine WC.seq ?_
    refine WC.region ?_
    refine WL.q (q_move rfl) rfl ?_
    refine WL.q (q_nil rfl) rfl ?_
    refine WL.q (q_fieldAddr rfl fo_214_0) rfl ?_
    refine WL.q (q_load rfl a_4 (by first | exact Cell.ptL 0 rfl rfl | exact Cell.ptL 1 rfl rfl | exact Cell.ptL 2 rfl rfl | exact Cell.ptL 3 rfl rfl)) rfl ?_
    refine WL.nil ?_
    refine AT.then_n ?_
    refine WC.cond rfl (fun h2 => ?_) (fun h2 => ?_)
    · -- if 2: yes
      try have p2 := of_decide_eq_true h2
      refine WC.region ?_
      refine WL.q (q_move rfl) rfl ?_
      refine WL.q (q_nil rfl) rfl ?_
      refine WL.q (q_fieldAddr rfl fo_214_1) rfl ?_
      refine WL.q (q_load rfl a_3 (by first | exact Cell.ptL 0 rfl rfl | exact Cell.ptL 1 rfl rfl | exact Cell.ptL 2 rfl rfl | exact Cell.ptL 3 rfl rfl)) rfl ?_
      first | refine WL.q (q_sub64 rfl rfl (by omega)) rfl ?_ | refine WL.q (q_sub rfl rfl) rfl ?_
      refine WL.q (q_nil rfl) rfl ?_
      refine WL.q (q_fieldAddr rfl fo_214_1) rfl ?_
      first | refine WL.effn (e_store 0 rfl rfl rfl i_3 rfl (by simp)) ?_ | refine WL.effn (e_store 1 rfl rfl rfl i_3 rfl (by simp)) ?_ | refine WL.effn (e_store 2 rfl rfl rfl i_3 rfl (by simp)) ?_ | refine WL.effn (e_store 3 rfl rfl rfl i_3 rfl (by simp)) ?_
      rintro _ _ _ ⟨rfl, rfl, rfl⟩
      refine WL.nil ?_
      refine AT.then_n ?_
      refine WC.seq ?_
      refine WC.region ?_
      refine WL.q (q_assign rfl) rfl ?_
      refine WL.nil ?_
      refine AT.then_n ?_
      refine WC.ret ?_
      refine AT.done rfl (RO.one rfl rfl) ⟨?_, rfl, rfl⟩ (Imp.eq ?_) <;> first | (simp [met, *]; done) | (exfalso; simp_all; done)
    · -- if 2: no
      try have p2 := of_decide_eq_false h2
      refine WC.skip ?_
      refine AT.then_n ?_
      refine WC.seq ?_
      refine WC.region ?_
      refine WL.q (q_assign rfl) rfl ?_
      refine WL.nil ?_
      refine AT.then_n ?_
      refine WC.ret ?_
      refine AT.done rfl (RO.one rfl rfl) ⟨?_, rfl, rfl⟩ (Imp.eq ?_) <;> first | (simp [met, *]; done) | (exfalso; simp_all; done)

theorem c160_fails {own : List SP} {K : PH → Prop} {b m k cap : Nat} {A : Option Addr} {n al fl ops : Int} {out aon fon : Bool} {v : Int} : Spec Try.prog 160 [.pointer (some (ad b 6)), .int .i64 v] (Pt b (.cells (dk (n) (m) (A) (k) (cap) (out) (aon) (al) (fon) (fl) (ops)).toArray 218 (0, 0)) :: own) (K)
    (Ret (.tuple #[]) (Pt b (.cells (dk (n) (m) (A) (k) (cap) (out) (aon) (al) (decide (v ≥ 0)) (v) (ops)).toArray 218 (0, 0)) :: own) K) := by
  refine Spec.of en_160 Try.func160 rfl rfl fun g => ?_
  refine WC.region ?_
  refine WL.q (q_move rfl) rfl ?_
  refine WL.q (q_move rfl) rfl ?_
  refine WL.q (q_geq rfl rfl) rfl ?_
  refine WL.q (q_move rfl) rfl ?_
  refine WL.q (q_buildL rfl pl_214 i_214 rfl rfl) rfl ?_
  refine WL.q (q_nil rfl) rfl ?_
  first | refine WL.effn (e_storeN 0 rfl rfl rfl i_214 rfl rfl (by simp) (by first | exact ones_bv _ | simp [Ones, Value.oneCell', bv, setsL, cellsL, Value.cells])) ?_ | refine WL.effn (e_storeN 1 rfl rfl rfl i_214 rfl rfl (by simp) (by first | exact ones_bv _ | simp [Ones, Value.oneCell', bv, setsL, cellsL, Value.cells])) ?_ | refine WL.effn (e_storeN 2 rfl rfl rfl i_214 rfl rfl (by simp) (by first | exact ones_bv _ | simp [Ones, Value.oneCell', bv, setsL, cellsL, Value.cells])) ?_ | refine WL.effn (e_storeN 3 rfl rfl rfl i_214 rfl rfl (by simp) (by first | exact ones_bv _ | simp [Ones, Value.oneCell', bv, setsL, cellsL, Value.cells])) ?_
  rintro _ _ _ ⟨rfl, rfl, rfl⟩
  refine WL.nil ?_
  exact AT.doneN rfl (RO.none rfl) ⟨rfl, rfl, rfl⟩ (Imp.eq rfl)

theorem c159 {own : List SP} {K : PH → Prop} {b m k cap : Nat} {A : Option Addr} {n al fl ops : Int} {out aon fon : Bool}  : Spec Try.prog 159 [.pointer (some (ad b 0))] (Pt b (.cells (dk (n) (m) (A) (k) (cap) (out) (aon) (al) (fon) (fl) (ops)).toArray 218 (0, 0)) :: own) (K)
    (Ret (.int .i64 (if out = true then 9 else 0)) (Pt b (.cells (dk (n) (m) (A) (k) (cap) (out) (aon) (al) (fon) (fl) (ops)).toArray 218 (0, 0)) :: own) K) := by
  refine Spec.of en_159 Try.func159 rfl rfl fun g => ?_
  refine WC.seq ?_
  refine WC.region ?_
  refine WL.q (q_assign rfl) rfl ?_
  refine WL.nil ?_
  refine AT.then_n ?_
  refine WC.seq ?_
  refine WC.block ?_
  refine WC.seq ?_
  refine WC.region ?_
  refine WL.q (q_move rfl) rfl ?_
  refine WL.q (q_eqlP rfl rfl u_83) rfl ?_
  refine WL.q (q_assign rfl) rfl ?_
  refine WL.nil ?_
  refine AT.then_n ?_
  refine WC.condHF rfl (rfl) ?_
  refine WC.seq ?_
  refine WC.region ?_
  refine WL.q (q_move rfl) rfl ?_
  refine WL.q (q_nil rfl) rfl ?_
  refine WL.q (q_fieldAddr rfl fo_218_0) rfl ?_
  refine WL.q (q_fieldAddr rfl fo_216_3) rfl ?_
  refine WL.q (q_load rfl a_4 (by first | exact Cell.ptL 0 rfl rfl | exact Cell.ptL 1 rfl rfl | exact Cell.ptL 2 rfl rfl | exact Cell.ptL 3 rfl rfl)) rfl ?_
  refine WL.q (q_assign rfl) rfl ?_
  refine WL.nil ?_
  refine AT.then_n ?_
  refine WC.cond rfl (fun h2 => ?_) (fun h2 => ?_)
  · -- if 2: yes
    try have p2 := of_decide_eq_true h2
    refine WC.seq ?_
    refine WC.region ?_
    refine WL.q (q_assign rfl) rfl ?_
    refine WL.nil ?_
    refine AT.then_n ?_
    refine WC.ret ?_
    refine AT.blk_r ?_
    refine AT.then_r ?_
    refine AT.done rfl (RO.one rfl rfl) ⟨?_, rfl, rfl⟩ (Imp.refl _ _)
    simp [h2]
  · -- if 2: no
    try have p2 := of_decide_eq_false h2
    refine WC.skip ?_
    refine AT.blk_n ?_
    refine AT.then_n ?_
    refine WC.seq ?_
    refine WC.region ?_
    refine WL.q (q_assign rfl) rfl ?_
    refine WL.nil ?_
    refine AT.then_n ?_
    refine WC.ret ?_
    refine AT.done rfl (RO.one rfl rfl) ⟨?_, rfl, rfl⟩ (Imp.refl _ _)
    simp [h2]

theorem c60 {own : List SP} {K : PH → Prop} {b m k cap : Nat} {A : Option Addr} {n al fl ops : Int} {out aon fon : Bool}  : Spec Try.prog 60 [.pointer (some (ad b 0))] (Pt b (.cells (dk (n) (m) (A) (k) (cap) (out) (aon) (al) (fon) (fl) (ops)).toArray 218 (0, 0)) :: own) (K)
    (Ret (.int .i64 n) (Pt b (.cells (dk (n) (m) (A) (k) (cap) (out) (aon) (al) (fon) (fl) (ops)).toArray 218 (0, 0)) :: own) K) := by
  refine Spec.of en_60 Try.func60 rfl rfl fun g => ?_
  refine WC.seq ?_
  refine WC.region ?_
  refine WL.q (q_assign rfl) rfl ?_
  refine WL.nil ?_
  refine AT.then_n ?_
  refine WC.seq ?_
  refine WC.seq ?_
  refine WC.region ?_
  refine WL.q (q_move rfl) rfl ?_
  refine WL.q (q_eqlP rfl rfl u_83) rfl ?_
  refine WL.nil ?_
  refine AT.then_n ?_
  refine WC.condHF rfl (rfl) ?_
  refine WC.skip ?_
  refine AT.then_n ?_
  refine WC.seq ?_
  refine WC.region ?_
  refine WL.q (q_move rfl) rfl ?_
  refine WL.q (q_nil rfl) rfl ?_
  refine WL.q (q_fieldAddr rfl fo_218_0) rfl ?_
  refine WL.q (q_fieldAddr rfl fo_216_0) rfl ?_
  refine WL.q (q_load rfl a_3 (by first | exact Cell.ptL 0 rfl rfl | exact Cell.ptL 1 rfl rfl | exact Cell.ptL 2 rfl rfl | exact Cell.ptL 3 rfl rfl)) rfl ?_
  refine WL.q (q_assign rfl) rfl ?_
  refine WL.nil ?_
  refine AT.then_n ?_
  refine WC.ret ?_
  exact AT.done rfl (RO.one rfl rfl) ⟨rfl, rfl, rfl⟩ (Imp.refl _ _)

theorem c62 {own : List SP} {K : PH → Prop} {b m k cap : Nat} {A : Option Addr} {n al fl ops : Int} {out aon fon : Bool}  : Spec Try.prog 62 [.pointer (some (ad b 0))] (Pt b (.cells (dk (n) (m) (A) (k) (cap) (out) (aon) (al) (fon) (fl) (ops)).toArray 218 (0, 0)) :: own) (K)
    (Ret (.int .i64 ops) (Pt b (.cells (dk (n) (m) (A) (k) (cap) (out) (aon) (al) (fon) (fl) (ops)).toArray 218 (0, 0)) :: own) K) := by
  refine Spec.of en_62 Try.func62 rfl rfl fun g => ?_
  refine WC.seq ?_
  refine WC.region ?_
  refine WL.q (q_assign rfl) rfl ?_
  refine WL.nil ?_
  refine AT.then_n ?_
  refine WC.seq ?_
  refine WC.seq ?_
  refine WC.region ?_
  refine WL.q (q_move rfl) rfl ?_
  refine WL.q (q_eqlP rfl rfl u_83) rfl ?_
  refine WL.nil ?_
  refine AT.then_n ?_
  refine WC.condHF rfl (rfl) ?_
  refine WC.skip ?_
  refine AT.then_n ?_
  refine WC.seq ?_
  refine WC.region ?_
  refine WL.q (q_move rfl) rfl ?_
  refine WL.q (q_nil rfl) rfl ?_
  refine WL.q (q_fieldAddr rfl fo_218_0) rfl ?_
  refine WL.q (q_fieldAddr rfl fo_216_6) rfl ?_
  refine WL.q (q_load rfl a_3 (by first | exact Cell.ptL 0 rfl rfl | exact Cell.ptL 1 rfl rfl | exact Cell.ptL 2 rfl rfl | exact Cell.ptL 3 rfl rfl)) rfl ?_
  refine WL.q (q_assign rfl) rfl ?_
  refine WL.nil ?_
  refine AT.then_n ?_
  refine WC.ret ?_
  exact AT.done rfl (RO.one rfl rfl) ⟨rfl, rfl, rfl⟩ (Imp.refl _ _)

theorem c61 {own : List SP} {K : PH → Prop} {b m k cap : Nat} {A : Option Addr} {n al fl ops : Int} {out aon fon : Bool}  : Spec Try.prog 61 [.pointer (some (ad b 0))] (Pt b (.cells (dk (n) (m) (A) (k) (cap) (out) (aon) (al) (fon) (fl) (ops)).toArray 218 (0, 0)) :: own) (K)
    (Ret (.bool out) (Pt b (.cells (dk (n) (m) (A) (k) (cap) (out) (aon) (al) (fon) (fl) (ops)).toArray 218 (0, 0)) :: own) K) := by
  refine Spec.of en_61 Try.func61 rfl rfl fun g => ?_
  refine WC.seq ?_
  refine WC.region ?_
  refine WL.q (q_assign rfl) rfl ?_
  refine WL.nil ?_
  refine AT.then_n ?_
  refine WC.seq ?_
  refine WC.region ?_
  refine WL.q (q_move rfl) rfl ?_
  refine WL.q (q_neqP rfl rfl u_83) rfl ?_
  refine WL.q (q_move rfl) rfl ?_
  refine WL.on rfl rfl rfl ?_
  refine WL.q (q_move rfl) rfl ?_
  refine WL.on rfl rfl rfl ?_
  refine WL.q (q_nil rfl) rfl ?_
  refine WL.on rfl rfl rfl ?_
  refine WL.q (q_fieldAddr rfl fo_218_0) rfl ?_
  refine WL.on rfl rfl rfl ?_
  refine WL.q (q_fieldAddr rfl fo_216_3) rfl ?_
  refine WL.on rfl rfl rfl ?_
  refine WL.q (q_load rfl a_4 (by first | exact Cell.ptL 0 rfl rfl | exact Cell.ptL 1 rfl rfl | exact Cell.ptL 2 rfl rfl | exact Cell.ptL 3 rfl rfl)) rfl ?_
  refine WL.q (q_pickT rfl rfl rfl) rfl ?_
  refine WL.q (q_assign rfl) rfl ?_
  refine WL.nil ?_
  refine AT.then_n ?_
  refine WC.ret ?_
  exact AT.done rfl (RO.one rfl rfl) ⟨rfl, rfl, rfl⟩ (Imp.refl _ _)


theorem rep_bv64 : List.replicate 64 (Value.int .u8 0) = (List.replicate 64 (0 : UInt8)).map bv := rep_bv 64
/-- A block that is filled with a number. -/
def blk (n : Nat) : List UInt8 := (List.range 64).map fun i => UInt8.ofNat (n * (i + 1))
theorem blk_len (n : Nat) : (blk n).length = 64 := by simp [blk]
theorem blk_take {n k : Nat} (h : k < 64) : (blk n).take (k + 1) = (blk n).take k ++ [UInt8.ofNat (n * (k + 1))] := by
  rw [List.take_succ_eq_append_getElem (by rw [blk_len]; exact h)]
  simp [blk]
theorem blk_set {n k : Nat} (h : k < 64) : (((blk n).take k ++ List.replicate (64 - k) 0).map bv).set k (bv (UInt8.ofNat (n * (k + 1)))) = ((blk n).take (k + 1) ++ List.replicate (64 - (k + 1)) 0).map bv := by
  have e1 : 64 - k = (64 - (k + 1)) + 1 := by omega
  have e2 : k = (((blk n).take k).map bv).length := by simp [blk_len]; omega
  rw [blk_take h, e1, List.replicate_succ, List.map_append, List.map_cons]
  conv => lhs; arg 2; rw [e2]
  rw [List.set_append_right _ _ (Nat.le_refl _)]
  simp

theorem c49 {own : List SP} {K : PH → Prop} {n : Nat} (hn : n ≤ 1000000) : Spec Try.prog 49 [.int .i64 n] (own) (K)
    (Ret (blkV (blk n)) own K) := by
  refine Spec.of en_49 Try.func49 rfl rfl fun g => ?_
  refine WC.seq ?_
  refine WC.region ?_
  refine WL.eff (e_alloc i_88) rfl ?_; rintro _ _ _ ⟨b1, rfl, rfl, rfl⟩
  refine WL.nil ?_
  refine AT.then_n ?_
  refine WC.seq ?_
  refine WC.region ?_
  refine WL.eff (e_alloc i_88) rfl ?_; rintro _ _ _ ⟨b2, rfl, rfl, rfl⟩
  refine WL.nil ?_
  refine AT.then_n ?_
  refine WC.seq ?_
  refine WC.seq ?_
  refine WC.region ?_
  refine WL.q (q_move rfl) rfl ?_
  refine WL.nil ?_
  refine AT.then_n ?_
  refine WC.block ?_
  refine WC.loop (σ := Nat) (fun k => k ≤ 64) (fun k => [(5, .int .i64 k), (0, .int .i64 n), (3, .pointer (some (ad b2 0))), (2, .pointer (some (ad b1 0)))]) (fun k => Pt b2 (.cells (((blk n).take k ++ List.replicate (64 - k) 0).map bv).toArray 88 (0, 0)) :: Pt b1 (.cells ((List.replicate 64 (0 : UInt8)).map bv).toArray 88 (0, 0)) :: own) (fun _ => K) (fun k => 64 - k) 0 (by omega) ⟨rfl, rfl, rfl, rfl, trivial⟩ (Imp.eq (by simp [blk, bv, Value.cells])) ?_
  intro k hk
  refine WC.seq ?_
  refine WC.region ?_
  refine WL.q (q_lss rfl rfl) rfl ?_
  refine WL.nil ?_
  refine AT.then_n ?_
  refine WC.seq ?_
  refine WC.cond rfl (fun h1 => ?_) (fun h1 => ?_)
  · -- if 1: yes
    try have p1 := of_decide_eq_true h1
    have hlt : k < 64 := by omega
    have hm : n * (k + 1) ≤ 1000000 * 64 := Nat.mul_le_mul hn (by omega)
    refine WC.skip ?_
    refine AT.then_n ?_
    refine WC.seq ?_
    refine WC.block ?_
    refine WC.seq ?_
    refine WC.region ?_
    refine WL.q (q_move rfl) rfl ?_
    refine WL.q (q_assign rfl) rfl ?_
    refine WL.nil ?_
    refine AT.then_n ?_
    refine WC.region ?_
    refine WL.q (q_move rfl) rfl ?_
    refine WL.q (q_move rfl) rfl ?_
    refine WL.q (q_move rfl) rfl ?_
    first | refine WL.q (q_add64 rfl rfl (by omega)) rfl ?_ | refine WL.q (q_add rfl rfl) rfl ?_
    refine WL.q (q_mulR (-9223372036854775808) 9223372036854775807 rfl rfl rfl rfl (by rw [show (n : Int) * ((k : Int) + 1) = ((n * (k + 1) : Nat) : Int) by simp]; omega)) rfl ?_
    refine WL.q (q_convB (a := n * (k + 1)) u_3 u_5 (by simp [ev, look])) rfl ?_
    refine WL.q (q_indexAddrA rfl rfl u_88 i_5 (by omega)) rfl ?_
    refine WL.effn (e_store 0 rfl rfl rfl i_5 rfl (by simp [blk_len]; omega)) ?_; rintro _ _ _ ⟨rfl, rfl, rfl⟩
    refine WL.nil ?_
    refine AT.blk_n ?_
    refine AT.then_n ?_
    refine WC.region ?_
    first | refine WL.q (q_add64 rfl rfl (by omega)) rfl ?_ | refine WL.q (q_add rfl rfl) rfl ?_
    refine WL.q (q_move rfl) rfl ?_
    refine WL.nil ?_
    refine AT.mid (k + 1) ⟨by omega, by omega⟩ ⟨rfl, rfl, rfl, rfl, trivial⟩ (Imp.eq ?_)
    have e3 : (0 + ((k : Int)).toNat * 1) = k := by omega
    simp only [List.set_cons_zero, e3]
    rw [← blk_set hlt]
  · -- if 1: no
    try have p1 := of_decide_eq_false h1
    have hk64 : k = 64 := by omega
    subst hk64
    have hb64 : (blk n).take 64 ++ List.replicate (64 - 64) 0 = blk n := by
      rw [List.take_of_length_le (by rw [blk_len]; omega)]; simp
    rw [hb64]
    refine WC.exit ?_
    refine AT.then_e ?_
    refine AT.then_e ?_
    refine AT.blk_e ?_
    refine AT.then_n ?_
    refine WC.seq ?_
    refine WC.region ?_
    refine WL.q (q_loadA rfl a_88 i_88 (by first | exact Cells.pt 0 rfl | exact Cells.pt 1 rfl | exact Cells.pt 2 rfl | exact Cells.pt 3 rfl) rfl) rfl ?_
    first | refine WL.effn (e_storeN 0 rfl rfl rfl i_88 rfl rfl (by simp) (by first | exact ones_bv _ | simp [Ones, Value.oneCell', bv, setsL, cellsL, Value.cells])) ?_ | refine WL.effn (e_storeN 1 rfl rfl rfl i_88 rfl rfl (by simp) (by first | exact ones_bv _ | simp [Ones, Value.oneCell', bv, setsL, cellsL, Value.cells])) ?_ | refine WL.effn (e_storeN 2 rfl rfl rfl i_88 rfl rfl (by simp) (by first | exact ones_bv _ | simp [Ones, Value.oneCell', bv, setsL, cellsL, Value.cells])) ?_ | refine WL.effn (e_storeN 3 rfl rfl rfl i_88 rfl rfl (by simp) (by first | exact ones_bv _ | simp [Ones, Value.oneCell', bv, setsL, cellsL, Value.cells])) ?_
    rintro _ _ _ ⟨rfl, rfl, rfl⟩
    refine WL.nil ?_
    refine AT.then_n ?_
    refine WC.ret ?_
    refine AT.done rfl (RO.cellA rfl rfl a_88 i_88 (Cells.pt 1 rfl) (by simp [blk_len])) ⟨?_, rfl, rfl⟩ (Imp.drop (Imp.drop (Imp.refl _ _)))
    simp [blkV]


/-- A store over a whole block. -/
theorem e_storeAll {C : Cx} {e : Env} {own : List SP} {K : PH → Prop} {ty : TypeId} (i : Nat) {t : TypeId} {n by_ : Nat} {z : Value} {x y : Operand} {b : Nat} {cs vs : List Value} {T : TypeId} {v : Value} (hx : ev e x = some (.pointer (some (ad b 0)))) (hy : ev e y = some v)
    (hi : own[i]? = some (Pt b (.cells cs.toArray T (0, 0)))) (ht : Inf C.P t n by_ z) (hv : v.cells = vs.toArray) (hn : vs.length = n) (hl : cs.length = n) (h1 : Ones vs) :
    EO C (.store t x y) ty e own K (Ret undef (own.set i (Pt b (.cells vs.toArray T (0, 0)))) K) := by
  have h := e_storeN (K := K) (ty := ty) i hx hy hi ht hv hn (by omega) h1
  have e1 : cs.take 0 ++ vs ++ cs.drop (0 + n) = vs := by
    rw [List.take_zero, List.nil_append, Nat.zero_add, List.drop_of_length_le (by omega), List.append_nil]
  rwa [e1] at h
abbrev Blk := {l : List UInt8 // l.length = 64}
/-- A write's cells: where, and the block. -/
def wr (p : Int × Blk) : List Value := .int .i64 p.1 :: p.2.1.map bv
theorem wr_len (p : Int × Blk) : (wr p).length = 65 := by simp [wr, p.2.2]
theorem ones_wr (p : Int × Blk) : Ones (wr p) := fun v hv => by
  rcases List.mem_cons.1 hv with rfl | hv
  · rfl
  · exact ones_bv _ v hv
theorem Cells.orowAt {own : List SP} {K : PH → Prop} {α : Type} {f : α → List Value} {n : Nat} (i : Nat) {A : Option Addr} {cap : Nat} {T : TypeId} {l : List α} (hi : own[i]? = some (ORow A cap T n (l.flatMap f))) (hf : ∀ x, (f x).length = n) {j : Nat} (h : j < l.length) : Cells own K (adr A (j * n)) (f l[j]) := by
  intro k v hv
  have h1 : (l.flatMap f)[j * n + k]? = some v := by
    have h2 := flat_at f n hf l j h
    have h3 : ((l.flatMap f).drop (j * n)).take n = f l[j] := h2
    rw [← h3] at hv
    obtain ⟨h4, h5⟩ := List.getElem?_eq_some_iff.1 hv
    have hk : k < n := by simp at h4; omega
    rw [List.getElem?_take_of_lt hk, List.getElem?_drop] at hv
    exact hv
  have h6 := Cell.orow (own := own) (K := K) i hi h1
  cases A with
  | none => 
    intro g w hS
    have := h6 g w hS
    rcases (hS.focus hi).orow with ⟨_, _, he, _⟩ | ⟨b, pad, fr, he, _⟩
    · rw [he] at h1; simp at h1
    · cases he
  | some a =>
    show Cell own K ((a.add (j * n)).add k) v
    have e : (a.add (j * n)).add k = a.add (j * n + k) := by
      obtain ⟨ab, ao, sp⟩ := a
      unfold Addr.add
      split <;> split <;> simp_all <;> omega
    rw [e]; exact h6

theorem c47_ok {own : List SP} {K : PH → Prop} {n : Int} (hn : 1 ≤ n ∧ n ≤ 2048) : Spec Try.prog 47 [.int .i64 n] (own) (K)
    (fun v own2 K2 => ∃ b m, v = .tuple #[.pointer (some (ad b 0)), .int .i64 0] ∧ own2 = Pt b (.cells (dk n m none 0 0 false false 0 false 0 0).toArray 218 (0, 0)) :: Mp m ki [] :: own ∧ K = K2) := by
  refine Spec.of en_47 Try.func47 rfl rfl fun g => ?_
  refine WC.seq ?_
  refine WC.region ?_
  refine WL.q (q_assign rfl) rfl ?_
  refine WL.q (q_assign rfl) rfl ?_
  refine WL.nil ?_
  refine AT.then_n ?_
  refine WC.seq ?_
  refine WC.seq ?_
  refine WC.region ?_
  refine WL.q (q_move rfl) rfl ?_
  refine WL.q (q_lss rfl rfl) rfl ?_
  refine WL.q (q_move rfl) rfl ?_
  refine WL.on rfl rfl (by first | (simp; done) | (simp; omega)) ?_
  refine WL.q (q_move rfl) rfl ?_
  refine WL.on rfl rfl (by first | (simp; done) | (simp; omega)) ?_
  refine WL.q (q_gtr rfl rfl) rfl ?_
  refine WL.q (q_pickF rfl (by first | (simp; done) | (simp; omega)) rfl) rfl ?_
  refine WL.nil ?_
  refine AT.then_n ?_
  refine WC.condHF rfl (by first | (simp; done) | (simp; omega)) ?_
  refine WC.skip ?_
  refine AT.then_n ?_
  refine WC.seq ?_
  refine WC.region ?_
  refine WL.q (q_move rfl) rfl ?_
  refine WL.eff (e_makeMap (key := ki)) rfl ?_; rintro _ _ _ ⟨b1, rfl, rfl, rfl⟩
  refine WL.q (q_buildL rfl pl_216 i_216 rfl rfl) rfl ?_
  refine WL.q (q_buildL rfl pl_218 i_218 rfl rfl) rfl ?_
  refine WL.eff (e_box rfl) rfl ?_; rintro _ _ _ ⟨b2, rfl, rfl, rfl⟩
  refine WL.q (q_assign rfl) rfl ?_
  refine WL.q (q_assign rfl) rfl ?_
  refine WL.nil ?_
  refine AT.then_n ?_
  refine WC.ret ?_
  exact AT.done rfl (RO.two rfl rfl rfl) ⟨_, _, rfl, rfl, rfl⟩ (Imp.refl _ _)

theorem c47_bad {own : List SP} {K : PH → Prop} {n : Int} (hn : n < 1 ∨ 2048 < n) : Spec Try.prog 47 [.int .i64 n] (own) (K)
    (Ret (.tuple #[.pointer none, .int .i64 2]) own K) := by
  refine Spec.of en_47 Try.func47 rfl rfl fun g => ?_
  refine WC.seq ?_
  refine WC.region ?_
  refine WL.q (q_assign rfl) rfl ?_
  refine WL.q (q_assign rfl) rfl ?_
  refine WL.nil ?_
  refine AT.then_n ?_
  refine WC.seq ?_
  refine WC.seq ?_
  refine WC.region ?_
  refine WL.q (q_move rfl) rfl ?_
  refine WL.q (q_lss rfl rfl) rfl ?_
  refine WL.q (q_move rfl) rfl ?_
  refine WL.split 6 rfl (fun hg1_2 => ?_) (fun hg1_2 => ?_)
  · -- guard 1.2: True
    try have hp1_2 := of_decide_eq_true hg1_2
    skip
    refine WL.off rfl rfl hg1_2 rfl ?_
    refine WL.off rfl rfl hg1_2 rfl ?_
    refine WL.q (q_pickT rfl hg1_2 rfl) rfl ?_
    refine WL.nil ?_
    refine AT.then_n ?_
    refine WC.condHT rfl (by first | (simp; done) | (simp; omega)) ?_
    refine WC.seq ?_
    refine WC.region ?_
    refine WL.q (q_assign rfl) rfl ?_
    refine WL.q (q_assign rfl) rfl ?_
    refine WL.nil ?_
    refine AT.then_n ?_
    refine WC.ret ?_
    refine AT.then_r ?_
    exact AT.done rfl (RO.two rfl rfl rfl) ⟨rfl, rfl, rfl⟩ (Imp.refl _ _)
  · -- guard 1.2: False
    try have hp1_2 := of_decide_eq_false hg1_2
    refine WL.on rfl rfl hg1_2 ?_
    refine WL.q (q_move rfl) rfl ?_
    refine WL.on rfl rfl hg1_2 ?_
    refine WL.q (q_gtr rfl rfl) rfl ?_
    refine WL.q (q_pickF rfl hg1_2 rfl) rfl ?_
    refine WL.nil ?_
    refine AT.then_n ?_
    refine WC.condHT rfl (by first | (simp; done) | (simp; omega)) ?_
    refine WC.seq ?_
    refine WC.region ?_
    refine WL.q (q_assign rfl) rfl ?_
    refine WL.q (q_assign rfl) rfl ?_
    refine WL.nil ?_
    refine AT.then_n ?_
    refine WC.ret ?_
    refine AT.then_r ?_
    exact AT.done rfl (RO.two rfl rfl rfl) ⟨rfl, rfl, rfl⟩ (Imp.refl _ _)

theorem c56 {own : List SP} {K : PH → Prop} {b m k cap : Nat} {A : Option Addr} {n al fl ops : Int} {out aon fon : Bool} {v : Int} : Spec Try.prog 56 [.pointer (some (ad b 0)), .int .i64 v] (Pt b (.cells (dk (n) (m) (A) (k) (cap) (out) (aon) (al) (fon) (fl) (ops)).toArray 218 (0, 0)) :: own) (K)
    (Ret (.int .i64 (if out = true then 9 else 0)) (Pt b (.cells (dk (n) (m) (A) (k) (cap) (out) (if out = true then aon else decide (v ≥ 0)) (if out = true then al else v) (fon) (fl) (ops)).toArray 218 (0, 0)) :: own) K) := by
  refine Spec.of en_56 Try.func56 rfl rfl fun g => ?_
  refine WC.seq ?_
  refine WC.region ?_
  refine WL.q (q_assign rfl) rfl ?_
  refine WL.nil ?_
  refine AT.then_n ?_
  refine WC.seq ?_
  refine WC.region ?_
  refine WL.q (q_move rfl) rfl ?_
  refine WL.eff (e_call rfl c159) rfl ?_; rintro _ _ _ ⟨rfl, rfl, rfl⟩
  refine WL.q (q_assign rfl) rfl ?_
  refine WL.nil ?_
  refine AT.then_n ?_
  refine WC.seq ?_
  refine WC.seq ?_
  refine WC.region ?_
  refine WL.q (q_move rfl) rfl ?_
  refine WL.q (q_eql rfl rfl) rfl ?_
  refine WL.nil ?_
  refine AT.then_n ?_
  refine WC.cond rfl (fun h1 => ?_) (fun h1 => ?_)
  · -- if 1: yes
    try have p1 := of_decide_eq_true h1
    have ho : out = false := by cases out <;> simp_all
    subst ho
    refine WC.region ?_
    refine WL.q (q_move rfl) rfl ?_
    refine WL.q (q_nil rfl) rfl ?_
    refine WL.q (q_fieldAddr rfl fo_218_0) rfl ?_
    refine WL.q (q_fieldAddr rfl fo_216_4) rfl ?_
    refine WL.q (q_move rfl) rfl ?_
    refine WL.eff (e_call rfl c160_arms) rfl ?_; rintro _ _ _ ⟨rfl, rfl, rfl⟩
    refine WL.nil ?_
    refine AT.then_n ?_
    refine WC.seq ?_
    refine WC.region ?_
    refine WL.q (q_move rfl) rfl ?_
    refine WL.q (q_assign rfl) rfl ?_
    refine WL.nil ?_
    refine AT.then_n ?_
    refine WC.ret ?_
    exact AT.done rfl (RO.one rfl rfl) ⟨rfl, rfl, rfl⟩ (Imp.eq rfl)
  · -- if 1: no
    try have p1 := of_decide_eq_false h1
    have ho : out = true := by cases out <;> simp_all
    subst ho
    refine WC.skip ?_
    refine AT.then_n ?_
    refine WC.seq ?_
    refine WC.region ?_
    refine WL.q (q_move rfl) rfl ?_
    refine WL.q (q_assign rfl) rfl ?_
    refine WL.nil ?_
    refine AT.then_n ?_
    refine WC.ret ?_
    exact AT.done rfl (RO.one rfl rfl) ⟨rfl, rfl, rfl⟩ (Imp.eq rfl)

theorem c57 {own : List SP} {K : PH → Prop} {b m k cap : Nat} {A : Option Addr} {n al fl ops : Int} {out aon fon : Bool} {v : Int} : Spec Try.prog 57 [.pointer (some (ad b 0)), .int .i64 v] (Pt b (.cells (dk (n) (m) (A) (k) (cap) (out) (aon) (al) (fon) (fl) (ops)).toArray 218 (0, 0)) :: own) (K)
    (Ret (.int .i64 (if out = true then 9 else 0)) (Pt b (.cells (dk (n) (m) (A) (k) (cap) (out) (aon) (al) (if out = true then fon else decide (v ≥ 0)) (if out = true then fl else v) (ops)).toArray 218 (0, 0)) :: own) K) := by
  refine Spec.of en_57 Try.func57 rfl rfl fun g => ?_
  refine WC.seq ?_
  refine WC.region ?_
  refine WL.q (q_assign rfl) rfl ?_
  refine WL.nil ?_
  refine AT.then_n ?_
  refine WC.seq ?_
  refine WC.region ?_
  refine WL.q (q_move rfl) rfl ?_
  refine WL.eff (e_call rfl c159) rfl ?_; rintro _ _ _ ⟨rfl, rfl, rfl⟩
  refine WL.q (q_assign rfl) rfl ?_
  refine WL.nil ?_
  refine AT.then_n ?_
  refine WC.seq ?_
  refine WC.seq ?_
  refine WC.region ?_
  refine WL.q (q_move rfl) rfl ?_
  refine WL.q (q_eql rfl rfl) rfl ?_
  refine WL.nil ?_
  refine AT.then_n ?_
  refine WC.cond rfl (fun h1 => ?_) (fun h1 => ?_)
  · -- if 1: yes
    try have p1 := of_decide_eq_true h1
    have ho : out = false := by cases out <;> simp_all
    subst ho
    refine WC.region ?_
    refine WL.q (q_move rfl) rfl ?_
    refine WL.q (q_nil rfl) rfl ?_
    refine WL.q (q_fieldAddr rfl fo_218_0) rfl ?_
    refine WL.q (q_fieldAddr rfl fo_216_5) rfl ?_
    refine WL.q (q_move rfl) rfl ?_
    refine WL.eff (e_call rfl c160_fails) rfl ?_; rintro _ _ _ ⟨rfl, rfl, rfl⟩
    refine WL.nil ?_
    refine AT.then_n ?_
    refine WC.seq ?_
    refine WC.region ?_
    refine WL.q (q_move rfl) rfl ?_
    refine WL.q (q_assign rfl) rfl ?_
    refine WL.nil ?_
    refine AT.then_n ?_
    refine WC.ret ?_
    exact AT.done rfl (RO.one rfl rfl) ⟨rfl, rfl, rfl⟩ (Imp.eq rfl)
  · -- if 1: no
    try have p1 := of_decide_eq_false h1
    have ho : out = true := by cases out <;> simp_all
    subst ho
    refine WC.skip ?_
    refine AT.then_n ?_
    refine WC.seq ?_
    refine WC.region ?_
    refine WL.q (q_move rfl) rfl ?_
    refine WL.q (q_assign rfl) rfl ?_
    refine WL.nil ?_
    refine AT.then_n ?_
    refine WC.ret ?_
    exact AT.done rfl (RO.one rfl rfl) ⟨rfl, rfl, rfl⟩ (Imp.eq rfl)

theorem c51 {own : List SP} {K : PH → Prop} {b m cap : Nat} {A : Option Addr} {n al fl ops : Int} {out aon fon : Bool} {L : List (Int × Blk)} (hL : L.length ≤ 1000000) : Spec Try.prog 51 [.pointer (some (ad b 0))] (Pt b (.cells (dk (n) (m) (A) (L.length) (cap) (out) (aon) (al) (fon) (fl) (ops)).toArray 218 (0, 0)) :: ORow A cap 221 65 (L.flatMap wr) :: own) (K)
    (fun v own2 K2 => ∃ A2 cap2, v = .slice A2 L.length cap2 ∧ own2 = Pt b (.cells (dk (n) (m) (A) (L.length) (cap) (out) (aon) (al) (fon) (fl) (ops)).toArray 218 (0, 0)) :: ORow A cap 221 65 (L.flatMap wr) :: own ∧ Ent K2 K ∧ Ent K2 (Row A2 (L.map fun p => .int .i64 p.1))) := by
  refine Spec.of en_51 Try.func51 rfl rfl fun g => ?_
  refine WC.seq ?_
  refine WC.region ?_
  refine WL.q (q_assign rfl) rfl ?_
  refine WL.nil ?_
  refine AT.then_n ?_
  refine WC.seq ?_
  refine WC.seq ?_
  refine WC.region ?_
  refine WL.q (q_move rfl) rfl ?_
  refine WL.q (q_eqlP rfl rfl u_83) rfl ?_
  refine WL.nil ?_
  refine AT.then_n ?_
  refine WC.condHF rfl (rfl) ?_
  refine WC.skip ?_
  refine AT.then_n ?_
  refine WC.seq ?_
  refine WC.region ?_
  refine WL.q (q_assign rfl) rfl ?_
  refine WL.nil ?_
  refine AT.then_n ?_
  refine WC.seq ?_
  refine WC.seq ?_
  refine WC.region ?_
  refine WL.q (q_move rfl) rfl ?_
  refine WL.q (q_nil rfl) rfl ?_
  refine WL.q (q_fieldAddr rfl fo_218_0) rfl ?_
  refine WL.q (q_fieldAddr rfl fo_216_2) rfl ?_
  refine WL.q (q_load rfl a_212 (by first | exact Cell.ptL 0 rfl rfl | exact Cell.ptL 1 rfl rfl | exact Cell.ptL 2 rfl rfl | exact Cell.ptL 3 rfl rfl)) rfl ?_
  refine WL.q (q_len rfl u_212) rfl ?_
  refine WL.q (q_move rfl) rfl ?_
  refine WL.nil ?_
  refine AT.then_n ?_
  refine WC.block ?_
  refine WC.loop (σ := Nat × Option Addr × Nat × (PH → Prop)) (fun ⟨i, A2, c2, k2⟩ => i ≤ L.length ∧ Ent k2 K) (fun ⟨i, A2, c2, k2⟩ => [(14, .int .i64 i), (12, .slice A L.length cap), (13, .int .i64 L.length), (3, .slice A2 i c2)]) (fun ⟨i, A2, c2, k2⟩ => ORow A2 c2 3 1 ((L.take i).map fun p => .int .i64 p.1) :: Pt b (.cells (dk (n) (m) (A) (L.length) (cap) (out) (aon) (al) (fon) (fl) (ops)).toArray 218 (0, 0)) :: ORow A cap 221 65 (L.flatMap wr) :: own) (fun ⟨i, A2, c2, k2⟩ => k2) (fun ⟨i, A2, c2, k2⟩ => L.length - i) (0, none, 0, K) ⟨by omega, Ent.refl _⟩ ⟨rfl, rfl, rfl, rfl, trivial⟩ (Imp.orowNil 3 1) ?_
  rintro ⟨i, A2, c2, k2⟩ ⟨hi, hk⟩
  simp only at hi hk ⊢
  refine WC.seq ?_
  refine WC.region ?_
  refine WL.q (q_lss rfl rfl) rfl ?_
  refine WL.nil ?_
  refine AT.then_n ?_
  refine WC.seq ?_
  refine WC.cond rfl (fun h2 => ?_) (fun h2 => ?_)
  · -- if 2: yes
    try have p2 := of_decide_eq_true h2
    have hlt : i < L.length := by omega
    refine WC.skip ?_
    refine AT.then_n ?_
    refine WC.seq ?_
    refine WC.block ?_
    refine WC.seq ?_
    refine WC.region ?_
    refine WL.q (q_indexAddr rfl rfl u_212 i_221 (Based.orow 2 rfl (by rw [flat_len wr 65 wr_len]; omega)) (by omega)) rfl ?_
    refine WL.q (q_loadA rfl a_221 i_221 (Cells.orowAt 2 rfl wr_len hlt) (wr_len _)) rfl ?_
    refine WL.eff (e_alloc i_221) rfl ?_; rintro _ _ _ ⟨b1, rfl, rfl, rfl⟩
    refine WL.effn (e_storeAll 0 rfl rfl rfl i_221 rfl (wr_len _) (by simp) (ones_wr _)) ?_; rintro _ _ _ ⟨rfl, rfl, rfl⟩
    refine WL.nil ?_
    refine AT.then_n ?_
    refine WC.region ?_
    refine WL.q (q_move rfl) rfl ?_
    refine WL.q (q_fieldAddr rfl fo_221_0) rfl ?_
    refine WL.q (q_load rfl a_3 (by first | exact Cell.ptL 0 rfl rfl | exact Cell.ptL 1 rfl rfl | exact Cell.ptL 2 rfl rfl | exact Cell.ptL 3 rfl rfl)) rfl ?_
    refine WL.eff (e_buildSliceK rfl u_77 i_3 rfl rfl rfl rfl rfl) rfl ?_; rintro _ _ _ ⟨b9, rfl, rfl, rfl⟩
    refine WL.eff (e_append 1 rfl rfl (Src.row Ent.right (k := 1) rfl rfl) rfl u_77 (.inl ⟨_, u_77⟩) i_3 rfl (by simp; omega) rfl (by simp [Ones, Value.oneCell', setsL, cellsL, Value.cells, wr]) (by omega)) rfl ?_; rintro _ _ _ ⟨A9, c9, rfl, rfl, rfl, hc9⟩
    refine WL.q (q_assign rfl) rfl ?_
    refine WL.nil ?_
    refine AT.blk_n ?_
    refine AT.then_n ?_
    refine WC.region ?_
    first | refine WL.q (q_add64 rfl rfl (by omega)) rfl ?_ | refine WL.q (q_add rfl rfl) rfl ?_
    refine WL.q (q_move rfl) rfl ?_
    refine WL.nil ?_
    refine AT.mid (i + 1, A9, c9, _) ⟨⟨by omega, hk.left⟩, by simp only; omega⟩ ⟨rfl, rfl, rfl, rfl, trivial⟩ (Imp.drop (Imp.eq ?_))
    rw [List.take_succ_eq_append_getElem hlt, List.map_append]; rfl
  · -- if 2: no
    try have p2 := of_decide_eq_false h2
    refine WC.exit ?_
    refine AT.then_e ?_
    refine AT.then_e ?_
    refine AT.blk_e ?_
    refine AT.then_n ?_
    refine WC.seq ?_
    refine WC.region ?_
    refine WL.q (q_move rfl) rfl ?_
    refine WL.q (q_assign rfl) rfl ?_
    refine WL.nil ?_
    refine AT.then_n ?_
    refine WC.ret ?_
    refine AT.done rfl (RO.one rfl rfl) ⟨A2, c2, ?_, rfl, hk.left, ?_⟩ Imp.orowStay
    · have : i = L.length := by omega
      subst this; rfl
    · have : i = L.length := by omega
      subst this; rw [List.take_length]; exact Ent.right

theorem c266 {K : PH → Prop} {g : Os × Array (Nat × ByteArray)} {b m cap : Nat} {A : Option Addr} {n al fl ops : Int} {out aon fon : Bool} {L : List (Int × Blk)} {tc : Nat} {Y : Value} {O S : Nat → List SP} {T Z : Nat → Prop} (hL : L.length ≤ 1000000) (hY : ∀ j (h : j < L.length), VS Try.prog g Y [.agg (wr L[j]).toArray] (Pt tc (.cells ([.pointer (some (ad b 0))] : List Value).toArray 296 (0, 0)) :: Pt b (.cells (dk (n) (m) (A) (L.length) (cap) (out) (aon) (al) (fon) (fl) (ops)).toArray 218 (0, 0)) :: ORow A cap 221 65 (L.flatMap wr) :: O (j + 1)) K (fun v o k => K = k ∧ ((v = .bool true ∧ T j ∧ Pt tc (.cells ([.pointer (some (ad b 0))] : List Value).toArray 296 (0, 0)) :: Pt b (.cells (dk (n) (m) (A) (L.length) (cap) (out) (aon) (al) (fon) (fl) (ops)).toArray 218 (0, 0)) :: ORow A cap 221 65 (L.flatMap wr) :: O j = o) ∨ (v = .bool false ∧ Z j ∧ Pt tc (.cells ([.pointer (some (ad b 0))] : List Value).toArray 296 (0, 0)) :: Pt b (.cells (dk (n) (m) (A) (L.length) (cap) (out) (aon) (al) (fon) (fl) (ops)).toArray 218 (0, 0)) :: ORow A cap 221 65 (L.flatMap wr) :: S j = o)))) : SpecAt g Try.prog 266 [Y, .pointer (some (ad tc 0))] (Pt tc (.cells ([.pointer (some (ad b 0))] : List Value).toArray 296 (0, 0)) :: Pt b (.cells (dk (n) (m) (A) (L.length) (cap) (out) (aon) (al) (fon) (fl) (ops)).toArray 218 (0, 0)) :: ORow A cap 221 65 (L.flatMap wr) :: O L.length) (K)
    (fun v o k => v = .tuple #[] ∧ K = k ∧ (((∀ i, i < L.length → T i) ∧ o = Pt tc (.cells ([.pointer (some (ad b 0))] : List Value).toArray 296 (0, 0)) :: Pt b (.cells (dk (n) (m) (A) (L.length) (cap) (out) (aon) (al) (fon) (fl) (ops)).toArray 218 (0, 0)) :: ORow A cap 221 65 (L.flatMap wr) :: O 0) ∨ ∃ j, j < L.length ∧ Z j ∧ (∀ i, j < i → i < L.length → T i) ∧ o = Pt tc (.cells ([.pointer (some (ad b 0))] : List Value).toArray 296 (0, 0)) :: Pt b (.cells (dk (n) (m) (A) (L.length) (cap) (out) (aon) (al) (fon) (fl) (ops)).toArray 218 (0, 0)) :: ORow A cap 221 65 (L.flatMap wr) :: S j)) := by
  refine SpecAt.of en_266 Try.func266 rfl rfl ?_
  refine WC.seq ?_
  refine WC.region ?_
  refine WL.q (q_load rfl a_296 (by first | exact Cell.ptL 0 rfl rfl | exact Cell.ptL 1 rfl rfl | exact Cell.ptL 2 rfl rfl | exact Cell.ptL 3 rfl rfl)) rfl ?_
  refine WL.q (q_nil rfl) rfl ?_
  refine WL.q (q_fieldAddr rfl fo_216_2) rfl ?_
  refine WL.q (q_load rfl a_212 (by first | exact Cell.ptL 0 rfl rfl | exact Cell.ptL 1 rfl rfl | exact Cell.ptL 2 rfl rfl | exact Cell.ptL 3 rfl rfl)) rfl ?_
  refine WL.q (q_len rfl u_212) rfl ?_
  refine WL.q (q_assign rfl) rfl ?_
  refine WL.nil ?_
  refine AT.then_n ?_
  refine WC.block ?_
  refine WC.loop (σ := Nat) (fun i => i ≤ L.length ∧ ∀ j, i ≤ j → j < L.length → T j) (fun i => [(3, .int .i64 i), (0, Y), (1, .pointer (some (ad tc 0)))]) (fun i => Pt tc (.cells ([.pointer (some (ad b 0))] : List Value).toArray 296 (0, 0)) :: Pt b (.cells (dk (n) (m) (A) (L.length) (cap) (out) (aon) (al) (fon) (fl) (ops)).toArray 218 (0, 0)) :: ORow A cap 221 65 (L.flatMap wr) :: O i) (fun _ => K) (fun i => i) L.length ⟨Nat.le_refl _, fun j h1 h2 => by omega⟩ ⟨rfl, rfl, rfl, trivial⟩ (Imp.refl _ _) ?_
  rintro i ⟨hi, hT⟩
  refine WC.seq ?_
  refine WC.seq ?_
  refine WC.region ?_
  refine WL.q (q_move rfl) rfl ?_
  refine WL.q (q_gtr rfl rfl) rfl ?_
  refine WL.nil ?_
  refine AT.then_n ?_
  refine WC.cond rfl (fun h1 => ?_) (fun h1 => ?_)
  · -- if 1: yes
    try have p1 := of_decide_eq_true h1
    obtain ⟨i, rfl⟩ : ∃ i2, i = i2 + 1 := ⟨i - 1, by omega⟩
    have hlt : i < L.length := by omega
    have hidx : (((i + 1 : Nat) : Int) - 1).toNat = i := by omega
    refine WC.skip ?_
    refine AT.then_n ?_
    refine WC.seq ?_
    refine WC.block ?_
    refine WC.seq ?_
    refine WC.region ?_
    refine WL.q (q_move rfl) rfl ?_
    refine WL.q (q_load rfl a_296 (by first | exact Cell.ptL 0 rfl rfl | exact Cell.ptL 1 rfl rfl | exact Cell.ptL 2 rfl rfl | exact Cell.ptL 3 rfl rfl)) rfl ?_
    refine WL.q (q_nil rfl) rfl ?_
    refine WL.q (q_fieldAddr rfl fo_216_2) rfl ?_
    refine WL.q (q_load rfl a_212 (by first | exact Cell.ptL 0 rfl rfl | exact Cell.ptL 1 rfl rfl | exact Cell.ptL 2 rfl rfl | exact Cell.ptL 3 rfl rfl)) rfl ?_
    refine WL.q (q_move rfl) rfl ?_
    first | refine WL.q (q_sub64 rfl rfl (by omega)) rfl ?_ | refine WL.q (q_sub rfl rfl) rfl ?_
    refine WL.q (q_indexAddr rfl rfl u_212 i_221 (Based.orow 2 rfl (by rw [flat_len wr 65 wr_len]; omega)) (by omega)) rfl ?_
    refine WL.q (q_loadA rfl a_221 i_221 (by rw [hidx]; exact Cells.orowAt 2 rfl wr_len hlt) (wr_len _)) rfl ?_
    refine WL.eff (e_callV rfl rfl (hY i hlt)) rfl ?_; rintro v9 o9 k9 ⟨rfl, hv9⟩
    obtain ⟨bv9, rfl, hq9⟩ : ∃ q : Bool, v9 = .bool q ∧ ((q = true ∧ T i ∧ Pt tc (.cells ([.pointer (some (ad b 0))] : List Value).toArray 296 (0, 0)) :: Pt b (.cells (dk (n) (m) (A) (L.length) (cap) (out) (aon) (al) (fon) (fl) (ops)).toArray 218 (0, 0)) :: ORow A cap 221 65 (L.flatMap wr) :: O i = o9) ∨ (q = false ∧ Z i ∧ Pt tc (.cells ([.pointer (some (ad b 0))] : List Value).toArray 296 (0, 0)) :: Pt b (.cells (dk (n) (m) (A) (L.length) (cap) (out) (aon) (al) (fon) (fl) (ops)).toArray 218 (0, 0)) :: ORow A cap 221 65 (L.flatMap wr) :: S i = o9)) := by
      rcases hv9 with ⟨rfl, h, h2⟩ | ⟨rfl, h, h2⟩
      · exact ⟨true, rfl, .inl ⟨rfl, h, h2⟩⟩
      · exact ⟨false, rfl, .inr ⟨rfl, h, h2⟩⟩
    refine WL.q (q_not rfl) rfl ?_
    refine WL.nil ?_
    refine AT.then_n ?_
    refine WC.cond rfl (fun h2 => ?_) (fun h2 => ?_)
    · -- if 2: yes
      try have p2 := of_decide_eq_true h2
      rcases hq9 with ⟨rfl, hTi, rfl⟩ | ⟨rfl, hTi, rfl⟩
      · cases h2
      refine WC.ret ?_
      refine AT.blk_r ?_
      refine AT.then_r ?_
      refine AT.then_r ?_
      refine AT.blk_r ?_
      exact AT.done rfl (RO.none rfl) ⟨rfl, rfl, .inr ⟨i, hlt, hTi, fun j h1 h3 => hT j (by omega) h3, rfl⟩⟩ (Imp.refl _ _)
    · -- if 2: no
      try have p2 := of_decide_eq_false h2
      rcases hq9 with ⟨rfl, hTi, rfl⟩ | ⟨rfl, hTi, rfl⟩
      rotate_left
      · cases h2
      refine WC.skip ?_
      refine AT.blk_n ?_
      refine AT.then_n ?_
      refine WC.region ?_
      refine WL.q (q_move rfl) rfl ?_
      first | refine WL.q (q_sub64 rfl rfl (by omega)) rfl ?_ | refine WL.q (q_sub rfl rfl) rfl ?_
      refine WL.q (q_assign rfl) rfl ?_
      refine WL.nil ?_
      refine AT.mid i ⟨⟨by omega, fun j h1 h2 => ?_⟩, by omega⟩ ⟨?_, rfl, rfl, trivial⟩ (Imp.refl _ _)
      · by_cases hj : j = i
        · subst hj; exact hTi
        · exact hT j (by omega) h2
      · exact vint (by omega)
  · -- if 1: no
    try have p1 := of_decide_eq_false h1
    refine WC.exit ?_
    refine AT.then_e ?_
    refine AT.then_e ?_
    refine AT.blk_e ?_
    have hi0 : i = 0 := by omega
    subst hi0
    exact AT.doneN rfl (RO.none rfl) ⟨rfl, rfl, .inl ⟨fun j h => hT j (by omega) h, rfl⟩⟩ (Imp.refl _ _)

theorem c223 {own : List SP} {K : PH → Prop} {b : Nat} : Spec Try.prog 223 [.pointer (some (ad b 0))] (own) (K)
    (fun v o k => ∃ tc, v = .func (.func 266) #[] #[.pointer (some (ad tc 0))] ∧ o = Pt tc (.cells ([.pointer (some (ad b 0))] : List Value).toArray 296 (0, 0)) :: own ∧ K = k) := by
  refine Spec.of en_223 Try.func223 rfl rfl fun g => ?_
  refine WC.seq ?_
  refine WC.region ?_
  refine WL.eff (e_box rfl) rfl ?_; rintro _ _ _ ⟨b1, rfl, rfl, rfl⟩
  refine WL.q (q_assign rfl) rfl ?_
  refine WL.nil ?_
  refine AT.then_n ?_
  refine WC.seq ?_
  refine WC.region ?_
  refine WL.q (q_makeFunc rfl rfl) rfl ?_
  refine WL.q (q_assign rfl) rfl ?_
  refine WL.nil ?_
  refine AT.then_n ?_
  refine WC.ret ?_
  exact AT.done rfl (RO.one rfl rfl) ⟨_, rfl, rfl, rfl⟩ (Imp.refl _ _)


theorem QO.eq {C : Cx} {op : Op} {ty : TypeId} {e : Env} {own : List SP} {K : PH → Prop} {v v' : Value} (h : QO C op ty e own K v) (q : v = v') : QO C op ty e own K v' := q ▸ h
theorem SpecAt.pre {g : Os × Array (Nat × ByteArray)} {P : Program} {f : FuncId} {args : List Value} {own own' : List SP} {K K' : PH → Prop} {Φ : Value → List SP → (PH → Prop) → Prop} (i : Imp own K own' K') (h : SpecAt g P f args own' K' Φ) : SpecAt g P f args own K Φ :=
  ⟨h.1, fun w hS => h.2 w (i _ _ hS)⟩
/-- What is firm, as the map holds it. -/
def fm (F : List (Int × Blk)) : List (Int × Value) := F.map fun p => (p.1, blkV p.2.1)
def fget : List (Int × Blk) → Int → List UInt8
  | [], _ => List.replicate 64 0
  | p :: F, a => if p.1 = a then p.2.1 else fget F a
theorem fget_len (F : List (Int × Blk)) (a : Int) : (fget F a).length = 64 := by
  induction F with
  | nil => simp [fget]
  | cons p F ih =>
    unfold fget; split
    · exact p.2.2
    · exact ih
theorem fget_eq (F : List (Int × Blk)) (a : Int) : (aget (fm F) a).getD (.agg (List.replicate 64 (Value.int .u8 0)).toArray) = blkV (fget F a) := by
  induction F with
  | nil => simp [fm, aget, fget, blkV, bv]
  | cons p F ih =>
    unfold fget
    by_cases h : p.1 = a
    · simp [fm, aget, h]
    · simp only [fm, List.map_cons, aget, if_neg h]; exact ih
def lt_ (L : List (Int × Blk)) (i : Nat) : Int := ((L[i]?).map (·.1)).getD 0
def lb_ (L : List (Int × Blk)) (i : Nat) : List UInt8 := ((L[i]?).map (·.2.1)).getD []
theorem lt_at {L : List (Int × Blk)} {i : Nat} (h : i < L.length) : lt_ L i = L[i].1 := by simp [lt_, h]
theorem lb_at {L : List (Int × Blk)} {i : Nat} (h : i < L.length) : lb_ L i = L[i].2.1 := by simp [lb_, h]
/-- What a sector holds: the last write of those that are loose, else what is firm. -/
def holdsD (F L : List (Int × Blk)) (a : Int) : List UInt8 := L.foldl (fun b p => if p.1 = a then p.2.1 else b) (fget F a)
theorem foldl_none (a : Int) : ∀ (L : List (Int × Blk)) (b : List UInt8), (∀ p ∈ L, p.1 ≠ a) → L.foldl (fun b p => if p.1 = a then p.2.1 else b) b = b
  | [], b, _ => rfl
  | p :: L, b, h => by rw [List.foldl_cons, if_neg (h p (by simp))]; exact foldl_none a L b fun q hq => h q (by simp [hq])
theorem holds_none {F L : List (Int × Blk)} {a : Int} (h : ∀ i, i < L.length → lt_ L i ≠ a) : holdsD F L a = fget F a := by
  refine foldl_none a L _ fun p hp => ?_
  obtain ⟨i, hi, rfl⟩ := List.getElem_of_mem hp
  rw [← lt_at hi]; exact h i hi
theorem holds_some {F L : List (Int × Blk)} {a : Int} {j : Nat} (hj : j < L.length) (hz : lt_ L j = a) (h : ∀ i, j < i → i < L.length → lt_ L i ≠ a) : holdsD F L a = lb_ L j := by
  unfold holdsD
  rw [lt_at hj] at hz
  rw [lb_at hj]
  have e : L = L.take j ++ L[j] :: L.drop (j + 1) := by rw [← List.drop_eq_getElem_cons hj, List.take_append_drop]
  conv => lhs; rw [e]
  rw [List.foldl_append, List.foldl_cons, if_pos hz]
  refine foldl_none a _ _ fun p hp => ?_
  obtain ⟨i, hi, rfl⟩ := List.getElem_of_mem hp
  rw [List.length_drop] at hi
  rw [List.getElem_drop, ← lt_at (L := L) (i := j + 1 + i) (by omega)]
  exact h _ (by omega) (by omega)
theorem wr_part (p : Int × Blk) : ((wr p).drop 1).take 64 = p.2.1.map bv := by
  unfold wr
  rw [List.drop_succ_cons, List.drop_zero, List.take_of_length_le (by simp [p.2.2])]

theorem c154_at {own : List SP} {K : PH → Prop} {g : Os × Array (Nat × ByteArray)} {b m cap : Nat} {A : Option Addr} {n al fl ops : Int} {out aon fon : Bool} {L : List (Int × Blk)} {a : Int} {F : List (Int × Blk)} (hL : L.length ≤ 1000000) : SpecAt g Try.prog 154 [.pointer (some (ad b 0)), .int .i64 a] (Pt b (.cells (dk (n) (m) (A) (L.length) (cap) (out) (aon) (al) (fon) (fl) (ops)).toArray 218 (0, 0)) :: ORow A cap 221 65 (L.flatMap wr) :: Mp m ki (fm F) :: own) (K)
    (Ret (blkV (holdsD F L a)) (Pt b (.cells (dk (n) (m) (A) (L.length) (cap) (out) (aon) (al) (fon) (fl) (ops)).toArray 218 (0, 0)) :: ORow A cap 221 65 (L.flatMap wr) :: Mp m ki (fm F) :: own) K) := by
  refine SpecAt.ofM en_154 Try.func154 rfl rfl ?_
  refine WC.seq ?_
  refine WC.region ?_
  refine WL.eff (e_box rfl) rfl ?_; rintro _ _ _ ⟨b1, rfl, rfl, rfl⟩
  refine WL.eff (e_alloc i_88) rfl ?_; rintro _ _ _ ⟨b2, rfl, rfl, rfl⟩
  refine WL.nil ?_
  refine AT.then_n ?_
  refine WC.scope ?_
  refine WC.seq ?_
  refine WC.drawS [0, 1, 2] _ _ mixed (NoPan.then (NoPan.sc NoPan.bodyM)) (Imp.refl _ _) rfl ?_
  refine WD.sched [(0, 0), (1, 0), (2, 0), (3, 0), (4, 0), (5, 0), (6, 2), (7, 1)] true (by decide +kernel) ?_
  refine WS.q 0 rfl (q_move rfl) rfl ?_
  refine WS.q 1 rfl (q_nil rfl) rfl ?_
  refine WS.q 2 rfl (q_fieldAddr rfl fo_216_1) rfl ?_
  refine WS.q 3 rfl (q_load rfl a_211 (by first | exact Cell.ptL 0 rfl rfl | exact Cell.ptL 1 rfl rfl | exact Cell.ptL 2 rfl rfl | exact Cell.ptL 3 rfl rfl | exact Cell.ptL 4 rfl rfl | exact Cell.ptL 5 rfl rfl | exact Cell.ptL 6 rfl rfl | exact Cell.ptL 7 rfl rfl | exact Cell.ptL 8 rfl rfl | exact Cell.ptL 9 rfl rfl)) rfl ?_
  refine WS.q 4 rfl (q_load rfl a_3 (by first | exact Cell.ptL 0 rfl rfl | exact Cell.ptL 1 rfl rfl | exact Cell.ptL 2 rfl rfl | exact Cell.ptL 3 rfl rfl | exact Cell.ptL 4 rfl rfl | exact Cell.ptL 5 rfl rfl | exact Cell.ptL 6 rfl rfl | exact Cell.ptL 7 rfl rfl | exact Cell.ptL 8 rfl rfl | exact Cell.ptL 9 rfl rfl)) rfl ?_
  refine WS.q 5 rfl (QO.eq (q_lookup 4 (key := ki) (l := fm F) (a := a) rfl rfl rfl (intKey .i64) u_211 u_3 i_88) (fget_eq F a)) rfl ?_
  refine WS.eff2 6 rfl (e_alloc i_88) rfl ?_; rintro _ _ _ ⟨b3, rfl, rfl, rfl⟩
  refine ⟨(by first | exact (Imp.refl _ _) | exact (Imp.sub (List.Sublist.cons _ (List.Sublist.refl _))) | exact (Imp.ent (Ent.left (Ent.refl _)))), ?_⟩
  refine WS.effn 7 rfl (e_storeAll 0 rfl rfl rfl i_88 rfl (by simp [fget_len]) (by simp) (ones_bv _)) ?_; rintro _ _ _ ⟨rfl, rfl, rfl⟩
  refine WS.done ?_
  refine AT.then_n ?_
  refine WC.seq ?_
  refine WC.label ?_
  refine AT.then_n ?_
  refine WC.seq ?_
  refine WC.seq ?_
  refine WC.region ?_
  refine WL.q (q_move rfl) rfl ?_
  refine WL.eff (e_call rfl c223) rfl ?_; rintro _ _ _ ⟨tc, rfl, rfl, rfl⟩
  refine WL.nil ?_
  refine AT.then_n ?_
  refine WC.block ?_
  refine WC.rangeFuncL (fun Lp d v o k => v = .tuple #[] ∧ K = k ∧ (((∀ i, i < L.length → lt_ L i ≠ a) ∧ o = Pt tc (.cells ([.pointer (some (ad b 0))] : List Value).toArray 296 (0, 0)) :: Pt b (.cells (dk (n) (m) (A) (L.length) (cap) (out) (aon) (al) (fon) (fl) (ops)).toArray 218 (0, 0)) :: ORow A cap 221 65 (L.flatMap wr) :: ((fun _ => Lp .ready none :: Pt d (.deferred (some [])) :: Pt b3 (.cells ((fget F a).map bv).toArray 88 (0, 0)) :: Pt b2 (.cells ((List.replicate 64 (0 : UInt8)).map bv).toArray 88 (0, 0)) :: Pt b1 (.cells ([.int .i64 a] : List Value).toArray 3 (0, 0)) :: Mp m ki (fm F) :: own) 0)) ∨ ∃ j, j < L.length ∧ lt_ L j = a ∧ (∀ i, j < i → i < L.length → lt_ L i ≠ a) ∧ o = Pt tc (.cells ([.pointer (some (ad b 0))] : List Value).toArray 296 (0, 0)) :: Pt b (.cells (dk (n) (m) (A) (L.length) (cap) (out) (aon) (al) (fon) (fl) (ops)).toArray 218 (0, 0)) :: ORow A cap 221 65 (L.flatMap wr) :: ((fun j => Lp .done (some (.exit 0)) :: Pt d (.deferred (some [])) :: Pt b3 (.cells ((lb_ L j).map bv).toArray 88 (0, 0)) :: Pt b2 (.cells ((List.replicate 64 (0 : UInt8)).map bv).toArray 88 (0, 0)) :: Pt b1 (.cells ([.int .i64 a] : List Value).toArray 3 (0, 0)) :: Mp m ki (fm F) :: own) j))) rfl rfl (fun l d fn tmps Lp hLp hN he => ?_) (fun l d fn tmps Lp hLp v o k hΦ => ?_)
  · -- the rounds
    refine SpecAt.pre (Imp.trans (Imp.front 7 rfl) (Imp.trans (Imp.front 7 rfl) (Imp.trans (Imp.front 4 rfl) (Imp.eq ?_)))) (c266 (O := (fun _ => Lp .ready none :: Pt d (.deferred (some [])) :: Pt b3 (.cells ((fget F a).map bv).toArray 88 (0, 0)) :: Pt b2 (.cells ((List.replicate 64 (0 : UInt8)).map bv).toArray 88 (0, 0)) :: Pt b1 (.cells ([.int .i64 a] : List Value).toArray 3 (0, 0)) :: Mp m ki (fm F) :: own)) (S := (fun j => Lp .done (some (.exit 0)) :: Pt d (.deferred (some [])) :: Pt b3 (.cells ((lb_ L j).map bv).toArray 88 (0, 0)) :: Pt b2 (.cells ((List.replicate 64 (0 : UInt8)).map bv).toArray 88 (0, 0)) :: Pt b1 (.cells ([.int .i64 a] : List Value).toArray 3 (0, 0)) :: Mp m ki (fm F) :: own)) (T := fun j => lt_ L j ≠ a) (Z := fun j => lt_ L j = a) hL (fun j hj => ?_))
    · simp [bv, Value.cells, fget_len]
    refine VS.yield 3 (congrArg some (hLp _ _)) rfl hN he rfl ?_
    refine WC.region ?_
    refine WL.eff (e_alloc i_221) rfl ?_; rintro _ _ _ ⟨b6, rfl, rfl, rfl⟩
    refine WL.effn (e_storeAll 0 rfl rfl rfl i_221 rfl (wr_len _) (by simp) (ones_wr _)) ?_; rintro _ _ _ ⟨rfl, rfl, rfl⟩
    refine WL.nil ?_
    refine AT.begin 4 rfl (congrArg some (hLp _ _)) ?_
    refine WC.block ?_
    refine WC.seq ?_
    refine WC.region ?_
    refine WL.q (q_fieldAddr rfl fo_221_0) rfl ?_
    refine WL.q (q_load rfl a_3 (by first | exact Cell.ptL 0 rfl rfl | exact Cell.ptL 1 rfl rfl | exact Cell.ptL 2 rfl rfl | exact Cell.ptL 3 rfl rfl | exact Cell.ptL 4 rfl rfl | exact Cell.ptL 5 rfl rfl | exact Cell.ptL 6 rfl rfl | exact Cell.ptL 7 rfl rfl | exact Cell.ptL 8 rfl rfl | exact Cell.ptL 9 rfl rfl)) rfl ?_
    refine WL.q (q_load rfl a_3 (by first | exact Cell.ptL 0 rfl rfl | exact Cell.ptL 1 rfl rfl | exact Cell.ptL 2 rfl rfl | exact Cell.ptL 3 rfl rfl | exact Cell.ptL 4 rfl rfl | exact Cell.ptL 5 rfl rfl | exact Cell.ptL 6 rfl rfl | exact Cell.ptL 7 rfl rfl | exact Cell.ptL 8 rfl rfl | exact Cell.ptL 9 rfl rfl)) rfl ?_
    refine WL.q (q_eql rfl rfl) rfl ?_
    refine WL.nil ?_
    refine AT.then_n ?_
    refine WC.cond rfl (fun h1 => ?_) (fun h1 => ?_)
    · -- if 1: yes
      try have p1 := of_decide_eq_true h1
      refine WC.seq ?_
      refine WC.region ?_
      refine WL.q (q_fieldAddr rfl fo_221_1) rfl ?_
      refine WL.q (q_loadA (vs := (L[j]).2.1.map bv) rfl a_88 i_88 (by rw [← wr_part L[j]]; exact Cells.ptPart 0 1 64 rfl) (by simp [(L[j]).2.2])) rfl ?_
      refine WL.effn (e_storeAll 6 rfl rfl rfl i_88 rfl (by simp [(L[j]).2.2]) (by simp [fget_len]) (ones_bv _)) ?_; rintro _ _ _ ⟨rfl, rfl, rfl⟩
      refine WL.nil ?_
      refine AT.then_n ?_
      refine WC.exit ?_
      refine AT.blk_x rfl ?_
      refine AT.rdE 4 rfl ⟨rfl, .inr ⟨rfl, ?_, rfl⟩⟩ (Imp.drop (Imp.eq ?_))
      · rw [lt_at hj]; exact p1
      · simp [lb_at hj, fget_len, hLp]
    · -- if 1: no
      try have p1 := of_decide_eq_false h1
      refine WC.skip ?_
      refine AT.blk_n ?_
      refine AT.rdN 4 rfl ⟨rfl, .inl ⟨rfl, ?_, rfl⟩⟩ (Imp.drop (Imp.eq ?_))
      · rw [lt_at hj]; exact p1
      · simp [hLp]
  · -- behind the rounds
    obtain ⟨hv, rfl, hΦ⟩ := hΦ
    rcases hΦ with ⟨hall, rfl⟩ | ⟨j, hj, hz, hall, rfl⟩
    · -- left by normal
      refine ⟨3, _, _, rfl, rfl, ?_⟩
      show AT _ .normal _ _ _ _
      refine AT.blk_n ?_
      refine AT.then_n ?_
      refine WC.seq ?_
      refine WC.region ?_
      refine WL.q (q_loadA rfl a_88 i_88 (Cells.pt 4 rfl) (by first | (simp [fget_len]; done) | (simp [lb_at hj, (L[j]).2.2]; done))) rfl ?_
      refine WL.effn (e_storeAll 5 rfl rfl rfl i_88 rfl (by first | (simp [fget_len]; done) | (simp [lb_at hj, (L[j]).2.2]; done)) (by simp) (ones_bv _)) ?_; rintro _ _ _ ⟨rfl, rfl, rfl⟩
      refine WL.nil ?_
      refine AT.then_n ?_
      refine WC.ret ?_
      refine AT.sc_r ?_
      refine AT.doneM 3 rfl rfl (RO.cellA rfl rfl a_88 i_88 (Cells.pt 4 rfl) (by simp [fget_len])) ⟨?_, rfl, rfl⟩ (Imp.sub (List.Sublist.cons _ (List.Sublist.cons_cons _ (List.Sublist.cons_cons _ (List.Sublist.cons _ (List.Sublist.cons _ (List.Sublist.cons _ (List.Sublist.refl _))))))))
      rw [holds_none hall]; simp [blkV, fget_len]
    · -- left by 0
      refine ⟨3, _, _, rfl, rfl, ?_⟩
      show WC _ (.exit 0) _ _ _ _
      refine WC.exit ?_
      refine AT.blk_e ?_
      refine AT.then_n ?_
      refine WC.seq ?_
      refine WC.region ?_
      refine WL.q (q_loadA rfl a_88 i_88 (Cells.pt 4 rfl) (by first | (simp [fget_len]; done) | (simp [lb_at hj, (L[j]).2.2]; done))) rfl ?_
      refine WL.effn (e_storeAll 5 rfl rfl rfl i_88 rfl (by first | (simp [fget_len]; done) | (simp [lb_at hj, (L[j]).2.2]; done)) (by simp) (ones_bv _)) ?_; rintro _ _ _ ⟨rfl, rfl, rfl⟩
      refine WL.nil ?_
      refine AT.then_n ?_
      refine WC.ret ?_
      refine AT.sc_r ?_
      refine AT.doneM 3 rfl rfl (RO.cellA rfl rfl a_88 i_88 (Cells.pt 4 rfl) (by simp [lb_at hj, (L[j]).2.2])) ⟨?_, rfl, rfl⟩ (Imp.sub (List.Sublist.cons _ (List.Sublist.cons_cons _ (List.Sublist.cons_cons _ (List.Sublist.cons _ (List.Sublist.cons _ (List.Sublist.cons _ (List.Sublist.refl _))))))))
      rw [holds_some hj hz hall]; simp [blkV, lb_at hj, (L[j]).2.2]


def fset : List (Int × Blk) → Int → Blk → List (Int × Blk)
  | [], a, v => [(a, v)]
  | p :: F, a, v => if p.1 = a then (a, v) :: F else p :: fset F a v
theorem fm_set (F : List (Int × Blk)) (a : Int) (v : Blk) : aset (fm F) a (blkV v.1) = fm (fset F a v) := by
  induction F with
  | nil => rfl
  | cons p F ih =>
    unfold fset
    by_cases h : p.1 = a
    · simp [fm, aset, h]
    · simp only [fm, List.map_cons, aset, if_neg h]; congr 1
/-- Those of the loose writes that stay are firm then. -/
def settleD (kp : Nat → Bool) (F L : List (Int × Blk)) : List (Int × Blk) := L.zipIdx.foldl (fun F q => if kp q.2 = true then fset F q.1.1 q.1.2 else F) F
theorem settle_succ (kp : Nat → Bool) (F L : List (Int × Blk)) {i : Nat} (h : i < L.length) : settleD kp F (L.take (i + 1)) = if kp i = true then fset (settleD kp F (L.take i)) L[i].1 L[i].2 else settleD kp F (L.take i) := by
  unfold settleD
  rw [List.take_succ_eq_append_getElem h, List.zipIdx_append, List.foldl_append]
  simp [Nat.min_eq_left (Nat.le_of_lt h)]

theorem c155 {own : List SP} {K : PH → Prop} {g : Os × Array (Nat × ByteArray)} {b m cap : Nat} {A : Option Addr} {n al fl ops : Int} {out aon fon : Bool} {L : List (Int × Blk)} {F : List (Int × Blk)} {Y : Value} {kp : Nat → Bool} (hL : L.length ≤ 1000000) (hY : ∀ (i : Nat) (o : List SP), i < L.length → VS Try.prog g Y [.int .i64 i] o K (Ret (.bool (kp i)) o K)) : SpecAt g Try.prog 155 [.pointer (some (ad b 0)), Y] (Pt b (.cells (dk (n) (m) (A) (L.length) (cap) (out) (aon) (al) (fon) (fl) (ops)).toArray 218 (0, 0)) :: ORow A cap 221 65 (L.flatMap wr) :: Mp m ki (fm F) :: own) (K)
    (Ret (.tuple #[]) (Pt b (.cells (dk (n) (m) (none) (0) (0) (out) (aon) (al) (fon) (fl) (ops)).toArray 218 (0, 0)) :: ORow none 0 221 65 [] :: Mp m ki (fm (settleD kp F L)) :: own) K) := by
  refine SpecAt.of en_155 Try.func155 rfl rfl ?_
  refine WC.seq ?_
  refine WC.seq ?_
  refine WC.region ?_
  refine WL.q (q_move rfl) rfl ?_
  refine WL.q (q_nil rfl) rfl ?_
  refine WL.q (q_fieldAddr rfl fo_216_2) rfl ?_
  refine WL.q (q_load rfl a_212 (by first | exact Cell.ptL 0 rfl rfl | exact Cell.ptL 1 rfl rfl | exact Cell.ptL 2 rfl rfl | exact Cell.ptL 3 rfl rfl)) rfl ?_
  refine WL.q (q_len rfl u_212) rfl ?_
  refine WL.q (q_move rfl) rfl ?_
  refine WL.nil ?_
  refine AT.then_n ?_
  refine WC.block ?_
  refine WC.loop (σ := Nat) (fun i => i ≤ L.length) (fun i => [(11, .int .i64 i), (9, .slice A L.length cap), (10, .int .i64 L.length), (1, Y), (0, .pointer (some (ad b 0)))]) (fun i => Pt b (.cells (dk (n) (m) (A) (L.length) (cap) (out) (aon) (al) (fon) (fl) (ops)).toArray 218 (0, 0)) :: ORow A cap 221 65 (L.flatMap wr) :: Mp m ki (fm (settleD kp F (L.take i))) :: own) (fun _ => K) (fun i => L.length - i) 0 (by omega) ⟨rfl, rfl, rfl, rfl, rfl, trivial⟩ (Imp.eq rfl) ?_
  intro i hi
  refine WC.seq ?_
  refine WC.region ?_
  refine WL.q (q_lss rfl rfl) rfl ?_
  refine WL.nil ?_
  refine AT.then_n ?_
  refine WC.seq ?_
  refine WC.cond rfl (fun h1 => ?_) (fun h1 => ?_)
  · -- if 1: yes
    try have p1 := of_decide_eq_true h1
    have hlt : i < L.length := by omega
    refine WC.skip ?_
    refine AT.then_n ?_
    refine WC.seq ?_
    refine WC.block ?_
    refine WC.seq ?_
    refine WC.region ?_
    refine WL.q (q_move rfl) rfl ?_
    refine WL.q (q_indexAddr rfl rfl u_212 i_221 (Based.orow 1 rfl (by rw [flat_len wr 65 wr_len]; omega)) (by omega)) rfl ?_
    refine WL.q (q_loadA rfl a_221 i_221 (Cells.orowAt 1 rfl wr_len hlt) (wr_len _)) rfl ?_
    refine WL.eff (e_alloc i_221) rfl ?_; rintro _ _ _ ⟨b1, rfl, rfl, rfl⟩
    refine WL.q (q_assign rfl) rfl ?_
    refine WL.effn (e_storeAll 0 rfl rfl rfl i_221 rfl (wr_len _) (by simp) (ones_wr _)) ?_; rintro _ _ _ ⟨rfl, rfl, rfl⟩
    refine WL.nil ?_
    refine AT.then_n ?_
    refine WC.seq ?_
    refine WC.region ?_
    refine WL.q (q_move rfl) rfl ?_
    refine WL.q (q_move rfl) rfl ?_
    refine WL.eff (e_callV rfl rfl (hY i _ hlt)) rfl ?_; rintro _ _ _ ⟨rfl, rfl, rfl⟩
    refine WL.nil ?_
    refine AT.then_n ?_
    refine WC.cond rfl (fun h2 => ?_) (fun h2 => ?_)
    · -- if 2: yes
      try have p2 := of_decide_eq_true h2
      refine WC.drawS [0, 1, 2, 4, 6] _ _ mixed (NoPan.blk (NoPan.then (NoPan.then (NoPan.blk (NoPan.then NoPan.body))))) (Imp.refl _ _) rfl ?_
      refine WD.sched [(0, 0), (1, 0), (2, 0), (3, 0), (4, 0), (5, 0), (6, 0), (7, 0), (8, 1)] true (by decide +kernel) ?_
      refine WS.q 0 rfl (q_move rfl) rfl ?_
      refine WS.q 1 rfl (q_nil rfl) rfl ?_
      refine WS.q 2 rfl (q_fieldAddr rfl fo_216_1) rfl ?_
      refine WS.q 3 rfl (q_load rfl a_211 (by first | exact Cell.ptL 0 rfl rfl | exact Cell.ptL 1 rfl rfl | exact Cell.ptL 2 rfl rfl | exact Cell.ptL 3 rfl rfl)) rfl ?_
      refine WS.q 4 rfl (q_fieldAddr rfl fo_221_0) rfl ?_
      refine WS.q 5 rfl (q_load rfl a_3 (by first | exact Cell.ptL 0 rfl rfl | exact Cell.ptL 1 rfl rfl | exact Cell.ptL 2 rfl rfl | exact Cell.ptL 3 rfl rfl)) rfl ?_
      refine WS.q 6 rfl (q_fieldAddr rfl fo_221_1) rfl ?_
      refine WS.q 7 rfl ((q_loadA (vs := (L[i]).2.1.map bv) rfl a_88 i_88 (by rw [← wr_part L[i]]; exact Cells.ptPart 0 1 64 rfl) (by simp [(L[i]).2.2]))) rfl ?_
      refine WS.effn 8 rfl (e_mapUpdate 3 (key := ki) (a := (L[i]).1) rfl rfl rfl rfl (intKey .i64) u_211 u_3) ?_; rintro _ _ _ ⟨rfl, rfl, rfl⟩
      refine WS.done ?_
      refine AT.blk_n ?_
      refine AT.then_n ?_
      refine WC.region ?_
      first | refine WL.q (q_add64 rfl rfl (by omega)) rfl ?_ | refine WL.q (q_add rfl rfl) rfl ?_
      refine WL.q (q_move rfl) rfl ?_
      refine WL.nil ?_
      refine AT.mid (i + 1) ⟨by omega, by omega⟩ ⟨rfl, rfl, rfl, rfl, rfl, trivial⟩ (Imp.drop (Imp.eq ?_))
      rw [settle_succ kp F L hlt, h2]
      first
        | (simp only [if_true]; rw [← fm_set]; rfl)
        | simp
    · -- if 2: no
      try have p2 := of_decide_eq_false h2
      refine WC.skip ?_
      refine AT.blk_n ?_
      refine AT.then_n ?_
      refine WC.region ?_
      first | refine WL.q (q_add64 rfl rfl (by omega)) rfl ?_ | refine WL.q (q_add rfl rfl) rfl ?_
      refine WL.q (q_move rfl) rfl ?_
      refine WL.nil ?_
      refine AT.mid (i + 1) ⟨by omega, by omega⟩ ⟨rfl, rfl, rfl, rfl, rfl, trivial⟩ (Imp.drop (Imp.eq ?_))
      rw [settle_succ kp F L hlt, h2]
      first
        | (simp only [if_true]; rw [← fm_set]; rfl)
        | simp
  · -- if 1: no
    try have p1 := of_decide_eq_false h1
    have hi2 : i = L.length := by omega
    subst hi2
    rw [List.take_length]
    refine WC.exit ?_
    refine AT.then_e ?_
    refine AT.then_e ?_
    refine AT.blk_e ?_
    refine AT.then_n ?_
    refine WC.region ?_
    refine WL.q (q_move rfl) rfl ?_
    refine WL.q (q_nil rfl) rfl ?_
    refine WL.q (q_fieldAddr rfl fo_216_2) rfl ?_
    first | refine WL.effn (e_store 0 rfl rfl rfl i_212 rfl (by simp)) ?_ | refine WL.effn (e_store 1 rfl rfl rfl i_212 rfl (by simp)) ?_ | refine WL.effn (e_store 2 rfl rfl rfl i_212 rfl (by simp)) ?_ | refine WL.effn (e_store 3 rfl rfl rfl i_212 rfl (by simp)) ?_
    rintro _ _ _ ⟨rfl, rfl, rfl⟩
    refine WL.nil ?_
    exact AT.doneN rfl (RO.none rfl) ⟨rfl, rfl, rfl⟩ (Imp.trans (Imp.sub (List.Sublist.cons_cons _ (List.Sublist.cons _ (List.Sublist.refl _)))) (Imp.trans (Imp.orowNil 221 65) Imp.swap))


/-- What comes of asking, and the counts then: errno, out, arms, fails. -/
def askD (n : Int) (out aon : Bool) (al : Int) (fon : Bool) (fl : Int) (a : Int) (lays : Bool) : Int × Bool × (Bool × Int) × (Bool × Int) :=
  if out = true then (9, out, (aon, al), (fon, fl)) else
  if a < 0 ∨ a ≥ n then (2, out, (aon, al), (fon, fl)) else
  if (met fon fl).1 = true then (8, out, (aon, al), (met fon fl).2) else
  if lays = true then (if (met aon al).1 = true then (9, true, (met aon al).2, (met fon fl).2) else (0, out, (met aon al).2, (met fon fl).2)) else
  (0, out, (aon, al), (met fon fl).2)

theorem c151_bad {K : PH → Prop} {g : Os × Array (Nat × ByteArray)} {b m k cap : Nat} {A : Option Addr} {n al fl ops a : Int} {out aon fon lays : Bool} {R : List SP} {Y : Value} (hal : -1000000 ≤ al ∧ al ≤ 1000000) (hfl : -1000000 ≤ fl ∧ fl ≤ 1000000) (ho : 0 ≤ ops ∧ ops ≤ 1000000) (hne : (askD n out aon al fon fl a lays).1 ≠ 0) : SpecAt g Try.prog 151 [.pointer (some (ad b 0)), .int .i64 a, .bool lays, Y] (Pt b (.cells (dk (n) (m) (A) (k) (cap) (out) (aon) (al) (fon) (fl) (ops)).toArray 218 (0, 0)) :: R) (K)
    (Ret (.int .i64 (askD n out aon al fon fl a lays).1) (Pt b (.cells (dk (n) (m) (A) (k) (cap) ((askD n out aon al fon fl a lays).2.1) ((askD n out aon al fon fl a lays).2.2.1.1) ((askD n out aon al fon fl a lays).2.2.1.2) ((askD n out aon al fon fl a lays).2.2.2.1) ((askD n out aon al fon fl a lays).2.2.2.2) (ops)).toArray 218 (0, 0)) :: R) K) := by
  refine SpecAt.of en_151 Try.func151 rfl rfl ?_
  refine WC.seq ?_
  refine WC.region ?_
  refine WL.q (q_assign rfl) rfl ?_
  refine WL.nil ?_
  refine AT.then_n ?_
  refine WC.seq ?_
  refine WC.block ?_
  refine WC.seq ?_
  refine WC.region ?_
  refine WL.q (q_move rfl) rfl ?_
  refine WL.q (q_eqlP rfl rfl u_83) rfl ?_
  refine WL.q (q_assign rfl) rfl ?_
  refine WL.nil ?_
  refine AT.then_n ?_
  refine WC.condHF rfl (rfl) ?_
  refine WC.seq ?_
  refine WC.region ?_
  refine WL.q (q_move rfl) rfl ?_
  refine WL.q (q_nil rfl) rfl ?_
  refine WL.q (q_fieldAddr rfl fo_218_0) rfl ?_
  refine WL.q (q_fieldAddr rfl fo_216_3) rfl ?_
  refine WL.q (q_load rfl a_4 (by first | exact Cell.ptL 0 rfl rfl | exact Cell.ptL 1 rfl rfl | exact Cell.ptL 2 rfl rfl | exact Cell.ptL 3 rfl rfl)) rfl ?_
  refine WL.q (q_assign rfl) rfl ?_
  refine WL.nil ?_
  refine AT.then_n ?_
  refine WC.cond rfl (fun h2 => ?_) (fun h2 => ?_)
  · -- if 2: yes
    try have p2 := of_decide_eq_true h2
    refine WC.seq ?_
    refine WC.region ?_
    refine WL.q (q_assign rfl) rfl ?_
    refine WL.nil ?_
    refine AT.then_n ?_
    refine WC.ret ?_
    refine AT.blk_r ?_
    refine AT.then_r ?_
    refine AT.done rfl (RO.one rfl rfl) ⟨?_, rfl, rfl⟩ (Imp.eq ?_) <;> first | (simp [askD, dk, *]; done) | (exfalso; simp_all [askD]; done) | (exfalso; simp_all [askD]; omega)
  · -- if 2: no
    try have p2 := of_decide_eq_false h2
    refine WC.seq ?_
    refine WC.region ?_
    refine WL.q (q_move rfl) rfl ?_
    refine WL.q (q_lss rfl rfl) rfl ?_
    refine WL.q (q_move rfl) rfl ?_
    refine WL.split 21 rfl (fun hg5_2 => ?_) (fun hg5_2 => ?_)
    · -- guard 5.2: True
      try have hp5_2 := of_decide_eq_true hg5_2
      refine WL.off rfl rfl hg5_2 rfl ?_
      refine WL.off rfl rfl hg5_2 rfl ?_
      refine WL.off rfl rfl hg5_2 rfl ?_
      refine WL.off rfl rfl hg5_2 rfl ?_
      refine WL.off rfl rfl hg5_2 rfl ?_
      refine WL.off rfl rfl hg5_2 rfl ?_
      refine WL.off rfl rfl hg5_2 rfl ?_
      refine WL.q (q_pickT rfl hg5_2 rfl) rfl ?_
      refine WL.q (q_assign rfl) rfl ?_
      refine WL.nil ?_
      refine AT.then_n ?_
      refine WC.condT rfl ?_
      refine WC.seq ?_
      refine WC.region ?_
      refine WL.q (q_assign rfl) rfl ?_
      refine WL.nil ?_
      refine AT.then_n ?_
      refine WC.ret ?_
      refine AT.blk_r ?_
      refine AT.then_r ?_
      refine AT.done rfl (RO.one rfl rfl) ⟨?_, rfl, rfl⟩ (Imp.eq ?_) <;> first | (simp [askD, dk, *]; done) | (exfalso; simp_all [askD]; done) | (exfalso; simp_all [askD]; omega)
    · -- guard 5.2: False
      try have hp5_2 := of_decide_eq_false hg5_2
      refine WL.on rfl rfl hg5_2 ?_
      refine WL.q (q_move rfl) rfl ?_
      refine WL.on rfl rfl hg5_2 ?_
      refine WL.q (q_move rfl) rfl ?_
      refine WL.on rfl rfl hg5_2 ?_
      refine WL.q (q_nil rfl) rfl ?_
      refine WL.on rfl rfl hg5_2 ?_
      refine WL.q (q_fieldAddr rfl fo_218_0) rfl ?_
      refine WL.on rfl rfl hg5_2 ?_
      refine WL.q (q_fieldAddr rfl fo_216_0) rfl ?_
      refine WL.on rfl rfl hg5_2 ?_
      refine WL.q (q_load rfl a_3 (by first | exact Cell.ptL 0 rfl rfl | exact Cell.ptL 1 rfl rfl | exact Cell.ptL 2 rfl rfl | exact Cell.ptL 3 rfl rfl)) rfl ?_
      refine WL.on rfl rfl hg5_2 ?_
      refine WL.q (q_geq rfl rfl) rfl ?_
      refine WL.q (q_pickF rfl hg5_2 rfl) rfl ?_
      refine WL.q (q_assign rfl) rfl ?_
      refine WL.nil ?_
      refine AT.then_n ?_
      refine WC.cond rfl (fun h3 => ?_) (fun h3 => ?_)
      · -- if 3: yes
        try have p3 := of_decide_eq_true h3
        refine WC.seq ?_
        refine WC.region ?_
        refine WL.q (q_assign rfl) rfl ?_
        refine WL.nil ?_
        refine AT.then_n ?_
        refine WC.ret ?_
        refine AT.blk_r ?_
        refine AT.then_r ?_
        refine AT.done rfl (RO.one rfl rfl) ⟨?_, rfl, rfl⟩ (Imp.eq ?_) <;> first | (simp [askD, dk, *]; done) | (exfalso; simp_all [askD]; done) | (exfalso; simp_all [askD]; omega)
      · -- if 3: no
        try have p3 := of_decide_eq_false h3
        refine WC.seq ?_
        refine WC.region ?_
        refine WL.q (q_move rfl) rfl ?_
        refine WL.q (q_nil rfl) rfl ?_
        refine WL.q (q_fieldAddr rfl fo_218_0) rfl ?_
        refine WL.q (q_fieldAddr rfl fo_216_5) rfl ?_
        refine WL.eff (e_call rfl (c222_fails hfl)) rfl ?_; rintro _ _ _ ⟨rfl, rfl, rfl⟩
        refine WL.q (q_assign rfl) rfl ?_
        refine WL.nil ?_
        refine AT.then_n ?_
        refine WC.cond rfl (fun h4 => ?_) (fun h4 => ?_)
        · -- if 4: yes
          try have p4 := of_decide_eq_true h4
          refine WC.seq ?_
          refine WC.region ?_
          refine WL.q (q_assign rfl) rfl ?_
          refine WL.nil ?_
          refine AT.then_n ?_
          refine WC.ret ?_
          refine AT.blk_r ?_
          refine AT.then_r ?_
          refine AT.done rfl (RO.one rfl rfl) ⟨?_, rfl, rfl⟩ (Imp.eq ?_) <;> first | (simp [askD, dk, *]; done) | (exfalso; simp_all [askD]; done) | (exfalso; simp_all [askD]; omega)
        · -- if 4: no
          try have p4 := of_decide_eq_false h4
          refine WC.seq ?_
          refine WC.region ?_
          refine WL.q (q_move rfl) rfl ?_
          refine WL.q (q_move rfl) rfl ?_
          refine WL.split 38 rfl (fun hg9_1 => ?_) (fun hg9_1 => ?_)
          · -- guard 9.1: True
            try have hp9_1 := of_decide_eq_true hg9_1
            refine WL.on rfl rfl hg9_1 ?_
            refine WL.q (q_move rfl) rfl ?_
            refine WL.on rfl rfl hg9_1 ?_
            refine WL.q (q_nil rfl) rfl ?_
            refine WL.on rfl rfl hg9_1 ?_
            refine WL.q (q_fieldAddr rfl fo_218_0) rfl ?_
            refine WL.on rfl rfl hg9_1 ?_
            refine WL.q (q_fieldAddr rfl fo_216_4) rfl ?_
            refine WL.on rfl rfl hg9_1 ?_
            refine WL.eff (e_call rfl (c222_arms hal)) rfl ?_; rintro _ _ _ ⟨rfl, rfl, rfl⟩
            refine WL.q (q_pickT rfl hg9_1 rfl) rfl ?_
            refine WL.q (q_assign rfl) rfl ?_
            refine WL.nil ?_
            refine AT.then_n ?_
            refine WC.cond rfl (fun h5 => ?_) (fun h5 => ?_)
            · -- if 5: yes
              try have p5 := of_decide_eq_true h5
              refine WC.seq ?_
              refine WC.region ?_
              refine WL.q (q_move rfl) rfl ?_
              refine WL.q (q_nil rfl) rfl ?_
              refine WL.q (q_fieldAddr rfl fo_218_0) rfl ?_
              refine WL.q (q_fieldAddr rfl fo_216_3) rfl ?_
              first | refine WL.effn (e_store 0 rfl rfl rfl i_4 rfl (by simp)) ?_ | refine WL.effn (e_store 1 rfl rfl rfl i_4 rfl (by simp)) ?_ | refine WL.effn (e_store 2 rfl rfl rfl i_4 rfl (by simp)) ?_ | refine WL.effn (e_store 3 rfl rfl rfl i_4 rfl (by simp)) ?_
              rintro _ _ _ ⟨rfl, rfl, rfl⟩
              refine WL.nil ?_
              refine AT.then_n ?_
              refine WC.seq ?_
              refine WC.region ?_
              refine WL.q (q_assign rfl) rfl ?_
              refine WL.nil ?_
              refine AT.then_n ?_
              refine WC.ret ?_
              refine AT.blk_r ?_
              refine AT.then_r ?_
              refine AT.done rfl (RO.one rfl rfl) ⟨?_, rfl, rfl⟩ (Imp.eq ?_) <;> first | (simp [askD, dk, *]; done) | (exfalso; simp_all [askD]; done) | (exfalso; simp_all [askD]; omega)
            · -- if 5: no
              try have p5 := of_decide_eq_false h5
              refine WC.skip ?_
              refine AT.blk_n ?_
              refine AT.then_n ?_
              refine WC.seq ?_
              refine WC.region ?_
              exfalso
              first | (simp_all [askD]; done) | (simp_all [askD]; omega)
          · -- guard 9.1: False
            try have hp9_1 := of_decide_eq_false hg9_1
            refine WL.off rfl rfl hg9_1 rfl ?_
            refine WL.off rfl rfl hg9_1 rfl ?_
            refine WL.off rfl rfl hg9_1 rfl ?_
            refine WL.off rfl rfl hg9_1 rfl ?_
            refine WL.off rfl rfl hg9_1 rfl ?_
            refine WL.q (q_pickF rfl hg9_1 rfl) rfl ?_
            refine WL.q (q_assign rfl) rfl ?_
            refine WL.nil ?_
            refine AT.then_n ?_
            refine WC.condF rfl ?_
            refine WC.skip ?_
            refine AT.blk_n ?_
            refine AT.then_n ?_
            refine WC.seq ?_
            refine WC.region ?_
            exfalso
            first | (simp_all [askD]; done) | (simp_all [askD]; omega)

theorem c151_ok {K : PH → Prop} {g : Os × Array (Nat × ByteArray)} {b m k cap : Nat} {A : Option Addr} {n al fl ops a : Int} {out aon fon lays : Bool} {R : List SP} {Y : Value} (hal : -1000000 ≤ al ∧ al ≤ 1000000) (hfl : -1000000 ≤ fl ∧ fl ≤ 1000000) (ho : 0 ≤ ops ∧ ops ≤ 1000000) (he : (askD n out aon al fon fl a lays).1 = 0) {Ψ : Option Addr → Nat → Nat → List SP → Prop} (hdo : VS Try.prog g Y [] (Pt b (.cells (dk (n) (m) (A) (k) (cap) ((askD n out aon al fon fl a lays).2.1) ((askD n out aon al fon fl a lays).2.2.1.1) ((askD n out aon al fon fl a lays).2.2.1.2) ((askD n out aon al fon fl a lays).2.2.2.1) ((askD n out aon al fon fl a lays).2.2.2.2) (ops)).toArray 218 (0, 0)) :: R) K (fun v o k => K = k ∧ ∃ A2 k2 cap2 R2, Ψ A2 k2 cap2 R2 ∧ Pt b (.cells (dk (n) (m) (A2) (k2) (cap2) ((askD n out aon al fon fl a lays).2.1) ((askD n out aon al fon fl a lays).2.2.1.1) ((askD n out aon al fon fl a lays).2.2.1.2) ((askD n out aon al fon fl a lays).2.2.2.1) ((askD n out aon al fon fl a lays).2.2.2.2) (ops)).toArray 218 (0, 0)) :: R2 = o)) : SpecAt g Try.prog 151 [.pointer (some (ad b 0)), .int .i64 a, .bool lays, Y] (Pt b (.cells (dk (n) (m) (A) (k) (cap) (out) (aon) (al) (fon) (fl) (ops)).toArray 218 (0, 0)) :: R) (K)
    (fun v o k => v = .int .i64 0 ∧ K = k ∧ ∃ A2 k2 cap2 R2, Ψ A2 k2 cap2 R2 ∧ Pt b (.cells (dk (n) (m) (A2) (k2) (cap2) ((askD n out aon al fon fl a lays).2.1) ((askD n out aon al fon fl a lays).2.2.1.1) ((askD n out aon al fon fl a lays).2.2.1.2) ((askD n out aon al fon fl a lays).2.2.2.1) ((askD n out aon al fon fl a lays).2.2.2.2) (ops + 1)).toArray 218 (0, 0)) :: R2 = o) := by
  refine SpecAt.of en_151 Try.func151 rfl rfl ?_
  refine WC.seq ?_
  refine WC.region ?_
  refine WL.q (q_assign rfl) rfl ?_
  refine WL.nil ?_
  refine AT.then_n ?_
  refine WC.seq ?_
  refine WC.block ?_
  refine WC.seq ?_
  refine WC.region ?_
  refine WL.q (q_move rfl) rfl ?_
  refine WL.q (q_eqlP rfl rfl u_83) rfl ?_
  refine WL.q (q_assign rfl) rfl ?_
  refine WL.nil ?_
  refine AT.then_n ?_
  refine WC.condHF rfl (rfl) ?_
  refine WC.seq ?_
  refine WC.region ?_
  refine WL.q (q_move rfl) rfl ?_
  refine WL.q (q_nil rfl) rfl ?_
  refine WL.q (q_fieldAddr rfl fo_218_0) rfl ?_
  refine WL.q (q_fieldAddr rfl fo_216_3) rfl ?_
  refine WL.q (q_load rfl a_4 (by first | exact Cell.ptL 0 rfl rfl | exact Cell.ptL 1 rfl rfl | exact Cell.ptL 2 rfl rfl | exact Cell.ptL 3 rfl rfl)) rfl ?_
  refine WL.q (q_assign rfl) rfl ?_
  refine WL.nil ?_
  refine AT.then_n ?_
  refine WC.cond rfl (fun h2 => ?_) (fun h2 => ?_)
  · -- if 2: yes
    try have p2 := of_decide_eq_true h2
    exfalso
    simp_all [askD]
  · -- if 2: no
    try have p2 := of_decide_eq_false h2
    refine WC.seq ?_
    refine WC.region ?_
    refine WL.q (q_move rfl) rfl ?_
    refine WL.q (q_lss rfl rfl) rfl ?_
    refine WL.q (q_move rfl) rfl ?_
    refine WL.split 21 rfl (fun hg5_2 => ?_) (fun hg5_2 => ?_)
    · -- guard 5.2: True
      try have hp5_2 := of_decide_eq_true hg5_2
      refine WL.off rfl rfl hg5_2 rfl ?_
      refine WL.off rfl rfl hg5_2 rfl ?_
      refine WL.off rfl rfl hg5_2 rfl ?_
      refine WL.off rfl rfl hg5_2 rfl ?_
      refine WL.off rfl rfl hg5_2 rfl ?_
      refine WL.off rfl rfl hg5_2 rfl ?_
      refine WL.off rfl rfl hg5_2 rfl ?_
      refine WL.q (q_pickT rfl hg5_2 rfl) rfl ?_
      refine WL.q (q_assign rfl) rfl ?_
      refine WL.nil ?_
      refine AT.then_n ?_
      refine WC.condT rfl ?_
      refine WC.seq ?_
      refine WC.region ?_
      refine WL.q (q_assign rfl) rfl ?_
      refine WL.nil ?_
      refine AT.then_n ?_
      refine WC.ret ?_
      refine AT.blk_r ?_
      refine AT.then_r ?_
      first
        | exact AT.done rfl (RO.one rfl rfl) ⟨rfl, rfl, A2, k2, cap2, R2, hΨ, rfl⟩ (Imp.eq rfl)
        | (exfalso; simp_all [askD]; done)
        | (exfalso; simp_all [askD]; omega)
    · -- guard 5.2: False
      try have hp5_2 := of_decide_eq_false hg5_2
      refine WL.on rfl rfl hg5_2 ?_
      refine WL.q (q_move rfl) rfl ?_
      refine WL.on rfl rfl hg5_2 ?_
      refine WL.q (q_move rfl) rfl ?_
      refine WL.on rfl rfl hg5_2 ?_
      refine WL.q (q_nil rfl) rfl ?_
      refine WL.on rfl rfl hg5_2 ?_
      refine WL.q (q_fieldAddr rfl fo_218_0) rfl ?_
      refine WL.on rfl rfl hg5_2 ?_
      refine WL.q (q_fieldAddr rfl fo_216_0) rfl ?_
      refine WL.on rfl rfl hg5_2 ?_
      refine WL.q (q_load rfl a_3 (by first | exact Cell.ptL 0 rfl rfl | exact Cell.ptL 1 rfl rfl | exact Cell.ptL 2 rfl rfl | exact Cell.ptL 3 rfl rfl)) rfl ?_
      refine WL.on rfl rfl hg5_2 ?_
      refine WL.q (q_geq rfl rfl) rfl ?_
      refine WL.q (q_pickF rfl hg5_2 rfl) rfl ?_
      refine WL.q (q_assign rfl) rfl ?_
      refine WL.nil ?_
      refine AT.then_n ?_
      refine WC.cond rfl (fun h3 => ?_) (fun h3 => ?_)
      · -- if 3: yes
        try have p3 := of_decide_eq_true h3
        exfalso
        first | (simp_all [askD]; done) | (simp_all [askD]; omega)
      · -- if 3: no
        try have p3 := of_decide_eq_false h3
        refine WC.seq ?_
        refine WC.region ?_
        refine WL.q (q_move rfl) rfl ?_
        refine WL.q (q_nil rfl) rfl ?_
        refine WL.q (q_fieldAddr rfl fo_218_0) rfl ?_
        refine WL.q (q_fieldAddr rfl fo_216_5) rfl ?_
        refine WL.eff (e_call rfl (c222_fails hfl)) rfl ?_; rintro _ _ _ ⟨rfl, rfl, rfl⟩
        refine WL.q (q_assign rfl) rfl ?_
        refine WL.nil ?_
        refine AT.then_n ?_
        refine WC.cond rfl (fun h4 => ?_) (fun h4 => ?_)
        · -- if 4: yes
          try have p4 := of_decide_eq_true h4
          exfalso
          first | (simp_all [askD]; done) | (simp_all [askD]; omega)
        · -- if 4: no
          try have p4 := of_decide_eq_false h4
          refine WC.seq ?_
          refine WC.region ?_
          refine WL.q (q_move rfl) rfl ?_
          refine WL.q (q_move rfl) rfl ?_
          refine WL.split 38 rfl (fun hg9_1 => ?_) (fun hg9_1 => ?_)
          · -- guard 9.1: True
            try have hp9_1 := of_decide_eq_true hg9_1
            refine WL.on rfl rfl hg9_1 ?_
            refine WL.q (q_move rfl) rfl ?_
            refine WL.on rfl rfl hg9_1 ?_
            refine WL.q (q_nil rfl) rfl ?_
            refine WL.on rfl rfl hg9_1 ?_
            refine WL.q (q_fieldAddr rfl fo_218_0) rfl ?_
            refine WL.on rfl rfl hg9_1 ?_
            refine WL.q (q_fieldAddr rfl fo_216_4) rfl ?_
            refine WL.on rfl rfl hg9_1 ?_
            refine WL.eff (e_call rfl (c222_arms hal)) rfl ?_; rintro _ _ _ ⟨rfl, rfl, rfl⟩
            refine WL.q (q_pickT rfl hg9_1 rfl) rfl ?_
            refine WL.q (q_assign rfl) rfl ?_
            refine WL.nil ?_
            refine AT.then_n ?_
            refine WC.cond rfl (fun h5 => ?_) (fun h5 => ?_)
            · -- if 5: yes
              try have p5 := of_decide_eq_true h5
              exfalso
              first | (simp_all [askD]; done) | (simp_all [askD]; omega)
            · -- if 5: no
              try have p5 := of_decide_eq_false h5
              refine WC.skip ?_
              refine AT.blk_n ?_
              refine AT.then_n ?_
              refine WC.seq ?_
              refine WC.region ?_
              refine WL.q (q_move rfl) rfl ?_
              refine WL.imp (Imp.eq (own' := Pt b (.cells (dk (n) (m) (A) (k) (cap) ((askD n out aon al fon fl a lays).2.1) ((askD n out aon al fon fl a lays).2.2.1.1) ((askD n out aon al fon fl a lays).2.2.1.2) ((askD n out aon al fon fl a lays).2.2.2.1) ((askD n out aon al fon fl a lays).2.2.2.2) (ops)).toArray 218 (0, 0)) :: R) ?_) ?_
              · first | (simp [askD, dk, *]; done) | (exfalso; simp_all [askD]; done) | (exfalso; simp_all [askD]; omega)
              refine WL.eff (e_callV rfl rfl hdo) rfl ?_; rintro v9 _ _ ⟨rfl, A2, k2, cap2, R2, hΨ, rfl⟩
              refine WL.nil ?_
              refine AT.then_n ?_
              refine WC.seq ?_
              refine WC.region ?_
              refine WL.q (q_move rfl) rfl ?_
              refine WL.q (q_nil rfl) rfl ?_
              refine WL.q (q_fieldAddr rfl fo_218_0) rfl ?_
              refine WL.q (q_fieldAddr rfl fo_216_6) rfl ?_
              refine WL.q (q_load rfl a_3 (by first | exact Cell.ptL 0 rfl rfl | exact Cell.ptL 1 rfl rfl | exact Cell.ptL 2 rfl rfl | exact Cell.ptL 3 rfl rfl)) rfl ?_
              first | refine WL.q (q_add64 rfl rfl (by omega)) rfl ?_ | refine WL.q (q_add rfl rfl) rfl ?_
              refine WL.q (q_nil rfl) rfl ?_
              refine WL.q (q_fieldAddr rfl fo_218_0) rfl ?_
              refine WL.q (q_fieldAddr rfl fo_216_6) rfl ?_
              first | refine WL.effn (e_store 0 rfl rfl rfl i_3 rfl (by simp)) ?_ | refine WL.effn (e_store 1 rfl rfl rfl i_3 rfl (by simp)) ?_ | refine WL.effn (e_store 2 rfl rfl rfl i_3 rfl (by simp)) ?_ | refine WL.effn (e_store 3 rfl rfl rfl i_3 rfl (by simp)) ?_
              rintro _ _ _ ⟨rfl, rfl, rfl⟩
              refine WL.nil ?_
              refine AT.then_n ?_
              refine WC.seq ?_
              refine WC.region ?_
              refine WL.q (q_assign rfl) rfl ?_
              refine WL.nil ?_
              refine AT.then_n ?_
              refine WC.ret ?_
              first
                | exact AT.done rfl (RO.one rfl rfl) ⟨rfl, rfl, A2, k2, cap2, R2, hΨ, rfl⟩ (Imp.eq rfl)
                | (exfalso; simp_all [askD]; done)
                | (exfalso; simp_all [askD]; omega)
          · -- guard 9.1: False
            try have hp9_1 := of_decide_eq_false hg9_1
            refine WL.off rfl rfl hg9_1 rfl ?_
            refine WL.off rfl rfl hg9_1 rfl ?_
            refine WL.off rfl rfl hg9_1 rfl ?_
            refine WL.off rfl rfl hg9_1 rfl ?_
            refine WL.off rfl rfl hg9_1 rfl ?_
            refine WL.q (q_pickF rfl hg9_1 rfl) rfl ?_
            refine WL.q (q_assign rfl) rfl ?_
            refine WL.nil ?_
            refine AT.then_n ?_
            refine WC.condF rfl ?_
            refine WC.skip ?_
            refine AT.blk_n ?_
            refine AT.then_n ?_
            refine WC.seq ?_
            refine WC.region ?_
            refine WL.q (q_move rfl) rfl ?_
            refine WL.imp (Imp.eq (own' := Pt b (.cells (dk (n) (m) (A) (k) (cap) ((askD n out aon al fon fl a lays).2.1) ((askD n out aon al fon fl a lays).2.2.1.1) ((askD n out aon al fon fl a lays).2.2.1.2) ((askD n out aon al fon fl a lays).2.2.2.1) ((askD n out aon al fon fl a lays).2.2.2.2) (ops)).toArray 218 (0, 0)) :: R) ?_) ?_
            · first | (simp [askD, dk, *]; done) | (exfalso; simp_all [askD]; done) | (exfalso; simp_all [askD]; omega)
            refine WL.eff (e_callV rfl rfl hdo) rfl ?_; rintro v9 _ _ ⟨rfl, A2, k2, cap2, R2, hΨ, rfl⟩
            refine WL.nil ?_
            refine AT.then_n ?_
            refine WC.seq ?_
            refine WC.region ?_
            refine WL.q (q_move rfl) rfl ?_
            refine WL.q (q_nil rfl) rfl ?_
            refine WL.q (q_fieldAddr rfl fo_218_0) rfl ?_
            refine WL.q (q_fieldAddr rfl fo_216_6) rfl ?_
            refine WL.q (q_load rfl a_3 (by first | exact Cell.ptL 0 rfl rfl | exact Cell.ptL 1 rfl rfl | exact Cell.ptL 2 rfl rfl | exact Cell.ptL 3 rfl rfl)) rfl ?_
            first | refine WL.q (q_add64 rfl rfl (by omega)) rfl ?_ | refine WL.q (q_add rfl rfl) rfl ?_
            refine WL.q (q_nil rfl) rfl ?_
            refine WL.q (q_fieldAddr rfl fo_218_0) rfl ?_
            refine WL.q (q_fieldAddr rfl fo_216_6) rfl ?_
            first | refine WL.effn (e_store 0 rfl rfl rfl i_3 rfl (by simp)) ?_ | refine WL.effn (e_store 1 rfl rfl rfl i_3 rfl (by simp)) ?_ | refine WL.effn (e_store 2 rfl rfl rfl i_3 rfl (by simp)) ?_ | refine WL.effn (e_store 3 rfl rfl rfl i_3 rfl (by simp)) ?_
            rintro _ _ _ ⟨rfl, rfl, rfl⟩
            refine WL.nil ?_
            refine AT.then_n ?_
            refine WC.seq ?_
            refine WC.region ?_
            refine WL.q (q_assign rfl) rfl ?_
            refine WL.nil ?_
            refine AT.then_n ?_
            refine WC.ret ?_
            first
              | exact AT.done rfl (RO.one rfl rfl) ⟨rfl, rfl, A2, k2, cap2, R2, hΨ, rfl⟩ (Imp.eq rfl)
              | (exfalso; simp_all [askD]; done)
              | (exfalso; simp_all [askD]; omega)


/-- One who comes up alone, though others may come up in any order with it: what has been looked at hangs on L, and L stays. -/
theorem WS.effL {C : Cx} {ops : Array Oper} {W : List Nat} {fuel : Nat} {listed : Array Bool} {π : List (Nat × Nat)} {fin : Bool} {L : List SP} {KL : PH → Prop} {e : Env} {own : List SP} {K : PH → Prop} {Q : Exit → Act → World → Prop} {op : Op} {ty : TypeId} {pos : String} {af : Array Edge}
    (i : Nat) {d : Nat} {Φ : Value → List SP → (PH → Prop) → Prop} (hi : ops[i]? = some ⟨some d, op, ty, pos, af, none⟩) (hq : EO C op ty e own K Φ) (hd : Nat.blt d C.N = true)
    (h : ∀ v own' K', Φ v own' K' → Imp own' K' L KL ∧ WS C ops W fuel (listed.setIfInBounds i true) π fin L KL ((d, v) :: e) own' K' Q) : WS C ops W (fuel + 1) listed ((i, 2) :: π) fin L KL e own K Q := fun hs =>
  have hs := sched2 hs
  WD.one i hs.1 fun hQ a w hA hS hL => by
    unfold wpOpIn
    simp only [hi]
    rw [if_pos (by rfl)]
    refine wpIn_of_e hq hA hS rfl rfl fun v own' K' w' hΦ hS' => ?_
    obtain ⟨h1, h2⟩ := h v own' K' hΦ
    exact ⟨fun x => HS C.g L KL x, fun _ x hx => hx, fun x hx => HS.t0 hx, h1 _ _ hS', h2 hs.2 hQ _ _ (hA.put v hd) hS' (h1 _ _ hS')⟩
theorem setsL_eq : ∀ (vs cs : List Value) (off : Nat), off + vs.length ≤ cs.length → setsL cs off vs = cs.take off ++ vs ++ cs.drop (off + vs.length)
  | [], cs, off, h => by simp [setsL]
  | v :: r, cs, off, h => by
    simp only [List.length_cons] at h
    unfold setsL
    rw [setsL_eq r (cs.set off v) (off + 1) (by simp; omega)]
    have h1 : (cs.set off v).take (off + 1) = cs.take off ++ [v] := by
      rw [List.set_eq_take_append_cons_drop, if_pos (by omega), List.take_append]
      simp [Nat.min_eq_left (show off ≤ cs.length by omega)]
      rw [List.take_of_length_le (by simp; omega)]
    have h2 : (cs.set off v).drop (off + 1 + r.length) = cs.drop (off + (r.length + 1)) := by
      rw [List.drop_set_of_lt (by omega)]; congr 1; omega
    rw [h1, h2]; simp
theorem fill1 {place : Nat → Option (Nat × Nat)} {i off sz : Nat} {v : Value} {r : List (Nat × Value)} {cs vs : List Value} (hp : place i = some (off, sz)) (hv : cellsL v = vs) (hl : vs.length = sz) (hb : off + sz ≤ cs.length) :
    fillL place cs ((i, v) :: r) = fillL place (cs.take off ++ vs ++ cs.drop (off + sz)) r := by
  have h1 : (Nat.beq (cellsL v).length sz && Nat.ble (off + sz) cs.length) = true := by
    rw [hv, hl, Bool.and_eq_true]; exact ⟨Nat.beq_refl _, Nat.ble_eq_true_of_le hb⟩
  conv => lhs; unfold fillL
  rw [hp]
  simp only [h1]
  rw [hv, setsL_eq vs cs off (by omega), hl]
theorem fill221 (a : Int) (B : Blk) (zs : List Value) (hz : zs.length = 65) : fillL (([(0, 1), (1, 64)] : List (Nat × Nat))[·]?) zs [(0, .int .i64 a), (1, .agg (B.1.map bv).toArray)] = some (wr (a, B)) := by
  rw [fill1 (off := 0) (sz := 1) (vs := [.int .i64 a]) rfl rfl rfl (by omega), fill1 (off := 1) (sz := 64) (vs := B.1.map bv) rfl rfl (by simp [B.2]) (by simp; omega)]
  unfold fillL wr
  congr 1
  simp [List.take_append, List.drop_append, hz]
theorem fillOne {sz : Nat} (vs zs : List Value) (h : vs.length = sz) (hz : zs.length = sz) : fillL (fun i => some (i * sz, sz)) ((List.replicate 1 zs).flatten) [(0, .agg vs.toArray)] = some vs := by
  rw [fill1 (off := 0) (sz := sz) (vs := vs) (by simp) rfl h (by simp [hz])]
  unfold fillL
  simp [hz]

theorem c152 {K : PH → Prop} {b m cap : Nat} {A : Option Addr} {n al fl ops : Int} {out aon fon : Bool} {L : List (Int × Blk)} {a : Int} {B : Blk} {b3 b4 b5 : Nat} {R : List SP} (hL : L.length ≤ 1000000) : Spec Try.prog 152 [.pointer (some (ad b3 0)), .pointer (some (ad b4 0)), .pointer (some (ad b5 0))] (Pt b (.cells (dk (n) (m) (A) (L.length) (cap) (out) (aon) (al) (fon) (fl) (ops)).toArray 218 (0, 0)) :: Pt b5 (.cells (B.1.map bv).toArray 88 (0, 0)) :: Pt b4 (.cells ([.int .i64 a] : List Value).toArray 3 (0, 0)) :: Pt b3 (.cells ([.pointer (some (ad b 0))] : List Value).toArray 83 (0, 0)) :: ORow A cap 221 65 (L.flatMap wr) :: R) (K)
    (fun v o k => ∃ K2 A2 cap2, v = .tuple #[] ∧ k = K2 ∧ Ent K2 K ∧ Pt b (.cells (dk (n) (m) (A2) (L.length + 1) (cap2) (out) (aon) (al) (fon) (fl) (ops)).toArray 218 (0, 0)) :: Pt b5 (.cells (B.1.map bv).toArray 88 (0, 0)) :: Pt b4 (.cells ([.int .i64 a] : List Value).toArray 3 (0, 0)) :: Pt b3 (.cells ([.pointer (some (ad b 0))] : List Value).toArray 83 (0, 0)) :: ORow A2 cap2 221 65 ((L ++ [(a, B)]).flatMap wr) :: R = o) := by
  refine Spec.of en_152 Try.func152 rfl rfl fun g => ?_
  refine WC.drawS [2, 3, 4, 8, 11, 12, 13] (Pt b (.cells (dk (n) (m) (A) (L.length) (cap) (out) (aon) (al) (fon) (fl) (ops)).toArray 218 (0, 0)) :: Pt b5 (.cells (B.1.map bv).toArray 88 (0, 0)) :: Pt b4 (.cells ([.int .i64 a] : List Value).toArray 3 (0, 0)) :: Pt b3 (.cells ([.pointer (some (ad b 0))] : List Value).toArray 83 (0, 0)) :: []) K mixed NoPan.body (Imp.sub (List.Sublist.cons_cons _ (List.Sublist.cons_cons _ (List.Sublist.cons_cons _ (List.Sublist.cons_cons _ (List.nil_sublist _)))))) rfl ?_
  refine WD.sched [(0, 0), (1, 0), (2, 0), (3, 0), (4, 0), (5, 0), (6, 0), (7, 0), (8, 0), (9, 2), (10, 2), (11, 0), (12, 0), (13, 0), (14, 1)] true (by decide +kernel) ?_
  refine WS.q 0 rfl (q_load rfl a_83 (by first | exact Cell.ptL 0 rfl rfl | exact Cell.ptL 1 rfl rfl | exact Cell.ptL 2 rfl rfl | exact Cell.ptL 3 rfl rfl)) rfl ?_
  refine WS.q 1 rfl (q_load rfl a_83 (by first | exact Cell.ptL 0 rfl rfl | exact Cell.ptL 1 rfl rfl | exact Cell.ptL 2 rfl rfl | exact Cell.ptL 3 rfl rfl)) rfl ?_
  refine WS.q 2 rfl (q_nil rfl) rfl ?_
  refine WS.q 3 rfl (q_fieldAddr rfl fo_218_0) rfl ?_
  refine WS.q 4 rfl (q_fieldAddr rfl fo_216_2) rfl ?_
  refine WS.q 5 rfl (q_load rfl a_212 (by first | exact Cell.ptL 0 rfl rfl | exact Cell.ptL 1 rfl rfl | exact Cell.ptL 2 rfl rfl | exact Cell.ptL 3 rfl rfl)) rfl ?_
  refine WS.q 6 rfl (q_load rfl a_3 (by first | exact Cell.ptL 0 rfl rfl | exact Cell.ptL 1 rfl rfl | exact Cell.ptL 2 rfl rfl | exact Cell.ptL 3 rfl rfl)) rfl ?_
  refine WS.q 7 rfl (q_loadA (vs := B.1.map bv) rfl a_88 i_88 (Cells.pt 1 rfl) (by simp [B.2])) rfl ?_
  refine WS.q 8 rfl (q_buildL (cs := wr (a, B)) rfl pl_221 i_221 rfl (fill221 a B _ rfl)) rfl ?_
  refine WS.effL 9 rfl (e_buildSliceK (cs := wr (a, B)) rfl u_212 i_221 rfl rfl rfl rfl (fillOne _ _ (wr_len _) rfl)) rfl ?_; rintro _ _ _ ⟨b9, rfl, rfl, rfl⟩
  refine ⟨(Imp.keepRest (List.Sublist.cons_cons _ (List.Sublist.cons_cons _ (List.Sublist.cons_cons _ (List.Sublist.cons_cons _ (List.nil_sublist _))))) (by first | exact Ent.refl _ | exact (Ent.refl _).left)), ?_⟩
  refine WS.effL 10 rfl (e_append 4 rfl rfl (Src.row Ent.right (k := 1) (by rw [wr_len]) rfl) rfl u_212 (.inl ⟨_, u_212⟩) i_221 rfl (by rw [flat_len wr 65 wr_len]) (by rw [wr_len]) (ones_wr _) (by omega)) rfl ?_; rintro _ _ _ ⟨A9, c9, rfl, rfl, rfl, hc9⟩
  refine ⟨(Imp.keepRest (List.Sublist.cons_cons _ (List.Sublist.cons_cons _ (List.Sublist.cons_cons _ (List.Sublist.cons_cons _ (List.nil_sublist _))))) (by first | exact Ent.refl _ | exact (Ent.refl _).left)), ?_⟩
  refine WS.q 11 rfl (q_nil rfl) rfl ?_
  refine WS.q 12 rfl (q_fieldAddr rfl fo_218_0) rfl ?_
  refine WS.q 13 rfl (q_fieldAddr rfl fo_216_2) rfl ?_
  first | refine WS.effn 14 rfl (e_store 0 rfl rfl rfl i_212 rfl (by simp)) ?_ | refine WS.effn 14 rfl (e_store 1 rfl rfl rfl i_212 rfl (by simp)) ?_ | refine WS.effn 14 rfl (e_store 2 rfl rfl rfl i_212 rfl (by simp)) ?_ | refine WS.effn 14 rfl (e_store 3 rfl rfl rfl i_212 rfl (by simp)) ?_
  rintro _ _ _ ⟨rfl, rfl, rfl⟩
  refine WS.done ?_
  exact AT.doneN rfl (RO.none rfl) ⟨_, A9, c9, rfl, rfl, (Ent.refl K).left, rfl⟩ (Imp.eq (by simp [dk]))

end Go.Proofs.Sl
