/- TopSectors: disked02: the disk behind each act is as it was written down. -/
import Derived.Test.YtimokikpnngikaaSlSec
namespace Go.Proofs.Sl
open Go
set_option linter.unusedVariables false
set_option linter.unusedSimpArgs false

/-- An act. -/
structure Trn where
  kind : UInt8
  sector : UInt8
  fill : UInt8
  A : Option Addr
  cap : Nat
  keep : List Bool
def Trn.cells (x : Trn) : List Value := [bv x.kind, bv x.sector, bv x.fill, .slice x.A x.keep.length x.cap]
theorem Trn.len (x : Trn) : x.cells.length = 4 := rfl
theorem Trn.ones (x : Trn) : Ones x.cells := fun v hv => by
  simp [Trn.cells] at hv; rcases hv with rfl | rfl | rfl | rfl <;> rfl
def crs (l : List Trn) : Nat := (l.filter fun x => x.kind.toNat % 9 == 7).length
theorem crs_succ (l : List Trn) {i : Nat} (h : i < l.length) : crs (l.take (i + 1)) = crs (l.take i) + if l[i].kind.toNat % 9 = 7 then 1 else 0 := by
  unfold crs
  rw [List.take_succ_eq_append_getElem h, List.filter_append, List.length_append]
  congr 1
  by_cases hk : l[i].kind.toNat % 9 = 7 <;> simp [hk]
theorem crs_le (l : List Trn) : crs l ≤ l.length := List.length_filter_le _ _
theorem ask_S (s : SeS) (a : Int) (lays : Bool) : (s.ask a lays).2.S = s.S ∧ (s.ask a lays).2.many = s.many ∧ (s.ask a lays).2.firm = s.firm := by
  unfold SeS.ask
  split; · exact ⟨rfl, rfl, rfl⟩
  split; · exact ⟨rfl, rfl, rfl⟩
  split; · exact ⟨rfl, rfl, rfl⟩
  split <;> exact ⟨rfl, rfl, rfl⟩
theorem SRel.bounds {k : Nat} {d : DkS} {s : SeS} (h : SRel k d s) (hk : k ≤ 1000000) : -1 ≤ s.arm ∧ s.arm ≤ 1000 ∧ -1 ≤ s.fail ∧ s.fail ≤ 1000 ∧ 0 ≤ s.ops ∧ s.ops ≤ 1000000 := by
  have h1 := h.ba; have h2 := h.bf; have h3 := h.bo
  refine ⟨?_, ?_, ?_, ?_, by omega, by omega⟩
  · rcases h.arm with h | h <;> omega
  · rcases h.arm with h | h <;> omega
  · rcases h.fail with h | h <;> omega
  · rcases h.fail with h | h <;> omega
theorem w50r {g : Os × Array (Nat × ByteArray)} {K : PH → Prop} {R : List SP} {b : Nat} {d : DkS} {a : Int} (hd : d.Ok) (ho : d.out = false) (hf : d.fon = false) (ha : 0 ≤ a ∧ a < d.n) :
    SpecAt g Try.prog 50 [.pointer (some (ad b 0)), .int .i64 a] (Dsk b d :: R) K (Ret (.tuple #[blkV (holdsD d.F d.L a), .int .i64 0]) (Dsk b { d with ops := d.ops + 1 } :: R) K) := by
  obtain ⟨h1, h2⟩ := ask_read ho hf ha
  have h := w50 (g := g) (K := K) (R := R) (b := b) (a := a) hd
  unfold DkS.read DkS.reads at h
  rw [if_pos h1, if_pos h1, h1, h2] at h
  exact h
theorem q_max2 {C : Cx} {e : Env} {own : List SP} {K : PH → Prop} {ty : TypeId} {ats : Array TypeId} {x y : Operand} {k : IntKind} {m n : Int} (hx : ev e x = some (.int k m)) (hy : ev e y = some (.int k n)) :
    QO C (.call { callee := .builtin .max, args := #[x, y], argTypes := ats }) ty e own K (.int k (max m n)) :=
  ⟨by simp, fun s w hA _ => by
    have h : (if n > m then n else m) = max m n := by rw [Int.max_def]; split <;> split <;> omega
    simp [execOp, op0, hA.ev hx, hA.ev hy, resolve, invoke, builtin, Builtin.max_, Builtin.max2, h]⟩
theorem blk0 : Value.agg (List.replicate 64 (Value.int .u8 0)).toArray = blkV (List.replicate 64 0) := by
  unfold blkV; rw [rep_bv64]
theorem reads_len (d : DkS) (a : Int) : (d.reads a).length = 64 := by
  unfold DkS.reads; split
  · exact holdsD_len _ _ _
  · rfl
def DkS.cp (d : DkS) (F' : List (Int × Blk)) (k : Int) : DkS := ⟨d.n, settleD (kpO []) F' d.L, [], false, false, 0, false, 0, d.ops + k⟩
theorem c54b {K : PH → Prop} {A0 : SP} {b cap : Nat} {A : Option Addr} {s : SeS} {R : List SP} {a : Int} (hS : s.S.length ≤ 1000000) :
    Spec Try.prog 54 [.pointer (some (ad b 0)), .int .i64 a] (A0 :: seC b cap A s :: seL cap A s.S :: R) K (Ret (.int .i64 (holdsS s.S a)) (A0 :: seC b cap A s :: seL cap A s.S :: R) K) :=
  ((c54 (R := A0 :: R) hS).pre ((Imp.front 2 rfl).trans (Imp.front 2 rfl))).weak fun v o k ⟨h1, h2, h3⟩ => ⟨_, _, by subst h2 h3; exact Imp.front 2 rfl, h1, rfl, rfl⟩

theorem c14 {own : List SP} {K : PH → Prop} {g : Os × Array (Nat × ByteArray)} {A0 : Option Addr} {c0 many : Nat} {l : List Trn} (hr : Ent K (Row A0 (l.flatMap Trn.cells))) (hg : ∀ x ∈ l, (x.keep ≠ [] → Ent K (Row x.A (x.keep.map Value.bool))) ∧ x.keep.length ≤ 100) (hl : l.length ≤ 100) (hm : 1 ≤ many ∧ many ≤ 100) : SpecAt g Try.prog 14 [.int .i64 many, .slice A0 l.length c0] (own) (K)
    (Ret (.tuple #[.int .i64 (crs l), .bool true]) own K) := by
  refine SpecAt.of en_14 Try.func14 rfl rfl ?_
  refine WC.seq ?_
  refine WC.region ?_
  refine WL.q (q_assign rfl) rfl ?_
  refine WL.q (q_assign rfl) rfl ?_
  refine WL.nil ?_
  refine AT.then_n ?_
  refine WC.seq ?_
  refine WC.region ?_
  refine WL.q (q_move rfl) rfl ?_
  refine WL.eff (e_callAt rfl (w47 (n := many) (by omega))) rfl ?_; rintro _ _ _ ⟨b, rfl, rfl, rfl⟩
  refine WL.q (q_move rfl) rfl ?_
  refine WL.q (q_extract rfl rfl) rfl ?_
  refine WL.q (q_extract rfl rfl) rfl ?_
  refine WL.q (q_assign rfl) rfl ?_
  refine WL.q (q_assign rfl) rfl ?_
  refine WL.nil ?_
  refine AT.then_n ?_
  refine WC.seq ?_
  refine WC.seq ?_
  refine WC.region ?_
  refine WL.q (q_move rfl) rfl ?_
  refine WL.q (q_lss rfl rfl) rfl ?_
  refine WL.q (q_move rfl) rfl ?_
  refine WL.on rfl rfl (by first | (simp; done) | (simp; omega)) ?_
  refine WL.q (q_move rfl) rfl ?_
  refine WL.on rfl rfl (by first | (simp; done) | (simp; omega)) ?_
  refine WL.q (q_gtr rfl rfl) rfl ?_
  refine WL.q (q_pickF rfl (by first | (simp; done) | (simp; omega)) rfl) rfl ?_
  refine WL.nil ?_
  refine AT.then_n ?_
  refine WC.condHF rfl (by first | (simp; done) | (simp; omega)) ?_
  refine WC.skip ?_
  refine AT.then_n ?_
  refine WC.seq ?_
  refine WC.seq ?_
  refine WC.region ?_
  refine WL.q (q_move rfl) rfl ?_
  refine WL.q (q_neq rfl rfl) rfl ?_
  refine WL.q (q_move rfl) rfl ?_
  refine WL.on rfl rfl (by simp) ?_
  refine WL.q (q_move rfl) rfl ?_
  refine WL.on rfl rfl (by simp) ?_
  refine WL.q (q_eqlP rfl rfl u_83) rfl ?_
  refine WL.q (q_pickF rfl (by simp) rfl) rfl ?_
  refine WL.nil ?_
  refine AT.then_n ?_
  refine WC.condHF rfl (rfl) ?_
  refine WC.skip ?_
  refine AT.then_n ?_
  refine WC.seq ?_
  refine WC.region ?_
  refine WL.q (q_move rfl) rfl ?_
  refine WL.q (q_buildL rfl pl_97 i_97 rfl rfl) rfl ?_
  refine WL.eff (e_box rfl) rfl ?_; rintro _ _ _ ⟨x, rfl, rfl, rfl⟩
  refine WL.imp (own' := Dsk b (DkS.new many) :: seC x 0 none ⟨many, 0, -1, -1, 0, false, []⟩ :: seL 0 none [] :: own) (Imp.trans (Imp.orowNil 100 2) (Imp.trans (Imp.front 2 rfl) (Imp.trans (Imp.front 2 rfl) (Imp.trans (Imp.front 1 rfl) (Imp.eq rfl))))) ?_
  refine WL.q (q_assign rfl) rfl ?_
  refine WL.nil ?_
  refine AT.then_n ?_
  refine WC.seq ?_
  refine WC.region ?_
  refine WL.q (q_assign rfl) rfl ?_
  refine WL.nil ?_
  refine AT.then_n ?_
  refine WC.seq ?_
  refine WC.seq ?_
  refine WC.region ?_
  refine WL.q (q_move rfl) rfl ?_
  refine WL.q (q_len rfl u_28) rfl ?_
  refine WL.q (q_move rfl) rfl ?_
  refine WL.nil ?_
  refine AT.then_n ?_
  refine WC.block ?_
  refine WC.loop (σ := Nat × DkS × SeS × Nat × Option Addr) (fun ⟨i, d, s, c2, A2⟩ => i ≤ l.length ∧ SRel i d s ∧ s.many = many) (fun ⟨i, d, s, c2, A2⟩ => [(55, .int .i64 i), (9, .int .i64 (crs (l.take i))), (53, .slice A0 l.length c0), (54, .int .i64 l.length), (0, .int .i64 many), (6, .pointer (some (ad b 0))), (8, .pointer (some (ad x 0)))]) (fun ⟨i, d, s, c2, A2⟩ => Dsk b d :: seC x c2 A2 s :: seL c2 A2 s.S :: own) (fun _ => K) (fun ⟨i, _⟩ => l.length - i) (0, DkS.new many, ⟨many, 0, -1, -1, 0, false, []⟩, 0, none) ⟨by omega, SRel.start many, rfl⟩ ⟨rfl, rfl, rfl, rfl, rfl, rfl, rfl, trivial⟩ (Imp.refl _ _) ?_
  rintro ⟨i, d, s, c2, A2⟩ ⟨hi, hR, hmany⟩
  simp only at hi hR hmany ⊢
  refine WC.seq ?_
  refine WC.region ?_
  refine WL.q (q_lss rfl rfl) rfl ?_
  refine WL.nil ?_
  refine AT.then_n ?_
  refine WC.seq ?_
  refine WC.cond rfl (fun h3 => ?_) (fun h3 => ?_)
  · -- if 3: yes
    try have p3 := of_decide_eq_true h3
    have hlt : i < l.length := by omega
    obtain ⟨hkeep, hkl⟩ := hg _ (List.getElem_mem hlt)
    have hok := hR.ok (by omega)
    have hbd := hR.bounds (by omega)
    have hcl := crs_le (l.take i)
    rw [List.length_take] at hcl
    refine WC.skip ?_
    refine AT.then_n ?_
    refine WC.seq ?_
    refine WC.block ?_
    refine WC.seq ?_
    refine WC.region ?_
    refine WL.q (q_indexAddr rfl rfl u_28 i_31 (Based.row hr (by rw [flat_len Trn.cells 4 Trn.len]; omega)) (by omega)) rfl ?_
    refine WL.q (q_loadA rfl a_31 i_31 (Cells.at hr Trn.len hlt) (Trn.len _)) rfl ?_
    refine WL.eff (e_alloc i_31) rfl ?_; rintro _ _ _ ⟨t11, rfl, rfl, rfl⟩
    refine WL.effn (e_storeAll 0 rfl rfl rfl i_31 rfl (Trn.len _) (by simp [Value.cells]) (Trn.ones _)) ?_; rintro _ _ _ ⟨rfl, rfl, rfl⟩
    obtain ⟨a, ha, ham⟩ : ∃ a : Nat, (l[i].sector.toNat : Int) % ((many : Int) + 1) = a ∧ a ≤ many := ⟨l[i].sector.toNat % (many + 1), by simp, by have := Nat.mod_lt l[i].sector.toNat (show 0 < many + 1 by omega); omega⟩
    obtain ⟨f, hf, hf255⟩ : ∃ f : Nat, (l[i].fill.toNat : Int) = f ∧ f ≤ 255 := ⟨_, rfl, by have := l[i].fill.toNat_lt; omega⟩
    obtain ⟨kd, hkd, hkd2⟩ : ∃ kd : Nat, l[i].kind.toNat % 9 = kd ∧ kd < 9 := ⟨_, rfl, Nat.mod_lt _ (by omega)⟩
    have hkdi : (l[i].kind.toNat : Int) % 9 = kd := by omega
    have hsb := l[i].sector.toNat_lt
    have hkb := l[i].kind.toNat_lt
    have hcrs := crs_succ l hlt
    rw [hkd] at hcrs
    refine WL.nil ?_
    refine AT.then_n ?_
    refine WC.seq ?_
    refine WC.drawS [0, 2, 3, 4, 5, 6, 8, 9, 10] _ _ mixed (NoPan.then (NoPan.blk (NoPan.then (NoPan.then (NoPan.blk (NoPan.then NoPan.body)))))) (Imp.refl _ _) rfl ?_
    refine WD.sched [(0, 0), (1, 0), (2, 0), (3, 0), (4, 0), (5, 0), (6, 0), (7, 0), (8, 0), (9, 0), (10, 0)] true (by decide +kernel) ?_
    refine WS.q 0 rfl (q_fieldAddr rfl fo_31_1) rfl ?_
    refine WS.q 1 rfl (q_load rfl a_5 (by first | exact Cell.ptL 0 rfl rfl | exact Cell.ptL 1 rfl rfl | exact Cell.ptL 2 rfl rfl | exact Cell.ptL 3 rfl rfl | exact Cell.ptL 4 rfl rfl)) rfl ?_
    first | refine WS.q 2 rfl (q_convI (-9223372036854775808) 9223372036854775807 u_5 u_3 rfl rfl rfl (by omega)) rfl ?_ | refine WS.q 2 rfl (q_conv rfl u_5 u_3 rfl) rfl ?_
    refine WS.q 3 rfl (q_move rfl) rfl ?_
    first | refine WS.q 4 rfl (q_add64 rfl rfl (by omega)) rfl ?_ | refine WS.q 4 rfl (q_add rfl rfl) rfl ?_
    refine WS.q 5 rfl (QO.eq (q_rem0 rfl rfl (by omega)) (congrArg (Value.int .i64) ha)) rfl ?_
    refine WS.q 6 rfl (q_fieldAddr rfl fo_31_2) rfl ?_
    refine WS.q 7 rfl (q_load rfl a_5 (by first | exact Cell.ptL 0 rfl rfl | exact Cell.ptL 1 rfl rfl | exact Cell.ptL 2 rfl rfl | exact Cell.ptL 3 rfl rfl | exact Cell.ptL 4 rfl rfl)) rfl ?_
    refine WS.q 8 rfl (QO.eq (q_convI (-9223372036854775808) 9223372036854775807 u_5 u_3 rfl rfl rfl (by omega)) (congrArg (Value.int .i64) hf)) rfl ?_
    refine WS.q 9 rfl (q_assign rfl) rfl ?_
    refine WS.q 10 rfl (q_assign rfl) rfl ?_
    refine WS.done ?_
    refine AT.then_n ?_
    refine WC.cut (σ := DkS × SeS × Nat × Option Addr) (fun ⟨d, s, c2, A2⟩ => SRel (i + 1) d s ∧ s.many = many) (fun ⟨d, s, c2, A2⟩ => [(55, .int .i64 i), (9, .int .i64 (crs (l.take (i + 1)))), (53, .slice A0 l.length c0), (54, .int .i64 l.length), (0, .int .i64 many), (6, .pointer (some (ad b 0))), (8, .pointer (some (ad x 0)))]) (fun ⟨d, s, c2, A2⟩ => Dsk b d :: seC x c2 A2 s :: seL c2 A2 s.S :: own) (fun _ => K) ?_ ?_
    · -- cut
      refine WC.seq ?_
      refine WC.region ?_
      refine WL.q (q_fieldAddr rfl fo_31_0) rfl ?_
      refine WL.q (q_load rfl a_5 (by first | exact Cell.ptL 0 rfl rfl | exact Cell.ptL 1 rfl rfl | exact Cell.ptL 2 rfl rfl | exact Cell.ptL 3 rfl rfl | exact Cell.ptL 4 rfl rfl)) rfl ?_
      refine WL.q (QO.eq (q_rem0 rfl rfl (by omega)) (congrArg (Value.int .u8) hkdi)) rfl ?_
      refine WL.nil ?_
      refine AT.then_n ?_
      refine WC.block ?_
      refine WC.cut (σ := Unit) (fun _ => True) (fun _ => [(134, .bool (decide ((kd : Int) ≤ 2))), (53, .slice A0 l.length c0), (54, .int .i64 l.length), (0, .int .i64 many), (6, .pointer (some (ad b 0))), (8, .pointer (some (ad x 0))), (12, .int .i64 a), (13, .int .i64 f), (11, .pointer (some (ad t11 0))), (70, .int .u8 kd), (55, .int .i64 i), (9, .int .i64 (crs (l.take i)))]) (fun _ => Pt t11 (.cells (l[i].cells).toArray 31 (0, 0)) :: Dsk b d :: seC x c2 A2 s :: seL c2 A2 s.S :: own) (fun _ => K) ?_ ?_
      · -- cut
        refine WC.seq ?_
        refine WC.region ?_
        refine WL.q (q_eql rfl rfl) rfl ?_
        refine WL.q (q_assign rfl) rfl ?_
        refine WL.nil ?_
        refine AT.then_n ?_
        refine WC.cond rfl (fun h4 => ?_) (fun h4 => ?_)
        · -- if 4: yes
          try have p4 := of_decide_eq_true h4
          refine WC.skip ?_
          exact AT.mid () trivial ⟨vbool (by rw [decide_eq_decide]; omega), rfl, rfl, rfl, rfl, rfl, rfl, rfl, rfl, rfl, rfl, rfl, trivial⟩ (Imp.refl _ _)
        · -- if 4: no
          try have p4 := of_decide_eq_false h4
          refine WC.seq ?_
          refine WC.region ?_
          refine WL.q (q_eql rfl rfl) rfl ?_
          refine WL.q (q_assign rfl) rfl ?_
          refine WL.nil ?_
          refine AT.then_n ?_
          refine WC.cond rfl (fun h5 => ?_) (fun h5 => ?_)
          · -- if 5: yes
            try have p5 := of_decide_eq_true h5
            refine WC.skip ?_
            exact AT.mid () trivial ⟨vbool (by rw [decide_eq_decide]; omega), rfl, rfl, rfl, rfl, rfl, rfl, rfl, rfl, rfl, rfl, rfl, trivial⟩ (Imp.refl _ _)
          · -- if 5: no
            try have p5 := of_decide_eq_false h5
            refine WC.region ?_
            refine WL.q (q_eql rfl rfl) rfl ?_
            refine WL.q (q_assign rfl) rfl ?_
            refine WL.nil ?_
            exact AT.mid () trivial ⟨vbool (by rw [decide_eq_decide]; omega), rfl, rfl, rfl, rfl, rfl, rfl, rfl, rfl, rfl, rfl, rfl, trivial⟩ (Imp.refl _ _)
      · -- behind the cut
        intro _ _
        refine WC.cond rfl (fun h6 => ?_) (fun h6 => ?_)
        · -- if 6: yes
          try have p6 := of_decide_eq_true h6
          refine WC.seq ?_
          refine WC.region ?_
          refine WL.q (q_move rfl) rfl ?_
          refine WL.q (q_move rfl) rfl ?_
          refine WL.eff (e_call rfl (Spec.at_ 2 rfl (c53 (a := a) (lays := true) hbd))) rfl ?_; rintro _ _ _ ⟨rfl, rfl, rfl⟩
          obtain ⟨q1, q2, q3⟩ := hR.ask (a := a) (c := a) true (.inl ⟨rfl, by omega⟩)
          obtain ⟨z1, z2, z3⟩ := ask_S s a true
          rw [← z1]
          generalize (s.ask a true).2 = s2 at q2 q3 z1 z2 z3 ⊢
          refine WL.q (q_assign rfl) rfl ?_
          refine WL.nil ?_
          refine AT.then_n ?_
          refine WC.seq ?_
          refine WC.seq ?_
          refine WC.region ?_
          refine WL.q (q_move rfl) rfl ?_
          refine WL.q (q_eql rfl rfl) rfl ?_
          refine WL.nil ?_
          refine AT.then_n ?_
          refine WC.cond rfl (fun h7 => ?_) (fun h7 => ?_)
          · -- if 7: yes
            try have p7 := of_decide_eq_true h7
            have h0 : (s.ask a true).1 = 0 := p7
            have hd0 : d.ask a true = 0 := q1.trans h0
            refine WC.region ?_
            refine WL.q (q_move rfl) rfl ?_
            refine WL.q (q_move rfl) rfl ?_
            refine WL.q (q_nil rfl) rfl ?_
            refine WL.q (q_fieldAddr rfl fo_97_6) rfl ?_
            refine WL.q (q_load rfl a_95 (by first | exact Cell.ptL 0 rfl rfl | exact Cell.ptL 1 rfl rfl | exact Cell.ptL 2 rfl rfl | exact Cell.ptL 3 rfl rfl | exact Cell.ptL 4 rfl rfl)) rfl ?_
            refine WL.q (q_move rfl) rfl ?_
            refine WL.q (q_move rfl) rfl ?_
            refine WL.q (q_buildL (cs := st (a, f)) rfl pl_100 i_100 rfl rfl) rfl ?_
            refine WL.eff (e_buildSliceK (cs := st (a, f)) rfl u_95 i_100 rfl rfl rfl rfl rfl) rfl ?_; rintro _ _ _ ⟨b6, rfl, rfl, rfl⟩
            refine WL.eff (e_append 3 rfl rfl (Src.row Ent.right (k := 1) rfl rfl) rfl u_95 (.inl ⟨_, u_95⟩) i_100 rfl (by rw [flat_len st 2 st_len]) rfl (ones_st _) (by have := hR.bS; rw [z1]; omega)) rfl ?_; rintro _ _ _ ⟨A9, c9, rfl, rfl, rfl, hc9⟩
            refine WL.q (q_nil rfl) rfl ?_
            refine WL.q (q_fieldAddr rfl fo_97_6) rfl ?_
            first | refine WL.effn (e_store 0 rfl rfl rfl i_95 rfl (by simp)) ?_ | refine WL.effn (e_store 1 rfl rfl rfl i_95 rfl (by simp)) ?_ | refine WL.effn (e_store 2 rfl rfl rfl i_95 rfl (by simp)) ?_ | refine WL.effn (e_store 3 rfl rfl rfl i_95 rfl (by simp)) ?_ | refine WL.effn (e_store 4 rfl rfl rfl i_95 rfl (by simp)) ?_
            rintro _ _ _ ⟨rfl, rfl, rfl⟩
            refine WL.nil ?_
            refine AT.then_n ?_
            refine WC.seq ?_
            refine WC.region ?_
            refine WL.q (q_move rfl) rfl ?_
            refine WL.q (q_move rfl) rfl ?_
            refine WL.q (q_move rfl) rfl ?_
            refine WL.eff (e_call rfl (c49 (n := f) (by omega))) rfl ?_; rintro _ _ _ ⟨rfl, rfl, rfl⟩
            refine WL.eff (e_callAt rfl (SpecAt.at_ 1 rfl (w48 (B := blkB f) hok))) rfl ?_; rintro _ _ _ ⟨rfl, rfl, rfl⟩
            refine WL.q (q_move rfl) rfl ?_
            refine WL.q (q_neq rfl rfl) rfl ?_
            refine WL.nil ?_
            refine AT.then_n ?_
            refine WC.condPF rfl (by rw [q1]; simp) ?_
            refine WC.skip ?_
            refine AT.blk_n ?_
            refine AT.mid (d.wrote a (blkB f), { s2 with S := s2.S ++ [(↑a, f)] }, c9, A9) ⟨by unfold DkS.wrote; rw [if_pos hd0]; exact SRel.write (hR.bS) (q3 h0) z1 hf255, by simp only [z2, hmany]⟩ ⟨rfl, vint (by rw [hcrs, if_neg (by omega)]; simp), rfl, rfl, rfl, rfl, rfl, trivial⟩ (Imp.trans (Imp.drop (Imp.eq ?_)) (Imp.ent (Ent.refl _).left))
            simp only [List.set_cons_zero, List.set_cons_succ, seL, List.flatMap_append, List.flatMap_cons, List.flatMap_nil, List.append_nil, List.length_append, List.length_singleton, seC]
          · -- if 7: no
            try have p7 := of_decide_eq_false h7
            have h0 : ¬ (s.ask a true).1 = 0 := p7
            have hd0 : ¬ d.ask a true = 0 := by rw [q1]; exact h0
            refine WC.skip ?_
            refine AT.then_n ?_
            refine WC.seq ?_
            refine WC.region ?_
            refine WL.q (q_move rfl) rfl ?_
            refine WL.q (q_move rfl) rfl ?_
            refine WL.q (q_move rfl) rfl ?_
            refine WL.eff (e_call rfl (c49 (n := f) (by omega))) rfl ?_; rintro _ _ _ ⟨rfl, rfl, rfl⟩
            refine WL.eff (e_callAt rfl (SpecAt.at_ 1 rfl (w48 (B := blkB f) hok))) rfl ?_; rintro _ _ _ ⟨rfl, rfl, rfl⟩
            refine WL.q (q_move rfl) rfl ?_
            refine WL.q (q_neq rfl rfl) rfl ?_
            refine WL.nil ?_
            refine AT.then_n ?_
            refine WC.condPF rfl (by rw [q1]; simp) ?_
            refine WC.skip ?_
            refine AT.blk_n ?_
            refine AT.mid (d.wrote a (blkB f), s2, c2, A2) ⟨by unfold DkS.wrote; rw [if_neg hd0]; exact (q2 h0).mono (by omega), by simp only [z2, hmany]⟩ ⟨rfl, vint (by rw [hcrs, if_neg (by omega)]; simp), rfl, rfl, rfl, rfl, rfl, trivial⟩ (Imp.drop (Imp.eq rfl))
        · -- if 6: no
          try have p6 := of_decide_eq_false h6
          refine WC.seq ?_
          refine WC.region ?_
          refine WL.q (q_eql rfl rfl) rfl ?_
          refine WL.q (q_assign rfl) rfl ?_
          refine WL.nil ?_
          refine AT.then_n ?_
          refine WC.cond rfl (fun h9 => ?_) (fun h9 => ?_)
          · -- if 9: yes
            try have p9 := of_decide_eq_true h9
            refine WC.seq ?_
            refine WC.region ?_
            refine WL.q (q_move rfl) rfl ?_
            refine WL.q (q_move rfl) rfl ?_
            refine WL.eff (e_call rfl (Spec.at_ 2 rfl (c53 (a := a) (lays := false) hbd))) rfl ?_; rintro _ _ _ ⟨rfl, rfl, rfl⟩
            obtain ⟨q1, q2, q3⟩ := hR.ask (a := a) (c := a) false (.inl ⟨rfl, by omega⟩)
            obtain ⟨z1, z2, z3⟩ := ask_S s a false
            rw [← z1]
            generalize (s.ask a false).2 = s2 at q2 q3 z1 z2 z3 ⊢
            refine WL.q (QO.eq (q_buildArr rfl u_88 i_88 i_5 rfl rfl) blk0) rfl ?_
            refine WL.eff (e_alloc i_88) rfl ?_; rintro _ _ _ ⟨b14, rfl, rfl, rfl⟩
            refine WL.q (q_assign rfl) rfl ?_
            refine WL.effn (e_storeAll 0 (vs := (List.replicate 64 (0 : UInt8)).map bv) rfl rfl rfl i_88 rfl (by simp) (by simp) (ones_bv _)) ?_; rintro _ _ _ ⟨rfl, rfl, rfl⟩
            refine WL.nil ?_
            refine AT.then_n ?_
            refine WC.seq ?_
            refine WC.seq ?_
            refine WC.region ?_
            refine WL.q (q_move rfl) rfl ?_
            refine WL.q (q_eql rfl rfl) rfl ?_
            refine WL.nil ?_
            refine AT.then_n ?_
            refine WC.cond rfl (fun h10 => ?_) (fun h10 => ?_)
            · -- if 10: yes
              try have p10 := of_decide_eq_true h10
              have h0 : (s.ask a false).1 = 0 := p10
              have hd0 : d.ask a false = 0 := q1.trans h0
              have hh : holdsS s2.S a ≤ 255 := holdsS_le (fun p hp => hR.fills p (by rw [← z1]; exact hp)) a
              refine WC.region ?_
              refine WL.q (q_move rfl) rfl ?_
              refine WL.q (q_move rfl) rfl ?_
              refine WL.eff (e_call rfl (Spec.permR ((perm_get (i := 4) rfl).trans (perm_get (i := 4) rfl)) (c54 (s := s2) (by rw [z1]; have := hR.bS; omega)))) rfl ?_; rintro _ _ _ ⟨rfl, rfl, rfl⟩
              refine WL.eff (e_call rfl (c49 (n := holdsS s2.S a) (by omega))) rfl ?_; rintro _ _ _ ⟨rfl, rfl, rfl⟩
              refine WL.effn (e_storeAll 0 rfl rfl rfl i_88 rfl (by simp [blk_len]) (by simp) (ones_bv _)) ?_; rintro _ _ _ ⟨rfl, rfl, rfl⟩
              refine WL.nil ?_
              refine AT.then_n ?_
              refine WC.seq ?_
              refine WC.region ?_
              refine WL.q (q_move rfl) rfl ?_
              refine WL.q (q_move rfl) rfl ?_
              refine WL.eff (e_callAt rfl (SpecAt.at_ 2 rfl (w50 hok))) rfl ?_; rintro _ _ _ ⟨rfl, rfl, rfl⟩
              refine WL.q (q_move rfl) rfl ?_
              refine WL.q (q_extract rfl rfl) rfl ?_
              refine WL.q (q_extract rfl rfl) rfl ?_
              refine WL.eff (e_alloc i_88) rfl ?_; rintro _ _ _ ⟨b20, rfl, rfl, rfl⟩
              refine WL.effn (e_storeAll 0 (vs := (d.reads a).map bv) rfl rfl rfl i_88 rfl (by simp [reads_len]) (by simp) (ones_bv _)) ?_; rintro _ _ _ ⟨rfl, rfl, rfl⟩
              refine WL.q (q_assign rfl) rfl ?_
              refine WL.nil ?_
              refine AT.then_n ?_
              refine WC.seq ?_
              refine WC.region ?_
              refine WL.q (q_move rfl) rfl ?_
              refine WL.q (q_move rfl) rfl ?_
              refine WL.q (q_neq rfl rfl) rfl ?_
              refine WL.q (q_move rfl) rfl ?_
              refine WL.on rfl rfl (by rw [q1]; simp) ?_
              refine WL.q (q_loadA rfl a_88 i_88 (Cells.pt 0 rfl) (by simp [reads_len])) rfl ?_
              refine WL.on rfl rfl (by rw [q1]; simp) ?_
              refine WL.q (q_loadA rfl a_88 i_88 (Cells.pt 1 rfl) (by first | (simp; done) | (simp [blk_len]; done))) rfl ?_
              refine WL.on rfl rfl (by rw [q1]; simp) ?_
              refine WL.q (q_neqA rfl rfl u_88 u_5 i_5 a_5 eg_88 (reads_len _ _) (by first | (simp; done) | (simp [blk_len]; done))) rfl ?_
              refine WL.q (q_pickF rfl (by rw [q1]; simp) rfl) rfl ?_
              refine WL.nil ?_
              refine AT.then_n ?_
              refine WC.condPF rfl (by unfold DkS.reads; rw [if_pos hd0, hR.sector, z1]; simp) ?_
              refine WC.skip ?_
              refine AT.blk_n ?_
              refine AT.mid (d.read a, s2, c2, A2) ⟨by unfold DkS.read; rw [if_pos hd0]; exact q3 h0, by simp only [z2, hmany]⟩ ⟨rfl, vint (by rw [hcrs, if_neg (by omega)]; simp), rfl, rfl, rfl, rfl, rfl, trivial⟩ (Imp.drop (Imp.drop (Imp.drop (Imp.eq rfl))))
            · -- if 10: no
              try have p10 := of_decide_eq_false h10
              have h0 : ¬ (s.ask a false).1 = 0 := p10
              have hd0 : ¬ d.ask a false = 0 := by rw [q1]; exact h0
              refine WC.skip ?_
              refine AT.then_n ?_
              refine WC.seq ?_
              refine WC.region ?_
              refine WL.q (q_move rfl) rfl ?_
              refine WL.q (q_move rfl) rfl ?_
              refine WL.eff (e_callAt rfl (SpecAt.at_ 2 rfl (w50 hok))) rfl ?_; rintro _ _ _ ⟨rfl, rfl, rfl⟩
              refine WL.q (q_move rfl) rfl ?_
              refine WL.q (q_extract rfl rfl) rfl ?_
              refine WL.q (q_extract rfl rfl) rfl ?_
              refine WL.eff (e_alloc i_88) rfl ?_; rintro _ _ _ ⟨b23, rfl, rfl, rfl⟩
              refine WL.effn (e_storeAll 0 (vs := (d.reads a).map bv) rfl rfl rfl i_88 rfl (by simp [reads_len]) (by simp) (ones_bv _)) ?_; rintro _ _ _ ⟨rfl, rfl, rfl⟩
              refine WL.q (q_assign rfl) rfl ?_
              refine WL.nil ?_
              refine AT.then_n ?_
              refine WC.seq ?_
              refine WC.region ?_
              refine WL.q (q_move rfl) rfl ?_
              refine WL.q (q_move rfl) rfl ?_
              refine WL.q (q_neq rfl rfl) rfl ?_
              refine WL.q (q_move rfl) rfl ?_
              refine WL.on rfl rfl (by rw [q1]; simp) ?_
              refine WL.q (q_loadA rfl a_88 i_88 (Cells.pt 0 rfl) (by simp [reads_len])) rfl ?_
              refine WL.on rfl rfl (by rw [q1]; simp) ?_
              refine WL.q (q_loadA rfl a_88 i_88 (Cells.pt 1 rfl) (by first | (simp; done) | (simp [blk_len]; done))) rfl ?_
              refine WL.on rfl rfl (by rw [q1]; simp) ?_
              refine WL.q (q_neqA rfl rfl u_88 u_5 i_5 a_5 eg_88 (reads_len _ _) (by first | (simp; done) | (simp [blk_len]; done))) rfl ?_
              refine WL.q (q_pickF rfl (by rw [q1]; simp) rfl) rfl ?_
              refine WL.nil ?_
              refine AT.then_n ?_
              refine WC.condPF rfl (by unfold DkS.reads; rw [if_neg hd0]; simp) ?_
              refine WC.skip ?_
              refine AT.blk_n ?_
              refine AT.mid (d.read a, s2, c2, A2) ⟨by unfold DkS.read; rw [if_neg hd0]; exact (q2 h0).mono (by omega), by simp only [z2, hmany]⟩ ⟨rfl, vint (by rw [hcrs, if_neg (by omega)]; simp), rfl, rfl, rfl, rfl, rfl, trivial⟩ (Imp.drop (Imp.drop (Imp.drop (Imp.eq rfl))))
          · -- if 9: no
            try have p9 := of_decide_eq_false h9
            refine WC.seq ?_
            refine WC.region ?_
            refine WL.q (q_eql rfl rfl) rfl ?_
            refine WL.q (q_assign rfl) rfl ?_
            refine WL.nil ?_
            refine AT.then_n ?_
            refine WC.cond rfl (fun h12 => ?_) (fun h12 => ?_)
            · -- if 12: yes
              try have p12 := of_decide_eq_true h12
              refine WC.seq ?_
              refine WC.region ?_
              refine WL.q (q_move rfl) rfl ?_
              refine WL.eff (e_call rfl (Spec.at_ 2 rfl (c53 (a := -1) (lays := true) hbd))) rfl ?_; rintro _ _ _ ⟨rfl, rfl, rfl⟩
              obtain ⟨q1, q2, q3⟩ := hR.ask (a := -1) (c := 0) true (.inr ⟨rfl, rfl, by rw [hmany]; omega⟩)
              obtain ⟨z1, z2, z3⟩ := ask_S s (-1) true
              rw [← z1]
              generalize (s.ask (-1) true).2 = s2 at q2 q3 z1 z2 z3 ⊢
              refine WL.q (q_assign rfl) rfl ?_
              refine WL.nil ?_
              refine AT.then_n ?_
              refine WC.seq ?_
              refine WC.seq ?_
              refine WC.region ?_
              refine WL.q (q_move rfl) rfl ?_
              refine WL.q (q_eql rfl rfl) rfl ?_
              refine WL.nil ?_
              refine AT.then_n ?_
              refine WC.cond rfl (fun h13 => ?_) (fun h13 => ?_)
              · -- if 13: yes
                try have p13 := of_decide_eq_true h13
                have h0 : (s.ask (-1) true).1 = 0 := p13
                have hd0 : d.ask 0 true = 0 := q1.trans h0
                refine WC.region ?_
                refine WL.q (q_move rfl) rfl ?_
                refine WL.q (q_move rfl) rfl ?_
                refine WL.q (q_nil rfl) rfl ?_
                refine WL.q (q_fieldAddr rfl fo_97_6) rfl ?_
                refine WL.q (q_load rfl a_95 (by first | exact Cell.ptL 0 rfl rfl | exact Cell.ptL 1 rfl rfl | exact Cell.ptL 2 rfl rfl | exact Cell.ptL 3 rfl rfl | exact Cell.ptL 4 rfl rfl)) rfl ?_
                refine WL.q (q_len rfl u_95) rfl ?_
                refine WL.q (q_nil rfl) rfl ?_
                refine WL.q (q_fieldAddr rfl fo_97_1) rfl ?_
                first | refine WL.effn (e_store 0 rfl rfl rfl i_3 rfl (by simp)) ?_ | refine WL.effn (e_store 1 rfl rfl rfl i_3 rfl (by simp)) ?_ | refine WL.effn (e_store 2 rfl rfl rfl i_3 rfl (by simp)) ?_ | refine WL.effn (e_store 3 rfl rfl rfl i_3 rfl (by simp)) ?_ | refine WL.effn (e_store 4 rfl rfl rfl i_3 rfl (by simp)) ?_
                rintro _ _ _ ⟨rfl, rfl, rfl⟩
                refine WL.nil ?_
                refine AT.then_n ?_
                refine WC.seq ?_
                refine WC.region ?_
                refine WL.q (q_move rfl) rfl ?_
                refine WL.eff (e_callAt rfl (SpecAt.at_ 1 rfl (w55 hok))) rfl ?_; rintro _ _ _ ⟨rfl, rfl, rfl⟩
                refine WL.q (q_move rfl) rfl ?_
                refine WL.q (q_neq rfl rfl) rfl ?_
                refine WL.nil ?_
                refine AT.then_n ?_
                refine WC.condPF rfl (by rw [q1]; simp) ?_
                refine WC.skip ?_
                refine AT.blk_n ?_
                refine AT.mid (d.synced, { s2 with firm := s2.S.length }, c2, A2) ⟨by unfold DkS.synced; rw [if_pos hd0]; exact SRel.sync (q3 h0), by simp only [z2, hmany]⟩ ⟨rfl, vint (by rw [hcrs, if_neg (by omega)]; simp), rfl, rfl, rfl, rfl, rfl, trivial⟩ (Imp.drop (Imp.eq rfl))
              · -- if 13: no
                try have p13 := of_decide_eq_false h13
                have h0 : ¬ (s.ask (-1) true).1 = 0 := p13
                have hd0 : ¬ d.ask 0 true = 0 := by rw [q1]; exact h0
                refine WC.skip ?_
                refine AT.then_n ?_
                refine WC.seq ?_
                refine WC.region ?_
                refine WL.q (q_move rfl) rfl ?_
                refine WL.eff (e_callAt rfl (SpecAt.at_ 1 rfl (w55 hok))) rfl ?_; rintro _ _ _ ⟨rfl, rfl, rfl⟩
                refine WL.q (q_move rfl) rfl ?_
                refine WL.q (q_neq rfl rfl) rfl ?_
                refine WL.nil ?_
                refine AT.then_n ?_
                refine WC.condPF rfl (by rw [q1]; simp) ?_
                refine WC.skip ?_
                refine AT.blk_n ?_
                refine AT.mid (d.synced, s2, c2, A2) ⟨by unfold DkS.synced; rw [if_neg hd0]; exact (q2 h0).mono (by omega), by simp only [z2, hmany]⟩ ⟨rfl, vint (by rw [hcrs, if_neg (by omega)]; simp), rfl, rfl, rfl, rfl, rfl, trivial⟩ (Imp.drop (Imp.eq rfl))
            · -- if 12: no
              try have p12 := of_decide_eq_false h12
              refine WC.seq ?_
              refine WC.seq ?_
              refine WC.region ?_
              refine WL.q (q_eql rfl rfl) rfl ?_
              refine WL.q (q_assign rfl) rfl ?_
              refine WL.nil ?_
              refine AT.then_n ?_
              refine WC.cond rfl (fun h15 => ?_) (fun h15 => ?_)
              · -- if 15: yes
                try have p15 := of_decide_eq_true h15
                refine WC.skip ?_
                refine AT.then_n ?_
                refine WC.condHT rfl h15 ?_
                refine WC.seq ?_
                refine WC.region ?_
                obtain ⟨fm, hfm, hfm2⟩ : ∃ fm : Int, (f : Int) % 12 - 1 = fm ∧ -1 ≤ fm ∧ fm ≤ 10 := ⟨_, rfl, by omega, by omega⟩
                have hmax : max fm (-1) = fm := by omega
                refine WL.q (q_move rfl) rfl ?_
                refine WL.q (q_rem0 rfl rfl (by omega)) rfl ?_
                refine WL.q (QO.eq (q_sub64 rfl rfl (by omega)) (congrArg (Value.int .i64) hfm)) rfl ?_
                refine WL.q (q_assign rfl) rfl ?_
                refine WL.q (q_assign rfl) rfl ?_
                refine WL.nil ?_
                refine AT.then_n ?_
                refine WC.seq ?_
                refine WC.seq ?_
                refine WC.region ?_
                refine WL.q (q_move rfl) rfl ?_
                refine WL.q (q_nil rfl) rfl ?_
                refine WL.q (q_fieldAddr rfl fo_97_5) rfl ?_
                refine WL.q (q_load rfl a_4 (by first | exact Cell.ptL 0 rfl rfl | exact Cell.ptL 1 rfl rfl | exact Cell.ptL 2 rfl rfl | exact Cell.ptL 3 rfl rfl | exact Cell.ptL 4 rfl rfl)) rfl ?_
                refine WL.nil ?_
                refine AT.then_n ?_
                refine WC.cond rfl (fun h17 => ?_) (fun h17 => ?_)
                · -- if 17: yes
                  try have p17 := of_decide_eq_true h17
                  have hdead : s.dead = true := h17
                  have hout : d.out = true := hR.out.trans hdead
                  refine WC.region ?_
                  refine WL.q (q_assign rfl) rfl ?_
                  refine WL.nil ?_
                  refine AT.then_n ?_
                  refine WC.seq ?_
                  refine WC.region ?_
                  refine WL.q (q_assign rfl) rfl ?_
                  refine WL.nil ?_
                  refine AT.then_n ?_
                  refine WC.seq ?_
                  refine WC.seq ?_
                  refine WC.region ?_
                  refine WL.q (q_fieldAddr rfl fo_31_0) rfl ?_
                  refine WL.q (q_load rfl a_5 (by first | exact Cell.ptL 0 rfl rfl | exact Cell.ptL 1 rfl rfl | exact Cell.ptL 2 rfl rfl | exact Cell.ptL 3 rfl rfl | exact Cell.ptL 4 rfl rfl)) rfl ?_
                  refine WL.q (QO.eq (q_rem0 rfl rfl (by omega)) (congrArg (Value.int .u8) hkdi)) rfl ?_
                  refine WL.q (q_eql rfl rfl) rfl ?_
                  refine WL.nil ?_
                  refine AT.then_n ?_
                  refine WC.condPT rfl (by omega) ?_
                  refine WC.region ?_
                  refine WL.q (q_move rfl) rfl ?_
                  refine WL.q (q_move rfl) rfl ?_
                  refine WL.eff (e_callAt rfl (SpecAt.at_ 1 rfl (w56 (v := fm)))) rfl ?_; rintro _ _ _ ⟨rfl, rfl, rfl⟩
                  refine WL.q (q_assign rfl) rfl ?_
                  refine WL.nil ?_
                  refine AT.then_n ?_
                  refine WC.seq ?_
                  refine WC.region ?_
                  refine WL.q (q_move rfl) rfl ?_
                  refine WL.q (q_move rfl) rfl ?_
                  refine WL.q (q_neq rfl rfl) rfl ?_
                  refine WL.nil ?_
                  refine AT.then_n ?_
                  refine WC.condPF rfl (by simp [hout]) ?_
                  refine WC.skip ?_
                  refine AT.blk_n ?_
                  refine AT.mid (d.armed fm, s, c2, A2) ⟨by unfold DkS.armed; rw [if_pos hout]; exact hR.mono (by omega), hmany⟩ ⟨rfl, vint (by rw [hcrs, if_neg (by omega)]; simp), rfl, rfl, rfl, rfl, rfl, trivial⟩ (Imp.drop (Imp.eq rfl))
                · -- if 17: no
                  try have p17 := of_decide_eq_false h17
                  have hdead : s.dead = false := h17
                  have hout : d.out = false := hR.out.trans hdead
                  refine WC.seq ?_
                  refine WC.region ?_
                  refine WL.q (q_fieldAddr rfl fo_31_0) rfl ?_
                  refine WL.q (q_load rfl a_5 (by first | exact Cell.ptL 0 rfl rfl | exact Cell.ptL 1 rfl rfl | exact Cell.ptL 2 rfl rfl | exact Cell.ptL 3 rfl rfl | exact Cell.ptL 4 rfl rfl)) rfl ?_
                  refine WL.q (QO.eq (q_rem0 rfl rfl (by omega)) (congrArg (Value.int .u8) hkdi)) rfl ?_
                  refine WL.q (q_eql rfl rfl) rfl ?_
                  refine WL.nil ?_
                  refine AT.then_n ?_
                  refine WC.condPT rfl (by omega) ?_
                  refine WC.region ?_
                  refine WL.q (q_move rfl) rfl ?_
                  refine WL.q (q_move rfl) rfl ?_
                  refine WL.q (QO.eq (q_max2 rfl rfl) (congrArg (Value.int .i64) hmax)) rfl ?_
                  refine WL.q (q_nil rfl) rfl ?_
                  refine WL.q (q_fieldAddr rfl fo_97_2) rfl ?_
                  first | refine WL.effn (e_store 0 rfl rfl rfl i_3 rfl (by simp)) ?_ | refine WL.effn (e_store 1 rfl rfl rfl i_3 rfl (by simp)) ?_ | refine WL.effn (e_store 2 rfl rfl rfl i_3 rfl (by simp)) ?_ | refine WL.effn (e_store 3 rfl rfl rfl i_3 rfl (by simp)) ?_ | refine WL.effn (e_store 4 rfl rfl rfl i_3 rfl (by simp)) ?_
                  rintro _ _ _ ⟨rfl, rfl, rfl⟩
                  refine WL.nil ?_
                  refine AT.then_n ?_
                  refine WC.seq ?_
                  refine WC.region ?_
                  refine WL.q (q_assign rfl) rfl ?_
                  refine WL.nil ?_
                  refine AT.then_n ?_
                  refine WC.seq ?_
                  refine WC.seq ?_
                  refine WC.region ?_
                  refine WL.q (q_fieldAddr rfl fo_31_0) rfl ?_
                  refine WL.q (q_load rfl a_5 (by first | exact Cell.ptL 0 rfl rfl | exact Cell.ptL 1 rfl rfl | exact Cell.ptL 2 rfl rfl | exact Cell.ptL 3 rfl rfl | exact Cell.ptL 4 rfl rfl)) rfl ?_
                  refine WL.q (QO.eq (q_rem0 rfl rfl (by omega)) (congrArg (Value.int .u8) hkdi)) rfl ?_
                  refine WL.q (q_eql rfl rfl) rfl ?_
                  refine WL.nil ?_
                  refine AT.then_n ?_
                  refine WC.condPT rfl (by omega) ?_
                  refine WC.region ?_
                  refine WL.q (q_move rfl) rfl ?_
                  refine WL.q (q_move rfl) rfl ?_
                  refine WL.eff (e_callAt rfl (SpecAt.at_ 1 rfl (w56 (v := fm)))) rfl ?_; rintro _ _ _ ⟨rfl, rfl, rfl⟩
                  refine WL.q (q_assign rfl) rfl ?_
                  refine WL.nil ?_
                  refine AT.then_n ?_
                  refine WC.seq ?_
                  refine WC.region ?_
                  refine WL.q (q_move rfl) rfl ?_
                  refine WL.q (q_move rfl) rfl ?_
                  refine WL.q (q_neq rfl rfl) rfl ?_
                  refine WL.nil ?_
                  refine AT.then_n ?_
                  refine WC.condPF rfl (by simp [hout]) ?_
                  refine WC.skip ?_
                  refine AT.blk_n ?_
                  refine AT.mid (d.armed fm, { s with arm := fm }, c2, A2) ⟨by unfold DkS.armed; rw [if_neg (by rw [hout]; decide)]; exact (hR.setArm hfm2).mono (by omega), hmany⟩ ⟨rfl, vint (by rw [hcrs, if_neg (by omega)]; simp), rfl, rfl, rfl, rfl, rfl, trivial⟩ (Imp.drop (Imp.eq rfl))
              · -- if 15: no
                try have p15 := of_decide_eq_false h15
                refine WC.region ?_
                refine WL.q (q_eql rfl rfl) rfl ?_
                refine WL.q (q_assign rfl) rfl ?_
                refine WL.nil ?_
                refine AT.then_n ?_
                refine WC.cond rfl (fun h16 => ?_) (fun h16 => ?_)
                · -- if 16: yes
                  try have p16 := of_decide_eq_true h16
                  refine WC.seq ?_
                  refine WC.region ?_
                  obtain ⟨fm, hfm, hfm2⟩ : ∃ fm : Int, (f : Int) % 12 - 1 = fm ∧ -1 ≤ fm ∧ fm ≤ 10 := ⟨_, rfl, by omega, by omega⟩
                  have hmax : max fm (-1) = fm := by omega
                  refine WL.q (q_move rfl) rfl ?_
                  refine WL.q (q_rem0 rfl rfl (by omega)) rfl ?_
                  refine WL.q (QO.eq (q_sub64 rfl rfl (by omega)) (congrArg (Value.int .i64) hfm)) rfl ?_
                  refine WL.q (q_assign rfl) rfl ?_
                  refine WL.q (q_assign rfl) rfl ?_
                  refine WL.nil ?_
                  refine AT.then_n ?_
                  refine WC.seq ?_
                  refine WC.seq ?_
                  refine WC.region ?_
                  refine WL.q (q_move rfl) rfl ?_
                  refine WL.q (q_nil rfl) rfl ?_
                  refine WL.q (q_fieldAddr rfl fo_97_5) rfl ?_
                  refine WL.q (q_load rfl a_4 (by first | exact Cell.ptL 0 rfl rfl | exact Cell.ptL 1 rfl rfl | exact Cell.ptL 2 rfl rfl | exact Cell.ptL 3 rfl rfl | exact Cell.ptL 4 rfl rfl)) rfl ?_
                  refine WL.nil ?_
                  refine AT.then_n ?_
                  refine WC.cond rfl (fun h17 => ?_) (fun h17 => ?_)
                  · -- if 17: yes
                    try have p17 := of_decide_eq_true h17
                    have hdead : s.dead = true := h17
                    have hout : d.out = true := hR.out.trans hdead
                    refine WC.region ?_
                    refine WL.q (q_assign rfl) rfl ?_
                    refine WL.nil ?_
                    refine AT.then_n ?_
                    refine WC.seq ?_
                    refine WC.region ?_
                    refine WL.q (q_assign rfl) rfl ?_
                    refine WL.nil ?_
                    refine AT.then_n ?_
                    refine WC.seq ?_
                    refine WC.seq ?_
                    refine WC.region ?_
                    refine WL.q (q_fieldAddr rfl fo_31_0) rfl ?_
                    refine WL.q (q_load rfl a_5 (by first | exact Cell.ptL 0 rfl rfl | exact Cell.ptL 1 rfl rfl | exact Cell.ptL 2 rfl rfl | exact Cell.ptL 3 rfl rfl | exact Cell.ptL 4 rfl rfl)) rfl ?_
                    refine WL.q (QO.eq (q_rem0 rfl rfl (by omega)) (congrArg (Value.int .u8) hkdi)) rfl ?_
                    refine WL.q (q_eql rfl rfl) rfl ?_
                    refine WL.nil ?_
                    refine AT.then_n ?_
                    refine WC.condPF rfl (by omega) ?_
                    refine WC.region ?_
                    refine WL.q (q_move rfl) rfl ?_
                    refine WL.q (q_move rfl) rfl ?_
                    refine WL.eff (e_callAt rfl (SpecAt.at_ 1 rfl (w57 (v := fm)))) rfl ?_; rintro _ _ _ ⟨rfl, rfl, rfl⟩
                    refine WL.q (q_assign rfl) rfl ?_
                    refine WL.nil ?_
                    refine AT.then_n ?_
                    refine WC.seq ?_
                    refine WC.region ?_
                    refine WL.q (q_move rfl) rfl ?_
                    refine WL.q (q_move rfl) rfl ?_
                    refine WL.q (q_neq rfl rfl) rfl ?_
                    refine WL.nil ?_
                    refine AT.then_n ?_
                    refine WC.condPF rfl (by simp [hout]) ?_
                    refine WC.skip ?_
                    refine AT.blk_n ?_
                    refine AT.mid (d.failed fm, s, c2, A2) ⟨by unfold DkS.failed; rw [if_pos hout]; exact hR.mono (by omega), hmany⟩ ⟨rfl, vint (by rw [hcrs, if_neg (by omega)]; simp), rfl, rfl, rfl, rfl, rfl, trivial⟩ (Imp.drop (Imp.eq rfl))
                  · -- if 17: no
                    try have p17 := of_decide_eq_false h17
                    have hdead : s.dead = false := h17
                    have hout : d.out = false := hR.out.trans hdead
                    refine WC.seq ?_
                    refine WC.region ?_
                    refine WL.q (q_fieldAddr rfl fo_31_0) rfl ?_
                    refine WL.q (q_load rfl a_5 (by first | exact Cell.ptL 0 rfl rfl | exact Cell.ptL 1 rfl rfl | exact Cell.ptL 2 rfl rfl | exact Cell.ptL 3 rfl rfl | exact Cell.ptL 4 rfl rfl)) rfl ?_
                    refine WL.q (QO.eq (q_rem0 rfl rfl (by omega)) (congrArg (Value.int .u8) hkdi)) rfl ?_
                    refine WL.q (q_eql rfl rfl) rfl ?_
                    refine WL.nil ?_
                    refine AT.then_n ?_
                    refine WC.condPF rfl (by omega) ?_
                    refine WC.region ?_
                    refine WL.q (q_move rfl) rfl ?_
                    refine WL.q (q_move rfl) rfl ?_
                    refine WL.q (QO.eq (q_max2 rfl rfl) (congrArg (Value.int .i64) hmax)) rfl ?_
                    refine WL.q (q_nil rfl) rfl ?_
                    refine WL.q (q_fieldAddr rfl fo_97_3) rfl ?_
                    first | refine WL.effn (e_store 0 rfl rfl rfl i_3 rfl (by simp)) ?_ | refine WL.effn (e_store 1 rfl rfl rfl i_3 rfl (by simp)) ?_ | refine WL.effn (e_store 2 rfl rfl rfl i_3 rfl (by simp)) ?_ | refine WL.effn (e_store 3 rfl rfl rfl i_3 rfl (by simp)) ?_ | refine WL.effn (e_store 4 rfl rfl rfl i_3 rfl (by simp)) ?_
                    rintro _ _ _ ⟨rfl, rfl, rfl⟩
                    refine WL.nil ?_
                    refine AT.then_n ?_
                    refine WC.seq ?_
                    refine WC.region ?_
                    refine WL.q (q_assign rfl) rfl ?_
                    refine WL.nil ?_
                    refine AT.then_n ?_
                    refine WC.seq ?_
                    refine WC.seq ?_
                    refine WC.region ?_
                    refine WL.q (q_fieldAddr rfl fo_31_0) rfl ?_
                    refine WL.q (q_load rfl a_5 (by first | exact Cell.ptL 0 rfl rfl | exact Cell.ptL 1 rfl rfl | exact Cell.ptL 2 rfl rfl | exact Cell.ptL 3 rfl rfl | exact Cell.ptL 4 rfl rfl)) rfl ?_
                    refine WL.q (QO.eq (q_rem0 rfl rfl (by omega)) (congrArg (Value.int .u8) hkdi)) rfl ?_
                    refine WL.q (q_eql rfl rfl) rfl ?_
                    refine WL.nil ?_
                    refine AT.then_n ?_
                    refine WC.condPF rfl (by omega) ?_
                    refine WC.region ?_
                    refine WL.q (q_move rfl) rfl ?_
                    refine WL.q (q_move rfl) rfl ?_
                    refine WL.eff (e_callAt rfl (SpecAt.at_ 1 rfl (w57 (v := fm)))) rfl ?_; rintro _ _ _ ⟨rfl, rfl, rfl⟩
                    refine WL.q (q_assign rfl) rfl ?_
                    refine WL.nil ?_
                    refine AT.then_n ?_
                    refine WC.seq ?_
                    refine WC.region ?_
                    refine WL.q (q_move rfl) rfl ?_
                    refine WL.q (q_move rfl) rfl ?_
                    refine WL.q (q_neq rfl rfl) rfl ?_
                    refine WL.nil ?_
                    refine AT.then_n ?_
                    refine WC.condPF rfl (by simp [hout]) ?_
                    refine WC.skip ?_
                    refine AT.blk_n ?_
                    refine AT.mid (d.failed fm, { s with fail := fm }, c2, A2) ⟨by unfold DkS.failed; rw [if_neg (by rw [hout]; decide)]; exact (hR.setFail hfm2).mono (by omega), hmany⟩ ⟨rfl, vint (by rw [hcrs, if_neg (by omega)]; simp), rfl, rfl, rfl, rfl, rfl, trivial⟩ (Imp.drop (Imp.eq rfl))
                · -- if 16: no
                  try have p16 := of_decide_eq_false h16
                  refine WC.seq ?_
                  refine WC.region ?_
                  refine WL.q (q_eql rfl rfl) rfl ?_
                  refine WL.q (q_assign rfl) rfl ?_
                  refine WL.nil ?_
                  refine AT.then_n ?_
                  refine WC.cond rfl (fun h21 => ?_) (fun h21 => ?_)
                  · -- if 21: yes
                    try have p21 := of_decide_eq_true h21
                    refine WC.seq ?_
                    refine WC.region ?_
                    refine WL.q (q_move rfl) rfl ?_
                    refine WL.q (q_fieldAddr rfl fo_31_3) rfl ?_
                    refine WL.q (q_load (v := .slice l[i].A l[i].keep.length l[i].cap) rfl a_29 (Cell.ptL 0 rfl rfl)) rfl ?_
                    refine WL.eff (e_call rfl ((c58 (s := s) (keep := l[i].keep) ⟨by have := hR.bS; omega, hR.firm⟩ hkeep (by omega)).pre ((Imp.front 3 rfl).trans (Imp.front 3 rfl)))) rfl ?_; rintro _ _ _ ⟨A9, c9, rfl, rfl, rfl⟩
                    refine WL.imp (own' := Pt t11 (.cells (l[i].cells).toArray 31 (0, 0)) :: Dsk b d :: seC x c9 A9 (s.crash (kpO l[i].keep)) :: seL c9 A9 (s.crash (kpO l[i].keep)).S :: own) (Imp.trans (Imp.sub (List.Sublist.cons_cons _ (List.Sublist.cons_cons _ (List.Sublist.cons _ (List.Sublist.refl _))))) (Imp.trans (Imp.front 3 rfl) (Imp.front 3 rfl))) ?_
                    refine WL.nil ?_
                    refine AT.then_n ?_
                    refine WC.seq ?_
                    refine WC.region ?_
                    refine WL.q (q_move rfl) rfl ?_
                    first | refine WL.q (q_add64 rfl rfl (by omega)) rfl ?_ | refine WL.q (q_add rfl rfl) rfl ?_
                    refine WL.q (q_assign rfl) rfl ?_
                    refine WL.nil ?_
                    refine AT.then_n ?_
                    refine WC.seq ?_
                    refine WC.region ?_
                    refine WL.q (q_move rfl) rfl ?_
                    refine WL.q (q_fieldAddr rfl fo_31_3) rfl ?_
                    refine WL.q (q_load (v := .slice l[i].A l[i].keep.length l[i].cap) rfl a_29 (Cell.ptL 0 rfl rfl)) rfl ?_
                    refine WL.eff (e_appendNK rfl rfl (Src.rowW (fun h => hkeep (by intro h2; rw [h2] at h; exact h rfl)) (k := l[i].keep.length) (by simp) rfl) u_29 (.inl ⟨_, u_29⟩) i_4 rfl (by simp) (fun v hv => by
                        obtain ⟨q, _, rfl⟩ := List.mem_map.1 hv
                        rfl) (by omega)) rfl ?_; rintro _ _ _ ⟨A8, c8, rfl, rfl, rfl, hc8⟩
                    refine WL.eff (e_callAt rfl (SpecAt.at_ 1 rfl (w52 (keep := l[i].keep) hok fun _ => Ent.right))) rfl ?_; rintro _ _ _ ⟨rfl, rfl, rfl⟩
                    refine WL.q (q_neq rfl rfl) rfl ?_
                    refine WL.nil ?_
                    refine AT.then_n ?_
                    refine WC.condPF rfl (by simp) ?_
                    refine WC.skip ?_
                    refine AT.blk_n ?_
                    refine AT.mid (d.crashed l[i].keep, s.crash (kpO l[i].keep), c9, A9) ⟨(hR.crash _).mono (by omega), hmany⟩ ⟨rfl, vint (by rw [hcrs, if_pos (by omega)]; simp), rfl, rfl, rfl, rfl, rfl, trivial⟩ (Imp.trans (Imp.drop (Imp.eq rfl)) (Imp.ent (Ent.refl _).left))
                  · -- if 21: no
                    try have p21 := of_decide_eq_false h21
                    refine WC.seq ?_
                    refine WC.region ?_
                    refine WL.q (q_move rfl) rfl ?_
                    refine WL.eff (e_callAt rfl (SpecAt.pre (Imp.front 1 rfl) (w59 hok))) rfl ?_; rintro _ _ _ ⟨b1, F', rfl, rfl, hsame, rfl⟩
                    have hRc := (hR.same hsame).crash (kpO [])
                    have hokc : ({ d with F := F' } : DkS).Ok := (hR.same hsame).ok (by omega)
                    refine WL.q (q_assign rfl) rfl ?_
                    refine WL.nil ?_
                    refine AT.then_n ?_
                    refine WC.seq ?_
                    refine WC.seq ?_
                    refine WC.drawS [0, 2, 3, 5, 6, 7, 8, 9, 11, 12, 13, 15, 16, 17, 18, 20, 21, 22, 24, 25, 26, 27, 29, 30] (Dsk b d :: Pt t11 (.cells (l[i].cells).toArray 31 (0, 0)) :: seC x c2 A2 s :: seL c2 A2 s.S :: own) K mixed (NoPan.then (NoPan.then (NoPan.blk (NoPan.then (NoPan.blk (NoPan.then (NoPan.then (NoPan.blk (NoPan.then NoPan.body))))))))) (Imp.drop (Imp.refl _ _)) rfl ?_
                    refine WD.sched [(0, 0), (1, 0), (2, 0)] false (by decide +kernel) ?_
                    refine WS.q 0 rfl (q_move rfl) rfl ?_
                    refine WS.q 1 rfl (q_eqlP rfl rfl u_83) rfl ?_
                    refine WS.q 2 rfl (q_move rfl) rfl ?_
                    refine WS.back ?_
                    refine WD.sched [(3, 0), (5, 0), (4, 2), (6, 0), (7, 0), (8, 0)] false (by decide +kernel) ?_
                    refine WS.qon 3 rfl rfl rfl rfl (q_move rfl) rfl ?_
                    refine WS.qon 5 rfl rfl rfl rfl (q_move rfl) rfl ?_
                    refine WS.effonL 4 rfl rfl rfl rfl (e_callAt rfl (SpecAt.at_ 0 rfl w60)) rfl ?_; rintro _ _ _ ⟨rfl, rfl, rfl⟩
                    refine ⟨(Imp.drop (Imp.refl _ _)), ?_⟩
                    refine WS.qon 6 rfl rfl rfl rfl (q_neq rfl rfl) rfl ?_
                    refine WS.q 7 rfl (q_pickF rfl rfl rfl) rfl ?_
                    refine WS.q 8 rfl (q_move rfl) rfl ?_
                    refine WS.back ?_
                    refine WD.sched [(9, 0), (11, 0), (12, 0), (13, 0), (14, 0), (10, 2), (15, 0), (16, 0), (17, 0)] false (by decide +kernel) ?_
                    refine WS.qon 9 rfl rfl rfl (by simp [hR.n, hmany]) (q_move rfl) rfl ?_
                    refine WS.qon 11 rfl rfl rfl (by simp [hR.n, hmany]) (q_move rfl) rfl ?_
                    refine WS.qon 12 rfl rfl rfl (by simp [hR.n, hmany]) (q_nil rfl) rfl ?_
                    refine WS.qon 13 rfl rfl rfl (by simp [hR.n, hmany]) (q_fieldAddr rfl fo_97_5) rfl ?_
                    refine WS.qon 14 rfl rfl rfl (by simp [hR.n, hmany]) (q_load rfl a_4 (by first | exact Cell.ptL 0 rfl rfl | exact Cell.ptL 1 rfl rfl | exact Cell.ptL 2 rfl rfl | exact Cell.ptL 3 rfl rfl | exact Cell.ptL 4 rfl rfl)) rfl ?_
                    refine WS.effonL 10 rfl rfl rfl (by simp [hR.n, hmany]) (e_callAt rfl (SpecAt.at_ 0 rfl w61)) rfl ?_; rintro _ _ _ ⟨rfl, rfl, rfl⟩
                    refine ⟨(Imp.drop (Imp.refl _ _)), ?_⟩
                    refine WS.qon 15 rfl rfl rfl (by simp [hR.n, hmany]) (q_neqB rfl rfl u_4) rfl ?_
                    refine WS.q 16 rfl (q_pickF rfl (by simp [hR.n, hmany]) rfl) rfl ?_
                    refine WS.q 17 rfl (q_move rfl) rfl ?_
                    refine WS.back ?_
                    refine WD.sched [(18, 0), (20, 0), (21, 0), (22, 0), (23, 0), (19, 2), (24, 0), (25, 0), (26, 0)] false (by decide +kernel) ?_
                    refine WS.qon 18 rfl rfl rfl (by simp [hR.out]) (q_move rfl) rfl ?_
                    refine WS.qon 20 rfl rfl rfl (by simp [hR.out]) (q_move rfl) rfl ?_
                    refine WS.qon 21 rfl rfl rfl (by simp [hR.out]) (q_nil rfl) rfl ?_
                    refine WS.qon 22 rfl rfl rfl (by simp [hR.out]) (q_fieldAddr rfl fo_97_4) rfl ?_
                    refine WS.qon 23 rfl rfl rfl (by simp [hR.out]) (q_load rfl a_3 (by first | exact Cell.ptL 0 rfl rfl | exact Cell.ptL 1 rfl rfl | exact Cell.ptL 2 rfl rfl | exact Cell.ptL 3 rfl rfl | exact Cell.ptL 4 rfl rfl)) rfl ?_
                    refine WS.effonL 19 rfl rfl rfl (by simp [hR.out]) (e_callAt rfl (SpecAt.at_ 0 rfl w62)) rfl ?_; rintro _ _ _ ⟨rfl, rfl, rfl⟩
                    refine ⟨(Imp.drop (Imp.refl _ _)), ?_⟩
                    refine WS.qon 24 rfl rfl rfl (by simp [hR.out]) (q_neq rfl rfl) rfl ?_
                    refine WS.q 25 rfl (q_pickF rfl (by simp [hR.out]) rfl) rfl ?_
                    refine WS.q 26 rfl (q_move rfl) rfl ?_
                    refine WS.back ?_
                    refine WD.sched [(27, 0), (28, 2), (29, 0), (30, 0)] true (by decide +kernel) ?_
                    refine WS.qon 27 rfl rfl rfl (by simp [hR.ops]) (q_move rfl) rfl ?_
                    refine WS.effonL 28 rfl rfl rfl (by simp [hR.ops]) (e_callAt rfl (SpecAt.at_ 0 rfl (w52 (keep := []) (A1 := none) (c1 := 0) hokc (fun h => absurd rfl h)))) rfl ?_; rintro _ _ _ ⟨rfl, rfl, rfl⟩
                    refine ⟨(Imp.drop (Imp.refl _ _)), ?_⟩
                    refine WS.qon 29 rfl rfl rfl (by simp [hR.ops]) (q_neq rfl rfl) rfl ?_
                    refine WS.q 30 rfl (q_pickF rfl (by simp [hR.ops]) rfl) rfl ?_
                    refine WS.done ?_
                    refine AT.then_n ?_
                    refine WC.condPF rfl (by simp) ?_
                    refine WC.skip ?_
                    refine AT.then_n ?_
                    refine WC.seq ?_
                    refine WC.region ?_
                    refine WL.q (q_move rfl) rfl ?_
                    refine WL.q (q_nil rfl) rfl ?_
                    refine WL.q (q_loadA rfl a_97 i_97 (Cells.pt 3 rfl) rfl) rfl ?_
                    refine WL.eff (e_alloc i_97) rfl ?_; rintro _ _ _ ⟨y, rfl, rfl, rfl⟩
                    refine WL.effn (e_storeAll 0 rfl rfl rfl i_97 rfl rfl rfl (by simp [Ones, Value.oneCell'])) ?_; rintro _ _ _ ⟨rfl, rfl, rfl⟩
                    refine WL.nil ?_
                    refine AT.then_n ?_
                    refine WC.seq ?_
                    refine WC.region ?_
                    refine WL.eff (e_call rfl ((c58 (b := y) (s := s) (keep := []) (A1 := none) (c1 := 0) ⟨by have := hR.bS; omega, hR.firm⟩ (fun h => absurd rfl h) (by simp)).pre (Imp.trans (Imp.eq (own' := seC y c2 A2 s :: Dsk b1 (({ d with F := F' } : DkS).crashed []) :: Dsk b d :: Pt t11 (.cells (l[i].cells).toArray 31 (0, 0)) :: seC x c2 A2 s :: seL c2 A2 s.S :: own) rfl) ((Imp.front 5 rfl).trans (Imp.front 1 rfl))))) rfl ?_; rintro _ _ _ ⟨A8, c8, rfl, rfl, rfl⟩
                    refine WL.nil ?_
                    refine AT.then_n ?_
                    refine WC.seq ?_
                    refine WC.region ?_
                    refine WL.q (q_assign rfl) rfl ?_
                    refine WL.nil ?_
                    refine AT.then_n ?_
                    refine WC.block ?_
                    refine WC.loop (σ := Nat) (fun k => k ≤ 8) (fun k => [(25, .int .i64 k), (23, .pointer (some (ad b1 0))), (24, .pointer (some (ad y 0))), (53, .slice A0 l.length c0), (54, .int .i64 l.length), (0, .int .i64 many), (6, .pointer (some (ad b 0))), (8, .pointer (some (ad x 0))), (55, .int .i64 i), (9, .int .i64 (crs (l.take i)))]) (fun k => seC y c8 A8 (s.crash (kpO [])) :: seL c8 A8 (s.crash (kpO [])).S :: seL c2 A2 s.S :: Dsk b1 (d.cp F' k) :: Dsk b d :: Pt t11 (.cells (l[i].cells).toArray 31 (0, 0)) :: seC x c2 A2 s :: own) (fun _ => K) (fun k => 8 - k) 0 (by omega) ⟨rfl, rfl, rfl, rfl, rfl, rfl, rfl, rfl, rfl, rfl, trivial⟩ (Imp.eq (by simp [DkS.crashed, DkS.cp])) ?_
                    intro k hk8
                    refine WC.seq ?_
                    refine WC.seq ?_
                    refine WC.region ?_
                    refine WL.q (q_move rfl) rfl ?_
                    refine WL.q (q_move rfl) rfl ?_
                    refine WL.q (q_lss rfl rfl) rfl ?_
                    refine WL.q (q_move rfl) rfl ?_
                    refine WL.split 112 rfl (fun hg19_3 => ?_) (fun hg19_3 => ?_)
                    · -- guard 19.3: True
                      try have hp19_3 := of_decide_eq_true hg19_3
                      refine WL.on rfl rfl hg19_3 ?_
                      refine WL.q (q_move rfl) rfl ?_
                      refine WL.on rfl rfl hg19_3 ?_
                      refine WL.q (q_lss rfl rfl) rfl ?_
                      refine WL.q (q_pickT rfl hg19_3 rfl) rfl ?_
                      refine WL.nil ?_
                      refine AT.then_n ?_
                      refine WC.cond rfl (fun h24 => ?_) (fun h24 => ?_)
                      · -- if 24: yes
                        try have p24 := of_decide_eq_true h24
                        have hkm : k < many := by omega
                        have hk8' : k < 8 := by omega
                        have hokc' := hRc.ok (by omega)
                        refine WC.skip ?_
                        refine AT.then_n ?_
                        refine WC.seq ?_
                        refine WC.block ?_
                        refine WC.seq ?_
                        refine WC.region ?_
                        refine WL.q (q_move rfl) rfl ?_
                        refine WL.q (q_move rfl) rfl ?_
                        refine WL.eff (e_callAt rfl (SpecAt.at_ 3 rfl (w50r (d := d.cp F' k) (a := k) ⟨hokc'.L, hokc'.al, hokc'.fl, by have := hR.bo; have := hR.ops; simp only [DkS.cp]; omega, hokc'.aon, hokc'.fon⟩ rfl rfl ⟨by omega, by simp only [DkS.cp]; rw [hR.n, hmany]; omega⟩))) rfl ?_; rintro _ _ _ ⟨rfl, rfl, rfl⟩
                        refine WL.q (q_move rfl) rfl ?_
                        refine WL.q (q_extract rfl rfl) rfl ?_
                        refine WL.q (q_extract rfl rfl) rfl ?_
                        refine WL.eff (e_alloc i_88) rfl ?_; rintro _ _ _ ⟨b49, rfl, rfl, rfl⟩
                        refine WL.effn (e_storeAll 0 (vs := (holdsD (settleD (kpO []) F' d.L) [] k).map bv) rfl rfl rfl i_88 rfl (by simp [holdsD_len]) (by simp) (ones_bv _)) ?_; rintro _ _ _ ⟨rfl, rfl, rfl⟩
                        refine WL.q (q_assign rfl) rfl ?_
                        refine WL.nil ?_
                        refine AT.then_n ?_
                        refine WC.seq ?_
                        refine WC.drawS [0, 1, 2, 4, 8] _ _ mixed (NoPan.then (NoPan.blk (NoPan.then (NoPan.then (NoPan.blk (NoPan.blk (NoPan.then (NoPan.blk (NoPan.then (NoPan.then (NoPan.blk (NoPan.then NoPan.body)))))))))))) (Imp.refl _ _) rfl ?_
                        refine WD.sched [(0, 0), (1, 0), (2, 0)] false (by decide +kernel) ?_
                        refine WS.q 0 rfl (q_move rfl) rfl ?_
                        refine WS.q 1 rfl (q_neq rfl rfl) rfl ?_
                        refine WS.q 2 rfl (q_move rfl) rfl ?_
                        refine WS.back ?_
                        refine WD.sched [(3, 0), (4, 0), (5, 2), (6, 2), (7, 0), (8, 0)] true (by decide +kernel) ?_
                        refine WS.qon 3 rfl rfl rfl (by simp) (q_loadA rfl a_88 i_88 (Cells.pt 0 rfl) (by simp [holdsD_len])) rfl ?_
                        refine WS.qon 4 rfl rfl rfl (by simp) (q_move rfl) rfl ?_
                        refine WS.effon2 5 rfl rfl rfl (by simp) (e_call rfl (c54b (s := s.crash (kpO [])) (by have := hRc.bS; omega))) rfl ?_; rintro _ _ _ ⟨rfl, rfl, rfl⟩
                        refine ⟨(by first | exact (Imp.refl _ _) | exact (Imp.sub (List.Sublist.cons _ (List.Sublist.refl _))) | exact (Imp.ent (Ent.left (Ent.refl _)))), ?_⟩
                        refine WS.effon2 6 rfl rfl rfl (by simp) (e_call rfl (c49 (n := holdsS (s.crash (kpO [])).S k) (by have := holdsS_le hRc.fills k; omega))) rfl ?_; rintro _ _ _ ⟨rfl, rfl, rfl⟩
                        refine ⟨(by first | exact (Imp.refl _ _) | exact (Imp.sub (List.Sublist.cons _ (List.Sublist.refl _))) | exact (Imp.ent (Ent.left (Ent.refl _)))), ?_⟩
                        refine WS.qon 7 rfl rfl rfl (by simp) (q_neqA rfl rfl u_88 u_5 i_5 a_5 eg_88 (by simp [holdsD_len]) (by simp [blk_len])) rfl ?_
                        refine WS.q 8 rfl (q_pickF rfl (by simp) rfl) rfl ?_
                        refine WS.done ?_
                        refine AT.then_n ?_
                        refine WC.condPF rfl (by have := hRc.sector k; simp only at this; rw [show holdsD (settleD (kpO []) F' d.L) [] k = _ from this]; simp) ?_
                        refine WC.skip ?_
                        refine AT.blk_n ?_
                        refine AT.then_n ?_
                        refine WC.region ?_
                        refine WL.q (q_move rfl) rfl ?_
                        first | refine WL.q (q_add64 rfl rfl (by omega)) rfl ?_ | refine WL.q (q_add rfl rfl) rfl ?_
                        refine WL.q (q_assign rfl) rfl ?_
                        refine WL.nil ?_
                        refine AT.mid (k + 1) ⟨by omega, by omega⟩ ⟨rfl, rfl, rfl, rfl, rfl, rfl, rfl, rfl, rfl, rfl, trivial⟩ (Imp.drop (Imp.eq ?_))
                        simp [DkS.cp, Int.add_assoc]
                      · -- if 24: no
                        try have p24 := of_decide_eq_false h24
                        refine WC.exit ?_
                        refine AT.then_e ?_
                        refine AT.then_e ?_
                        refine AT.blk_e ?_
                        refine AT.blk_n ?_
                        refine AT.mid (d, s, c2, A2) ⟨hR.mono (by omega), hmany⟩ ⟨rfl, vint (by rw [hcrs, if_neg (by omega)]; simp), rfl, rfl, rfl, rfl, rfl, trivial⟩ (Imp.trans (Imp.sub (List.Sublist.cons _ (List.Sublist.cons _ (List.Sublist.cons_cons _ (List.Sublist.cons _ (List.Sublist.cons_cons _ (List.Sublist.cons _ (List.Sublist.refl _)))))))) (Imp.trans (Imp.front 2 rfl) (Imp.front 2 rfl)))
                    · -- guard 19.3: False
                      try have hp19_3 := of_decide_eq_false hg19_3
                      refine WL.off rfl rfl hg19_3 rfl ?_
                      refine WL.off rfl rfl hg19_3 rfl ?_
                      refine WL.q (q_pickF rfl hg19_3 rfl) rfl ?_
                      refine WL.nil ?_
                      refine AT.then_n ?_
                      refine WC.condF rfl ?_
                      refine WC.exit ?_
                      refine AT.then_e ?_
                      refine AT.then_e ?_
                      refine AT.blk_e ?_
                      refine AT.blk_n ?_
                      refine AT.mid (d, s, c2, A2) ⟨hR.mono (by omega), hmany⟩ ⟨rfl, vint (by rw [hcrs, if_neg (by omega)]; simp), rfl, rfl, rfl, rfl, rfl, trivial⟩ (Imp.trans (Imp.sub (List.Sublist.cons _ (List.Sublist.cons _ (List.Sublist.cons_cons _ (List.Sublist.cons _ (List.Sublist.cons_cons _ (List.Sublist.cons _ (List.Sublist.refl _)))))))) (Imp.trans (Imp.front 2 rfl) (Imp.front 2 rfl)))
    · -- behind the cut
      rintro ⟨d', s', c3, A3⟩ ⟨hR', hmany'⟩
      simp only at hR' hmany' ⊢
      have hok' := hR'.ok (by omega)
      refine WC.pureOwn (p := s'.S.length ≤ c3) (fun g w h => ORow.cap 2 rfl st_len (by decide) h) (fun hcap' => ?_)
      refine WC.seq ?_
      refine WC.region ?_
      refine WL.q (q_move rfl) rfl ?_
      refine WL.eff (e_callAt rfl (w51 hok')) rfl ?_; rintro _ _ K2 ⟨A5, c5, rfl, rfl, hK2, hrow⟩
      refine WL.q (q_assign rfl) rfl ?_
      refine WL.nil ?_
      refine AT.then_n ?_
      refine WC.seq ?_
      refine WC.seq ?_
      refine WC.drawS [0, 2, 3, 4, 5, 7, 8, 9, 11, 12, 13, 14, 16, 17, 18, 20, 21, 22, 23, 24, 25, 26, 27, 29, 30, 31, 32, 34, 35, 36] _ _ mixed (NoPan.then (NoPan.then (NoPan.blk (NoPan.then (NoPan.then (NoPan.blk (NoPan.then NoPan.body))))))) (Imp.refl _ _) rfl ?_
      refine WD.sched [(0, 0), (2, 0), (1, 2), (3, 0), (4, 0)] false (by decide +kernel) ?_
      refine WS.q 0 rfl (q_move rfl) rfl ?_
      refine WS.q 2 rfl (q_move rfl) rfl ?_
      refine WS.eff2 1 rfl (e_callAt rfl (SpecAt.at_ 0 rfl w60)) rfl ?_; rintro _ _ _ ⟨rfl, rfl, rfl⟩
      refine ⟨(by first | exact (Imp.refl _ _) | exact (Imp.sub (List.Sublist.cons _ (List.Sublist.refl _))) | exact (Imp.ent (Ent.left (Ent.refl _)))), ?_⟩
      refine WS.q 3 rfl (q_neq rfl rfl) rfl ?_
      refine WS.q 4 rfl (q_move rfl) rfl ?_
      refine WS.back ?_
      refine WD.sched [(5, 0), (7, 0), (8, 0), (9, 0), (10, 0), (6, 2), (11, 0), (12, 0), (13, 0)] false (by decide +kernel) ?_
      refine WS.qon 5 rfl rfl rfl (by simp [hR'.n, hmany']) (q_move rfl) rfl ?_
      refine WS.qon 7 rfl rfl rfl (by simp [hR'.n, hmany']) (q_move rfl) rfl ?_
      refine WS.qon 8 rfl rfl rfl (by simp [hR'.n, hmany']) (q_nil rfl) rfl ?_
      refine WS.qon 9 rfl rfl rfl (by simp [hR'.n, hmany']) (q_fieldAddr rfl fo_97_5) rfl ?_
      refine WS.qon 10 rfl rfl rfl (by simp [hR'.n, hmany']) (q_load rfl a_4 (by first | exact Cell.ptL 0 rfl rfl | exact Cell.ptL 1 rfl rfl | exact Cell.ptL 2 rfl rfl | exact Cell.ptL 3 rfl rfl | exact Cell.ptL 4 rfl rfl)) rfl ?_
      refine WS.effon2 6 rfl rfl rfl (by simp [hR'.n, hmany']) (e_callAt rfl (SpecAt.at_ 0 rfl w61)) rfl ?_; rintro _ _ _ ⟨rfl, rfl, rfl⟩
      refine ⟨(by first | exact (Imp.refl _ _) | exact (Imp.sub (List.Sublist.cons _ (List.Sublist.refl _))) | exact (Imp.ent (Ent.left (Ent.refl _)))), ?_⟩
      refine WS.qon 11 rfl rfl rfl (by simp [hR'.n, hmany']) (q_neqB rfl rfl u_4) rfl ?_
      refine WS.q 12 rfl (q_pickF rfl (by simp [hR'.n, hmany']) rfl) rfl ?_
      refine WS.q 13 rfl (q_move rfl) rfl ?_
      refine WS.back ?_
      refine WD.sched [(14, 0), (16, 0), (17, 0), (18, 0), (19, 0), (15, 2), (20, 0), (21, 0), (22, 0)] false (by decide +kernel) ?_
      refine WS.qon 14 rfl rfl rfl (by simp [hR'.out]) (q_move rfl) rfl ?_
      refine WS.qon 16 rfl rfl rfl (by simp [hR'.out]) (q_move rfl) rfl ?_
      refine WS.qon 17 rfl rfl rfl (by simp [hR'.out]) (q_nil rfl) rfl ?_
      refine WS.qon 18 rfl rfl rfl (by simp [hR'.out]) (q_fieldAddr rfl fo_97_4) rfl ?_
      refine WS.qon 19 rfl rfl rfl (by simp [hR'.out]) (q_load rfl a_3 (by first | exact Cell.ptL 0 rfl rfl | exact Cell.ptL 1 rfl rfl | exact Cell.ptL 2 rfl rfl | exact Cell.ptL 3 rfl rfl | exact Cell.ptL 4 rfl rfl)) rfl ?_
      refine WS.effon2 15 rfl rfl rfl (by simp [hR'.out]) (e_callAt rfl (SpecAt.at_ 0 rfl w62)) rfl ?_; rintro _ _ _ ⟨rfl, rfl, rfl⟩
      refine ⟨(by first | exact (Imp.refl _ _) | exact (Imp.sub (List.Sublist.cons _ (List.Sublist.refl _))) | exact (Imp.ent (Ent.left (Ent.refl _)))), ?_⟩
      refine WS.qon 20 rfl rfl rfl (by simp [hR'.out]) (q_neq rfl rfl) rfl ?_
      refine WS.q 21 rfl (q_pickF rfl (by simp [hR'.out]) rfl) rfl ?_
      refine WS.q 22 rfl (q_move rfl) rfl ?_
      refine WS.back ?_
      refine WD.sched [(23, 0), (24, 0), (25, 0), (26, 0), (27, 0), (28, 0), (29, 0), (30, 0), (31, 0), (32, 0), (33, 0), (34, 0), (35, 0), (36, 0)] true (by decide +kernel) ?_
      refine WS.qon 23 rfl rfl rfl (by simp [hR'.ops]) (q_move rfl) rfl ?_
      refine WS.qon 24 rfl rfl rfl (by simp [hR'.ops]) (q_len rfl u_77) rfl ?_
      refine WS.qon 25 rfl rfl rfl (by simp [hR'.ops]) (q_move rfl) rfl ?_
      refine WS.qon 26 rfl rfl rfl (by simp [hR'.ops]) (q_nil rfl) rfl ?_
      refine WS.qon 27 rfl rfl rfl (by simp [hR'.ops]) (q_fieldAddr rfl fo_97_6) rfl ?_
      refine WS.qon 28 rfl rfl rfl (by simp [hR'.ops]) (q_load rfl a_95 (by first | exact Cell.ptL 0 rfl rfl | exact Cell.ptL 1 rfl rfl | exact Cell.ptL 2 rfl rfl | exact Cell.ptL 3 rfl rfl | exact Cell.ptL 4 rfl rfl)) rfl ?_
      refine WS.qon 29 rfl rfl rfl (by simp [hR'.ops]) (q_len rfl u_95) rfl ?_
      refine WS.qon 30 rfl rfl rfl (by simp [hR'.ops]) (q_move rfl) rfl ?_
      refine WS.qon 31 rfl rfl rfl (by simp [hR'.ops]) (q_nil rfl) rfl ?_
      refine WS.qon 32 rfl rfl rfl (by simp [hR'.ops]) (q_fieldAddr rfl fo_97_1) rfl ?_
      refine WS.qon 33 rfl rfl rfl (by simp [hR'.ops]) (q_load rfl a_3 (by first | exact Cell.ptL 0 rfl rfl | exact Cell.ptL 1 rfl rfl | exact Cell.ptL 2 rfl rfl | exact Cell.ptL 3 rfl rfl | exact Cell.ptL 4 rfl rfl)) rfl ?_
      refine WS.qon 34 rfl rfl rfl (by simp [hR'.ops]) (q_sub64 rfl rfl (by have := hR'.bS; have := hR'.firm; omega)) rfl ?_
      refine WS.qon 35 rfl rfl rfl (by simp [hR'.ops]) (q_neq rfl rfl) rfl ?_
      refine WS.q 36 rfl (q_pickF rfl (by simp [hR'.ops]) rfl) rfl ?_
      refine WS.done ?_
      refine AT.then_n ?_
      refine WC.condPF rfl (by have := hR'.len; have := hR'.firm; omega) ?_
      refine WC.skip ?_
      refine AT.then_n ?_
      refine WC.seq ?_
      refine WC.drawS [0, 1, 2, 4, 5, 6, 9, 10] _ _ mixed (NoPan.then (NoPan.blk (NoPan.then (NoPan.then (NoPan.blk (NoPan.then NoPan.body)))))) (Imp.refl _ _) rfl ?_
      refine WD.sched [(0, 0), (1, 0), (2, 0), (3, 0), (4, 0), (5, 0), (6, 0), (7, 0), (8, 0), (9, 0), (10, 0)] true (by decide +kernel) ?_
      refine WS.q 0 rfl (q_move rfl) rfl ?_
      refine WS.q 1 rfl (q_nil rfl) rfl ?_
      refine WS.q 2 rfl (q_fieldAddr rfl fo_97_6) rfl ?_
      refine WS.q 3 rfl (q_load rfl a_95 (by first | exact Cell.ptL 0 rfl rfl | exact Cell.ptL 1 rfl rfl | exact Cell.ptL 2 rfl rfl | exact Cell.ptL 3 rfl rfl | exact Cell.ptL 4 rfl rfl)) rfl ?_
      refine WS.q 4 rfl (q_move rfl) rfl ?_
      refine WS.q 5 rfl (q_nil rfl) rfl ?_
      refine WS.q 6 rfl (q_fieldAddr rfl fo_97_1) rfl ?_
      refine WS.q 7 rfl (q_load rfl a_3 (by first | exact Cell.ptL 0 rfl rfl | exact Cell.ptL 1 rfl rfl | exact Cell.ptL 2 rfl rfl | exact Cell.ptL 3 rfl rfl | exact Cell.ptL 4 rfl rfl)) rfl ?_
      refine WS.q 8 rfl (q_slice rfl ⟨_, _, rfl, rfl⟩ rfl u_95 i_100 (by have := hR'.firm; omega)) rfl ?_
      refine WS.q 9 rfl (q_len rfl u_95) rfl ?_
      refine WS.q 10 rfl (q_move rfl) rfl ?_
      refine WS.done ?_
      refine AT.then_n ?_
      refine WC.block ?_
      refine WC.loop (σ := Nat) (fun j => s'.firm + j ≤ s'.S.length) (fun j => [(312, .int .i64 j), (310, .slice (cutA A3 c3 2 s'.firm) (s'.S.length - s'.firm) (c3 - s'.firm)), (311, .int .i64 ((s'.S.length - s'.firm : Nat) : Int)), (28, .slice A5 d'.L.length c5), (53, .slice A0 l.length c0), (54, .int .i64 l.length), (0, .int .i64 many), (6, .pointer (some (ad b 0))), (8, .pointer (some (ad x 0))), (55, .int .i64 i), (9, .int .i64 (crs (l.take (i + 1))))]) (fun j => Dsk b d' :: seC x c3 A3 s' :: seL c3 A3 s'.S :: own) (fun _ => K2) (fun j => s'.S.length - j) 0 (by have := hR'.firm; omega) ⟨rfl, rfl, rfl, rfl, rfl, rfl, rfl, rfl, rfl, rfl, rfl, trivial⟩ (Imp.refl _ _) ?_
      intro j hj
      refine WC.seq ?_
      refine WC.region ?_
      refine WL.q (q_lss rfl rfl) rfl ?_
      refine WL.nil ?_
      refine AT.then_n ?_
      refine WC.seq ?_
      refine WC.cond rfl (fun h27 => ?_) (fun h27 => ?_)
      · -- if 27: yes
        try have p27 := of_decide_eq_true h27
        have hjl : s'.firm + j < s'.S.length := by omega
        have hLl := hR'.len
        have hbS' := hR'.bS
        have hat : (d'.L.map fun p => Value.int .i64 p.1)[j]? = some (.int .i64 (s'.S[s'.firm + j]).1) := by
          rw [hR'.loose]
          simp [lw, hjl]
        refine WC.skip ?_
        refine AT.then_n ?_
        refine WC.seq ?_
        refine WC.block ?_
        refine WC.seq ?_
        refine WC.region ?_
        refine WL.q (q_move rfl) rfl ?_
        refine WL.q (q_indexAddr rfl rfl u_95 i_100 (Based.orowCut 2 rfl st_len (by decide) (by omega)) (by omega)) rfl ?_
        refine WL.q (q_loadA rfl a_100 i_100 (Cells.orowCut 2 rfl st_len (by decide) (j := j) hjl) rfl) rfl ?_
        refine WL.eff (e_alloc i_100) rfl ?_; rintro _ _ _ ⟨b57, rfl, rfl, rfl⟩
        refine WL.q (q_assign rfl) rfl ?_
        refine WL.effn (e_storeAll 0 rfl rfl rfl i_100 rfl rfl rfl (ones_st _)) ?_; rintro _ _ _ ⟨rfl, rfl, rfl⟩
        refine WL.nil ?_
        refine AT.then_n ?_
        refine WC.seq ?_
        refine WC.drawS [0, 1, 4, 6] _ _ mixed (NoPan.then (NoPan.blk (NoPan.then (NoPan.then (NoPan.blk (NoPan.blk (NoPan.then (NoPan.then (NoPan.blk (NoPan.then NoPan.body)))))))))) (Imp.refl _ _) rfl ?_
        refine WD.sched [(0, 0), (1, 0), (2, 0), (3, 0), (4, 0), (5, 0), (6, 0)] true (by decide +kernel) ?_
        refine WS.q 0 rfl (q_move rfl) rfl ?_
        refine WS.q 1 rfl (q_move rfl) rfl ?_
        refine WS.q 2 rfl (q_indexAddr rfl rfl u_77 i_3 (Based.row hrow (by simp; omega)) (by omega)) rfl ?_
        refine WS.q 3 rfl (q_load (v := .int .i64 (s'.S[s'.firm + j]).1) rfl a_3 (Cell.row hrow (j := (j : Int).toNat * 1) (by rw [show (j : Int).toNat * 1 = j by omega]; exact hat))) rfl ?_
        refine WS.q 4 rfl (q_fieldAddr rfl fo_100_0) rfl ?_
        refine WS.q 5 rfl (q_load rfl a_3 (Cell.ptL 0 rfl rfl)) rfl ?_
        refine WS.q 6 rfl (q_neq rfl rfl) rfl ?_
        refine WS.done ?_
        refine AT.then_n ?_
        refine WC.condPF rfl (by simp) ?_
        refine WC.skip ?_
        refine AT.blk_n ?_
        refine AT.then_n ?_
        refine WC.region ?_
        first | refine WL.q (q_add64 rfl rfl (by omega)) rfl ?_ | refine WL.q (q_add rfl rfl) rfl ?_
        refine WL.q (q_move rfl) rfl ?_
        refine WL.nil ?_
        refine AT.mid (j + 1) ⟨by omega, by omega⟩ ⟨rfl, rfl, rfl, rfl, rfl, rfl, rfl, rfl, rfl, rfl, rfl, trivial⟩ (Imp.drop (Imp.refl _ _))
      · -- if 27: no
        try have p27 := of_decide_eq_false h27
        refine WC.exit ?_
        refine AT.then_e ?_
        refine AT.then_e ?_
        refine AT.blk_e ?_
        refine AT.blk_n ?_
        refine AT.then_n ?_
        refine WC.region ?_
        first | refine WL.q (q_add64 rfl rfl (by omega)) rfl ?_ | refine WL.q (q_add rfl rfl) rfl ?_
        refine WL.q (q_move rfl) rfl ?_
        refine WL.nil ?_
        refine AT.mid (i + 1, d', s', c3, A3) ⟨⟨by simp only; omega, hR', hmany'⟩, by simp only; omega⟩ ⟨rfl, rfl, rfl, rfl, rfl, rfl, rfl, trivial⟩ (Imp.ent hK2)
  · -- if 3: no
    try have p3 := of_decide_eq_false h3
    have hi2 : i = l.length := by omega
    subst hi2
    rw [List.take_length]
    refine WC.exit ?_
    refine AT.then_e ?_
    refine AT.then_e ?_
    refine AT.blk_e ?_
    refine AT.then_n ?_
    refine WC.seq ?_
    refine WC.region ?_
    refine WL.q (q_move rfl) rfl ?_
    refine WL.q (q_assign rfl) rfl ?_
    refine WL.q (q_assign rfl) rfl ?_
    refine WL.nil ?_
    refine AT.then_n ?_
    refine WC.ret ?_
    exact AT.done rfl (RO.two rfl rfl rfl) ⟨rfl, rfl, rfl⟩ (Imp.drop (Imp.drop (Imp.drop (Imp.refl _ _))))

end Go.Proofs.Sl
