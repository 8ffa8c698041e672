/- Layer 7: terms made and taken apart. -/
import Derived.Test.YtimokikpnngikaaSlTerm2
import Derived.Test.YtimokikpnngikaaSlM
namespace Go.Proofs.Sl
open Go
set_option linter.unusedVariables false
set_option linter.unusedSimpArgs false

/-- A term comes back. -/
def TRet (own : List SP) (K : PH → Prop) (X : Tm) : Value → List SP → (PH → Prop) → Prop := fun v o k => ∃ T : Tg, v = .agg T.cells.toArray ∧ o = own ∧ Ent k K ∧ Ent k T.ok ∧ T.er = X ∧ T.small
theorem Ent.leaf {K : PH → Prop} {k u n : Int} {t : List UInt8} {cap : Nat} : Ent K (Tg.mk k u n t none cap []).ok := Ent.term (by simp) Rows.none
theorem Rows.one {K : PH → Prop} {A : Option Addr} {T : Tg} {cs : List Value} (h : Ent K (Row A cs)) (hc : cs = T.cells) (hT : Ent K T.ok) : Rows K A [T] :=
  ⟨by simpa [← hc] using h, fun x hx => by rw [List.mem_singleton.1 hx]; exact hT⟩
theorem Rows.two {K : PH → Prop} {A : Option Addr} {T U : Tg} {cs : List Value} (h : Ent K (Row A cs)) (hc : cs = T.cells ++ U.cells) (hT : Ent K T.ok) (hU : Ent K U.ok) : Rows K A [T, U] :=
  ⟨by simpa [hc] using h, fun x hx => by
    rcases List.mem_cons.1 hx with rfl | hx
    · exact hT
    · rw [List.mem_singleton.1 hx]; exact hU⟩
theorem TRet.mk1 {own : List SP} {K k : PH → Prop} {kd u n : Int} {A : Option Addr} {T : Tg} {v : Value} (hv : v = .agg (Tg.mk kd u n [] A 1 [T]).cells.toArray) (hk : Ent k K) (hr : Rows k A [T]) (hs : T.small) : TRet own K (.mk kd u n [] [T.er]) v own k :=
  ⟨Tg.mk kd u n [] A 1 [T], hv, rfl, hk, Ent.term (by simp) hr, by rw [Tg.er_mk]; rfl, Tg.small_mk.2 ⟨by simp, by simp, by simpa using hs⟩⟩
theorem TRet.mk2 {own : List SP} {K k : PH → Prop} {kd u n : Int} {A : Option Addr} {T U : Tg} {v : Value} (hv : v = .agg (Tg.mk kd u n [] A 2 [T, U]).cells.toArray) (hk : Ent k K) (hr : Rows k A [T, U]) (hs : T.small) (hs2 : U.small) : TRet own K (.mk kd u n [] [T.er, U.er]) v own k :=
  ⟨Tg.mk kd u n [] A 2 [T, U], hv, rfl, hk, Ent.term (by simp) hr, by rw [Tg.er_mk]; rfl, Tg.small_mk.2 ⟨by simp, by simp, by simp; exact ⟨hs, hs2⟩⟩⟩

theorem c66 {own : List SP} {K : PH → Prop} {t : List UInt8} : Spec Try.prog 66 [.string (bs t)] (own) (K)
    (Ret (.agg (Tg.mk 1 0 0 t none 0 []).cells.toArray) own K) := by
  refine Spec.of en_66 Try.func66 rfl rfl fun g => ?_
  refine WC.seq ?_
  refine WC.region ?_
  refine WL.eff (e_alloc i_38) rfl ?_; rintro _ _ _ ⟨b1, rfl, rfl, rfl⟩
  refine WL.nil ?_
  refine AT.then_n ?_
  refine WC.seq ?_
  refine WC.region ?_
  refine WL.q (q_move rfl) rfl ?_
  refine WL.q (q_buildL rfl pl_38 i_38 rfl rfl) rfl ?_
  first | refine WL.effn (e_storeN 0 rfl rfl rfl i_38 rfl rfl (by simp) (by first | exact ones_bv _ | simp [Ones, Value.oneCell', bv, setsL, cellsL, Value.cells, Tg.cells])) ?_ | refine WL.effn (e_storeN 1 rfl rfl rfl i_38 rfl rfl (by simp) (by first | exact ones_bv _ | simp [Ones, Value.oneCell', bv, setsL, cellsL, Value.cells, Tg.cells])) ?_ | refine WL.effn (e_storeN 2 rfl rfl rfl i_38 rfl rfl (by simp) (by first | exact ones_bv _ | simp [Ones, Value.oneCell', bv, setsL, cellsL, Value.cells, Tg.cells])) ?_ | refine WL.effn (e_storeN 3 rfl rfl rfl i_38 rfl rfl (by simp) (by first | exact ones_bv _ | simp [Ones, Value.oneCell', bv, setsL, cellsL, Value.cells, Tg.cells])) ?_ | refine WL.effn (e_storeN 4 rfl rfl rfl i_38 rfl rfl (by simp) (by first | exact ones_bv _ | simp [Ones, Value.oneCell', bv, setsL, cellsL, Value.cells, Tg.cells])) ?_
  rintro _ _ _ ⟨rfl, rfl, rfl⟩
  refine WL.nil ?_
  refine AT.then_n ?_
  refine WC.ret ?_
  exact AT.done rfl (RO.cellA (T := 38) rfl rfl a_38 i_38 (Cells.pt 0 rfl) rfl) ⟨rfl, rfl, rfl⟩ (Imp.drop (Imp.refl _ _))

theorem c65 {own : List SP} {K : PH → Prop} {u n : Int} : Spec Try.prog 65 [.int .i64 u, .int .i64 n] (own) (K)
    (Ret (.agg (Tg.mk 2 u n [] none 0 []).cells.toArray) own K) := by
  refine Spec.of en_65 Try.func65 rfl rfl fun g => ?_
  refine WC.seq ?_
  refine WC.region ?_
  refine WL.eff (e_alloc i_38) rfl ?_; rintro _ _ _ ⟨b1, rfl, rfl, rfl⟩
  refine WL.nil ?_
  refine AT.then_n ?_
  refine WC.seq ?_
  refine WC.region ?_
  refine WL.q (q_move rfl) rfl ?_
  refine WL.q (q_move rfl) rfl ?_
  refine WL.q (q_buildL rfl pl_38 i_38 rfl rfl) rfl ?_
  first | refine WL.effn (e_storeN 0 rfl rfl rfl i_38 rfl rfl (by simp) (by first | exact ones_bv _ | simp [Ones, Value.oneCell', bv, setsL, cellsL, Value.cells, Tg.cells])) ?_ | refine WL.effn (e_storeN 1 rfl rfl rfl i_38 rfl rfl (by simp) (by first | exact ones_bv _ | simp [Ones, Value.oneCell', bv, setsL, cellsL, Value.cells, Tg.cells])) ?_ | refine WL.effn (e_storeN 2 rfl rfl rfl i_38 rfl rfl (by simp) (by first | exact ones_bv _ | simp [Ones, Value.oneCell', bv, setsL, cellsL, Value.cells, Tg.cells])) ?_ | refine WL.effn (e_storeN 3 rfl rfl rfl i_38 rfl rfl (by simp) (by first | exact ones_bv _ | simp [Ones, Value.oneCell', bv, setsL, cellsL, Value.cells, Tg.cells])) ?_ | refine WL.effn (e_storeN 4 rfl rfl rfl i_38 rfl rfl (by simp) (by first | exact ones_bv _ | simp [Ones, Value.oneCell', bv, setsL, cellsL, Value.cells, Tg.cells])) ?_
  rintro _ _ _ ⟨rfl, rfl, rfl⟩
  refine WL.nil ?_
  refine AT.then_n ?_
  refine WC.ret ?_
  exact AT.done rfl (RO.cellA (T := 38) rfl rfl a_38 i_38 (Cells.pt 0 rfl) rfl) ⟨rfl, rfl, rfl⟩ (Imp.drop (Imp.refl _ _))

theorem c69 {own : List SP} {K : PH → Prop} {u : Int} : Spec Try.prog 69 [.int .i64 u] (own) (K)
    (Ret (.agg (Tg.mk 3 u 0 [] none 0 []).cells.toArray) own K) := by
  refine Spec.of en_69 Try.func69 rfl rfl fun g => ?_
  refine WC.seq ?_
  refine WC.region ?_
  refine WL.eff (e_alloc i_38) rfl ?_; rintro _ _ _ ⟨b1, rfl, rfl, rfl⟩
  refine WL.nil ?_
  refine AT.then_n ?_
  refine WC.seq ?_
  refine WC.region ?_
  refine WL.q (q_move rfl) rfl ?_
  refine WL.q (q_buildL rfl pl_38 i_38 rfl rfl) rfl ?_
  first | refine WL.effn (e_storeN 0 rfl rfl rfl i_38 rfl rfl (by simp) (by first | exact ones_bv _ | simp [Ones, Value.oneCell', bv, setsL, cellsL, Value.cells, Tg.cells])) ?_ | refine WL.effn (e_storeN 1 rfl rfl rfl i_38 rfl rfl (by simp) (by first | exact ones_bv _ | simp [Ones, Value.oneCell', bv, setsL, cellsL, Value.cells, Tg.cells])) ?_ | refine WL.effn (e_storeN 2 rfl rfl rfl i_38 rfl rfl (by simp) (by first | exact ones_bv _ | simp [Ones, Value.oneCell', bv, setsL, cellsL, Value.cells, Tg.cells])) ?_ | refine WL.effn (e_storeN 3 rfl rfl rfl i_38 rfl rfl (by simp) (by first | exact ones_bv _ | simp [Ones, Value.oneCell', bv, setsL, cellsL, Value.cells, Tg.cells])) ?_ | refine WL.effn (e_storeN 4 rfl rfl rfl i_38 rfl rfl (by simp) (by first | exact ones_bv _ | simp [Ones, Value.oneCell', bv, setsL, cellsL, Value.cells, Tg.cells])) ?_
  rintro _ _ _ ⟨rfl, rfl, rfl⟩
  refine WL.nil ?_
  refine AT.then_n ?_
  refine WC.ret ?_
  exact AT.done rfl (RO.cellA (T := 38) rfl rfl a_38 i_38 (Cells.pt 0 rfl) rfl) ⟨rfl, rfl, rfl⟩ (Imp.drop (Imp.refl _ _))

theorem c163 {own : List SP} {K : PH → Prop} {k : Int} {A : Option Addr} {cap : Nat} {l : List Tg} : Spec Try.prog 163 [.int .i64 k, .slice A l.length cap] (own) (K)
    (Ret (.agg (Tg.mk k 0 0 [] A cap l).cells.toArray) own K) := by
  refine Spec.of en_163 Try.func163 rfl rfl fun g => ?_
  refine WC.seq ?_
  refine WC.region ?_
  refine WL.eff (e_alloc i_38) rfl ?_; rintro _ _ _ ⟨b1, rfl, rfl, rfl⟩
  refine WL.nil ?_
  refine AT.then_n ?_
  refine WC.seq ?_
  refine WC.region ?_
  refine WL.q (q_move rfl) rfl ?_
  refine WL.q (q_move rfl) rfl ?_
  refine WL.q (q_buildL (cs := (Tg.mk k 0 0 [] A cap l).cells) rfl pl_38 i_38 rfl rfl) rfl ?_
  refine WL.effn (e_storeAll 0 rfl rfl rfl i_38 rfl (Tg.len _) (by first | (simp [Value.cells, Tg.len]; done) | (simp [Value.cells, Tg.cells]; done)) (Tg.ones _)) ?_; rintro _ _ _ ⟨rfl, rfl, rfl⟩
  refine WL.nil ?_
  refine AT.then_n ?_
  refine WC.ret ?_
  exact AT.done rfl (RO.cellA (T := 38) rfl rfl a_38 i_38 (Cells.pt 0 rfl) (Tg.len _)) ⟨rfl, rfl, rfl⟩ (Imp.drop (Imp.refl _ _))

theorem c72 {own : List SP} {K : PH → Prop} {T U : Tg} (hT : Ent K T.ok) (hs : T.small) (hU : Ent K U.ok) (hs2 : U.small) : Spec Try.prog 72 [.agg T.cells.toArray, .agg U.cells.toArray] (own) (K)
    (TRet own K (.mk 4 0 0 [] [T.er, U.er])) := by
  obtain ⟨k1, u1, n1, t1, A1, cap1, l1⟩ := T
  obtain ⟨k2, u2, n2, t2, A2, cap2, l2⟩ := U
  refine Spec.of en_72 Try.func72 rfl rfl fun g => ?_
  refine WC.seq ?_
  refine WC.region ?_
  refine WL.eff (e_box rfl) rfl ?_; rintro _ _ _ ⟨b1, rfl, rfl, rfl⟩
  refine WL.eff (e_box rfl) rfl ?_; rintro _ _ _ ⟨b2, rfl, rfl, rfl⟩
  refine WL.eff (e_alloc i_38) rfl ?_; rintro _ _ _ ⟨b3, rfl, rfl, rfl⟩
  refine WL.nil ?_
  refine AT.then_n ?_
  refine WC.seq ?_
  refine WC.region ?_
  refine WL.q (q_loadA rfl a_38 i_38 (Cells.pt 2 rfl) (Tg.len _)) rfl ?_
  refine WL.q (q_loadA rfl a_38 i_38 (Cells.pt 1 rfl) (Tg.len _)) rfl ?_
  refine WL.eff (e_buildSliceK (cs := (Tg.mk k1 u1 n1 t1 A1 cap1 l1).cells ++ (Tg.mk k2 u2 n2 t2 A2 cap2 l2).cells) rfl u_35 i_38 rfl rfl rfl rfl rfl) rfl ?_; rintro _ _ _ ⟨b7, rfl, rfl, rfl⟩
  refine WL.eff (e_call rfl (c163 (k := 4) (A := some (ad b7 0)) (l := [(Tg.mk k1 u1 n1 t1 A1 cap1 l1), (Tg.mk k2 u2 n2 t2 A2 cap2 l2)]))) rfl ?_; rintro _ _ _ ⟨rfl, rfl, rfl⟩
  refine WL.effn (e_storeAll 0 rfl rfl rfl i_38 rfl (Tg.len _) (by first | (simp [Value.cells, Tg.len]; done) | (simp [Value.cells, Tg.cells]; done)) (Tg.ones _)) ?_; rintro _ _ _ ⟨rfl, rfl, rfl⟩
  refine WL.nil ?_
  refine AT.then_n ?_
  refine WC.ret ?_
  exact AT.done rfl (RO.cellA (T := 38) rfl rfl a_38 i_38 (Cells.pt 0 rfl) (Tg.len _)) (TRet.mk2 rfl (Ent.refl _).left (Rows.two Ent.right rfl hT.left hU.left) hs hs2) (Imp.drop (Imp.drop (Imp.drop (Imp.refl _ _))))

theorem c64 {own : List SP} {K : PH → Prop} {T U : Tg} (hT : Ent K T.ok) (hs : T.small) (hU : Ent K U.ok) (hs2 : U.small) : Spec Try.prog 64 [.agg T.cells.toArray, .agg U.cells.toArray] (own) (K)
    (TRet own K (.mk 6 0 0 [] [T.er, U.er])) := by
  obtain ⟨k1, u1, n1, t1, A1, cap1, l1⟩ := T
  obtain ⟨k2, u2, n2, t2, A2, cap2, l2⟩ := U
  refine Spec.of en_64 Try.func64 rfl rfl fun g => ?_
  refine WC.seq ?_
  refine WC.region ?_
  refine WL.eff (e_box rfl) rfl ?_; rintro _ _ _ ⟨b1, rfl, rfl, rfl⟩
  refine WL.eff (e_box rfl) rfl ?_; rintro _ _ _ ⟨b2, rfl, rfl, rfl⟩
  refine WL.eff (e_alloc i_38) rfl ?_; rintro _ _ _ ⟨b3, rfl, rfl, rfl⟩
  refine WL.nil ?_
  refine AT.then_n ?_
  refine WC.seq ?_
  refine WC.region ?_
  refine WL.q (q_loadA rfl a_38 i_38 (Cells.pt 2 rfl) (Tg.len _)) rfl ?_
  refine WL.q (q_loadA rfl a_38 i_38 (Cells.pt 1 rfl) (Tg.len _)) rfl ?_
  refine WL.eff (e_buildSliceK (cs := (Tg.mk k1 u1 n1 t1 A1 cap1 l1).cells ++ (Tg.mk k2 u2 n2 t2 A2 cap2 l2).cells) rfl u_35 i_38 rfl rfl rfl rfl rfl) rfl ?_; rintro _ _ _ ⟨b7, rfl, rfl, rfl⟩
  refine WL.eff (e_call rfl (c163 (k := 6) (A := some (ad b7 0)) (l := [(Tg.mk k1 u1 n1 t1 A1 cap1 l1), (Tg.mk k2 u2 n2 t2 A2 cap2 l2)]))) rfl ?_; rintro _ _ _ ⟨rfl, rfl, rfl⟩
  refine WL.effn (e_storeAll 0 rfl rfl rfl i_38 rfl (Tg.len _) (by first | (simp [Value.cells, Tg.len]; done) | (simp [Value.cells, Tg.cells]; done)) (Tg.ones _)) ?_; rintro _ _ _ ⟨rfl, rfl, rfl⟩
  refine WL.nil ?_
  refine AT.then_n ?_
  refine WC.ret ?_
  exact AT.done rfl (RO.cellA (T := 38) rfl rfl a_38 i_38 (Cells.pt 0 rfl) (Tg.len _)) (TRet.mk2 rfl (Ent.refl _).left (Rows.two Ent.right rfl hT.left hU.left) hs hs2) (Imp.drop (Imp.drop (Imp.drop (Imp.refl _ _))))

theorem c70 {own : List SP} {K : PH → Prop} {T : Tg} (hT : Ent K T.ok) (hs : T.small) : Spec Try.prog 70 [.agg T.cells.toArray] (own) (K)
    (TRet own K (.mk 5 0 0 [] [T.er])) := by
  obtain ⟨k1, u1, n1, t1, A1, cap1, l1⟩ := T
  refine Spec.of en_70 Try.func70 rfl rfl fun g => ?_
  refine WC.seq ?_
  refine WC.region ?_
  refine WL.eff (e_box rfl) rfl ?_; rintro _ _ _ ⟨b1, rfl, rfl, rfl⟩
  refine WL.eff (e_alloc i_38) rfl ?_; rintro _ _ _ ⟨b2, rfl, rfl, rfl⟩
  refine WL.nil ?_
  refine AT.then_n ?_
  refine WC.seq ?_
  refine WC.region ?_
  refine WL.q (q_loadA rfl a_38 i_38 (Cells.pt 1 rfl) (Tg.len _)) rfl ?_
  refine WL.eff (e_buildSliceK (cs := (Tg.mk k1 u1 n1 t1 A1 cap1 l1).cells) rfl u_35 i_38 rfl rfl rfl rfl rfl) rfl ?_; rintro _ _ _ ⟨b7, rfl, rfl, rfl⟩
  refine WL.eff (e_call rfl (c163 (k := 5) (A := some (ad b7 0)) (l := [(Tg.mk k1 u1 n1 t1 A1 cap1 l1)]))) rfl ?_; rintro _ _ _ ⟨rfl, rfl, rfl⟩
  refine WL.effn (e_storeAll 0 rfl rfl rfl i_38 rfl (Tg.len _) (by first | (simp [Value.cells, Tg.len]; done) | (simp [Value.cells, Tg.cells]; done)) (Tg.ones _)) ?_; rintro _ _ _ ⟨rfl, rfl, rfl⟩
  refine WL.nil ?_
  refine AT.then_n ?_
  refine WC.ret ?_
  exact AT.done rfl (RO.cellA (T := 38) rfl rfl a_38 i_38 (Cells.pt 0 rfl) (Tg.len _)) (TRet.mk1 rfl (Ent.refl _).left (Rows.one Ent.right rfl hT.left) hs) (Imp.drop (Imp.drop (Imp.refl _ _)))

theorem c143 {own : List SP} {K : PH → Prop} {T : Tg} {u : Int} (hT : Ent K T.ok) (hs : T.small) : Spec Try.prog 143 [.int .i64 u, .agg T.cells.toArray] (own) (K)
    (TRet own K (.mk 7 u 0 [] [T.er])) := by
  obtain ⟨k1, u1, n1, t1, A1, cap1, l1⟩ := T
  refine Spec.of en_143 Try.func143 rfl rfl fun g => ?_
  refine WC.seq ?_
  refine WC.region ?_
  refine WL.eff (e_box rfl) rfl ?_; rintro _ _ _ ⟨b1, rfl, rfl, rfl⟩
  refine WL.eff (e_alloc i_38) rfl ?_; rintro _ _ _ ⟨b2, rfl, rfl, rfl⟩
  refine WL.nil ?_
  refine AT.then_n ?_
  refine WC.seq ?_
  refine WC.region ?_
  refine WL.q (q_loadA rfl a_38 i_38 (Cells.pt 1 rfl) (Tg.len _)) rfl ?_
  refine WL.eff (e_buildSliceK (cs := (Tg.mk k1 u1 n1 t1 A1 cap1 l1).cells) rfl u_35 i_38 rfl rfl rfl rfl rfl) rfl ?_; rintro _ _ _ ⟨b7, rfl, rfl, rfl⟩
  refine WL.eff (e_call rfl (c163 (k := 7) (A := some (ad b7 0)) (l := [(Tg.mk k1 u1 n1 t1 A1 cap1 l1)]))) rfl ?_; rintro _ _ _ ⟨rfl, rfl, rfl⟩
  refine WL.eff (e_alloc i_38) rfl ?_; rintro _ _ _ ⟨b5, rfl, rfl, rfl⟩
  refine WL.effn (e_storeAll 0 rfl rfl rfl i_38 rfl (Tg.len _) (by first | (simp [Value.cells, Tg.len]; done) | (simp [Value.cells, Tg.cells]; done)) (Tg.ones _)) ?_; rintro _ _ _ ⟨rfl, rfl, rfl⟩
  refine WL.nil ?_
  refine AT.then_n ?_
  refine WC.seq ?_
  refine WC.region ?_
  refine WL.q (q_move rfl) rfl ?_
  refine WL.q (q_fieldAddr rfl fo_38_1) rfl ?_
  refine WL.effn (e_store 0 rfl rfl rfl i_3 rfl (by simp [Tg.cells])) ?_; rintro _ _ _ ⟨rfl, rfl, rfl⟩
  refine WL.nil ?_
  refine AT.then_n ?_
  refine WC.seq ?_
  refine WC.region ?_
  refine WL.q (q_loadA (vs := (Tg.mk 7 u 0 [] (some (ad b7 0)) 1 [(Tg.mk k1 u1 n1 t1 A1 cap1 l1)]).cells) rfl a_38 i_38 (Cells.pt 0 rfl) (Tg.len _)) rfl ?_
  refine WL.effn (e_storeAll 1 rfl rfl rfl i_38 rfl (Tg.len _) (by first | (simp [Value.cells, Tg.len]; done) | (simp [Value.cells, Tg.cells]; done)) (Tg.ones _)) ?_; rintro _ _ _ ⟨rfl, rfl, rfl⟩
  refine WL.nil ?_
  refine AT.then_n ?_
  refine WC.ret ?_
  exact AT.done rfl (RO.cellA (T := 38) rfl rfl a_38 i_38 (Cells.pt 1 rfl) (Tg.len _)) (TRet.mk1 rfl (Ent.refl _).left (Rows.one Ent.right rfl hT.left) hs) (Imp.drop (Imp.drop (Imp.drop (Imp.refl _ _))))

theorem c144 {own : List SP} {K : PH → Prop} {T : Tg} {u n : Int} (hT : Ent K T.ok) (hs : T.small) : Spec Try.prog 144 [.int .i64 u, .int .i64 n, .agg T.cells.toArray] (own) (K)
    (TRet own K (.mk 8 u n [] [T.er])) := by
  obtain ⟨k1, u1, n1, t1, A1, cap1, l1⟩ := T
  refine Spec.of en_144 Try.func144 rfl rfl fun g => ?_
  refine WC.seq ?_
  refine WC.region ?_
  refine WL.eff (e_box rfl) rfl ?_; rintro _ _ _ ⟨b1, rfl, rfl, rfl⟩
  refine WL.eff (e_alloc i_38) rfl ?_; rintro _ _ _ ⟨b2, rfl, rfl, rfl⟩
  refine WL.nil ?_
  refine AT.then_n ?_
  refine WC.seq ?_
  refine WC.region ?_
  refine WL.q (q_loadA rfl a_38 i_38 (Cells.pt 1 rfl) (Tg.len _)) rfl ?_
  refine WL.eff (e_buildSliceK (cs := (Tg.mk k1 u1 n1 t1 A1 cap1 l1).cells) rfl u_35 i_38 rfl rfl rfl rfl rfl) rfl ?_; rintro _ _ _ ⟨b7, rfl, rfl, rfl⟩
  refine WL.eff (e_call rfl (c163 (k := 8) (A := some (ad b7 0)) (l := [(Tg.mk k1 u1 n1 t1 A1 cap1 l1)]))) rfl ?_; rintro _ _ _ ⟨rfl, rfl, rfl⟩
  refine WL.eff (e_alloc i_38) rfl ?_; rintro _ _ _ ⟨b5, rfl, rfl, rfl⟩
  refine WL.effn (e_storeAll 0 rfl rfl rfl i_38 rfl (Tg.len _) (by first | (simp [Value.cells, Tg.len]; done) | (simp [Value.cells, Tg.cells]; done)) (Tg.ones _)) ?_; rintro _ _ _ ⟨rfl, rfl, rfl⟩
  refine WL.nil ?_
  refine AT.then_n ?_
  refine WC.seq ?_
  refine WC.region ?_
  refine WL.q (q_move rfl) rfl ?_
  refine WL.q (q_move rfl) rfl ?_
  refine WL.q (q_fieldAddr rfl fo_38_1) rfl ?_
  refine WL.effn (e_store 0 rfl rfl rfl i_3 rfl (by simp [Tg.cells])) ?_; rintro _ _ _ ⟨rfl, rfl, rfl⟩
  refine WL.q (q_fieldAddr rfl fo_38_2) rfl ?_
  refine WL.effn (e_store 0 rfl rfl rfl i_3 rfl (by simp [Tg.cells])) ?_; rintro _ _ _ ⟨rfl, rfl, rfl⟩
  refine WL.nil ?_
  refine AT.then_n ?_
  refine WC.seq ?_
  refine WC.region ?_
  refine WL.q (q_loadA (vs := (Tg.mk 8 u n [] (some (ad b7 0)) 1 [(Tg.mk k1 u1 n1 t1 A1 cap1 l1)]).cells) rfl a_38 i_38 (Cells.pt 0 rfl) (Tg.len _)) rfl ?_
  refine WL.effn (e_storeAll 1 rfl rfl rfl i_38 rfl (Tg.len _) (by first | (simp [Value.cells, Tg.len]; done) | (simp [Value.cells, Tg.cells]; done)) (Tg.ones _)) ?_; rintro _ _ _ ⟨rfl, rfl, rfl⟩
  refine WL.nil ?_
  refine AT.then_n ?_
  refine WC.ret ?_
  exact AT.done rfl (RO.cellA (T := 38) rfl rfl a_38 i_38 (Cells.pt 1 rfl) (Tg.len _)) (TRet.mk1 rfl (Ent.refl _).left (Rows.one Ent.right rfl hT.left) hs) (Imp.drop (Imp.drop (Imp.drop (Imp.refl _ _))))


def listT : List Tm → Tm
  | [] => .mk 1 0 0 [] []
  | x :: l => .mk 4 0 0 [] [x, listT l]
theorem listT_drop {l : List Tg} {i : Nat} (h : i < l.length) : listT (erL (l.drop i)) = .mk 4 0 0 [] [l[i].er, listT (erL (l.drop (i + 1)))] := by
  rw [List.drop_eq_getElem_cons h, erL, listT]

theorem c231 {g : Os × Array (Nat × ByteArray)} {σ : Type} {I : Nat → σ → Prop} {O : σ → List SP} {KF : σ → PH → Prop} {l : List Tg} {A : Option Addr} {cap tc : Nat} {Y : Value} {s0 : σ} (hl : l.length ≤ 100000) (hrow : ∀ j s, I j s → Rows (KF s) A l) (h0 : I l.length s0) (hY : ∀ j s (h : j < l.length), I (j + 1) s → VS Try.prog g Y [.int .i64 j, .agg l[j].cells.toArray] (Pt tc (.cells ([.slice A l.length cap] : List Value).toArray 35 (0, 0)) :: O s) (KF s) (fun v o k => v = .bool true ∧ ∃ s2, I j s2 ∧ o = Pt tc (.cells ([.slice A l.length cap] : List Value).toArray 35 (0, 0)) :: O s2 ∧ k = KF s2)) : SpecAt g Try.prog 231 [Y, .pointer (some (ad tc 0))] (Pt tc (.cells ([.slice A l.length cap] : List Value).toArray 35 (0, 0)) :: O s0) (KF s0)
    (fun v o k => v = .tuple #[] ∧ ∃ s2, I 0 s2 ∧ o = Pt tc (.cells ([.slice A l.length cap] : List Value).toArray 35 (0, 0)) :: O s2 ∧ k = KF s2) := by
  refine SpecAt.of en_231 Try.func231 rfl rfl ?_
  refine WC.seq ?_
  refine WC.region ?_
  refine WL.q (q_load rfl a_35 (by first | exact Cell.ptL 0 rfl rfl | exact Cell.ptL 1 rfl rfl | exact Cell.ptL 2 rfl rfl | exact Cell.ptL 3 rfl rfl | exact Cell.ptL 4 rfl rfl)) rfl ?_
  refine WL.q (q_len rfl u_35) rfl ?_
  first | refine WL.q (q_sub64 rfl rfl (by omega)) rfl ?_ | refine WL.q (q_sub rfl rfl) rfl ?_
  refine WL.q (q_assign rfl) rfl ?_
  refine WL.nil ?_
  refine AT.then_n ?_
  refine WC.block ?_
  refine WC.loop (σ := Nat × σ) (fun ⟨i, s⟩ => i ≤ l.length ∧ I i s) (fun ⟨i, s⟩ => [(3, .int .i64 ((i : Int) - 1)), (0, Y), (1, .pointer (some (ad tc 0)))]) (fun ⟨i, s⟩ => Pt tc (.cells ([.slice A l.length cap] : List Value).toArray 35 (0, 0)) :: O s) (fun ⟨i, s⟩ => KF s) (fun ⟨i, s⟩ => i) (l.length, s0) ⟨Nat.le_refl _, h0⟩ ⟨rfl, rfl, rfl, trivial⟩ (Imp.refl _ _) ?_
  rintro ⟨i, s⟩ ⟨hi, hT⟩
  simp only at hi hT ⊢
  refine WC.seq ?_
  refine WC.seq ?_
  refine WC.region ?_
  refine WL.q (q_move rfl) rfl ?_
  refine WL.q (q_geq rfl rfl) rfl ?_
  refine WL.nil ?_
  refine AT.then_n ?_
  refine WC.cond rfl (fun h1 => ?_) (fun h1 => ?_)
  · -- if 1: yes
    try have p1 := of_decide_eq_true h1
    obtain ⟨i, rfl⟩ : ∃ i2, i = i2 + 1 := ⟨i - 1, by omega⟩
    have hlt : i < l.length := by omega
    have hrow := hrow _ _ hT
    have hidx : ((i + 1 : Nat) : Int) - 1 = i := by omega
    simp only [hidx]
    refine WC.skip ?_
    refine AT.then_n ?_
    refine WC.seq ?_
    refine WC.block ?_
    refine WC.seq ?_
    refine WC.region ?_
    refine WL.q (q_move rfl) rfl ?_
    refine WL.q (q_move rfl) rfl ?_
    refine WL.q (q_load rfl a_35 (by first | exact Cell.ptL 0 rfl rfl | exact Cell.ptL 1 rfl rfl | exact Cell.ptL 2 rfl rfl | exact Cell.ptL 3 rfl rfl | exact Cell.ptL 4 rfl rfl)) rfl ?_
    refine WL.q (q_move rfl) rfl ?_
    refine WL.q (q_indexAddr rfl rfl u_35 i_38 (Based.row hrow.row (by rw [flat_len Tg.cells 5 Tg.len]; omega)) (by omega)) rfl ?_
    refine WL.q (q_loadA rfl a_38 i_38 (Cells.at hrow.row Tg.len hlt) (Tg.len _)) rfl ?_
    refine WL.eff (e_callV rfl rfl (hY i s hlt hT)) rfl ?_; rintro _ _ _ ⟨rfl, s9, hT9, rfl, rfl⟩
    refine WL.q (q_not rfl) rfl ?_
    refine WL.nil ?_
    refine AT.then_n ?_
    refine WC.condHF rfl (rfl) ?_
    refine WC.skip ?_
    refine AT.blk_n ?_
    refine AT.then_n ?_
    refine WC.region ?_
    refine WL.q (q_move rfl) rfl ?_
    first | refine WL.q (q_sub64 rfl rfl (by omega)) rfl ?_ | refine WL.q (q_sub rfl rfl) rfl ?_
    refine WL.q (q_assign rfl) rfl ?_
    refine WL.nil ?_
    refine AT.mid (i, s9) ⟨⟨by simp only; omega, hT9⟩, by simp only; omega⟩ ⟨rfl, rfl, rfl, trivial⟩ (Imp.refl _ _)
  · -- if 1: no
    try have p1 := of_decide_eq_false h1
    refine WC.exit ?_
    refine AT.then_e ?_
    refine AT.then_e ?_
    refine AT.blk_e ?_
    have hi0 : i = 0 := by omega
    subst hi0
    exact AT.doneN rfl (RO.none rfl) ⟨rfl, s, hT, rfl, rfl⟩ (Imp.refl _ _)

theorem c168 {own : List SP} {K : PH → Prop} {A : Option Addr} {n cap : Nat} : Spec Try.prog 168 [.slice A n cap] (own) (K)
    (fun v o k => ∃ tc, v = .func (.func 231) #[] #[.pointer (some (ad tc 0))] ∧ o = Pt tc (.cells ([.slice A n cap] : List Value).toArray 35 (0, 0)) :: own ∧ K = k) := by
  refine Spec.of en_168 Try.func168 rfl rfl fun g => ?_
  refine WC.seq ?_
  refine WC.region ?_
  refine WL.eff (e_box rfl) rfl ?_; rintro _ _ _ ⟨b1, rfl, rfl, rfl⟩
  refine WL.q (q_assign rfl) rfl ?_
  refine WL.nil ?_
  refine AT.then_n ?_
  refine WC.seq ?_
  refine WC.region ?_
  refine WL.q (q_makeFunc rfl rfl) rfl ?_
  refine WL.q (q_assign rfl) rfl ?_
  refine WL.nil ?_
  refine AT.then_n ?_
  refine WC.ret ?_
  exact AT.done rfl (RO.one rfl rfl) ⟨_, rfl, rfl, rfl⟩ (Imp.refl _ _)

theorem c78 {own : List SP} {K : PH → Prop} {g : Os × Array (Nat × ByteArray)} {ls : List Tg} {A : Option Addr} {cap : Nat} (hl : ls.length ≤ 100000) (hrow : Rows K A ls) (hs : ∀ x ∈ ls, x.small) : SpecAt g Try.prog 78 [.slice A ls.length cap] (own) (K)
    (TRet own K (listT (erL ls))) := by
  refine SpecAt.ofM en_78 Try.func78 rfl rfl ?_
  refine WC.seq ?_
  refine WC.region ?_
  refine WL.eff (e_alloc i_38) rfl ?_; rintro _ _ _ ⟨b1, rfl, rfl, rfl⟩
  refine WL.nil ?_
  refine AT.then_n ?_
  refine WC.seq ?_
  refine WC.region ?_
  refine WL.eff (e_call rfl (c66 (t := []))) rfl ?_; rintro _ _ _ ⟨rfl, rfl, rfl⟩
  refine WL.eff (e_alloc i_38) rfl ?_; rintro _ _ _ ⟨b2, rfl, rfl, rfl⟩
  refine WL.effn (e_storeAll 0 rfl rfl rfl i_38 rfl (Tg.len _) (by first | (simp [Value.cells, Tg.len]; done) | (simp [Value.cells, Tg.cells]; done)) (Tg.ones _)) ?_; rintro _ _ _ ⟨rfl, rfl, rfl⟩
  refine WL.nil ?_
  refine AT.then_n ?_
  refine WC.seq ?_
  refine WC.seq ?_
  refine WC.region ?_
  refine WL.q (q_move rfl) rfl ?_
  refine WL.eff (e_call rfl c168) rfl ?_; rintro _ _ _ ⟨tc, rfl, rfl, rfl⟩
  refine WL.nil ?_
  refine AT.then_n ?_
  refine WC.block ?_
  refine WC.rangeFuncL (fun Lp d v o k => v = .tuple #[] ∧ ∃ s : Tg × (PH → Prop), (fun j s => Ent s.2 K ∧ Ent s.2 s.1.ok ∧ s.1.er = listT (erL (ls.drop j)) ∧ s.1.small) 0 s ∧ o = Pt tc (.cells ([.slice A ls.length cap] : List Value).toArray 35 (0, 0)) :: (fun s => Lp .ready none :: Pt d (.deferred (some [])) :: Pt b2 (.cells s.1.cells.toArray 38 (0, 0)) :: Pt b1 (.cells (Value.agg #[.int .i64 0, .int .i64 0, .int .i64 0, .string (bs []), .slice none 0 0]).cells 38 (0, 0)) :: own) s ∧ k = s.2) rfl rfl (fun l d fn tmps Lp hLp hN he => ?_) (fun l d fn tmps Lp hLp v o k hΦ => ?_)
  · -- the rounds
    refine SpecAt.pre (Imp.front 2 rfl) (c231 (σ := Tg × (PH → Prop)) (I := fun j s => Ent s.2 K ∧ Ent s.2 s.1.ok ∧ s.1.er = listT (erL (ls.drop j)) ∧ s.1.small) (O := fun s => Lp .ready none :: Pt d (.deferred (some [])) :: Pt b2 (.cells s.1.cells.toArray 38 (0, 0)) :: Pt b1 (.cells (Value.agg #[.int .i64 0, .int .i64 0, .int .i64 0, .string (bs []), .slice none 0 0]).cells 38 (0, 0)) :: own) (KF := fun s => s.2) (s0 := (Tg.mk 1 0 0 [] none 0 [], K)) hl (fun j s h => hrow.weak h.1) ⟨Ent.refl _, Ent.leaf, by rw [List.drop_length]; rfl, Tg.small_mk.2 ⟨by simp, by simp, by simp⟩⟩ (fun j s hj hI => ?_))
    obtain ⟨T0, k0⟩ := s
    obtain ⟨hk0, hT0, he0, hs0⟩ := hI
    simp only at hk0 hT0 he0 hs0
    refine VS.yield 1 (congrArg some (hLp _ _)) rfl hN he rfl ?_
    refine WC.region ?_
    refine WL.eff (e_alloc i_38) rfl ?_; rintro _ _ _ ⟨b6, rfl, rfl, rfl⟩
    refine WL.effn (e_storeAll 0 rfl rfl rfl i_38 rfl (Tg.len _) (by first | (simp [Value.cells, Tg.len]; done) | (simp [Value.cells, Tg.cells]; done)) (Tg.ones _)) ?_; rintro _ _ _ ⟨rfl, rfl, rfl⟩
    refine WL.nil ?_
    refine AT.begin 2 rfl (congrArg some (hLp _ _)) ?_
    refine WC.block ?_
    refine WC.region ?_
    refine WL.q (q_loadA rfl a_38 i_38 (Cells.pt 0 rfl) (Tg.len _)) rfl ?_
    refine WL.q (q_loadA rfl a_38 i_38 (Cells.pt 4 rfl) (Tg.len _)) rfl ?_
    refine WL.eff (e_call rfl (c72 (hrow.ok _ (List.getElem_mem hj) |> fun h => hk0.trans h) (hs _ (List.getElem_mem hj)) hT0 hs0)) rfl ?_; rintro _ _ k9 ⟨T9, rfl, rfl, hk9, hT9, he9, hs9⟩
    refine WL.effn (e_storeAll 4 rfl rfl rfl i_38 rfl (Tg.len _) (by first | (simp [Value.cells, Tg.len]; done) | (simp [Value.cells, Tg.cells]; done)) (Tg.ones _)) ?_; rintro _ _ _ ⟨rfl, rfl, rfl⟩
    refine WL.nil ?_
    refine AT.blk_n ?_
    refine AT.rdN 2 rfl ⟨rfl, (T9, k9), ⟨hk9.trans hk0, hT9, by rw [he9, he0, listT_drop hj], hs9⟩, rfl, rfl⟩ (Imp.drop (Imp.eq ?_))
    simp [hLp]
  · -- behind the rounds
    obtain ⟨rfl, ⟨T9, k9⟩, ⟨hk9, hT9, he9, hs9⟩, rfl, rfl⟩ := hΦ
    simp only at hk9 hT9 he9 hs9
    refine ⟨1, _, _, rfl, rfl, ?_⟩
    show AT _ .normal _ _ _ _
    refine AT.blk_n ?_
    refine AT.then_n ?_
    refine WC.seq ?_
    refine WC.region ?_
    refine WL.q (q_loadA rfl a_38 i_38 (Cells.pt 2 rfl) (Tg.len _)) rfl ?_
    refine WL.effn (e_storeAll 3 rfl rfl rfl i_38 rfl (Tg.len _) (by first | (simp [Value.cells, Tg.len]; done) | (simp [Value.cells, Tg.cells]; done)) (Tg.ones _)) ?_; rintro _ _ _ ⟨rfl, rfl, rfl⟩
    refine WL.nil ?_
    refine AT.then_n ?_
    refine WC.ret ?_
    exact AT.doneM 1 rfl rfl (RO.cellA (T := 38) rfl rfl a_38 i_38 (Cells.pt 2 rfl) (Tg.len _)) ⟨T9, rfl, rfl, hk9, hT9, by simpa using he9, hs9⟩ (Imp.drop (Imp.drop (Imp.drop (Imp.refl _ _))))


/-- The terms of a list of pairs, and what ends it. -/
inductive Spn : Tm → List Tm → Tm → Prop
  | stop {T : Tm} (h : T.kind ≠ 4) : Spn T [] T
  | step {u n : Int} {t : List UInt8} {x y R : Tm} {L : List Tm} (h : Spn y L R) : Spn (.mk 4 u n t [x, y]) (x :: L) R
theorem Spn.inv4 {k u n : Int} {t : List UInt8} {l L : List Tm} {R : Tm} (h : Spn (.mk k u n t l) L R) (hk : k = 4) : ∃ x y L2, l = [x, y] ∧ L = x :: L2 ∧ Spn y L2 R := by
  generalize hT : Tm.mk k u n t l = T at h
  cases h with
  | stop h => subst hT; exact absurd hk h
  | step h => cases hT; exact ⟨_, _, _, rfl, rfl, h⟩
theorem Spn.inv {T R : Tm} {L : List Tm} (h : Spn T L R) (hk : T.kind ≠ 4) : L = [] ∧ R = T := by
  cases h with
  | stop h => exact ⟨rfl, rfl⟩
  | step h => exact absurd rfl hk
theorem Spn.list : ∀ (l : List Tm), Spn (listT l) l (.mk 1 0 0 [] [])
  | [] => .stop (by decide)
  | x :: l => .step (Spn.list l)
theorem erL_two {l : List Tg} {x y : Tm} (h : erL l = [x, y]) : ∃ X Y, l = [X, Y] ∧ X.er = x ∧ Y.er = y := by
  match l, h with
  | [X, Y], h => simp [erL] at h; exact ⟨X, Y, rfl, h.1, h.2⟩
  | [], h => simp [erL] at h
  | [X], h => simp [erL] at h
  | X :: Y :: Z :: l, h => simp [erL] at h
theorem erL_len (l : List Tg) : (erL l).length = l.length := by rw [erL_map, List.length_map]

theorem c68_no {own : List SP} {K : PH → Prop} {T : Tg} (hT : Ent K T.ok) (hs : T.small) (hz : szP T.er = 0) : Spec Try.prog 68 [.agg T.cells.toArray] (own) (K)
    (Ret (.tuple #[.slice none 0 0, .bool false]) own K) := by
  refine Spec.of en_68 Try.func68 rfl rfl fun g => ?_
  refine WC.seq ?_
  refine WC.region ?_
  refine WL.eff (e_box rfl) rfl ?_; rintro _ _ _ ⟨b1, rfl, rfl, rfl⟩
  refine WL.q (q_assign rfl) rfl ?_
  refine WL.q (q_assign rfl) rfl ?_
  refine WL.nil ?_
  refine AT.then_n ?_
  refine WC.seq ?_
  refine WC.seq ?_
  refine WC.region ?_
  refine WL.q (q_loadA rfl a_38 i_38 (Cells.pt 0 rfl) (Tg.len _)) rfl ?_
  refine WL.eff (e_call rfl (c161 (T := T) hT hs)) rfl ?_; rintro _ _ _ ⟨rfl, rfl, rfl⟩
  refine WL.q (q_eql rfl rfl) rfl ?_
  refine WL.nil ?_
  refine AT.then_n ?_
  refine WC.condHT rfl (by rw [hz]; rfl) ?_
  refine WC.seq ?_
  refine WC.region ?_
  refine WL.q (q_assign rfl) rfl ?_
  refine WL.q (q_assign rfl) rfl ?_
  refine WL.nil ?_
  refine AT.then_n ?_
  refine WC.ret ?_
  refine AT.then_r ?_
  exact AT.done rfl (RO.two rfl rfl rfl) ⟨rfl, rfl, rfl⟩ (Imp.drop (Imp.refl _ _))

theorem c68_bad {own : List SP} {K : PH → Prop} {T : Tg} {L : List Tm} {R : Tm} (hT : Ent K T.ok) (hs : T.small) (hz : szP T.er ≠ 0) (hS : Spn T.er L R) (hln : L.length ≤ 100000) (hR : R ≠ .mk 1 0 0 [] []) : Spec Try.prog 68 [.agg T.cells.toArray] (own) (K)
    (Ret (.tuple #[.slice none 0 0, .bool false]) own K) := by
  refine Spec.of en_68 Try.func68 rfl rfl fun g => ?_
  refine WC.seq ?_
  refine WC.region ?_
  refine WL.eff (e_box rfl) rfl ?_; rintro _ _ _ ⟨b1, rfl, rfl, rfl⟩
  refine WL.q (q_assign rfl) rfl ?_
  refine WL.q (q_assign rfl) rfl ?_
  refine WL.nil ?_
  refine AT.then_n ?_
  refine WC.seq ?_
  refine WC.seq ?_
  refine WC.region ?_
  refine WL.q (q_loadA rfl a_38 i_38 (Cells.pt 0 rfl) (Tg.len _)) rfl ?_
  refine WL.eff (e_call rfl (c161 (T := T) hT hs)) rfl ?_; rintro _ _ _ ⟨rfl, rfl, rfl⟩
  refine WL.q (q_eql rfl rfl) rfl ?_
  refine WL.nil ?_
  refine AT.then_n ?_
  refine WC.condHF rfl (by simpa using hz) ?_
  refine WC.skip ?_
  refine AT.then_n ?_
  refine WC.seq ?_
  refine WC.region ?_
  refine WL.q (q_assign rfl) rfl ?_
  refine WL.nil ?_
  refine AT.then_n ?_
  refine WC.seq ?_
  refine WC.block ?_
  refine WC.loop (σ := Tg × List Tg × List Tm × Option Addr × Nat) (fun ⟨s, D, L2, A2, c2⟩ => Ent K s.ok ∧ s.small ∧ Spn s.er L2 R ∧ erL D ++ L2 = L ∧ D.length ≤ c2 ∧ ∀ x ∈ D, Ent K x.ok ∧ x.small) (fun ⟨s, D, L2, A2, c2⟩ => [(4, .slice A2 D.length c2), (1, .pointer (some (ad b1 0)))]) (fun ⟨s, D, L2, A2, c2⟩ => Pt b1 (.cells s.cells.toArray 38 (0, 0)) :: ORow A2 c2 38 5 (D.flatMap Tg.cells) :: own) (fun _ => K) (fun ⟨s, D, L2, A2, c2⟩ => L2.length) (T, [], L, none, 0) ⟨hT, hs, hS, rfl, by simp, fun x hx => nomatch hx⟩ ⟨rfl, rfl, trivial⟩ (Imp.trans (Imp.orowNil 38 5) Imp.swap) ?_
  rintro ⟨⟨kk, uu, nn, tt, AA, cc, ll⟩, D, L2, A2, c2⟩ ⟨hT2, hs2, hS2, hL2, hc2, hD⟩
  simp only at hT2 hs2 hS2 hL2 hc2 hD ⊢
  refine WC.seq ?_
  refine WC.seq ?_
  refine WC.region ?_
  refine WL.q (q_fieldAddr rfl fo_38_0) rfl ?_
  refine WL.q (q_load rfl a_3 (by first | exact Cell.ptL 0 rfl rfl | exact Cell.ptL 1 rfl rfl | exact Cell.ptL 2 rfl rfl | exact Cell.ptL 3 rfl rfl | exact Cell.ptL 4 rfl rfl)) rfl ?_
  refine WL.q (q_eql rfl rfl) rfl ?_
  refine WL.nil ?_
  refine AT.then_n ?_
  refine WC.cond rfl (fun h2 => ?_) (fun h2 => ?_)
  · -- if 2: yes
    try have p2 := of_decide_eq_true h2
    obtain ⟨x, y, L3, hl, rfl, hS3⟩ := hS2.inv4 p2
    obtain ⟨X, Y, rfl, hX, hY⟩ := erL_two hl
    obtain ⟨ht9, hln9, htx9⟩ := Tg.small_mk.1 hs2
    have hsX := htx9 X (by simp)
    have hsY := htx9 Y (by simp)
    have hrow := Ent.kids hT2
    obtain ⟨k1, u1, n1, t1, A1, cap1, l1⟩ := X
    have hdl : D.length ≤ L.length := by rw [← hL2, List.length_append, erL_len]; omega
    refine WC.skip ?_
    refine AT.then_n ?_
    refine WC.block ?_
    refine WC.seq ?_
    refine WC.region ?_
    refine WL.q (q_move rfl) rfl ?_
    refine WL.q (q_fieldAddr rfl fo_38_4) rfl ?_
    refine WL.q (q_load rfl a_35 (by first | exact Cell.ptL 0 rfl rfl | exact Cell.ptL 1 rfl rfl | exact Cell.ptL 2 rfl rfl | exact Cell.ptL 3 rfl rfl | exact Cell.ptL 4 rfl rfl)) rfl ?_
    refine WL.q (q_indexAddr rfl rfl u_35 i_38 (Based.row hrow.row (by simp [Tg.len])) (by simp)) rfl ?_
    refine WL.q (q_loadA (vs := (Tg.mk k1 u1 n1 t1 A1 cap1 l1).cells) rfl a_38 i_38 (Cells.at (i := 0) hrow.row Tg.len (by simp)) (Tg.len _)) rfl ?_
    refine WL.eff (e_buildSliceK (cs := (Tg.mk k1 u1 n1 t1 A1 cap1 l1).cells) rfl u_35 i_38 rfl rfl rfl rfl rfl) rfl ?_; rintro _ _ _ ⟨b7, rfl, rfl, rfl⟩
    refine WL.eff (e_append 1 rfl rfl (Src.row Ent.right (k := 1) rfl rfl) rfl u_35 (.inl ⟨_, u_35⟩) i_38 rfl (by rw [flat_len Tg.cells 5 Tg.len]) rfl (Tg.ones _) (by omega)) rfl ?_; rintro _ _ _ ⟨A9, c9, rfl, rfl, rfl, hc9⟩
    refine WL.q (q_assign rfl) rfl ?_
    refine WL.nil ?_
    refine AT.then_n ?_
    refine WC.region ?_
    refine WL.q (q_fieldAddr rfl fo_38_4) rfl ?_
    refine WL.q (q_load rfl a_35 (by first | exact Cell.ptL 0 rfl rfl | exact Cell.ptL 1 rfl rfl | exact Cell.ptL 2 rfl rfl | exact Cell.ptL 3 rfl rfl | exact Cell.ptL 4 rfl rfl)) rfl ?_
    refine WL.q (q_indexAddr rfl rfl u_35 i_38 (Based.row hrow.left.row (by simp [Tg.len])) (by simp)) rfl ?_
    refine WL.q (q_loadA (vs := Y.cells) rfl a_38 i_38 (Cells.at (i := 1) hrow.left.row Tg.len (by simp)) (Tg.len _)) rfl ?_
    refine WL.effn (e_storeAll 0 rfl rfl rfl i_38 rfl (Tg.len _) (by simp [Value.cells, Tg.cells]) (Tg.ones _)) ?_; rintro _ _ _ ⟨rfl, rfl, rfl⟩
    refine WL.nil ?_
    refine AT.blk_n ?_
    refine AT.mid (Y, D ++ [(Tg.mk k1 u1 n1 t1 A1 cap1 l1)], L3, A9, c9) ⟨⟨hrow.ok _ (by simp), hsY, by rw [hY]; exact hS3, ?_, by simpa using hc9, ?_⟩, by simp⟩ ⟨vsl (by simp), rfl, trivial⟩ (Imp.trans (Imp.ent (Ent.refl _).left) (Imp.eq ?_))
    · rw [erL_map, List.map_append, ← erL_map, ← hL2, ← hX]; simp
    · intro x hx
      rcases List.mem_append.1 hx with hx | hx
      · exact hD x hx
      · rw [List.mem_singleton.1 hx]; exact ⟨hrow.ok _ (by simp), hsX⟩
    · simp [List.flatMap_append]
  · -- if 2: no
    try have p2 := of_decide_eq_false h2
    obtain ⟨rfl, rfl⟩ := hS2.inv p2
    rw [List.append_nil] at hL2
    refine WC.exit ?_
    refine AT.then_e ?_
    refine AT.then_e ?_
    refine AT.blk_e ?_
    refine AT.then_n ?_
    refine WC.seq ?_
    refine WC.seq ?_
    refine WC.drawS [3] _ _ mixed (NoPan.then (NoPan.then NoPan.body)) (Imp.refl _ _) rfl ?_
    refine WD.sched [(0, 0), (1, 2), (2, 1), (3, 0)] true (by decide +kernel) ?_
    refine WS.q 0 rfl (q_loadA rfl a_38 i_38 (Cells.pt 0 rfl) (Tg.len _)) rfl ?_
    refine WS.eff2 1 rfl (e_call rfl (c66 (t := []))) rfl ?_; rintro _ _ _ ⟨rfl, rfl, rfl⟩
    refine ⟨(by first | exact (Imp.refl _ _) | exact (Imp.sub (List.Sublist.cons _ (List.Sublist.refl _))) | exact (Imp.ent (Ent.left (Ent.refl _)))), ?_⟩
    refine WS.eff 2 rfl (e_call rfl (c77 (Tg.mk kk uu nn tt AA cc ll) (U := Tg.mk 1 0 0 [] none 0 []) hT2 hs2 Ent.leaf)) rfl ?_; rintro _ _ _ ⟨rfl, rfl, rfl⟩
    refine WS.q 3 rfl (q_not rfl) rfl ?_
    refine WS.done ?_
    refine AT.then_n ?_
    refine WC.condHT rfl (by rw [show beqT (Tg.mk kk uu nn tt AA cc ll).er (Tg.mk 1 0 0 [] none 0 []).er = false from by rw [← Bool.not_eq_true, beqT_iff]; exact hR]; rfl) ?_
    refine WC.seq ?_
    refine WC.region ?_
    refine WL.q (q_assign rfl) rfl ?_
    refine WL.q (q_assign rfl) rfl ?_
    refine WL.nil ?_
    refine AT.then_n ?_
    refine WC.ret ?_
    refine AT.then_r ?_
    exact AT.done rfl (RO.two rfl rfl rfl) ⟨rfl, rfl, rfl⟩ (Imp.drop (Imp.drop (Imp.refl _ _)))

theorem c68_ok {own : List SP} {K : PH → Prop} {T : Tg} {L : List Tm} {R : Tm} (hT : Ent K T.ok) (hs : T.small) (hz : szP T.er ≠ 0) (hS : Spn T.er L R) (hln : L.length ≤ 100000) (hR : R = .mk 1 0 0 [] []) : Spec Try.prog 68 [.agg T.cells.toArray] (own) (K)
    (fun v o k => ∃ A' cap' D, v = .tuple #[.slice A' D.length cap', .bool true] ∧ o = own ∧ Ent k K ∧ erL D = L ∧ Rows k A' D ∧ D.length ≤ cap' ∧ ∀ x ∈ D, x.small) := by
  refine Spec.of en_68 Try.func68 rfl rfl fun g => ?_
  refine WC.seq ?_
  refine WC.region ?_
  refine WL.eff (e_box rfl) rfl ?_; rintro _ _ _ ⟨b1, rfl, rfl, rfl⟩
  refine WL.q (q_assign rfl) rfl ?_
  refine WL.q (q_assign rfl) rfl ?_
  refine WL.nil ?_
  refine AT.then_n ?_
  refine WC.seq ?_
  refine WC.seq ?_
  refine WC.region ?_
  refine WL.q (q_loadA rfl a_38 i_38 (Cells.pt 0 rfl) (Tg.len _)) rfl ?_
  refine WL.eff (e_call rfl (c161 (T := T) hT hs)) rfl ?_; rintro _ _ _ ⟨rfl, rfl, rfl⟩
  refine WL.q (q_eql rfl rfl) rfl ?_
  refine WL.nil ?_
  refine AT.then_n ?_
  refine WC.condHF rfl (by simpa using hz) ?_
  refine WC.skip ?_
  refine AT.then_n ?_
  refine WC.seq ?_
  refine WC.region ?_
  refine WL.q (q_assign rfl) rfl ?_
  refine WL.nil ?_
  refine AT.then_n ?_
  refine WC.seq ?_
  refine WC.block ?_
  refine WC.loop (σ := Tg × List Tg × List Tm × Option Addr × Nat) (fun ⟨s, D, L2, A2, c2⟩ => Ent K s.ok ∧ s.small ∧ Spn s.er L2 R ∧ erL D ++ L2 = L ∧ D.length ≤ c2 ∧ ∀ x ∈ D, Ent K x.ok ∧ x.small) (fun ⟨s, D, L2, A2, c2⟩ => [(4, .slice A2 D.length c2), (1, .pointer (some (ad b1 0)))]) (fun ⟨s, D, L2, A2, c2⟩ => Pt b1 (.cells s.cells.toArray 38 (0, 0)) :: ORow A2 c2 38 5 (D.flatMap Tg.cells) :: own) (fun _ => K) (fun ⟨s, D, L2, A2, c2⟩ => L2.length) (T, [], L, none, 0) ⟨hT, hs, hS, rfl, by simp, fun x hx => nomatch hx⟩ ⟨rfl, rfl, trivial⟩ (Imp.trans (Imp.orowNil 38 5) Imp.swap) ?_
  rintro ⟨⟨kk, uu, nn, tt, AA, cc, ll⟩, D, L2, A2, c2⟩ ⟨hT2, hs2, hS2, hL2, hc2, hD⟩
  simp only at hT2 hs2 hS2 hL2 hc2 hD ⊢
  refine WC.seq ?_
  refine WC.seq ?_
  refine WC.region ?_
  refine WL.q (q_fieldAddr rfl fo_38_0) rfl ?_
  refine WL.q (q_load rfl a_3 (by first | exact Cell.ptL 0 rfl rfl | exact Cell.ptL 1 rfl rfl | exact Cell.ptL 2 rfl rfl | exact Cell.ptL 3 rfl rfl | exact Cell.ptL 4 rfl rfl)) rfl ?_
  refine WL.q (q_eql rfl rfl) rfl ?_
  refine WL.nil ?_
  refine AT.then_n ?_
  refine WC.cond rfl (fun h2 => ?_) (fun h2 => ?_)
  · -- if 2: yes
    try have p2 := of_decide_eq_true h2
    obtain ⟨x, y, L3, hl, rfl, hS3⟩ := hS2.inv4 p2
    obtain ⟨X, Y, rfl, hX, hY⟩ := erL_two hl
    obtain ⟨ht9, hln9, htx9⟩ := Tg.small_mk.1 hs2
    have hsX := htx9 X (by simp)
    have hsY := htx9 Y (by simp)
    have hrow := Ent.kids hT2
    obtain ⟨k1, u1, n1, t1, A1, cap1, l1⟩ := X
    have hdl : D.length ≤ L.length := by rw [← hL2, List.length_append, erL_len]; omega
    refine WC.skip ?_
    refine AT.then_n ?_
    refine WC.block ?_
    refine WC.seq ?_
    refine WC.region ?_
    refine WL.q (q_move rfl) rfl ?_
    refine WL.q (q_fieldAddr rfl fo_38_4) rfl ?_
    refine WL.q (q_load rfl a_35 (by first | exact Cell.ptL 0 rfl rfl | exact Cell.ptL 1 rfl rfl | exact Cell.ptL 2 rfl rfl | exact Cell.ptL 3 rfl rfl | exact Cell.ptL 4 rfl rfl)) rfl ?_
    refine WL.q (q_indexAddr rfl rfl u_35 i_38 (Based.row hrow.row (by simp [Tg.len])) (by simp)) rfl ?_
    refine WL.q (q_loadA (vs := (Tg.mk k1 u1 n1 t1 A1 cap1 l1).cells) rfl a_38 i_38 (Cells.at (i := 0) hrow.row Tg.len (by simp)) (Tg.len _)) rfl ?_
    refine WL.eff (e_buildSliceK (cs := (Tg.mk k1 u1 n1 t1 A1 cap1 l1).cells) rfl u_35 i_38 rfl rfl rfl rfl rfl) rfl ?_; rintro _ _ _ ⟨b7, rfl, rfl, rfl⟩
    refine WL.eff (e_append 1 rfl rfl (Src.row Ent.right (k := 1) rfl rfl) rfl u_35 (.inl ⟨_, u_35⟩) i_38 rfl (by rw [flat_len Tg.cells 5 Tg.len]) rfl (Tg.ones _) (by omega)) rfl ?_; rintro _ _ _ ⟨A9, c9, rfl, rfl, rfl, hc9⟩
    refine WL.q (q_assign rfl) rfl ?_
    refine WL.nil ?_
    refine AT.then_n ?_
    refine WC.region ?_
    refine WL.q (q_fieldAddr rfl fo_38_4) rfl ?_
    refine WL.q (q_load rfl a_35 (by first | exact Cell.ptL 0 rfl rfl | exact Cell.ptL 1 rfl rfl | exact Cell.ptL 2 rfl rfl | exact Cell.ptL 3 rfl rfl | exact Cell.ptL 4 rfl rfl)) rfl ?_
    refine WL.q (q_indexAddr rfl rfl u_35 i_38 (Based.row hrow.left.row (by simp [Tg.len])) (by simp)) rfl ?_
    refine WL.q (q_loadA (vs := Y.cells) rfl a_38 i_38 (Cells.at (i := 1) hrow.left.row Tg.len (by simp)) (Tg.len _)) rfl ?_
    refine WL.effn (e_storeAll 0 rfl rfl rfl i_38 rfl (Tg.len _) (by simp [Value.cells, Tg.cells]) (Tg.ones _)) ?_; rintro _ _ _ ⟨rfl, rfl, rfl⟩
    refine WL.nil ?_
    refine AT.blk_n ?_
    refine AT.mid (Y, D ++ [(Tg.mk k1 u1 n1 t1 A1 cap1 l1)], L3, A9, c9) ⟨⟨hrow.ok _ (by simp), hsY, by rw [hY]; exact hS3, ?_, by simpa using hc9, ?_⟩, by simp⟩ ⟨vsl (by simp), rfl, trivial⟩ (Imp.trans (Imp.ent (Ent.refl _).left) (Imp.eq ?_))
    · rw [erL_map, List.map_append, ← erL_map, ← hL2, ← hX]; simp
    · intro x hx
      rcases List.mem_append.1 hx with hx | hx
      · exact hD x hx
      · rw [List.mem_singleton.1 hx]; exact ⟨hrow.ok _ (by simp), hsX⟩
    · simp [List.flatMap_append]
  · -- if 2: no
    try have p2 := of_decide_eq_false h2
    obtain ⟨rfl, rfl⟩ := hS2.inv p2
    rw [List.append_nil] at hL2
    refine WC.exit ?_
    refine AT.then_e ?_
    refine AT.then_e ?_
    refine AT.blk_e ?_
    refine AT.then_n ?_
    refine WC.seq ?_
    refine WC.seq ?_
    refine WC.drawS [3] _ _ mixed (NoPan.then (NoPan.then NoPan.body)) (Imp.refl _ _) rfl ?_
    refine WD.sched [(0, 0), (1, 2), (2, 1), (3, 0)] true (by decide +kernel) ?_
    refine WS.q 0 rfl (q_loadA rfl a_38 i_38 (Cells.pt 0 rfl) (Tg.len _)) rfl ?_
    refine WS.eff2 1 rfl (e_call rfl (c66 (t := []))) rfl ?_; rintro _ _ _ ⟨rfl, rfl, rfl⟩
    refine ⟨(by first | exact (Imp.refl _ _) | exact (Imp.sub (List.Sublist.cons _ (List.Sublist.refl _))) | exact (Imp.ent (Ent.left (Ent.refl _)))), ?_⟩
    refine WS.eff 2 rfl (e_call rfl (c77 (Tg.mk kk uu nn tt AA cc ll) (U := Tg.mk 1 0 0 [] none 0 []) hT2 hs2 Ent.leaf)) rfl ?_; rintro _ _ _ ⟨rfl, rfl, rfl⟩
    refine WS.q 3 rfl (q_not rfl) rfl ?_
    refine WS.done ?_
    refine AT.then_n ?_
    refine WC.condHF rfl (by rw [show beqT (Tg.mk kk uu nn tt AA cc ll).er (Tg.mk 1 0 0 [] none 0 []).er = true from by rw [beqT_iff]; exact hR]; rfl) ?_
    refine WC.skip ?_
    refine AT.then_n ?_
    refine WC.seq ?_
    refine WC.region ?_
    refine WL.q (q_move rfl) rfl ?_
    refine WL.q (q_assign rfl) rfl ?_
    refine WL.q (q_assign rfl) rfl ?_
    refine WL.nil ?_
    refine AT.then_n ?_
    refine WC.ret ?_
    exact AT.done rfl (RO.two rfl rfl rfl) ⟨A2, c2, D, rfl, rfl, (Ent.refl _).left, hL2, ⟨Ent.right, fun x hx => (hD x hx).1.left⟩, hc2, fun x hx => (hD x hx).2⟩ (Imp.drop Imp.orowStay)

end Go.Proofs.Sl
