/- TopSectors: the examples of chapter 2, and the law. -/
import Derived.Test.YtimokikpnngikaaSlSec2
namespace Go.Proofs.Sl
open Go
set_option linter.unusedVariables false
set_option linter.unusedSimpArgs false

theorem nilRow' {K : PH → Prop} : Ent K (Row none []) := fun _ _ => .inl ⟨rfl, fun a h => nomatch h⟩
/-- The example's acts. -/
def exL (b1 : Nat) : List Trn := [⟨0, 2, 5, none, 0, []⟩, ⟨0, 0, 6, none, 0, []⟩, ⟨0, 2, 6, none, 0, []⟩, ⟨3, 2, 0, none, 0, []⟩, ⟨7, 0, 0, some (ad b1 0), 2, [true, false]⟩, ⟨3, 2, 0, none, 0, []⟩, ⟨3, 0, 0, none, 0, []⟩, ⟨0, 1, 6, none, 0, []⟩, ⟨4, 0, 0, none, 0, []⟩, ⟨0, 1, 5, none, 0, []⟩, ⟨8, 0, 0, none, 0, []⟩, ⟨7, 0, 0, none, 0, []⟩, ⟨3, 1, 0, none, 0, []⟩, ⟨5, 0, 1, none, 0, []⟩, ⟨3, 1, 0, none, 0, []⟩, ⟨0, 1, 5, none, 0, []⟩, ⟨3, 1, 0, none, 0, []⟩, ⟨7, 0, 0, none, 0, []⟩, ⟨6, 0, 2, none, 0, []⟩, ⟨0, 3, 5, none, 0, []⟩, ⟨3, 1, 0, none, 0, []⟩, ⟨4, 0, 0, none, 0, []⟩, ⟨4, 0, 0, none, 0, []⟩]
theorem exL_ok {K : PH → Prop} {b1 : Nat} (h : Ent K (Row (some (ad b1 0)) ([true, false].map Value.bool))) : ∀ x ∈ exL b1, (x.keep ≠ [] → Ent K (Row x.A (x.keep.map Value.bool))) ∧ x.keep.length ≤ 100 := by
  intro x hx
  simp only [exL, List.mem_cons, List.not_mem_nil, or_false] at hx
  rcases hx with rfl | rfl | rfl | rfl | rfl | rfl | rfl | rfl | rfl | rfl | rfl | rfl | rfl | rfl | rfl | rfl | rfl | rfl | rfl | rfl | rfl | rfl | rfl <;> exact ⟨fun h2 => by first | exact absurd rfl h2 | exact h, by simp⟩
theorem exL_crs (b1 : Nat) : crs (exL b1) = 3 := rfl

theorem c14z {own : List SP} {K : PH → Prop} {g : Os × Array (Nat × ByteArray)} {A0 : Option Addr} {c0 n : Nat} : SpecAt g Try.prog 14 [.int .i64 0, .slice A0 n c0] (own) (K)
    (Ret (.tuple #[.int .i64 0, .bool true]) own K) := by
  refine SpecAt.of en_14 Try.func14 rfl rfl ?_
  refine WC.seq ?_
  refine WC.region ?_
  refine WL.q (q_assign rfl) rfl ?_
  refine WL.q (q_assign rfl) rfl ?_
  refine WL.nil ?_
  refine AT.then_n ?_
  refine WC.seq ?_
  refine WC.region ?_
  refine WL.q (q_move rfl) rfl ?_
  refine WL.eff (e_call rfl (c47_bad (by omega))) rfl ?_; rintro _ _ _ ⟨rfl, rfl, rfl⟩
  refine WL.q (q_move rfl) rfl ?_
  refine WL.q (q_extract rfl rfl) rfl ?_
  refine WL.q (q_extract rfl rfl) rfl ?_
  refine WL.q (q_assign rfl) rfl ?_
  refine WL.q (q_assign rfl) rfl ?_
  refine WL.nil ?_
  refine AT.then_n ?_
  refine WC.seq ?_
  refine WC.seq ?_
  refine WC.region ?_
  refine WL.q (q_move rfl) rfl ?_
  refine WL.q (q_lss rfl rfl) rfl ?_
  refine WL.q (q_move rfl) rfl ?_
  refine WL.off rfl rfl rfl rfl ?_
  refine WL.off rfl rfl rfl rfl ?_
  refine WL.q (q_pickT rfl rfl rfl) rfl ?_
  refine WL.nil ?_
  refine AT.then_n ?_
  refine WC.condHT rfl (rfl) ?_
  refine WC.seq ?_
  refine WC.region ?_
  refine WL.q (q_move rfl) rfl ?_
  refine WL.q (q_eql rfl rfl) rfl ?_
  refine WL.q (q_assign rfl) rfl ?_
  refine WL.q (q_assign rfl) rfl ?_
  refine WL.nil ?_
  refine AT.then_n ?_
  refine WC.ret ?_
  refine AT.then_r ?_
  exact AT.done rfl (RO.two rfl rfl rfl) ⟨rfl, rfl, rfl⟩ (Imp.refl _ _)

theorem c13 {own : List SP} {K : PH → Prop} {g : Os × Array (Nat × ByteArray)}  : SpecAt g Try.prog 13 [] (own) (K)
    (Ret (.bool true) own K) := by
  refine SpecAt.of en_13 Try.func13 rfl rfl ?_
  refine WC.seq ?_
  refine WC.region ?_
  refine WL.q (q_assign rfl) rfl ?_
  refine WL.nil ?_
  refine AT.then_n ?_
  refine WC.seq ?_
  refine WC.region ?_
  refine WL.q (q_buildL rfl pl_31 i_31 rfl rfl) rfl ?_
  refine WL.q (q_buildL rfl pl_31 i_31 rfl rfl) rfl ?_
  refine WL.q (q_buildL rfl pl_31 i_31 rfl rfl) rfl ?_
  refine WL.q (q_buildL rfl pl_31 i_31 rfl rfl) rfl ?_
  refine WL.eff (e_buildSliceK rfl u_29 i_4 rfl rfl rfl rfl rfl) rfl ?_; rintro _ _ _ ⟨b1, rfl, rfl, rfl⟩
  refine WL.q (q_buildL rfl pl_31 i_31 rfl rfl) rfl ?_
  refine WL.q (q_buildL rfl pl_31 i_31 rfl rfl) rfl ?_
  refine WL.q (q_buildL rfl pl_31 i_31 rfl rfl) rfl ?_
  refine WL.q (q_buildL rfl pl_31 i_31 rfl rfl) rfl ?_
  refine WL.q (q_buildL rfl pl_31 i_31 rfl rfl) rfl ?_
  refine WL.q (q_buildL rfl pl_31 i_31 rfl rfl) rfl ?_
  refine WL.q (q_buildL rfl pl_31 i_31 rfl rfl) rfl ?_
  refine WL.q (q_buildL rfl pl_31 i_31 rfl rfl) rfl ?_
  refine WL.q (q_buildL rfl pl_31 i_31 rfl rfl) rfl ?_
  refine WL.q (q_buildL rfl pl_31 i_31 rfl rfl) rfl ?_
  refine WL.q (q_buildL rfl pl_31 i_31 rfl rfl) rfl ?_
  refine WL.q (q_buildL rfl pl_31 i_31 rfl rfl) rfl ?_
  refine WL.q (q_buildL rfl pl_31 i_31 rfl rfl) rfl ?_
  refine WL.q (q_buildL rfl pl_31 i_31 rfl rfl) rfl ?_
  refine WL.q (q_buildL rfl pl_31 i_31 rfl rfl) rfl ?_
  refine WL.q (q_buildL rfl pl_31 i_31 rfl rfl) rfl ?_
  refine WL.q (q_buildL rfl pl_31 i_31 rfl rfl) rfl ?_
  refine WL.q (q_buildL rfl pl_31 i_31 rfl rfl) rfl ?_
  refine WL.q (q_buildL rfl pl_31 i_31 rfl rfl) rfl ?_
  refine WL.eff (e_buildSliceSeq ((exL b1).flatMap Trn.cells) rfl u_28 i_31 rfl rfl rfl rfl rfl rfl rfl) rfl ?_; rintro _ _ _ ⟨b2, rfl, rfl, rfl⟩
  refine WL.eff (e_callAt rfl (c14 (many := 3) (l := exL b1) Ent.right (exL_ok (Ent.left Ent.right)) (by simp [exL]) (by decide))) rfl ?_; rintro _ _ _ ⟨rfl, rfl, rfl⟩
  rw [exL_crs]
  refine WL.q (q_move rfl) rfl ?_
  refine WL.q (q_extract rfl rfl) rfl ?_
  refine WL.q (q_extract rfl rfl) rfl ?_
  refine WL.q (q_assign rfl) rfl ?_
  refine WL.q (q_assign rfl) rfl ?_
  refine WL.nil ?_
  refine AT.then_n ?_
  refine WC.seq ?_
  refine WC.region ?_
  refine WL.eff (e_callAt rfl (w47 (n := 3) (by decide))) rfl ?_; rintro _ _ _ ⟨b, rfl, rfl, rfl⟩
  refine WL.q (q_move rfl) rfl ?_
  refine WL.q (q_extract rfl rfl) rfl ?_
  refine WL.q (q_extract rfl rfl) rfl ?_
  refine WL.q (q_assign rfl) rfl ?_
  refine WL.q (q_assign rfl) rfl ?_
  refine WL.nil ?_
  refine AT.then_n ?_
  refine WC.seq ?_
  refine WC.seq ?_
  refine WC.region ?_
  refine WL.q (q_move rfl) rfl ?_
  refine WL.q (q_neq rfl rfl) rfl ?_
  refine WL.q (q_move rfl) rfl ?_
  refine WL.on rfl rfl rfl ?_
  refine WL.q (q_move rfl) rfl ?_
  refine WL.on rfl rfl rfl ?_
  refine WL.q (q_eqlP rfl rfl u_83) rfl ?_
  refine WL.q (q_pickF rfl rfl rfl) rfl ?_
  refine WL.q (q_move rfl) rfl ?_
  refine WL.on rfl rfl rfl ?_
  refine WL.q (q_move rfl) rfl ?_
  refine WL.on rfl rfl rfl ?_
  refine WL.eff (e_call rfl (c49 (n := 1) (by omega))) rfl ?_; rintro _ _ _ ⟨rfl, rfl, rfl⟩
  refine WL.on rfl rfl rfl ?_
  refine WL.eff (e_callAt rfl (SpecAt.at_ 0 rfl (w48 (a := 2) (B := blkB 1) ⟨by decide, by decide, by decide, by decide, by decide, by decide⟩))) rfl ?_; rintro _ _ _ ⟨rfl, rfl, rfl⟩
  refine WL.on rfl rfl rfl ?_
  refine WL.q (q_neq rfl rfl) rfl ?_
  refine WL.q (q_pickF rfl rfl rfl) rfl ?_
  refine WL.q (q_move rfl) rfl ?_
  refine WL.on rfl rfl (by decide) ?_
  refine WL.q (q_move rfl) rfl ?_
  refine WL.on rfl rfl (by decide) ?_
  refine WL.eff (e_call rfl (c49 (n := 2) (by omega))) rfl ?_; rintro _ _ _ ⟨rfl, rfl, rfl⟩
  refine WL.on rfl rfl (by decide) ?_
  refine WL.eff (e_callAt rfl (SpecAt.at_ 0 rfl (w48 (d := ((DkS.new 3).wrote 2 (blkB 1))) (a := 0) (B := blkB 2) ⟨by decide, by decide, by decide, by decide, by decide, by decide⟩))) rfl ?_; rintro _ _ _ ⟨rfl, rfl, rfl⟩
  refine WL.on rfl rfl (by decide) ?_
  refine WL.q (q_neq rfl rfl) rfl ?_
  refine WL.q (q_pickF rfl (by decide) rfl) rfl ?_
  refine WL.q (q_move rfl) rfl ?_
  refine WL.on rfl rfl (by decide) ?_
  refine WL.q (q_move rfl) rfl ?_
  refine WL.on rfl rfl (by decide) ?_
  refine WL.eff (e_call rfl (c49 (n := 2) (by omega))) rfl ?_; rintro _ _ _ ⟨rfl, rfl, rfl⟩
  refine WL.on rfl rfl (by decide) ?_
  refine WL.eff (e_callAt rfl (SpecAt.at_ 0 rfl (w48 (d := (((DkS.new 3).wrote 2 (blkB 1)).wrote 0 (blkB 2))) (a := 2) (B := blkB 2) ⟨by decide, by decide, by decide, by decide, by decide, by decide⟩))) rfl ?_; rintro _ _ _ ⟨rfl, rfl, rfl⟩
  refine WL.on rfl rfl (by decide) ?_
  refine WL.q (q_neq rfl rfl) rfl ?_
  refine WL.q (q_pickF rfl (by decide) rfl) rfl ?_
  refine WL.nil ?_
  refine AT.then_n ?_
  refine WC.condHF rfl (by decide) ?_
  refine WC.skip ?_
  refine AT.then_n ?_
  refine WC.seq ?_
  refine WC.region ?_
  refine WL.q (q_move rfl) rfl ?_
  refine WL.eff (e_callAt rfl (SpecAt.at_ 0 rfl (w50 (d := ((((DkS.new 3).wrote 2 (blkB 1)).wrote 0 (blkB 2)).wrote 2 (blkB 2))) (a := 2) ⟨by decide, by decide, by decide, by decide, by decide, by decide⟩))) rfl ?_; rintro _ _ _ ⟨rfl, rfl, rfl⟩
  refine WL.q (q_move rfl) rfl ?_
  refine WL.q (q_extract rfl rfl) rfl ?_
  refine WL.q (q_extract rfl rfl) rfl ?_
  refine WL.eff (e_alloc i_88) rfl ?_; rintro _ _ _ ⟨b12, rfl, rfl, rfl⟩
  refine WL.effn (e_storeAll 0 (vs := (((((DkS.new 3).wrote 2 (blkB 1)).wrote 0 (blkB 2)).wrote 2 (blkB 2)).reads 2).map bv) rfl rfl rfl i_88 rfl (by simp [reads_len]) (by simp) (ones_bv _)) ?_; rintro _ _ _ ⟨rfl, rfl, rfl⟩
  refine WL.q (q_assign rfl) rfl ?_
  refine WL.nil ?_
  refine AT.then_n ?_
  refine WC.seq ?_
  refine WC.region ?_
  refine WL.q (q_move rfl) rfl ?_
  refine WL.eff (e_callAt rfl (SpecAt.pre (Imp.front 1 rfl) (w51 (d := (((((DkS.new 3).wrote 2 (blkB 1)).wrote 0 (blkB 2)).wrote 2 (blkB 2)).read 2)) ⟨by decide, by decide, by decide, by decide, by decide, by decide⟩))) rfl ?_; rintro _ _ K2 ⟨A5, c5, rfl, rfl, hK2, hrow⟩
  refine WL.q (q_assign rfl) rfl ?_
  refine WL.nil ?_
  refine AT.then_n ?_
  refine WC.seq ?_
  refine WC.region ?_
  refine WL.q (q_move rfl) rfl ?_
  refine WL.eff (e_buildSliceK rfl u_29 i_4 rfl rfl rfl rfl rfl) rfl ?_; rintro _ _ _ ⟨b5, rfl, rfl, rfl⟩
  refine WL.eff (e_callAt rfl (SpecAt.at_ 0 rfl (w52 (d := (((((DkS.new 3).wrote 2 (blkB 1)).wrote 0 (blkB 2)).wrote 2 (blkB 2)).read 2)) (keep := [true, false]) ⟨by decide, by decide, by decide, by decide, by decide, by decide⟩ fun _ => Ent.right))) rfl ?_; rintro _ _ _ ⟨rfl, rfl, rfl⟩
  refine WL.q (q_assign rfl) rfl ?_
  refine WL.nil ?_
  refine AT.then_n ?_
  refine WC.seq ?_
  refine WC.region ?_
  refine WL.q (q_move rfl) rfl ?_
  refine WL.eff (e_callAt rfl (SpecAt.at_ 0 rfl (w50 (d := ((((((DkS.new 3).wrote 2 (blkB 1)).wrote 0 (blkB 2)).wrote 2 (blkB 2)).read 2).crashed [true, false])) (a := 2) ⟨by decide, by decide, by decide, by decide, by decide, by decide⟩))) rfl ?_; rintro _ _ _ ⟨rfl, rfl, rfl⟩
  refine WL.q (q_move rfl) rfl ?_
  refine WL.q (q_extract rfl rfl) rfl ?_
  refine WL.q (q_extract rfl rfl) rfl ?_
  refine WL.eff (e_alloc i_88) rfl ?_; rintro _ _ _ ⟨b18, rfl, rfl, rfl⟩
  refine WL.effn (e_storeAll 0 (vs := (((((((DkS.new 3).wrote 2 (blkB 1)).wrote 0 (blkB 2)).wrote 2 (blkB 2)).read 2).crashed [true, false]).reads 2).map bv) rfl rfl rfl i_88 rfl (by simp [reads_len]) (by simp) (ones_bv _)) ?_; rintro _ _ _ ⟨rfl, rfl, rfl⟩
  refine WL.q (q_assign rfl) rfl ?_
  refine WL.nil ?_
  refine AT.then_n ?_
  refine WC.seq ?_
  refine WC.region ?_
  refine WL.q (q_move rfl) rfl ?_
  refine WL.eff (e_callAt rfl (SpecAt.at_ 1 rfl (w50 (d := (((((((DkS.new 3).wrote 2 (blkB 1)).wrote 0 (blkB 2)).wrote 2 (blkB 2)).read 2).crashed [true, false]).read 2)) (a := 0) ⟨by decide, by decide, by decide, by decide, by decide, by decide⟩))) rfl ?_; rintro _ _ _ ⟨rfl, rfl, rfl⟩
  refine WL.q (q_move rfl) rfl ?_
  refine WL.q (q_extract rfl rfl) rfl ?_
  refine WL.q (q_extract rfl rfl) rfl ?_
  refine WL.eff (e_alloc i_88) rfl ?_; rintro _ _ _ ⟨b21, rfl, rfl, rfl⟩
  refine WL.effn (e_storeAll 0 (vs := ((((((((DkS.new 3).wrote 2 (blkB 1)).wrote 0 (blkB 2)).wrote 2 (blkB 2)).read 2).crashed [true, false]).read 2).reads 0).map bv) rfl rfl rfl i_88 rfl (by simp [reads_len]) (by simp) (ones_bv _)) ?_; rintro _ _ _ ⟨rfl, rfl, rfl⟩
  refine WL.q (q_assign rfl) rfl ?_
  refine WL.nil ?_
  refine AT.then_n ?_
  refine WC.seq ?_
  refine WC.region ?_
  refine WL.eff (e_call rfl (c47_bad (by omega))) rfl ?_; rintro _ _ _ ⟨rfl, rfl, rfl⟩
  refine WL.q (q_move rfl) rfl ?_
  refine WL.q (q_extract rfl rfl) rfl ?_
  refine WL.q (q_extract rfl rfl) rfl ?_
  refine WL.q (q_assign rfl) rfl ?_
  refine WL.q (q_assign rfl) rfl ?_
  refine WL.nil ?_
  refine AT.then_n ?_
  refine WC.seq ?_
  refine WC.region ?_
  refine WL.eff (e_call rfl (c47_bad (by omega))) rfl ?_; rintro _ _ _ ⟨rfl, rfl, rfl⟩
  refine WL.q (q_move rfl) rfl ?_
  refine WL.q (q_extract rfl rfl) rfl ?_
  refine WL.q (q_extract rfl rfl) rfl ?_
  refine WL.q (q_assign rfl) rfl ?_
  refine WL.q (q_assign rfl) rfl ?_
  refine WL.nil ?_
  refine AT.then_n ?_
  refine WC.seq ?_
  refine WC.drawS [0, 1, 2, 3, 4, 5, 9, 10, 11, 12, 13, 14, 15, 16, 19, 20, 21, 22, 25, 26, 27, 28, 29, 30, 31, 35, 36, 38, 40, 41, 42, 43, 44, 45, 46, 47, 48, 49] _ _ mixed (NoPan.then NoPan.body) (Imp.refl _ _) rfl ?_
  refine WD.sched [(0, 0), (1, 0)] false (by decide +kernel) ?_
  refine WS.q 0 rfl (q_move rfl) rfl ?_
  refine WS.q 1 rfl (q_move rfl) rfl ?_
  refine WS.back ?_
  refine WD.sched [(2, 0), (3, 0), (4, 0), (5, 0)] false (by decide +kernel) ?_
  refine WS.qon 2 rfl rfl rfl rfl (q_move rfl) rfl ?_
  refine WS.qon 3 rfl rfl rfl rfl (q_eql rfl rfl) rfl ?_
  refine WS.q 4 rfl (q_pickT rfl rfl rfl) rfl ?_
  refine WS.q 5 rfl (q_move rfl) rfl ?_
  refine WS.back ?_
  refine WD.sched [(6, 0), (7, 2), (8, 0), (9, 0), (10, 0)] false (by decide +kernel) ?_
  refine WS.qon 6 rfl rfl rfl (by decide +kernel) (q_loadA (vs := (((((DkS.new 3).wrote 2 (blkB 1)).wrote 0 (blkB 2)).wrote 2 (blkB 2)).reads 2).map bv) rfl a_88 i_88 (Cells.pt 3 rfl) (by simp [reads_len])) rfl ?_
  refine WS.effon2 7 rfl rfl rfl (by decide +kernel) (e_call rfl (c49 (n := 2) (by omega))) rfl ?_; rintro _ _ _ ⟨rfl, rfl, rfl⟩
  refine ⟨(by first | exact (Imp.refl _ _) | exact (Imp.sub (List.Sublist.cons _ (List.Sublist.refl _))) | exact (Imp.ent (Ent.left (Ent.refl _)))), ?_⟩
  refine WS.qon 8 rfl rfl rfl (by decide +kernel) (q_eqlA rfl rfl u_88 u_5 i_5 a_5 eg_88 (reads_len _ _) (blk_len _)) rfl ?_
  refine WS.q 9 rfl (q_pickT rfl (by decide +kernel) rfl) rfl ?_
  refine WS.q 10 rfl (q_move rfl) rfl ?_
  refine WS.back ?_
  refine WD.sched [(11, 0), (12, 0), (13, 0), (14, 0), (15, 0)] false (by decide +kernel) ?_
  refine WS.qon 11 rfl rfl rfl (by decide +kernel) (q_move rfl) rfl ?_
  refine WS.qon 12 rfl rfl rfl (by decide +kernel) (q_len rfl u_77) rfl ?_
  refine WS.qon 13 rfl rfl rfl (by decide +kernel) (q_eql rfl rfl) rfl ?_
  refine WS.q 14 rfl (q_pickT rfl (by decide +kernel) rfl) rfl ?_
  refine WS.q 15 rfl (q_move rfl) rfl ?_
  refine WS.back ?_
  refine WD.sched [(16, 0), (17, 0), (18, 0), (19, 0), (20, 0), (21, 0)] false (by decide +kernel) ?_
  refine WS.qon 16 rfl rfl rfl (by decide +kernel) (q_move rfl) rfl ?_
  refine WS.qon 17 rfl rfl rfl (by decide +kernel) (q_indexAddr rfl rfl u_77 i_3 (Based.row (by repeat (first | exact hrow | refine Ent.left ?_)) (by decide)) (by decide)) rfl ?_
  refine WS.qon 18 rfl rfl rfl (by decide +kernel) (q_load (v := .int .i64 2) rfl a_3 (Cell.row (by repeat (first | exact hrow | refine Ent.left ?_)) (j := 0) rfl)) rfl ?_
  refine WS.qon 19 rfl rfl rfl (by decide +kernel) (q_eql rfl rfl) rfl ?_
  refine WS.q 20 rfl (q_pickT rfl (by decide +kernel) rfl) rfl ?_
  refine WS.q 21 rfl (q_move rfl) rfl ?_
  refine WS.back ?_
  refine WD.sched [(22, 0), (23, 0), (24, 0), (25, 0), (26, 0), (27, 0)] false (by decide +kernel) ?_
  refine WS.qon 22 rfl rfl rfl (by decide +kernel) (q_move rfl) rfl ?_
  refine WS.qon 23 rfl rfl rfl (by decide +kernel) (q_indexAddr rfl rfl u_77 i_3 (Based.row (by repeat (first | exact hrow | refine Ent.left ?_)) (by decide)) (by decide)) rfl ?_
  refine WS.qon 24 rfl rfl rfl (by decide +kernel) (q_load (v := .int .i64 0) rfl a_3 (Cell.row (by repeat (first | exact hrow | refine Ent.left ?_)) (j := 1) rfl)) rfl ?_
  refine WS.qon 25 rfl rfl rfl (by decide +kernel) (q_eql rfl rfl) rfl ?_
  refine WS.q 26 rfl (q_pickT rfl (by decide +kernel) rfl) rfl ?_
  refine WS.q 27 rfl (q_move rfl) rfl ?_
  refine WS.back ?_
  refine WD.sched [(28, 0), (29, 0), (30, 0), (31, 0)] false (by decide +kernel) ?_
  refine WS.qon 28 rfl rfl rfl (by decide +kernel) (q_move rfl) rfl ?_
  refine WS.qon 29 rfl rfl rfl (by decide +kernel) (q_eql rfl rfl) rfl ?_
  refine WS.q 30 rfl (q_pickT rfl (by decide +kernel) rfl) rfl ?_
  refine WS.q 31 rfl (q_move rfl) rfl ?_
  refine WS.back ?_
  refine WD.sched [(32, 0), (33, 2), (34, 0), (35, 0), (36, 0)] false (by decide +kernel) ?_
  refine WS.qon 32 rfl rfl rfl (by decide +kernel) (q_loadA (vs := (((((((DkS.new 3).wrote 2 (blkB 1)).wrote 0 (blkB 2)).wrote 2 (blkB 2)).read 2).crashed [true, false]).reads 2).map bv) rfl a_88 i_88 (Cells.pt 1 rfl) (by simp [reads_len])) rfl ?_
  refine WS.effon2 33 rfl rfl rfl (by decide +kernel) (e_call rfl (c49 (n := 1) (by omega))) rfl ?_; rintro _ _ _ ⟨rfl, rfl, rfl⟩
  refine ⟨(by first | exact (Imp.refl _ _) | exact (Imp.sub (List.Sublist.cons _ (List.Sublist.refl _))) | exact (Imp.ent (Ent.left (Ent.refl _)))), ?_⟩
  refine WS.qon 34 rfl rfl rfl (by decide +kernel) (q_eqlA rfl rfl u_88 u_5 i_5 a_5 eg_88 (reads_len _ _) (blk_len _)) rfl ?_
  refine WS.q 35 rfl (q_pickT rfl (by decide +kernel) rfl) rfl ?_
  refine WS.q 36 rfl (q_move rfl) rfl ?_
  refine WS.back ?_
  refine WD.sched [(37, 0), (38, 0), (39, 0), (40, 0), (41, 0)] false (by decide +kernel) ?_
  refine WS.qon 37 rfl rfl rfl (by decide +kernel) (q_loadA (vs := ((((((((DkS.new 3).wrote 2 (blkB 1)).wrote 0 (blkB 2)).wrote 2 (blkB 2)).read 2).crashed [true, false]).read 2).reads 0).map bv) rfl a_88 i_88 (Cells.pt 0 rfl) (by simp [reads_len])) rfl ?_
  refine WS.qon 38 rfl rfl rfl (by decide +kernel) (QO.eq (q_buildArr rfl u_88 i_88 i_5 rfl rfl) blk0) rfl ?_
  refine WS.qon 39 rfl rfl rfl (by decide +kernel) (q_eqlA rfl rfl u_88 u_5 i_5 a_5 eg_88 (reads_len _ _) (by simp)) rfl ?_
  refine WS.q 40 rfl (q_pickT rfl (by decide +kernel) rfl) rfl ?_
  refine WS.q 41 rfl (q_move rfl) rfl ?_
  refine WS.back ?_
  refine WD.sched [(42, 0), (43, 0), (44, 0), (45, 0)] false (by decide +kernel) ?_
  refine WS.qon 42 rfl rfl rfl (by decide +kernel) (q_move rfl) rfl ?_
  refine WS.qon 43 rfl rfl rfl (by decide +kernel) (q_eql rfl rfl) rfl ?_
  refine WS.q 44 rfl (q_pickT rfl (by decide +kernel) rfl) rfl ?_
  refine WS.q 45 rfl (q_move rfl) rfl ?_
  refine WS.back ?_
  refine WD.sched [(46, 0), (47, 0), (48, 0), (49, 0)] true (by decide +kernel) ?_
  refine WS.qon 46 rfl rfl rfl (by decide +kernel) (q_move rfl) rfl ?_
  refine WS.qon 47 rfl rfl rfl (by decide +kernel) (q_eql rfl rfl) rfl ?_
  refine WS.q 48 rfl (q_pickT rfl (by decide +kernel) rfl) rfl ?_
  refine WS.q 49 rfl (q_assign rfl) rfl ?_
  refine WS.done ?_
  refine AT.then_n ?_
  refine WC.ret ?_
  exact AT.done rfl (RO.one rfl rfl) ⟨congrArg Value.bool (by decide), rfl, rfl⟩ (Imp.keepRest (List.Sublist.cons _ (List.Sublist.cons _ (List.Sublist.cons _ (List.Sublist.cons _ (List.Sublist.refl _))))) (Ent.trans (by repeat (first | exact Ent.refl K2 | refine Ent.left ?_)) (hK2.trans (by repeat (first | exact Ent.refl K | refine Ent.left ?_)))))

theorem c4 {own : List SP} {K : PH → Prop} {g : Os × Array (Nat × ByteArray)} {A0 : Option Addr} {c0 m : Nat} {l : List Trn} (hm : m ≤ 255) (hr : Ent K (Row A0 (l.flatMap Trn.cells))) (hg : ∀ x ∈ l, x.keep ≠ [] → Ent K (Row x.A (x.keep.map Value.bool))) : SpecAt g Try.prog 4 [.int .u8 m, .slice A0 l.length c0] (own) (K)
    (Ret (.bool true) own K) := by
  refine SpecAt.of en_4 Try.func4 rfl rfl ?_
  refine WC.seq ?_
  refine WC.region ?_
  refine WL.q (q_assign rfl) rfl ?_
  refine WL.nil ?_
  refine AT.then_n ?_
  refine WC.seq ?_
  refine WC.seq ?_
  refine WC.region ?_
  refine WL.q (q_move rfl) rfl ?_
  refine WL.q (q_len rfl u_28) rfl ?_
  refine WL.q (q_gtr rfl rfl) rfl ?_
  refine WL.nil ?_
  refine AT.then_n ?_
  refine WC.cond rfl (fun h1 => ?_) (fun h1 => ?_)
  · -- if 1: yes
    try have p1 := of_decide_eq_true h1
    refine WC.seq ?_
    refine WC.region ?_
    refine WL.eff (e_callAt rfl c13) rfl ?_; rintro _ _ _ ⟨rfl, rfl, rfl⟩
    refine WL.q (q_assign rfl) rfl ?_
    refine WL.nil ?_
    refine AT.then_n ?_
    refine WC.ret ?_
    refine AT.then_r ?_
    exact AT.done rfl (RO.one rfl rfl) ⟨rfl, rfl, rfl⟩ (Imp.refl _ _)
  · -- if 1: no
    try have p1 := of_decide_eq_false h1
    refine WC.skip ?_
    refine AT.then_n ?_
    refine WC.seq ?_
    refine WC.seq ?_
    refine WC.region ?_
    refine WL.q (q_move rfl) rfl ?_
    refine WL.q (q_len rfl u_28) rfl ?_
    refine WL.q (q_move rfl) rfl ?_
    refine WL.nil ?_
    refine AT.then_n ?_
    refine WC.block ?_
    refine WC.loop (σ := Nat) (fun i => i ≤ l.length ∧ ∀ x ∈ l.take i, x.keep.length ≤ 80) (fun i => [(15, .int .i64 i), (13, .slice A0 l.length c0), (14, .int .i64 l.length), (0, .int .u8 m), (1, .slice A0 l.length c0)]) (fun _ => own) (fun _ => K) (fun i => l.length - i) 0 ⟨by omega, by simp⟩ ⟨rfl, rfl, rfl, rfl, rfl, trivial⟩ (Imp.refl _ _) ?_
    rintro i ⟨hi, hall⟩
    refine WC.seq ?_
    refine WC.region ?_
    refine WL.q (q_lss rfl rfl) rfl ?_
    refine WL.nil ?_
    refine AT.then_n ?_
    refine WC.seq ?_
    refine WC.cond rfl (fun h2 => ?_) (fun h2 => ?_)
    · -- if 2: yes
      try have p2 := of_decide_eq_true h2
      have hlt : i < l.length := by omega
      refine WC.skip ?_
      refine AT.then_n ?_
      refine WC.seq ?_
      refine WC.block ?_
      refine WC.seq ?_
      refine WC.region ?_
      refine WL.q (q_indexAddr rfl rfl u_28 i_31 (Based.row hr (by rw [flat_len Trn.cells 4 Trn.len]; omega)) (by omega)) rfl ?_
      refine WL.q (q_loadA rfl a_31 i_31 (Cells.at hr Trn.len hlt) (Trn.len _)) rfl ?_
      refine WL.eff (e_alloc i_31) rfl ?_; rintro _ _ _ ⟨b2, rfl, rfl, rfl⟩
      refine WL.effn (e_storeAll 0 rfl rfl rfl i_31 rfl (Trn.len _) (by simp [Value.cells]) (Trn.ones _)) ?_; rintro _ _ _ ⟨rfl, rfl, rfl⟩
      refine WL.nil ?_
      refine AT.then_n ?_
      refine WC.seq ?_
      refine WC.region ?_
      refine WL.q (q_fieldAddr rfl fo_31_3) rfl ?_
      refine WL.q (q_load (v := .slice l[i].A l[i].keep.length l[i].cap) rfl a_29 (Cell.ptL 0 rfl rfl)) rfl ?_
      refine WL.q (q_len rfl u_29) rfl ?_
      refine WL.q (q_gtr rfl rfl) rfl ?_
      refine WL.nil ?_
      refine AT.then_n ?_
      refine WC.cond rfl (fun h3 => ?_) (fun h3 => ?_)
      · -- if 3: yes
        try have p3 := of_decide_eq_true h3
        refine WC.seq ?_
        refine WC.region ?_
        refine WL.eff (e_callAt rfl c13) rfl ?_; rintro _ _ _ ⟨rfl, rfl, rfl⟩
        refine WL.q (q_assign rfl) rfl ?_
        refine WL.nil ?_
        refine AT.then_n ?_
        refine WC.ret ?_
        refine AT.blk_r ?_
        refine AT.then_r ?_
        refine AT.then_r ?_
        refine AT.blk_r ?_
        refine AT.then_r ?_
        exact AT.done rfl (RO.one rfl rfl) ⟨rfl, rfl, rfl⟩ (Imp.drop (Imp.refl _ _))
      · -- if 3: no
        try have p3 := of_decide_eq_false h3
        refine WC.skip ?_
        refine AT.blk_n ?_
        refine AT.then_n ?_
        refine WC.region ?_
        first | refine WL.q (q_add64 rfl rfl (by omega)) rfl ?_ | refine WL.q (q_add rfl rfl) rfl ?_
        refine WL.q (q_move rfl) rfl ?_
        refine WL.nil ?_
        refine AT.mid (i + 1) ⟨⟨by omega, fun x hx => ?_⟩, by omega⟩ ⟨rfl, rfl, rfl, rfl, rfl, trivial⟩ (Imp.drop (Imp.refl _ _))
        rw [List.take_succ_eq_append_getElem hlt] at hx
        rcases List.mem_append.1 hx with hx | hx
        · exact hall x hx
        · simp at hx; subst hx; omega
    · -- if 2: no
      try have p2 := of_decide_eq_false h2
      have hi2 : i = l.length := by omega
      subst hi2
      rw [List.take_length] at hall
      obtain ⟨n, hn, hn20⟩ : ∃ n : Nat, (m : Int) % 21 = n ∧ n ≤ 20 := ⟨m % 21, by omega, by omega⟩
      obtain ⟨cr, hcr⟩ : ∃ cr, SpecAt g Try.prog 14 [.int .i64 n, .slice A0 l.length c0] own K (Ret (.tuple #[.int .i64 cr, .bool true]) own K) := by
        rcases Nat.eq_zero_or_pos n with rfl | h
        · exact ⟨0, c14z⟩
        · exact ⟨_, c14 hr (fun x hx => ⟨hg x hx, by have := hall x hx; omega⟩) (by omega) (by omega)⟩
      refine WC.exit ?_
      refine AT.then_e ?_
      refine AT.then_e ?_
      refine AT.blk_e ?_
      refine AT.then_n ?_
      refine WC.seq ?_
      refine WC.region ?_
      refine WL.q (q_move rfl) rfl ?_
      refine WL.q (QO.eq (q_rem0 rfl rfl (by omega)) (congrArg (Value.int .u8) hn)) rfl ?_
      first | refine WL.q (q_convI (-9223372036854775808) 9223372036854775807 u_5 u_3 rfl rfl rfl (by omega)) rfl ?_ | refine WL.q (q_conv rfl u_5 u_3 rfl) rfl ?_
      refine WL.q (q_move rfl) rfl ?_
      refine WL.eff (e_callAt rfl hcr) rfl ?_; rintro _ _ _ ⟨rfl, rfl, rfl⟩
      refine WL.q (q_move rfl) rfl ?_
      refine WL.q (q_extract rfl rfl) rfl ?_
      refine WL.q (q_extract rfl rfl) rfl ?_
      refine WL.q (q_assign rfl) rfl ?_
      refine WL.q (q_assign rfl) rfl ?_
      refine WL.nil ?_
      refine AT.then_n ?_
      refine WC.seq ?_
      refine WC.region ?_
      refine WL.q (q_move rfl) rfl ?_
      refine WL.q (q_move rfl) rfl ?_
      refine WL.on rfl rfl rfl ?_
      refine WL.eff (e_callAt rfl c13) rfl ?_; rintro _ _ _ ⟨rfl, rfl, rfl⟩
      refine WL.q (q_pickT rfl rfl rfl) rfl ?_
      refine WL.q (q_assign rfl) rfl ?_
      refine WL.nil ?_
      refine AT.then_n ?_
      refine WC.ret ?_
      exact AT.done rfl (RO.one rfl rfl) ⟨rfl, rfl, rfl⟩ (Imp.refl _ _)

end Go.Proofs.Sl
