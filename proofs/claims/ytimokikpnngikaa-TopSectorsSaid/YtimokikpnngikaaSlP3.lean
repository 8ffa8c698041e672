/- TopSectors, proved: for every input the law answers true, and its arguments read as before. -/
import Derived.Test.YtimokikpnngikaaSlSec3
import Derived.Test.YtimokikpnngikaaSlR2
import Derived.Test.YtimokikpnngikaaSlL
import Derived.Test.YtimokikpnngikaaRows
namespace Go.Proofs.Ytimokikpnngikaa.topSectors
open Go Go.ChangeShapes Go.WideShapes Go.ChangeAt Go.RowKit Go.Proofs.Sl
set_option linter.unusedVariables false

theorem c31 : Try.prog.cellsOf 31 = 4 := by kernel_rfl
theorem c4 : Try.prog.cellsOf 4 = 1 := by kernel_rfl
theorem b31 : Try.prog.bytesOf 31 = 32 := by kernel_rfl
theorem v31 : sview Try.prog 31 = some [(5, 0, 1), (5, 1, 1), (5, 2, 1), (29, 3, 1)] := by kernel_rfl
theorem params : Try.f4.params = #[5, 28] := by kernel_rfl
theorem results : Try.f4.resultTypes = #[4] := by kernel_rfl

theorem elemTrn {H : Type} {enc : TypeId × Value → H} {W : World} (m : Nat) (c : List Value) (y : DataW H × List MemPlace) (h : DataW.trod enc Try.prog W 0 (fun _ => true) true m 31 c = some y) : ∃ x : Trn, c = x.cells ∧ (x.keep ≠ [] → Ent (K0 W) (Row x.A (x.keep.map Value.bool))) := by
  obtain ⟨hl, n, hf⟩ := trodFields v31 h
  rw [c31] at hl
  match c, hl with
  | [x0, x1, x2, x3], _ =>
    obtain ⟨z0, h0⟩ := hf 0 _ _ _ rfl
    obtain ⟨z1, h1⟩ := hf 1 _ _ _ rfl
    obtain ⟨z2, h2⟩ := hf 2 _ _ _ rfl
    obtain ⟨z3, h3⟩ := hf 3 _ _ _ rfl
    obtain ⟨k, e0, _⟩ := elemByte u_5 _ _ _ h0
    obtain ⟨s, e1, _⟩ := elemByte u_5 _ _ _ h1
    obtain ⟨f, e2, _⟩ := elemByte u_5 _ _ _ h2
    obtain ⟨A, l, cap, e3, _, hr, _⟩ := innerRows 1 (cells := fun b : Bool => [Value.bool b]) u_29 c4 (by decide) (fun _ => rfl) (elemBool u_4) h3
    rw [flatBools] at hr
    simp at e0 e1 e2 e3
    subst e0 e1 e2 e3
    exact ⟨⟨k, s, f, A, cap, l⟩, rfl, hr⟩

set_option maxRecDepth 100000 in
theorem contract (H : Type) (enc : TypeId × Value → H) (W : World) (base : Nat) (args : Array Value) (ds gs : List (DataW H)) (before : List MemPlace)
    (hval : ∀ (j : Nat) t v, Try.f4.params[j]? = some t → args[j]? = some v → Value.okWide Try.prog W .any base t v)
    (hW : DataW.Whole enc Try.prog Try.f4.params.toList Rows.topSectorsSpec.vars false W args.toList ds gs before) :
    Calls Try.prog 4 args W fun e W' => ∃ v, e = .returned v ∧ Rows.topSectorsSpec.post enc Try.prog Try.f4 false true false false W args v W' := by
  have hW' := hW
  obtain ⟨p, q, hA0, hV, rfl, hfz, hnd⟩ := hW
  have hA : DataW.TrodAll enc Try.prog W 0 (fun _ => true) true Try.f4.params.toList args.toList ds p := hA0
  rw [params] at hA hval
  obtain ⟨v0, vs0, d0, ds0, p0, q0, hargs, rfl, rfl, h0, r0⟩ := trodAll_cons hA
  obtain ⟨v1, vs1, d1, ds1, p1, q1, rfl, rfl, rfl, h1, r1⟩ := trodAll_cons r0
  obtain ⟨rfl, rfl, rfl⟩ := trodAll_nil r1
  obtain rfl : args = #[v0, v1] := by cases args; simp_all
  obtain ⟨rfl, rfl⟩ := trodVars_none hV
  have hds : Rows.topSectorsSpec.fn H ([d0, d1] ++ []) = { results := [.lit (.bool true)], args := [d0, d1] } := rfl
  obtain ⟨x, e0⟩ : ∃ x : UInt8, v0 = bv x := by
    obtain ⟨fuel, hf⟩ := h0
    obtain ⟨x, hx, _⟩ := elemByte u_5 _ _ _ hf
    have hok := hval 0 5 v0 rfl rfl
    rw [Value.okWide, show Try.prog.underlying 5 = some (.int .u8) from u_5] at hok
    cases v0 <;> simp [Cell.okWide, Cell.ok, show Try.prog.underlying 5 = some (.int .u8) from u_5] at hok
    exact ⟨x, by simpa [Value.cells] using hx⟩
  subst e0
  obtain ⟨A1, l1, c1, rfl, hc1, hr1, hg1, hd1⟩ := openRows 4 (cells := Trn.cells) (good := fun x => x.keep ≠ [] → Ent (K0 W) (Row x.A (x.keep.map Value.bool))) u_28 c31 (by decide) Trn.len elemTrn (hval 1 28 v1 rfl rfl) h1
  refine ((Sl.c4 (own := []) (g := (W.os, W.output)) (m := x.toNat) (by have := x.toNat_lt; omega) hr1 hg1).2 W (HS.start W)).mono fun e W' ⟨v, own', K', he, ⟨h1, h2, h3⟩, hS⟩ => ?_
  subst h1 h2 h3
  exact ⟨_, he, post_law kids full (by rw [params]; intro t ht; simp at ht; rcases ht with rfl | rfl <;> decide +kernel) rfl results u_4 hW' (by rw [hds]) (by rw [hds]) (by rw [hds]) hS.kept⟩

set_option maxRecDepth 100000 in
theorem lifted (os : Os) (started : os.Started) (H : Type) (enc : TypeId × Value → H) :
    ReturnsInHanded {} Try.checked os 4 .any (Rows.topSectorsSpec.pre6 enc Try.prog Try.f4 Rows.topSectorsRow.domain false) (Rows.topSectorsSpec.post enc Try.prog Try.f4 false true false false) := by
  refine returnsInHanded_of_change_sized (C := Try.checked) own started (by kernel_rfl) Try.func4
    (ChangeSpec.witness6 (enc := enc) (C := Try.checked) false ⟨#[], #[.int .u8 0, .slice none 0 0], []⟩ 8 (by kernel_rfl) (by kernel_rfl) (by kernel_rfl) (by kernel_rfl)) ?_
  intro W base args ds gs before hval hW _ hsz _
  exact contract H enc W base args ds gs before hval hW

theorem over : Rows.topSectorsRow.holds Try.pinned (OpenSpec.ofChange Rows.topSectorsSpec) :=
  OpenClaim.holds_of_wide 4 Try.f4 rfl rfl rfl rfl rfl rfl rfl ⟨rfl, rfl, rfl, rfl, rfl⟩ rfl rfl rfl rfl rfl (by kernel_rfl) Try.func4 (by kernel_rfl)
    (of_decide_eq_true (by kernel_rfl)) (by unfold Func.isWrapper; first | (rw [if_pos (by decide +kernel)]; kernel_rfl) | (rw [if_neg (by decide +kernel)]; exact ⟨rfl, rfl⟩))
    (fun os started H enc _ => lifted os started H enc)
end Go.Proofs.Ytimokikpnngikaa.topSectors
namespace Go.Proofs.Ytimokikpnngikaa
theorem topSectors_holds : Rows.TopSectorsSaid := topSectors.over
end Go.Proofs.Ytimokikpnngikaa
