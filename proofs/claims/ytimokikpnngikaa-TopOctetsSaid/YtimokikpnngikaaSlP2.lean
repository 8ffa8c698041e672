/- TopOctets, proved: for every input the law answers true, and its arguments read as before. -/
import Derived.Test.YtimokikpnngikaaSlO2
import Derived.Test.YtimokikpnngikaaSlL
import Derived.Test.YtimokikpnngikaaRows
namespace Go.Proofs.Ytimokikpnngikaa.topOctets
open Go Go.ChangeShapes Go.WideShapes Go.ChangeAt Go.RowKit Go.Proofs.Sl
set_option linter.unusedVariables false

theorem c72 : Try.prog.cellsOf 72 = 3 := by kernel_rfl
theorem c5 : Try.prog.cellsOf 5 = 1 := by kernel_rfl
theorem b72 : Try.prog.bytesOf 72 = 40 := by kernel_rfl
theorem b5 : Try.prog.bytesOf 5 = 1 := by kernel_rfl
theorem v72 : sview Try.prog 72 = some [(5, 0, 1), (70, 1, 1), (23, 2, 1)] := by kernel_rfl
theorem params : Try.f3.params = #[22, 23, 23] := by kernel_rfl
theorem results : Try.f3.resultTypes = #[4] := by kernel_rfl

theorem elemScp {H : Type} {enc : TypeId × Value → H} {W : World} (m : Nat) (c : List Value) (y : DataW H × List MemPlace) (h : DataW.trod enc Try.prog W 0 (fun _ => true) true m 72 c = some y) : ∃ x : Scp, c = x.cells ∧ x.n ≤ 18446744073709551615 := by
  obtain ⟨hl, n, hf⟩ := trodFields v72 h
  rw [c72] at hl
  match c, hl with
  | [x0, x1, x2], _ =>
    obtain ⟨z0, h0⟩ := hf 0 _ _ _ rfl
    obtain ⟨z1, h1⟩ := hf 1 _ _ _ rfl
    obtain ⟨z2, h2⟩ := hf 2 _ _ _ rfl
    obtain ⟨b, e0, _⟩ := elemByte u_5 _ _ _ h0
    obtain ⟨k, e1, _, hw⟩ := DataW.trod_int u_70 h1
    obtain ⟨A, len, cap, e2⟩ := trodSl u_23 h2
    simp at e0 e1 e2
    subst e0 e1 e2
    have hx : 0 ≤ k ∧ k ≤ 18446744073709551615 := by simpa [Lit.wf, IntKind.min, IntKind.max, IntKind.signed, IntKind.bits] using hw
    refine ⟨⟨b, k.toNat, A, len, cap⟩, ?_, by simp only; omega⟩
    simp [Scp.cells]
    omega

set_option maxRecDepth 100000 in
theorem contract (H : Type) (enc : TypeId × Value → H) (W : World) (base : Nat) (args : Array Value) (ds gs : List (DataW H)) (before : List MemPlace)
    (hval : ∀ (j : Nat) t v, Try.f3.params[j]? = some t → args[j]? = some v → Value.okWide Try.prog W .any base t v)
    (hW : DataW.Whole enc Try.prog Try.f3.params.toList Rows.topOctetsSpec.vars false W args.toList ds gs before)
    (hsz : (DataW.weightsEach Try.prog (Try.f3.params.toList ++ Rows.topOctetsSpec.plain.varTypes Try.prog) (ds ++ gs)).all (· ≤ reachBytes) = true) :
    Calls Try.prog 3 args W fun e W' => ∃ v, e = .returned v ∧ Rows.topOctetsSpec.post enc Try.prog Try.f3 false true false false W args v W' := by
  have hW' := hW
  obtain ⟨p, q, hA0, hV, rfl, hfz, hnd⟩ := hW
  have hA : DataW.TrodAll enc Try.prog W 0 (fun _ => true) true Try.f3.params.toList args.toList ds p := hA0
  rw [params] at hA hval hsz
  obtain ⟨v0, vs0, d0, ds0, p0, q0, hargs, rfl, rfl, h0, r0⟩ := trodAll_cons hA
  obtain ⟨v1, vs1, d1, ds1, p1, q1, rfl, rfl, rfl, h1, r1⟩ := trodAll_cons r0
  obtain ⟨v2, vs2, d2, ds2, p2, q2, rfl, rfl, rfl, h2, r2⟩ := trodAll_cons r1
  obtain ⟨rfl, rfl, rfl⟩ := trodAll_nil r2
  obtain rfl : args = #[v0, v1, v2] := by cases args; simp_all
  obtain ⟨rfl, rfl⟩ := trodVars_none hV
  have hds : Rows.topOctetsSpec.fn H ([d0, d1, d2] ++ []) = { results := [.lit (.bool true)], args := [d0, d1, d2] } := rfl
  obtain ⟨A0, l0, c0, rfl, hc0, hr0, hg0, hd0⟩ := openRows 3 (cells := Scp.cells) (good := fun x => x.n ≤ 18446744073709551615) u_22 c72 (by decide) Scp.len elemScp (hval 0 22 v0 rfl rfl) h0
  obtain ⟨A1, l1, c1, rfl, hc1, hr1, hd1⟩ := openBytes u_23 u_5 c5 (hval 1 23 v1 rfl rfl) h1
  obtain ⟨A2, l2, c2, rfl, hc2, hr2, hd2⟩ := openBytes u_23 u_5 c5 (hval 2 23 v2 rfl rfl) h2
  have z0 := sizedRow hsz (j := 0) rfl rfl u_22 b72 (by decide) hd0
  have z1 := sizedRow hsz (j := 1) rfl rfl u_23 b5 (by decide) hd1
  refine ((c3 (own := []) hr0 hr1 hr2 (by omega) (by omega) hg0).2 _ W (HS.start W)).mono fun e W' ⟨v, own', K', he, ⟨h1, h2, h3⟩, hS⟩ => ?_
  subst h1 h2 h3
  exact ⟨_, he, post_law kids full (by rw [params]; intro t ht; simp at ht; rcases ht with rfl | rfl <;> decide +kernel) rfl results u_4 hW' (by rw [hds]) (by rw [hds]) (by rw [hds]) hS.kept⟩

set_option maxRecDepth 100000 in
theorem lifted (os : Os) (started : os.Started) (H : Type) (enc : TypeId × Value → H) :
    ReturnsInHanded {} Try.checked os 3 .any (Rows.topOctetsSpec.pre6 enc Try.prog Try.f3 Rows.topOctetsRow.domain false) (Rows.topOctetsSpec.post enc Try.prog Try.f3 false true false false) := by
  refine returnsInHanded_of_change_sized (C := Try.checked) own started (by kernel_rfl) Try.func3
    (ChangeSpec.witness6 (enc := enc) (C := Try.checked) false ⟨#[], #[.slice none 0 0, .slice none 0 0, .slice none 0 0], []⟩ 8 (by kernel_rfl) (by kernel_rfl) (by kernel_rfl) (by kernel_rfl)) ?_
  intro W base args ds gs before hval hW _ hsz _
  exact contract H enc W base args ds gs before hval hW hsz

theorem over : Rows.topOctetsRow.holds Try.pinned (OpenSpec.ofChange Rows.topOctetsSpec) :=
  OpenClaim.holds_of_wide 3 Try.f3 rfl rfl rfl rfl rfl rfl rfl ⟨rfl, rfl, rfl, rfl, rfl⟩ rfl rfl rfl rfl rfl (by kernel_rfl) Try.func3 (by kernel_rfl)
    (of_decide_eq_true (by kernel_rfl)) (by unfold Func.isWrapper; first | (rw [if_pos (by decide +kernel)]; kernel_rfl) | (rw [if_neg (by decide +kernel)]; exact ⟨rfl, rfl⟩))
    (fun os started H enc _ => lifted os started H enc)
end Go.Proofs.Ytimokikpnngikaa.topOctets
namespace Go.Proofs.Ytimokikpnngikaa
theorem topOctets_holds : Rows.TopOctetsSaid := topOctets.over
end Go.Proofs.Ytimokikpnngikaa
