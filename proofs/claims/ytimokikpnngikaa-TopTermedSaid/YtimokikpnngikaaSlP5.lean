/- TopTermed, proved: for every input the law answers true, and its arguments read as before. -/
import Derived.Test.YtimokikpnngikaaSlTop5
import Derived.Test.YtimokikpnngikaaSlR2
import Derived.Test.YtimokikpnngikaaSlL
import Derived.Test.YtimokikpnngikaaRows
namespace Go.Proofs.Ytimokikpnngikaa.topTermed
open Go Go.ChangeShapes Go.WideShapes Go.ChangeAt Go.RowKit Go.Proofs.Sl
set_option linter.unusedVariables false

theorem cb5 : Try.prog.cellsOf 5 = 1 := by kernel_rfl
theorem b5 : Try.prog.bytesOf 5 = 1 := by kernel_rfl
theorem params : Try.f5.params = #[23, 23, 5, 34, 5, 23] := by kernel_rfl
theorem results : Try.f5.resultTypes = #[4] := by kernel_rfl

set_option maxRecDepth 100000 in
theorem contract (H : Type) (enc : TypeId × Value → H) (W : World) (base : Nat) (args : Array Value) (ds gs : List (DataW H)) (before : List MemPlace)
    (hval : ∀ (j : Nat) t v, Try.f5.params[j]? = some t → args[j]? = some v → Value.okWide Try.prog W .any base t v)
    (hW : DataW.Whole enc Try.prog Try.f5.params.toList Rows.topTermedSpec.vars false W args.toList ds gs before)
    (hsz : (DataW.weightsEach Try.prog (Try.f5.params.toList ++ Rows.topTermedSpec.plain.varTypes Try.prog) (ds ++ gs)).all (· ≤ reachBytes) = true) :
    Calls Try.prog 5 args W fun e W' => ∃ v, e = .returned v ∧ Rows.topTermedSpec.post enc Try.prog Try.f5 false true false false W args v W' := by
  have hW' := hW
  obtain ⟨p, q, hA0, hV, rfl, hfz, hnd⟩ := hW
  have hA : DataW.TrodAll enc Try.prog W 0 (fun _ => true) true Try.f5.params.toList args.toList ds p := hA0
  rw [params] at hA hval hsz
  obtain ⟨v0, vs0, d0, ds0, p0, q0, hargs, rfl, rfl, h0, r0⟩ := trodAll_cons hA
  obtain ⟨v1, vs1, d1, ds1, p1, q1, rfl, rfl, rfl, h1, r1⟩ := trodAll_cons r0
  obtain ⟨v2, vs2, d2, ds2, p2, q2, rfl, rfl, rfl, h2, r2⟩ := trodAll_cons r1
  obtain ⟨v3, vs3, d3, ds3, p3, q3, rfl, rfl, rfl, h3, r3⟩ := trodAll_cons r2
  obtain ⟨v4, vs4, d4, ds4, p4, q4, rfl, rfl, rfl, h4, r4⟩ := trodAll_cons r3
  obtain ⟨v5, vs5, d5, ds5, p5, q5, rfl, rfl, rfl, h5, r5⟩ := trodAll_cons r4
  obtain ⟨rfl, rfl, rfl⟩ := trodAll_nil r5
  obtain rfl : args = #[v0, v1, v2, v3, v4, v5] := by cases args; simp_all
  obtain ⟨rfl, rfl⟩ := trodVars_none hV
  have hds : Rows.topTermedSpec.fn H ([d0, d1, d2, d3, d4, d5] ++ []) = { results := [.lit (.bool true)], args := [d0, d1, d2, d3, d4, d5] } := rfl
  obtain ⟨x, e2⟩ : ∃ x : UInt8, v2 = bv x := by
    obtain ⟨fuel, hf⟩ := h2
    obtain ⟨x, hx, _⟩ := elemByte u_5 _ _ _ hf
    have hok := hval 2 5 v2 rfl rfl
    rw [Value.okWide, show Try.prog.underlying 5 = some (.int .u8) from u_5] at hok
    cases v2 <;> simp [Cell.okWide, Cell.ok, show Try.prog.underlying 5 = some (.int .u8) from u_5] at hok
    exact ⟨x, by simpa [Value.cells] using hx⟩
  subst e2
  obtain ⟨w, e3, hw⟩ : ∃ w : Nat, v3 = .int .u16 w ∧ w ≤ 65535 := by
    obtain ⟨fuel, hf⟩ := h3
    obtain ⟨k, e1, _, hw⟩ := DataW.trod_int u_34 hf
    have hok := hval 3 34 v3 rfl rfl
    rw [Value.okWide, show Try.prog.underlying 34 = some (.int .u16) from u_34] at hok
    cases v3 <;> simp [Cell.okWide, Cell.ok, show Try.prog.underlying 34 = some (.int .u16) from u_34] at hok
    simp [Value.cells] at e1
    have hx : 0 ≤ k ∧ k ≤ 65535 := by simpa [Lit.wf, IntKind.min, IntKind.max, IntKind.signed, IntKind.bits] using hw
    refine ⟨k.toNat, ?_, by omega⟩
    rw [e1.1, e1.2, Int.toNat_of_nonneg hx.1]
  subst e3
  obtain ⟨z, e4⟩ : ∃ x : UInt8, v4 = bv x := by
    obtain ⟨fuel, hf⟩ := h4
    obtain ⟨x, hx, _⟩ := elemByte u_5 _ _ _ hf
    have hok := hval 4 5 v4 rfl rfl
    rw [Value.okWide, show Try.prog.underlying 5 = some (.int .u8) from u_5] at hok
    cases v4 <;> simp [Cell.okWide, Cell.ok, show Try.prog.underlying 5 = some (.int .u8) from u_5] at hok
    exact ⟨x, by simpa [Value.cells] using hx⟩
  subst e4
  obtain ⟨A0, l0, c0, rfl, hc0, hr0, hd0⟩ := openBytes u_23 u_5 cb5 (hval 0 23 v0 rfl rfl) h0
  obtain ⟨A1, l1, c1, rfl, hc1, hr1, hd1⟩ := openBytes u_23 u_5 cb5 (hval 1 23 v1 rfl rfl) h1
  obtain ⟨A5, l5, c5', rfl, hc5, hr5, hd5⟩ := openBytes u_23 u_5 cb5 (hval 5 23 v5 rfl rfl) h5
  have z0 := sizedRow hsz (j := 0) rfl rfl u_23 b5 (by decide) hd0
  have z1 := sizedRow hsz (j := 1) rfl rfl u_23 b5 (by decide) hd1
  refine ((Sl.c5 (own := []) (x := x) (z := z) (w := w) hr0 hr1 hr5 (by omega) (by omega) hw).2 _ W (HS.start W)).mono fun e W' ⟨v, own', K', he, ⟨h1, h2, h3⟩, hS⟩ => ?_
  subst h1 h2 h3
  exact ⟨_, he, post_law kids full (by
    rw [params]; intro t ht
    have h9 : t = 23 ∨ t = 5 ∨ t = 34 := by
      simp at ht
      first | exact ht | (rcases ht with h | h | h | h | h | h <;> simp [h]; done) | (rcases ht with h | h | h | h | h <;> simp [h]; done) | (rcases ht with h | h | h | h <;> simp [h]; done) | (rcases ht with h | h | h <;> simp [h]; done)
    rcases h9 with rfl | rfl | rfl <;> decide +kernel) rfl results u_4 hW' (by rw [hds]) (by rw [hds]) (by rw [hds]) hS.kept⟩

set_option maxRecDepth 100000 in
theorem lifted (os : Os) (started : os.Started) (H : Type) (enc : TypeId × Value → H) :
    ReturnsInHanded {} Try.checked os 5 .any (Rows.topTermedSpec.pre6 enc Try.prog Try.f5 Rows.topTermedRow.domain false) (Rows.topTermedSpec.post enc Try.prog Try.f5 false true false false) := by
  refine returnsInHanded_of_change_sized (C := Try.checked) own started (by kernel_rfl) Try.func5
    (ChangeSpec.witness6 (enc := enc) (C := Try.checked) false ⟨#[], #[.slice none 0 0, .slice none 0 0, .int .u8 0, .int .u16 0, .int .u8 0, .slice none 0 0], []⟩ 8 (by kernel_rfl) (by kernel_rfl) (by kernel_rfl) (by kernel_rfl)) ?_
  intro W base args ds gs before hval hW _ hsz _
  exact contract H enc W base args ds gs before hval hW hsz

theorem over : Rows.topTermedRow.holds Try.pinned (OpenSpec.ofChange Rows.topTermedSpec) :=
  OpenClaim.holds_of_wide 5 Try.f5 rfl rfl rfl rfl rfl rfl rfl ⟨rfl, rfl, rfl, rfl, rfl⟩ rfl rfl rfl rfl rfl (by kernel_rfl) Try.func5 (by kernel_rfl)
    (of_decide_eq_true (by kernel_rfl)) (by unfold Func.isWrapper; first | (rw [if_pos (by decide +kernel)]; kernel_rfl) | (rw [if_neg (by decide +kernel)]; exact ⟨rfl, rfl⟩))
    (fun os started H enc _ => lifted os started H enc)
end Go.Proofs.Ytimokikpnngikaa.topTermed
namespace Go.Proofs.Ytimokikpnngikaa
theorem topTermed_holds : Rows.TopTermedSaid := topTermed.over
end Go.Proofs.Ytimokikpnngikaa
