/- Layer 12: the law of terms: what it knows. -/
import Derived.Test.YtimokikpnngikaaSlStk
import Derived.Test.YtimokikpnngikaaSlK
namespace Go.Proofs.Sl
open Go
set_option linter.unusedVariables false
set_option linter.unusedSimpArgs false

abbrev kS : List UInt8 → Value := fun a => Value.string (bs a)
section
variable {C : Cx} {e : Env} {own : List SP} {K : PH → Prop} {ty : TypeId} {α : Type}
theorem e_insert [DecidableEq α] (i : Nat) {t kt et : TypeId} {d : TypeDesc} {key : α → Value} {m x y : Operand} {b : Nat} {l : List (α × Value)} {a : α} {v : Value} (hm : ev e m = some (.map (some b))) (hx : ev e x = some (key a)) (hy : ev e y = some v)
    (hi : own[i]? = some (Mp b key l)) (hk : KeyOf d key) (hu : Und C.P t (.map kt et)) (hd : Und C.P kt d) : EO C (.insert t m x y) ty e own K (Ret undef (own.set i (Mp b key (aset l a v))) K) :=
  EO.of_run (by simp) fun ac w hA hS => by
    obtain ⟨w', h1, h2⟩ := run_mapUpdate (P := C.P) (a := a) (v := v) (hS.focus hi) hk hu hd
    refine ⟨_, _, _, w', ⟨rfl, rfl, rfl⟩, h2.unfocus hi, .inr ⟨?_, rfl⟩⟩
    simp [execOp, op0, hA.ev hm, hA.ev hx, hA.ev hy, h1]
theorem e_next3 (i : Nat) {key : α → Value} {x : Operand} {b r : Nat} {l : List (α × Value)} {done : List Nat} (hx : ev e x = some (.pointer (some (ad r 0)))) (hi : own[i]? = some (MpIt b r key l done)) :
    EO C (.next x false) ty e own K (fun v own' K' => K = K' ∧ ∃ t vs, v = .tuple (Value.bool t :: vs).toArray ∧ ((t = false ∧ own = own' ∧ ∀ j, j < l.length → j ∈ done) ∨
      (t = true ∧ ∃ j a u, l[j]? = some (a, u) ∧ j ∉ done ∧ vs = [key a, u] ∧ own' = own.set i (MpIt b r key l (done ++ [j]))))) :=
  (e_next (t := 0) i hx hi).weak fun v o k ⟨hk, h⟩ => by
    rcases h with ⟨rfl, rfl, h⟩ | ⟨j, a, u, h1, h2, rfl, h3⟩
    · exact ⟨_, _, Imp.refl _ _, hk, false, [], rfl, .inl ⟨rfl, rfl, h⟩⟩
    · exact ⟨_, _, Imp.refl _ _, hk, true, [key a, u], rfl, .inr ⟨rfl, j, a, u, h1, h2, rfl, h3⟩⟩
end
abbrev ML : List (List UInt8 × Value) := [([4, 1, 0], .int .i64 7), ([9], .int .i64 150), ([2, 7], .int .i64 150), ([], .int .i64 7), ([1, 65], .int .i64 150)]
theorem ml_at {j : Nat} {a : List UInt8} {u : Value} (h : ML[j]? = some (a, u)) : ∃ c : Int, u = .int .i64 c ∧ a.length ≤ 100 ∧ rd (a.length + 1) 1 1200 a = .err c := by
  match j, h with
  | 0, h => cases h; exact ⟨_, rfl, by decide, rfl⟩
  | 1, h => cases h; exact ⟨_, rfl, by decide, rfl⟩
  | 2, h => cases h; exact ⟨_, rfl, by decide, rfl⟩
  | 3, h => cases h; exact ⟨_, rfl, by decide, rfl⟩
  | 4, h => cases h; exact ⟨_, rfl, by decide, rfl⟩
  | j + 5, h => simp at h
def hashN : Nat → Tm
  | 0 => .mk 1 0 0 [] []
  | n + 1 => .mk 5 0 0 [] [hashN n]
theorem hashN_cnt : ∀ n, cnt (hashN n) = n + 1
  | 0 => rfl
  | n + 1 => by rw [hashN, cnt, cntL, cntL, hashN_cnt n]; omega
theorem hashN_len : ∀ n, (putB (hashN n)).length = n + 2
  | 0 => rfl
  | n + 1 => by
    rw [hashN, putB_hd, putBL, putBL, List.append_nil, List.length_append, hashN_len n]
    have : (hdB 5 0 0 []).length = 1 := rfl
    omega
theorem hash_fr {T : Tg} {n : Nat} (h : T.er = hashN n) (hs : T.small) : Fr (n + 1) T := ⟨hs, by rw [h, hashN_cnt]; omega, by rw [h, hashN_cnt, hashN_len]; omega, by rw [h]; cases n <;> simp [hashN, Tm.text]⟩
theorem er_one {T : Tg} {k u n : Int} {t : List UInt8} {x : Tm} (h : T.er = .mk k u n t [x]) : ∃ A cap X, T = .mk k u n t A cap [X] ∧ X.er = x := by
  obtain ⟨k2, u2, n2, t2, A, cap, l⟩ := T
  rw [Tg.er_mk] at h
  cases l with
  | nil => simp at h
  | cons X l =>
    cases l with
    | nil => simp at h; obtain ⟨rfl, rfl, rfl, rfl, h⟩ := h; exact ⟨A, cap, X, rfl, h⟩
    | cons Y l => simp at h

theorem c15 {own : List SP} {K : PH → Prop}  : Spec Try.prog 15 [] (own) (K)
    (Ret (.bool true) own K) := by
  refine Spec.of en_15 Try.func15 rfl rfl fun g => ?_
  refine WC.seq ?_
  refine WC.region ?_
  refine WL.q (q_assign rfl) rfl ?_
  refine WL.nil ?_
  refine AT.then_n ?_
  refine WC.seq ?_
  refine WC.region ?_
  refine WL.eff (e_call rfl (c65 (u := 1) (n := 2))) rfl ?_; rintro _ _ _ ⟨rfl, rfl, rfl⟩
  refine WL.eff (e_call rfl (c66 (t := [104, 105]))) rfl ?_; rintro _ _ _ ⟨rfl, rfl, rfl⟩
  refine WL.eff (e_call rfl (c64 (T := (Tg.mk 2 1 2 [] none 0 [])) (U := (Tg.mk 1 0 0 [104, 105] none 0 [])) Ent.leaf (Tg.small_mk.2 ⟨by simp, by simp, by simp⟩) Ent.leaf (Tg.small_mk.2 ⟨by simp, by simp, by simp⟩))) rfl ?_; rintro _ o1 k1 ⟨T1, rfl, hoo, hk1, hT1, he1, hs1⟩
  obtain rfl : own = o1 := hoo.symm
  refine WL.eff (e_call rfl (c63_ok hT1 hs1 (by rw [he1]; decide) (by rw [he1]; decide))) rfl ?_; rintro _ _ k2 ⟨A3, c3, rfl, rfl, hk2⟩
  refine WL.imp Imp.orowStay ?_
  rw [he1]
  have hkE : Ent (k2 ∩ Row A3 ((putB (.mk 6 0 0 [] [(Tg.mk 2 1 2 [] none 0 []).er, (Tg.mk 1 0 0 [104, 105] none 0 []).er])).map bv)) K := (hk2.trans hk1).left
  have hrowE : Ent (k2 ∩ Row A3 ((putB (.mk 6 0 0 [] [(Tg.mk 2 1 2 [] none 0 []).er, (Tg.mk 1 0 0 [104, 105] none 0 []).er])).map bv)) (Row A3 ((putB (.mk 6 0 0 [] [(Tg.mk 2 1 2 [] none 0 []).er, (Tg.mk 1 0 0 [104, 105] none 0 []).er])).map bv)) := Ent.right
  generalize (k2 ∩ Row A3 ((putB (.mk 6 0 0 [] [(Tg.mk 2 1 2 [] none 0 []).er, (Tg.mk 1 0 0 [104, 105] none 0 []).er])).map bv)) = kE at hkE hrowE ⊢
  refine WL.q (q_move rfl) rfl ?_
  refine WL.q (q_extract rfl rfl) rfl ?_
  refine WL.q (q_extract rfl rfl) rfl ?_
  refine WL.q (q_assign rfl) rfl ?_
  refine WL.q (q_assign rfl) rfl ?_
  refine WL.nil ?_
  refine AT.then_n ?_
  refine WC.seq ?_
  refine WC.seq ?_
  refine WC.region ?_
  refine WL.eff (e_makeMap (key := kS)) rfl ?_; rintro _ _ _ ⟨b9, rfl, rfl, rfl⟩
  refine WL.effn (e_insert 0 (key := kS) (a := [4, 1, 0]) rfl rfl rfl rfl strKey u_110 u_9) ?_; rintro _ _ _ ⟨rfl, rfl, rfl⟩
  refine WL.effn (e_insert 0 (key := kS) (a := [9]) rfl rfl rfl rfl strKey u_110 u_9) ?_; rintro _ _ _ ⟨rfl, rfl, rfl⟩
  refine WL.effn (e_insert 0 (key := kS) (a := [2, 7]) rfl rfl rfl rfl strKey u_110 u_9) ?_; rintro _ _ _ ⟨rfl, rfl, rfl⟩
  refine WL.effn (e_insert 0 (key := kS) (a := []) rfl rfl rfl rfl strKey u_110 u_9) ?_; rintro _ _ _ ⟨rfl, rfl, rfl⟩
  refine WL.effn (e_insert 0 (key := kS) (a := [1, 65]) rfl rfl rfl rfl strKey u_110 u_9) ?_; rintro _ _ _ ⟨rfl, rfl, rfl⟩
  refine WL.q (q_move rfl) rfl ?_
  refine WL.eff (e_range 0 (key := kS) rfl rfl u_110) rfl ?_; rintro _ _ _ ⟨r9, rfl, rfl, rfl⟩
  refine WL.nil ?_
  refine AT.then_n ?_
  refine WC.block ?_
  refine WC.loop (σ := List Nat) (fun _ => True) (fun _ => [(20, .pointer (some (ad r9 0))), (1, .slice A3 (putB (.mk 6 0 0 [] [(Tg.mk 2 1 2 [] none 0 []).er, (Tg.mk 1 0 0 [104, 105] none 0 []).er])).length c3), (2, .int .i64 0)]) (fun done => MpIt b9 r9 kS ML done :: own) (fun _ => kE) (fun done => mleft 5 done) [] trivial ⟨rfl, rfl, rfl, trivial⟩ (Imp.eq rfl) ?_
  rintro done -
  refine WC.seq ?_
  refine WC.region ?_
  refine WL.eff (e_next3 0 rfl rfl) rfl ?_; rintro _ o9 _ ⟨rfl, t9, vs9, rfl, hn9⟩
  refine WL.q (q_extract rfl rfl) rfl ?_
  refine WL.nil ?_
  refine AT.then_n ?_
  refine WC.seq ?_
  refine WC.cond rfl (fun h1 => ?_) (fun h1 => ?_)
  · -- if 1: yes
    try have p1 := of_decide_eq_true h1
    subst h1
    rcases hn9 with ⟨h, _⟩ | ⟨_, j9, a9, u9, hj9, hnd9, rfl, rfl⟩
    · cases h
    obtain ⟨cc, rfl, hal, hrd⟩ := ml_at hj9
    refine WC.skip ?_
    refine AT.then_n ?_
    refine WC.block ?_
    refine WC.seq ?_
    refine WC.region ?_
    refine WL.q (q_entry 0 rfl rfl hj9) rfl ?_
    refine WL.q (q_extract rfl rfl) rfl ?_
    refine WL.q (q_extract rfl rfl) rfl ?_
    refine WL.q (q_assign rfl) rfl ?_
    refine WL.q (q_assign rfl) rfl ?_
    refine WL.nil ?_
    refine AT.then_n ?_
    refine WC.seq ?_
    refine WC.region ?_
    refine WL.q (q_move rfl) rfl ?_
    refine WL.eff (e_s2bK rfl u_9 u_23 u_5 i_5 (by first | omega | (simp; omega))) rfl ?_; rintro _ _ _ ⟨A13, cap13, rfl, rfl, rfl, hcap13⟩
    refine WL.eff (e_call rfl (c67 Ent.right (by omega))) rfl ?_; rintro v8 _ k8 ⟨rfl, hk8, hv7⟩
    obtain rfl : v8 = .tuple #[.agg (Tg.mk 0 0 0 [] none 0 []).cells.toArray, .int .i64 0, .int .i64 cc] := by
      rcases hv7 with ⟨T, rest, l, h1, _⟩ | ⟨c2, h1, rfl⟩
      · rw [hrd] at h1; cases h1
      · rw [hrd] at h1; cases h1; rfl
    refine WL.q (q_move rfl) rfl ?_
    refine WL.q (q_extract rfl rfl) rfl ?_
    refine WL.q (q_extract rfl rfl) rfl ?_
    refine WL.q (q_extract rfl rfl) rfl ?_
    refine WL.eff (e_alloc i_38) rfl ?_; rintro _ _ _ ⟨b5, rfl, rfl, rfl⟩
    refine WL.effn (e_storeAll 0 rfl rfl rfl i_38 rfl (Tg.len _) (by first | (simp [Value.cells, Tg.len]; done) | (simp [Value.cells, Tg.cells]; done)) (Tg.ones _)) ?_; rintro _ _ _ ⟨rfl, rfl, rfl⟩
    refine WL.q (q_assign rfl) rfl ?_
    refine WL.q (q_assign rfl) rfl ?_
    refine WL.nil ?_
    refine AT.then_n ?_
    refine WC.seq ?_
    refine WC.region ?_
    refine WL.q (q_move rfl) rfl ?_
    refine WL.q (q_move rfl) rfl ?_
    refine WL.q (q_neq rfl rfl) rfl ?_
    refine WL.q (q_move rfl) rfl ?_
    refine WL.on rfl rfl (decide_eq_false (by simp)) ?_
    refine WL.q (q_move rfl) rfl ?_
    refine WL.on rfl rfl (decide_eq_false (by simp)) ?_
    refine WL.q (q_neq rfl rfl) rfl ?_
    refine WL.q (q_pickF rfl (decide_eq_false (by simp)) rfl) rfl ?_
    refine WL.q (q_move rfl) rfl ?_
    refine WL.on rfl rfl (decide_eq_false (by simp)) ?_
    refine WL.q (q_move rfl) rfl ?_
    refine WL.on rfl rfl (decide_eq_false (by simp)) ?_
    refine WL.eff (e_call rfl (c19 (by omega))) rfl ?_; rintro _ _ _ ⟨rfl, rfl, rfl⟩
    refine WL.on rfl rfl (decide_eq_false (by simp)) ?_
    refine WL.q (q_not rfl) rfl ?_
    refine WL.q (q_pickF rfl (decide_eq_false (by simp)) rfl) rfl ?_
    refine WL.nil ?_
    refine AT.then_n ?_
    refine WC.condHF rfl (rfl) ?_
    refine WC.skip ?_
    refine AT.blk_n ?_
    refine AT.mid (done ++ [j9]) ⟨trivial, mleft_step (List.getElem?_eq_some_iff.1 hj9).1 hnd9⟩ ⟨rfl, rfl, rfl, trivial⟩ (Imp.drop (Imp.trans (Imp.ent (hk8.trans (Ent.refl _).left)) (Imp.eq rfl)))
  · -- if 1: no
    try have p1 := of_decide_eq_false h1
    subst h1
    rcases hn9 with ⟨_, rfl, hall⟩ | ⟨h, _⟩
    rotate_left
    · cases h
    refine WC.exit ?_
    refine AT.then_e ?_
    refine AT.then_e ?_
    refine AT.blk_e ?_
    refine AT.then_n ?_
    refine WC.seq ?_
    refine WC.region ?_
    refine WL.eff (e_call rfl (c69 (u := 2))) rfl ?_; rintro _ _ _ ⟨rfl, rfl, rfl⟩
    refine WL.eff (e_call rfl (c68_bad (T := (Tg.mk 3 2 0 [] none 0 [])) (L := []) (R := .mk 3 2 0 [] []) Ent.leaf (Tg.small_mk.2 ⟨by simp, by simp, by simp⟩) (by decide) (.stop (by decide)) (by simp) (by decide))) rfl ?_; rintro _ _ _ ⟨rfl, rfl, rfl⟩
    refine WL.q (q_move rfl) rfl ?_
    refine WL.q (q_extract rfl rfl) rfl ?_
    refine WL.q (q_extract rfl rfl) rfl ?_
    refine WL.q (q_assign rfl) rfl ?_
    refine WL.q (q_assign rfl) rfl ?_
    refine WL.nil ?_
    refine AT.then_n ?_
    refine WC.seq ?_
    refine WC.region ?_
    refine WL.eff (e_call rfl (c66 (t := []))) rfl ?_; rintro _ _ _ ⟨rfl, rfl, rfl⟩
    refine WL.eff (e_alloc i_38) rfl ?_; rintro _ _ _ ⟨b10, rfl, rfl, rfl⟩
    refine WL.effn (e_storeAll 0 rfl rfl rfl i_38 rfl (Tg.len _) (by first | (simp [Value.cells, Tg.len]; done) | (simp [Value.cells, Tg.cells]; done)) (Tg.ones _)) ?_; rintro _ _ _ ⟨rfl, rfl, rfl⟩
    refine WL.nil ?_
    refine AT.then_n ?_
    refine WC.seq ?_
    refine WC.seq ?_
    refine WC.region ?_
    refine WL.q (q_move rfl) rfl ?_
    refine WL.nil ?_
    refine AT.then_n ?_
    refine WC.block ?_
    refine WC.loop (σ := Nat × Tg × (PH → Prop)) (fun ⟨i, T, k⟩ => i ≤ 60 ∧ Ent k kE ∧ Ent k T.ok ∧ T.small ∧ T.er = hashN i) (fun ⟨i, T, k⟩ => [(51, .int .i64 i), (1, .slice A3 (putB (.mk 6 0 0 [] [(Tg.mk 2 1 2 [] none 0 []).er, (Tg.mk 1 0 0 [104, 105] none 0 []).er])).length c3), (2, .int .i64 0), (9, .bool false), (10, .pointer (some (ad b10 0)))]) (fun ⟨i, T, k⟩ => Pt b10 (.cells T.cells.toArray 38 (0, 0)) :: MpIt b9 r9 kS ML done :: own) (fun ⟨i, T, k⟩ => k) (fun ⟨i, T, k⟩ => 60 - i) (0, Tg.mk 1 0 0 [] none 0 [], kE) ⟨by omega, Ent.refl _, Ent.leaf, (Tg.small_mk.2 ⟨by simp, by simp, by simp⟩), rfl⟩ ⟨rfl, rfl, rfl, rfl, rfl, trivial⟩ (Imp.refl _ _) ?_
    rintro ⟨i, T, k⟩ ⟨hi, hk, hT, hsT, heT⟩
    simp only at hi hk hT hsT heT ⊢
    refine WC.seq ?_
    refine WC.region ?_
    refine WL.q (q_lss rfl rfl) rfl ?_
    refine WL.nil ?_
    refine AT.then_n ?_
    refine WC.seq ?_
    refine WC.cond rfl (fun h3 => ?_) (fun h3 => ?_)
    · -- if 3: yes
      try have p3 := of_decide_eq_true h3
      refine WC.skip ?_
      refine AT.then_n ?_
      refine WC.seq ?_
      refine WC.block ?_
      refine WC.region ?_
      refine WL.q (q_loadA rfl a_38 i_38 (Cells.pt 0 rfl) (Tg.len _)) rfl ?_
      refine WL.eff (e_call rfl (c70 hT hsT)) rfl ?_; rintro _ _ k8 ⟨T8, rfl, rfl, hk8, hT8, he8, hs8⟩
      refine WL.effn (e_storeAll 0 rfl rfl rfl i_38 rfl (Tg.len _) (by first | (simp [Value.cells, Tg.len]; done) | (simp [Value.cells, Tg.cells]; done)) (Tg.ones _)) ?_; rintro _ _ _ ⟨rfl, rfl, rfl⟩
      refine WL.nil ?_
      refine AT.blk_n ?_
      refine AT.then_n ?_
      refine WC.region ?_
      first | refine WL.q (q_add64 rfl rfl (by omega)) rfl ?_ | refine WL.q (q_add rfl rfl) rfl ?_
      refine WL.q (q_move rfl) rfl ?_
      refine WL.nil ?_
      refine AT.mid (i + 1, T8, k8) ⟨⟨by first | omega | (simp only; omega), hk8.trans hk, hT8, hs8, by rw [he8, heT]; rfl⟩, by first | omega | (simp only; omega)⟩ ⟨rfl, rfl, rfl, rfl, rfl, trivial⟩ (Imp.refl _ _)
    · -- if 3: no
      try have p3 := of_decide_eq_false h3
      have hi60 : i = 60 := by omega
      subst hi60
      obtain ⟨A9, cap9, X, rfl, heX⟩ := er_one heT
      have hFT : Fr 61 (Tg.mk 5 0 0 [] A9 cap9 [X]) := hash_fr (n := 60) heT hsT
      have hrX := Ent.kids hT
      have hsX : X.small := (Tg.small_mk.1 hsT).2.2 X (by simp)
      have hFX : Fr 60 X := hash_fr (n := 59) heX hsX
      have hrowE := hk.trans hrowE
      refine WC.exit ?_
      refine AT.then_e ?_
      refine AT.then_e ?_
      refine AT.blk_e ?_
      refine AT.then_n ?_
      refine WC.seq ?_
      refine WC.drawS [0, 1, 2, 3, 5, 6, 7, 13, 14, 15, 16, 17, 18, 19, 24, 25, 27, 28, 31, 32, 33, 34, 39, 40, 41, 45, 46, 47, 53, 54] (Pt b10 (.cells (Tg.mk 5 0 0 [] A9 cap9 [X]).cells.toArray 38 (0, 0)) :: []) k mixed (NoPan.then NoPan.body) (Imp.keepRest (List.Sublist.cons_cons _ (List.nil_sublist _)) (Ent.refl _)) rfl ?_
      refine WD.sched [(0, 0), (1, 0), (2, 0)] false (by decide +kernel) ?_
      refine WS.q 0 rfl (q_move rfl) rfl ?_
      refine WS.q 1 rfl (q_eql rfl rfl) rfl ?_
      refine WS.q 2 rfl (q_move rfl) rfl ?_
      refine WS.back ?_
      refine WD.sched [(3, 0), (4, 0), (5, 0), (6, 0), (7, 0)] false (by decide +kernel) ?_
      refine WS.qon 3 rfl rfl rfl rfl (q_move rfl) rfl ?_
      refine WS.qon 4 rfl rfl rfl rfl (q_b2sK rfl u_23 u_5 u_9 hrowE) rfl ?_
      refine WS.qon 5 rfl rfl rfl rfl (q_eqlS rfl rfl) rfl ?_
      refine WS.q 6 rfl (q_pickT rfl rfl rfl) rfl ?_
      refine WS.q 7 rfl (q_move rfl) rfl ?_
      refine WS.back ?_
      refine WD.sched [(8, 2), (9, 2), (10, 2), (11, 2), (12, 2), (13, 0), (14, 0), (15, 0)] false (by decide +kernel) ?_
      refine WS.effonL 8 rfl rfl rfl (decide_eq_true rfl) (e_call rfl (c66 (t := [97]))) rfl ?_; rintro _ _ _ ⟨rfl, rfl, rfl⟩
      refine ⟨(Imp.keepRest (List.Sublist.cons_cons _ (List.nil_sublist _)) (by first | exact Ent.refl _ | exact hk5 | exact hk6.trans hk5 | exact (hk6.trans hk5).left)), ?_⟩
      refine WS.effonL 9 rfl rfl rfl (decide_eq_true rfl) (e_call rfl (c69 (u := 1))) rfl ?_; rintro _ _ _ ⟨rfl, rfl, rfl⟩
      refine ⟨(Imp.keepRest (List.Sublist.cons_cons _ (List.nil_sublist _)) (by first | exact Ent.refl _ | exact hk5 | exact hk6.trans hk5 | exact (hk6.trans hk5).left)), ?_⟩
      refine WS.effonL 10 rfl rfl rfl (decide_eq_true rfl) (e_call rfl (c70 (T := Tg.mk 3 1 0 [] none 0 []) Ent.leaf (Tg.small_mk.2 ⟨by simp, by simp, by simp⟩))) rfl ?_; rintro _ _ k5 ⟨T5, rfl, rfl, hk5, hT5, he5, hs5⟩
      refine ⟨(Imp.keepRest (List.Sublist.cons_cons _ (List.nil_sublist _)) (by first | exact Ent.refl _ | exact hk5 | exact hk6.trans hk5 | exact (hk6.trans hk5).left)), ?_⟩
      refine WS.effonL 11 rfl rfl rfl (decide_eq_true rfl) (e_call rfl (c72 (T := Tg.mk 1 0 0 [97] none 0 []) Ent.leaf (Tg.small_mk.2 ⟨by simp, by simp, by simp⟩) hT5 hs5)) rfl ?_; rintro _ _ k6 ⟨T6, rfl, rfl, hk6, hT6, he6, hs6⟩
      rw [he5] at he6
      refine ⟨(Imp.keepRest (List.Sublist.cons_cons _ (List.nil_sublist _)) (by first | exact Ent.refl _ | exact hk5 | exact hk6.trans hk5 | exact (hk6.trans hk5).left)), ?_⟩
      refine WS.effonL 12 rfl rfl rfl (decide_eq_true rfl) (e_call rfl (c71 hT6 hs6)) rfl ?_; rintro _ _ _ ⟨rfl, rfl, rfl⟩
      rw [he6]
      refine ⟨(Imp.keepRest (List.Sublist.cons_cons _ (List.nil_sublist _)) (by first | exact Ent.refl _ | exact hk5 | exact hk6.trans hk5 | exact (hk6.trans hk5).left)), ?_⟩
      refine WS.qon 13 rfl rfl rfl (decide_eq_true rfl) (q_eql rfl rfl) rfl ?_
      refine WS.q 14 rfl (q_pickT rfl (decide_eq_true rfl) rfl) rfl ?_
      refine WS.q 15 rfl (q_move rfl) rfl ?_
      refine WS.back ?_
      refine WD.sched [(16, 0), (17, 0), (18, 0), (19, 0)] false (by decide +kernel) ?_
      refine WS.qon 16 rfl rfl rfl (decide_eq_true (by decide)) (q_move rfl) rfl ?_
      refine WS.qon 17 rfl rfl rfl (decide_eq_true (by decide)) (q_not rfl) rfl ?_
      refine WS.q 18 rfl (q_pickT rfl (decide_eq_true (by decide)) rfl) rfl ?_
      refine WS.q 19 rfl (q_move rfl) rfl ?_
      refine WS.back ?_
      refine WD.sched [(20, 2), (21, 2), (22, 2), (23, 2), (24, 0), (25, 0)] false (by decide +kernel) ?_
      refine WS.effonL 20 rfl rfl rfl rfl (e_call rfl (c66 (t := [97]))) rfl ?_; rintro _ _ _ ⟨rfl, rfl, rfl⟩
      refine ⟨(Imp.keepRest (List.Sublist.cons_cons _ (List.nil_sublist _)) (by first | exact Ent.refl _ | exact hk5 | exact hk6.trans hk5 | exact (hk6.trans hk5).left)), ?_⟩
      refine WS.effonL 21 rfl rfl rfl rfl (e_call rfl (c69 (u := 2))) rfl ?_; rintro _ _ _ ⟨rfl, rfl, rfl⟩
      refine ⟨(Imp.keepRest (List.Sublist.cons_cons _ (List.nil_sublist _)) (by first | exact Ent.refl _ | exact hk5 | exact hk6.trans hk5 | exact (hk6.trans hk5).left)), ?_⟩
      refine WS.effonL 22 rfl rfl rfl rfl (e_buildSliceK (cs := (Tg.mk 1 0 0 [97] none 0 []).cells ++ (Tg.mk 3 2 0 [] none 0 []).cells) rfl u_35 i_38 rfl rfl rfl rfl rfl) rfl ?_; rintro _ _ _ ⟨b7, rfl, rfl, rfl⟩
      have hkk := (hk6.trans hk5)
      refine ⟨(Imp.keepRest (List.Sublist.cons_cons _ (List.nil_sublist _)) (by first | exact Ent.refl _ | exact hk5 | exact hk6.trans hk5 | exact (hk6.trans hk5).left)), ?_⟩
      refine WS.effonL 23 rfl rfl rfl rfl (e_call rfl (c18 (ls := [Tg.mk 1 0 0 [97] none 0 [], (Tg.mk 3 2 0 [] none 0 [])]) (by simp) (Rows.two Ent.right rfl Ent.leaf Ent.leaf) (by intro x hx; simp at hx; rcases hx with rfl | rfl <;> exact ⟨(Tg.small_mk.2 ⟨by simp, by simp, by simp⟩), by decide, by decide⟩))) rfl ?_; rintro _ _ _ ⟨rfl, rfl, rfl⟩
      refine ⟨(Imp.keepRest (List.Sublist.cons_cons _ (List.nil_sublist _)) (by first | exact Ent.refl _ | exact hk5 | exact hk6.trans hk5 | exact (hk6.trans hk5).left)), ?_⟩
      refine WS.q 24 rfl (q_pickT rfl rfl rfl) rfl ?_
      refine WS.q 25 rfl (q_move rfl) rfl ?_
      refine WS.back ?_
      refine WD.sched [(26, 2), (27, 0), (28, 0)] false (by decide +kernel) ?_
      refine WS.effonL 26 rfl rfl rfl rfl (e_call rfl (c18 (ls := []) (by simp) Rows.none (fun x hx => nomatch hx))) rfl ?_; rintro _ _ _ ⟨rfl, rfl, rfl⟩
      refine ⟨(Imp.keepRest (List.Sublist.cons_cons _ (List.nil_sublist _)) (by first | exact Ent.refl _ | exact hk5 | exact hk6.trans hk5 | exact (hk6.trans hk5).left)), ?_⟩
      refine WS.q 27 rfl (q_pickT rfl rfl rfl) rfl ?_
      refine WS.q 28 rfl (q_move rfl) rfl ?_
      refine WS.back ?_
      refine WD.sched [(29, 0), (30, 2), (31, 0), (32, 0), (33, 0)] false (by decide +kernel) ?_
      refine WS.qon 29 rfl rfl rfl rfl (q_loadA rfl a_38 i_38 (Cells.pt 0 rfl) (Tg.len _)) rfl ?_
      refine WS.effonL 30 rfl rfl rfl rfl (e_call rfl (c73 (hkk.left.trans hT) hsT)) rfl ?_; rintro _ _ _ ⟨rfl, rfl, rfl⟩
      rw [if_pos (show szP (Tg.mk 5 0 0 [] A9 cap9 [X]).er = 0 by rw [heT]; decide +kernel)]
      refine ⟨(Imp.keepRest (List.Sublist.cons_cons _ (List.nil_sublist _)) (by first | exact Ent.refl _ | exact hk5 | exact hk6.trans hk5 | exact (hk6.trans hk5).left)), ?_⟩
      refine WS.qon 31 rfl rfl rfl rfl (q_eql rfl rfl) rfl ?_
      refine WS.q 32 rfl (q_pickT rfl rfl rfl) rfl ?_
      refine WS.q 33 rfl (q_move rfl) rfl ?_
      refine WS.back ?_
      refine WD.sched [(34, 0), (35, 0), (36, 0), (37, 0), (38, 2), (39, 0), (40, 0), (41, 0)] false (by decide +kernel) ?_
      refine WS.qon 34 rfl rfl rfl (decide_eq_true rfl) (q_fieldAddr rfl fo_38_4) rfl ?_
      refine WS.qon 35 rfl rfl rfl (decide_eq_true rfl) (q_load rfl a_35 (by first | exact Cell.ptL 0 rfl rfl | exact Cell.ptL 1 rfl rfl | exact Cell.ptL 2 rfl rfl | exact Cell.ptL 3 rfl rfl | exact Cell.ptL 4 rfl rfl)) rfl ?_
      refine WS.qon 36 rfl rfl rfl (decide_eq_true rfl) (q_indexAddr rfl rfl u_35 i_38 (Based.row hrX.row (by simp [Tg.len])) (by simp)) rfl ?_
      refine WS.qon 37 rfl rfl rfl (decide_eq_true rfl) (q_loadA (vs := X.cells) rfl a_38 i_38 (Cells.at (i := 0) hrX.row Tg.len (by simp)) (Tg.len _)) rfl ?_
      refine WS.effonL 38 rfl rfl rfl (decide_eq_true rfl) (e_call rfl (c73 (hkk.left.trans (hrX.ok _ (by simp))) hsX)) rfl ?_; rintro _ _ _ ⟨rfl, rfl, rfl⟩
      rw [if_neg (show szP X.er ≠ 0 by rw [heX]; decide +kernel)]
      refine ⟨(Imp.keepRest (List.Sublist.cons_cons _ (List.nil_sublist _)) (by first | exact Ent.refl _ | exact hk5 | exact hk6.trans hk5 | exact (hk6.trans hk5).left)), ?_⟩
      refine WS.qon 39 rfl rfl rfl (decide_eq_true rfl) (q_eql rfl rfl) rfl ?_
      refine WS.q 40 rfl (q_pickT rfl (decide_eq_true rfl) rfl) rfl ?_
      refine WS.q 41 rfl (q_move rfl) rfl ?_
      refine WS.back ?_
      refine WD.sched [(42, 0), (43, 2), (44, 2), (45, 0), (46, 0)] false (by decide +kernel) ?_
      refine WS.qon 42 rfl rfl rfl (decide_eq_true rfl) (q_loadA rfl a_38 i_38 (Cells.pt 0 rfl) (Tg.len _)) rfl ?_
      refine WS.effonL 43 rfl rfl rfl (decide_eq_true rfl) (e_call rfl (c66 (t := [120]))) rfl ?_; rintro _ _ _ ⟨rfl, rfl, rfl⟩
      refine ⟨(Imp.keepRest (List.Sublist.cons_cons _ (List.nil_sublist _)) (by first | exact Ent.refl _ | exact hk5 | exact hk6.trans hk5 | exact (hk6.trans hk5).left)), ?_⟩
      refine WS.effonL 44 rfl rfl rfl (decide_eq_true rfl) (e_call rfl (c17 (a := (Tg.mk 5 0 0 [] A9 cap9 [X])) (b := Tg.mk 1 0 0 [120] none 0 []) (w := 0) (z := 0) (hFT.fair (by omega) (hkk.left.trans hT)) ((Fr.leaf (c := 1) (by simp) (by omega)).fair (by omega) Ent.leaf) (by omega))) rfl ?_; rintro _ _ _ ⟨rfl, rfl, rfl⟩
      refine ⟨(Imp.keepRest (List.Sublist.cons_cons _ (List.nil_sublist _)) (by first | exact Ent.refl _ | exact hk5 | exact hk6.trans hk5 | exact (hk6.trans hk5).left)), ?_⟩
      refine WS.q 45 rfl (q_pickT rfl (decide_eq_true rfl) rfl) rfl ?_
      refine WS.q 46 rfl (q_move rfl) rfl ?_
      refine WS.back ?_
      refine WD.sched [(47, 0), (48, 0), (49, 0), (50, 0), (51, 0), (52, 2), (53, 0), (54, 0)] true (by decide +kernel) ?_
      refine WS.qon 47 rfl rfl rfl rfl (q_fieldAddr rfl fo_38_4) rfl ?_
      refine WS.qon 48 rfl rfl rfl rfl (q_load rfl a_35 (by first | exact Cell.ptL 0 rfl rfl | exact Cell.ptL 1 rfl rfl | exact Cell.ptL 2 rfl rfl | exact Cell.ptL 3 rfl rfl | exact Cell.ptL 4 rfl rfl)) rfl ?_
      refine WS.qon 49 rfl rfl rfl rfl (q_indexAddr rfl rfl u_35 i_38 (Based.row hrX.row (by simp [Tg.len])) (by simp)) rfl ?_
      refine WS.qon 50 rfl rfl rfl rfl (q_loadA (vs := X.cells) rfl a_38 i_38 (Cells.at (i := 0) hrX.row Tg.len (by simp)) (Tg.len _)) rfl ?_
      refine WS.qon 51 rfl rfl rfl rfl (q_loadA rfl a_38 i_38 (Cells.pt 0 rfl) (Tg.len _)) rfl ?_
      refine WS.effonL 52 rfl rfl rfl rfl (e_call rfl (c17 (a := X) (b := (Tg.mk 5 0 0 [] A9 cap9 [X])) (w := 30) (z := 9) (hFX.fair (by omega) (hkk.left.trans (hrX.ok _ (by simp)))) (hFT.fair (by omega) (hkk.left.trans hT)) (by omega))) rfl ?_; rintro _ _ _ ⟨rfl, rfl, rfl⟩
      refine ⟨(Imp.keepRest (List.Sublist.cons_cons _ (List.nil_sublist _)) (by first | exact Ent.refl _ | exact hk5 | exact hk6.trans hk5 | exact (hk6.trans hk5).left)), ?_⟩
      refine WS.q 53 rfl (q_pickT rfl rfl rfl) rfl ?_
      refine WS.q 54 rfl (q_assign rfl) rfl ?_
      refine WS.done ?_
      refine AT.then_n ?_
      refine WC.ret ?_
      exact AT.done rfl (RO.one rfl rfl) ⟨rfl, rfl, rfl⟩ (Imp.drop (Imp.drop (Imp.ent ((hkk.left.trans hk).trans hkE))))

end Go.Proofs.Sl
