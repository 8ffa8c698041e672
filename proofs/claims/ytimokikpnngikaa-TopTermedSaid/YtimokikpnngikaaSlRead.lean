/- Layer 8: the reader of terms. -/
import Derived.Test.YtimokikpnngikaaSlTerm3
import Derived.Test.YtimokikpnngikaaSlPan
import Derived.Test.YtimokikpnngikaaSlRdP
namespace Go.Proofs.Sl
open Go
set_option linter.unusedVariables false
set_option linter.unusedSimpArgs false

theorem ii_231 : IsI Try.prog 231 false := by unfold IsI; kernel_rfl
theorem ii_20 : IsI Try.prog 20 true := by unfold IsI; kernel_rfl
theorem set_same {own : List SP} {j : Nat} {A : SP} (h : own[j]? = some A) : own.set j A = own := by
  obtain ⟨h1, h2⟩ := List.getElem?_eq_some_iff.1 h
  rw [← h2]; exact List.set_getElem_self h1
theorem Spec.ro {P : Program} {f : FuncId} {args : List Value} {own : List SP} {K : PH → Prop} {A : SP} (i : Nat) (hi : own[i]? = some A) {v : Value} (h : Spec P f args (A :: own.eraseIdx i) K (Ret v (A :: own.eraseIdx i) K)) : Spec P f args own K (Ret v own K) := by
  have := Spec.at_ i hi h
  rwa [set_same hi] at this
theorem Spec.rd {own : List SP} {K : PH → Prop} {p : Nat} {A : Option Addr} {cap : Nat} {l l2 : List UInt8} {why why2 : Int} {f : FuncId} {args : List Value} {v : Value} (i : Nat) (hi : own[i]? = some (Rd p A l.length cap why))
    (h : Spec Try.prog f args (Rd p A l.length cap why :: own.eraseIdx i) K (RdPost p (own.eraseIdx i) K v l2 why2)) : Spec Try.prog f args own K (fun v' o k => v = v' ∧ K = k ∧ ∃ A' cap', o = own.set i (Rd p A' l2.length cap' why2) ∧ RdOk K A' cap' l2) :=
  Spec.all fun g => ((h.at g).pre (Imp.front i hi)).weak fun v' o k ⟨h1, h2, A', cap', h3, h4⟩ => ⟨own.set i (Rd p A' l2.length cap' why2), k, by subst h2 h3; exact fun _ _ h => h.unfocus hi, h1, h2, A', cap', rfl, h4⟩
abbrev TRd (r p : Nat) (left : Int) : SP := Pt r (.cells ([.pointer (some (ad p 0)), .int .i64 left] : List Value).toArray 229 (0, 0))
def pan (c : Int) : List PanicEntry := [{ v := .iface 231 (.agg #[.int .i64 c]), recovered := false }]

theorem c227 {own : List SP} {K : PH → Prop} {i j r p n cap : Nat} {A : Option Addr} {left why : Int} {ok : Bool} (hi : own[i]? = some (TRd r p left)) (hj : own[j]? = some (Rd p A n cap why)) : SpecP Try.prog 227 [.pointer (some (ad r 0)), .bool ok] (own) (K)
    (fun v o k => v = .tuple #[] ∧ why = 0 ∧ ok = true ∧ own = o ∧ K = k) (fun ch o k => ((why ≠ 0 ∧ ch = pan 7) ∨ (why = 0 ∧ ok = false ∧ ch = pan 150)) ∧ own = o ∧ K = k) := by
  refine SpecP.of en_227 Try.func227 rfl rfl fun g => ?_
  refine WC.block ?_
  refine WC.seq ?_
  refine WC.region ?_
  refine WL.q (q_move rfl) rfl ?_
  refine WL.q (q_nil rfl) rfl ?_
  refine WL.q (q_fieldAddr rfl fo_229_0) rfl ?_
  refine WL.q (q_load rfl a_62 (Cell.ptL i hi rfl)) rfl ?_
  refine WL.eff (e_call rfl (Spec.ro j hj c37)) rfl ?_; rintro _ _ _ ⟨rfl, rfl, rfl⟩
  refine WL.q (q_neq rfl rfl) rfl ?_
  refine WL.q (q_assign rfl) rfl ?_
  refine WL.nil ?_
  refine AT.then_n ?_
  refine WC.cond rfl (fun h1 => ?_) (fun h1 => ?_)
  · -- if 1: yes
    try have p1 := of_decide_eq_true h1
    refine WC.region ?_
    refine WL.q (q_buildL (cs := [.int .i64 7]) rfl pl_231 i_231 rfl rfl) rfl ?_
    refine WL.q (q_iface ii_231 rfl) rfl ?_
    refine WL.effPn (e_panic rfl) ?_ (fun _ _ _ h => h.elim)
    rintro _ _ _ ⟨rfl, rfl, rfl⟩
    refine AT.blk_p ?_
    exact AT.panics rfl ⟨.inl ⟨p1, rfl⟩, rfl, rfl⟩ (Imp.refl _ _)
  · -- if 1: no
    try have p1 := of_decide_eq_false h1
    refine WC.seq ?_
    refine WC.region ?_
    refine WL.q (q_move rfl) rfl ?_
    refine WL.q (q_not rfl) rfl ?_
    refine WL.q (q_assign rfl) rfl ?_
    refine WL.nil ?_
    refine AT.then_n ?_
    refine WC.cond rfl (fun h2 => ?_) (fun h2 => ?_)
    · -- if 2: yes
      try have p2 := of_decide_eq_true h2
      refine WC.region ?_
      refine WL.q (q_buildL (cs := [.int .i64 150]) rfl pl_231 i_231 rfl rfl) rfl ?_
      refine WL.q (q_iface ii_231 rfl) rfl ?_
      refine WL.effPn (e_panic rfl) ?_ (fun _ _ _ h => h.elim)
      rintro _ _ _ ⟨rfl, rfl, rfl⟩
      refine AT.blk_p ?_
      exact AT.panics rfl ⟨.inr ⟨by simpa using p1, by simpa using h2, rfl⟩, rfl, rfl⟩ (Imp.refl _ _)
    · -- if 2: no
      try have p2 := of_decide_eq_false h2
      refine WC.skip ?_
      refine AT.blk_n ?_
      exact AT.donePN rfl (RO.none rfl) ⟨rfl, by simpa using p1, by simpa using h2, rfl, rfl⟩ (Imp.refl _ _)


theorem Spec.raw {own : List SP} {K : PH → Prop} {p : Nat} {A : Option Addr} {cap : Nat} {l l2 t : List UInt8} {why why2 : Int} {f : FuncId} {args : List Value} (i : Nat) (hi : own[i]? = some (Rd p A l.length cap why))
    (h : Spec Try.prog f args (Rd p A l.length cap why :: own.eraseIdx i) K (RawPost p (own.eraseIdx i) K t l2 why2)) : Spec Try.prog f args own K (fun v' o k => ∃ A' cap' B cb, v' = .slice B t.length cb ∧ k = (K ∩ Row B (t.map bv)) ∧ o = own.set i (Rd p A' l2.length cap' why2) ∧ RdOk K A' cap' l2) :=
  Spec.all fun g => ((h.at g).pre (Imp.front i hi)).weak fun v' o k ⟨A', cap', B, cb, h1, h3, h4, h5⟩ => ⟨own.set i (Rd p A' l2.length cap' why2), K ∩ Row B (t.map bv), by subst h3; exact fun _ _ h => (h.unfocus hi).ent h4, A', cap', B, cb, h1, rfl, rfl, h5⟩
theorem offs_cons (x : UInt8) (b : List UInt8) : offs (x :: b) 0 1 = ([x], b, 0) := by simp [offs]
theorem num_single (x : UInt8) : num [x] = x.toNat := by simp [num]
theorem offs_nil : offs [] 0 1 = ([], [], 7) := by simp [offs]
theorem offs1 {b : List UInt8} (h : (offs b 0 1).2.2 = 0) : ∃ x b2, b = x :: b2 := by
  cases b with
  | nil => rw [offs_nil] at h; cases h
  | cons x b => exact ⟨x, b, rfl⟩
theorem offs1_nil {b : List UInt8} (h : (offs b 0 1).2.2 ≠ 0) : b = [] := by
  cases b with
  | nil => rfl
  | cons x b => rw [offs_cons] at h; exact absurd rfl h
theorem offs1_le (b : List UInt8) : num (offs b 0 1).1 ≤ 255 := by
  cases b with
  | nil => rw [offs_nil]; decide
  | cons x b => rw [offs_cons, num_single]; have := x.toNat_lt; omega
theorem offs2_le (b : List UInt8) : num (offs b 0 2).1 ≤ 65535 := by
  unfold offs
  rw [if_pos rfl]
  split
  · simp [num]
  · rename_i h
    match b, h with
    | x :: y :: b, _ => have := x.toNat_lt; have := y.toNat_lt; simp [num]; omega
    | [], h => simp at h
    | [x], h => simp at h
theorem offs2 {b : List UInt8} (h : (offs b 0 2).2.2 = 0) : 2 ≤ b.length ∧ offs b 0 2 = (b.take 2, b.drop 2, 0) := by
  unfold offs at h ⊢
  rw [if_pos rfl] at h ⊢
  split at h
  · cases h
  · rename_i h2
    rw [if_neg h2]; exact ⟨by omega, rfl⟩
theorem offs2_short {b : List UInt8} (h : (offs b 0 2).2.2 ≠ 0) : b.length < 2 := by
  unfold offs at h
  rw [if_pos rfl] at h
  split at h
  · assumption
  · exact absurd rfl h
theorem offI_nat (b : List UInt8) (n : Nat) : offI b 0 (n : Int) = if b.length < n then ([], b, 7) else (b.take n, b.drop n, 0) := by
  unfold offI offs
  rw [if_pos rfl, if_neg (by omega), if_pos rfl, Int.toNat_natCast]
theorem offI1 {b : List UInt8} {n : Nat} (h : (offI b 0 (n : Int)).2.2 = 0) : n ≤ b.length ∧ offI b 0 (n : Int) = (b.take n, b.drop n, 0) := by
  rw [offI_nat] at h ⊢
  split at h
  · cases h
  · rename_i h2
    rw [if_neg h2]; exact ⟨by omega, rfl⟩
theorem offI_short {b : List UInt8} {n : Nat} (h : (offI b 0 (n : Int)).2.2 ≠ 0) : b.length < n := by
  rw [offI_nat] at h
  split at h
  · assumption
  · exact absurd rfl h
theorem kidsN_le (f : Nat) : kidsN f ≤ 2 := by unfold kidsN; (repeat' split) <;> omega
def RdΦ (own : List SP) (K : PH → Prop) (r p N : Nat) (deep left : Int) (b : List UInt8) : Value → List SP → (PH → Prop) → Prop := fun v o k =>
  ∃ (T : Tg) (rest : List UInt8) (left2 : Int) (A : Option Addr) (cap : Nat), v = .agg T.cells.toArray ∧ o = TRd r p left2 :: Rd p A rest.length cap 0 :: own ∧ rd N deep left b = .ok T.er rest left2 ∧ Ent k K ∧ Ent k T.ok ∧ T.small ∧ RdOk k A cap rest ∧ rest.length < b.length ∧ 0 ≤ left2 ∧ left2 < left
def RdΨ (own : List SP) (K : PH → Prop) (N : Nat) (deep left : Int) (b : List UInt8) : PanP := fun ch o k =>
  ∃ c, rd N deep left b = .err c ∧ ch = pan c ∧ o = own ∧ Ent k K


theorem c34_cons {own : List SP} {K : PH → Prop} {p : Nat} {A : Option Addr} {cap : Nat} {x : UInt8} {b : List UInt8} (h : RdOk K A cap (x :: b)) : Spec Try.prog 34 [.pointer (some (ad p 0))] (Rd p A (x :: b).length cap 0 :: own) K (RdPost p own K (.int .u8 x.toNat) b 0) := by
  have := c34 (own := own) (p := p) (why := 0) h
  rwa [offs_cons, num_single] at this
theorem c34_nil {own : List SP} {K : PH → Prop} {p : Nat} {A : Option Addr} {cap : Nat} (h : RdOk K A cap []) : Spec Try.prog 34 [.pointer (some (ad p 0))] (Rd p A ([] : List UInt8).length cap 0 :: own) K (RdPost p own K (.int .u8 0) [] 7) := by
  have := c34 (own := own) (p := p) (why := 0) h
  rwa [offs_nil] at this

theorem c165_cons {own : List SP} {K : PH → Prop} {r p M cap : Nat} {A : Option Addr} {x : UInt8} {b : List UInt8} {deep left : Int} (hb : RdOk K A cap (x :: b)) (hM : b.length < M) (hl2 : b.length ≤ 100000) (hdeep : 1 ≤ deep ∧ deep ≤ 61) (hleft : 0 ≤ left ∧ left ≤ 1200) (ih : ∀ {own : List SP} {K : PH → Prop} {A : Option Addr} {cap : Nat} {b : List UInt8} {left : Int} (hb : RdOk K A cap b) (hM : b.length < M) (hl2 : b.length ≤ 100000) (hdeep : 1 ≤ deep + 1 ∧ deep + 1 ≤ 61) (hleft : 0 ≤ left ∧ left ≤ 1200), SpecP Try.prog 165 [.pointer (some (ad r 0)), .int .i64 (deep + 1)] (TRd r p left :: Rd p A b.length cap 0 :: own) K (RdΦ own K r p M (deep + 1) left b) (RdΨ own K M (deep + 1) left b)) : SpecP Try.prog 165 [.pointer (some (ad r 0)), .int .i64 deep] (TRd r p left :: Rd p A (x :: b).length cap 0 :: own) (K)
    (RdΦ own K r p (M + 1) deep left (x :: b)) (RdΨ own K (M + 1) deep left (x :: b)) := by
  have hx := x.toNat_lt
  refine SpecP.of en_165 Try.func165 rfl rfl fun g => ?_
  refine WC.seq ?_
  refine WC.region ?_
  refine WL.eff (e_alloc i_38) rfl ?_; rintro _ _ _ ⟨b1, rfl, rfl, rfl⟩
  refine WL.nil ?_
  refine AT.then_n ?_
  refine WC.seq ?_
  refine WC.region ?_
  refine WL.q (q_move rfl) rfl ?_
  refine WL.q (q_nil rfl) rfl ?_
  refine WL.q (q_fieldAddr rfl fo_229_0) rfl ?_
  refine WL.q (q_load rfl a_62 (by first | exact Cell.ptL 0 rfl rfl | exact Cell.ptL 1 rfl rfl | exact Cell.ptL 2 rfl rfl | exact Cell.ptL 3 rfl rfl | exact Cell.ptL 4 rfl rfl)) rfl ?_
  refine WL.eff (e_call rfl (Spec.rd 2 rfl (c34_cons hb))) rfl ?_; rintro _ _ _ ⟨rfl, rfl, A3, cap3, rfl, hb3⟩
  first | refine WL.q (q_convI (-9223372036854775808) 9223372036854775807 u_5 u_3 rfl rfl rfl (by omega)) rfl ?_ | refine WL.q (q_conv rfl u_5 u_3 rfl) rfl ?_
  refine WL.q (q_buildL (cs := (Tg.mk x.toNat 0 0 [] none 0 []).cells) rfl pl_38 i_38 rfl rfl) rfl ?_
  refine WL.eff (e_alloc i_38) rfl ?_; rintro _ _ _ ⟨b2, rfl, rfl, rfl⟩
  refine WL.effn (e_storeAll 0 rfl rfl rfl i_38 rfl (Tg.len _) (by simp [Value.cells]) (Tg.ones _)) ?_; rintro _ _ _ ⟨rfl, rfl, rfl⟩
  refine WL.nil ?_
  refine AT.then_n ?_
  refine WC.seq ?_
  refine WC.region ?_
  refine WL.q (q_fieldAddr rfl fo_38_0) rfl ?_
  refine WL.q (q_load rfl a_3 (by first | exact Cell.ptL 0 rfl rfl | exact Cell.ptL 1 rfl rfl | exact Cell.ptL 2 rfl rfl | exact Cell.ptL 3 rfl rfl | exact Cell.ptL 4 rfl rfl)) rfl ?_
  refine WL.eff (e_call rfl (c225 (k := (x.toNat : Int)))) rfl ?_; rintro _ _ _ ⟨rfl, rfl, rfl⟩
  refine WL.q (q_assign rfl) rfl ?_
  refine WL.nil ?_
  refine AT.then_n ?_
  refine WC.seq ?_
  refine WC.region ?_
  refine WL.q (q_move rfl) rfl ?_
  refine WL.q (q_nil rfl) rfl ?_
  refine WL.q (q_fieldAddr rfl fo_229_1) rfl ?_
  refine WL.q (q_load rfl a_3 (by first | exact Cell.ptL 0 rfl rfl | exact Cell.ptL 1 rfl rfl | exact Cell.ptL 2 rfl rfl | exact Cell.ptL 3 rfl rfl | exact Cell.ptL 4 rfl rfl)) rfl ?_
  first | refine WL.q (q_sub64 rfl rfl (by omega)) rfl ?_ | refine WL.q (q_sub rfl rfl) rfl ?_
  refine WL.q (q_nil rfl) rfl ?_
  refine WL.q (q_fieldAddr rfl fo_229_1) rfl ?_
  refine WL.effn (e_store 2 rfl rfl rfl i_3 rfl (by simp)) ?_; rintro _ _ _ ⟨rfl, rfl, rfl⟩
  refine WL.nil ?_
  refine AT.then_n ?_
  refine WC.seq ?_
  refine WC.region ?_
  refine WLy.enter ?_
  refine WLy.q (q_move rfl) rfl rfl ?_
  refine WLy.q (q_move rfl) rfl rfl ?_
  refine WLy.q (q_neq rfl rfl) rfl rfl ?_
  refine WLy.q (q_move rfl) rfl rfl ?_
  refine WLy.open0 3 28 true rfl rfl ?_
  refine WLy.qg 0 rfl rfl rfl (q_move rfl) rfl rfl rfl ?_
  refine WLy.qg 0 rfl rfl rfl (q_nil rfl) rfl rfl rfl ?_
  refine WLy.qg 0 rfl rfl rfl (q_fieldAddr rfl fo_229_1) rfl rfl rfl ?_
  refine WLy.qg 0 rfl rfl rfl (q_load rfl a_3 (by first | exact Cell.ptL 0 rfl rfl | exact Cell.ptL 1 rfl rfl | exact Cell.ptL 2 rfl rfl | exact Cell.ptL 3 rfl rfl | exact Cell.ptL 4 rfl rfl)) rfl rfl rfl ?_
  refine WLy.qg 0 rfl rfl rfl (q_geq rfl rfl) rfl rfl rfl ?_
  refine WLy.and0 0 rfl rfl rfl rfl rfl rfl rfl ?_
  refine WLy.q (q_move rfl) rfl rfl ?_
  refine WLy.open0 10 35 true rfl rfl ?_
  refine WLy.qg 0 rfl rfl rfl (q_move rfl) rfl rfl rfl ?_
  refine WLy.qg 0 rfl rfl rfl (q_leq rfl rfl) rfl rfl rfl ?_
  refine WLy.and0 0 rfl rfl rfl rfl rfl rfl rfl ?_
  refine WLy.effP (e_callP rfl (c227 (i := 2) (j := 3) rfl rfl)) rfl rfl ?_ ?_
  · -- a panic
    rintro _ _ _ ⟨h, rfl, rfl⟩
    rcases h with ⟨h, rfl⟩ | ⟨-, hbad, rfl⟩
    · exact absurd rfl h
    refine AT.then_p ?_
    exact AT.panics rfl ⟨150, (by rw [rd_cons, if_neg]; rintro ⟨q1, q2, q3⟩; simp only [Bool.and_eq_false_iff, decide_eq_false_iff_not] at hbad; omega), rfl, rfl, (by repeat (first | assumption | exact Ent.refl _ | refine Ent.left ?_))⟩ (Imp.drop (Imp.drop (Imp.drop (Imp.drop (Imp.refl _ _)))))
  rintro _ _ _ ⟨rfl, -, hgood, rfl, rfl⟩
  have hcond : fieldsN (x.toNat : Int) ≠ 0 ∧ 0 ≤ left - 1 ∧ deep ≤ 60 := by
    simp only [Bool.and_eq_true, decide_eq_true_eq] at hgood
    omega
  have hrd : rd (M + 1) deep left (x :: b) = rd1 (rd M (deep + 1)) (x.toNat : Int) (left - 1) b := by rw [rd_cons, if_pos hcond]
  refine WLy.done ?_
  refine AT.then_n ?_
  refine WC.cut (σ := List UInt8 × List UInt8 × Option Addr × Nat × (PH → Prop)) (fun ⟨t, b3, A2, c2, k2⟩ => (rd (M + 1) deep left (x :: b) = rd2 (rd M (deep + 1)) (x.toNat : Int) (left - 1) t b3 ∧ t.length ≤ 64) ∧ Ent k2 K ∧ RdOk k2 A2 c2 b3 ∧ b3.length ≤ b.length) (fun _ => [(0, .pointer (some (ad r 0))), (1, .int .i64 deep), (5, .pointer (some (ad b2 0))), (6, .int .i64 (fieldsN (x.toNat : Int))), (4, .pointer (some (ad b1 0)))]) (fun ⟨t, b3, A2, c2, k2⟩ => Pt b2 (.cells (Tg.mk x.toNat 0 0 t none 0 []).cells.toArray 38 (0, 0)) :: Pt b1 (.cells (Value.agg #[.int .i64 0, .int .i64 0, .int .i64 0, .string (bs []), .slice none 0 0]).cells 38 (0, 0)) :: TRd r p (left - 1) :: Rd p A2 b3.length c2 0 :: own) (fun ⟨t, b3, A2, c2, k2⟩ => k2) ?_ ?_
  · -- cut
    refine WC.seq ?_
    refine WC.region ?_
    refine WL.q (q_move rfl) rfl ?_
    refine WL.eff (e_call rfl (c226 (f := fieldsN (x.toNat : Int)) (m := 1) (fieldsN_le _) (by decide))) rfl ?_; rintro _ _ _ ⟨rfl, rfl, rfl⟩
    refine WL.nil ?_
    refine AT.then_n ?_
    refine WC.cond rfl (fun h1 => ?_) (fun h1 => ?_)
    · -- if 1: yes
      try have p1 := of_decide_eq_true h1
      refine WC.seq ?_
      refine WC.region ?_
      refine WL.q (q_move rfl) rfl ?_
      refine WL.q (q_nil rfl) rfl ?_
      refine WL.q (q_fieldAddr rfl fo_229_0) rfl ?_
      refine WL.q (q_load rfl a_62 (by first | exact Cell.ptL 0 rfl rfl | exact Cell.ptL 1 rfl rfl | exact Cell.ptL 2 rfl rfl | exact Cell.ptL 3 rfl rfl | exact Cell.ptL 4 rfl rfl)) rfl ?_
      refine WL.eff (e_call rfl (Spec.rd 3 rfl (c34 hb3))) rfl ?_; rintro _ _ _ ⟨rfl, rfl, A5, c5, rfl, hb5⟩
      have hn5 := offs1_le b
      first | refine WL.q (q_convI (-9223372036854775808) 9223372036854775807 u_5 u_3 rfl rfl rfl (by omega)) rfl ?_ | refine WL.q (q_conv rfl u_5 u_3 rfl) rfl ?_
      refine WL.q (q_assign rfl) rfl ?_
      refine WL.nil ?_
      refine AT.then_n ?_
      refine WC.seq ?_
      refine WC.region ?_
      refine WL.q (q_move rfl) rfl ?_
      refine WL.q (q_move rfl) rfl ?_
      refine WL.q (q_leq rfl rfl) rfl ?_
      refine WL.effP (e_callP rfl (c227 (i := 2) (j := 3) rfl rfl)) rfl ?_ ?_
      · -- a panic
        rintro _ _ _ ⟨h, rfl, rfl⟩
        obtain ⟨c, rfl, hc⟩ : ∃ c, _ = pan c ∧ rd (M + 1) deep left (x :: b) = .err c := by
          rcases h with ⟨h, h2⟩ | ⟨h, hbad, h2⟩
          · exact ⟨7, h2, by rw [hrd, offs1_nil h, rd1_nil p1]⟩
          · obtain ⟨y, b3, rfl⟩ := offs1 h
            simp only [offs_cons, num_single] at hbad
            refine ⟨150, h2, ?_⟩
            rw [hrd, rd1_cons p1, if_pos (by simp at hbad; omega)]
        refine AT.then_p ?_
        refine AT.then_p ?_
        exact AT.panics rfl ⟨c, hc, rfl, rfl, (by repeat (first | assumption | exact Ent.refl _ | refine Ent.left ?_))⟩ (Imp.drop (Imp.drop (Imp.drop (Imp.drop (Imp.refl _ _)))))
      rintro _ _ _ ⟨rfl, hw, hgood, rfl, rfl⟩
      obtain ⟨y, b3, rfl⟩ := offs1 hw
      simp only [offs_cons, num_single] at hgood hb5 ⊢
      have hy64 : y.toNat ≤ 64 := by have := of_decide_eq_true hgood; omega
      refine WL.nil ?_
      refine AT.then_n ?_
      refine WC.seq ?_
      refine WC.region ?_
      refine WL.q (q_move rfl) rfl ?_
      refine WL.q (q_nil rfl) rfl ?_
      refine WL.q (q_fieldAddr rfl fo_229_0) rfl ?_
      refine WL.q (q_load rfl a_62 (by first | exact Cell.ptL 0 rfl rfl | exact Cell.ptL 1 rfl rfl | exact Cell.ptL 2 rfl rfl | exact Cell.ptL 3 rfl rfl | exact Cell.ptL 4 rfl rfl)) rfl ?_
      refine WL.q (q_move rfl) rfl ?_
      refine WL.eff (e_call rfl (Spec.raw 3 rfl (c44 hb5 (by simp only [List.length_cons] at *; omega)))) rfl ?_; rintro _ _ _ ⟨A7, c7, B7, cb7, rfl, rfl, rfl, hb7⟩
      refine WL.q (q_b2sK rfl u_23 u_5 u_9 Ent.right) rfl ?_
      refine WL.q (q_fieldAddr rfl fo_38_3) rfl ?_
      refine WL.effn (e_store 0 rfl rfl rfl i_9 rfl (by rw [Tg.len]; omega)) ?_; rintro _ _ _ ⟨rfl, rfl, rfl⟩
      refine WL.nil ?_
      refine AT.then_n ?_
      refine WC.region ?_
      refine WL.q (q_move rfl) rfl ?_
      refine WL.effP (e_callP rfl (c227 (i := 2) (j := 3) rfl rfl)) rfl ?_ ?_
      · -- a panic
        rintro _ _ _ ⟨h, rfl, rfl⟩
        rcases h with ⟨h, rfl⟩ | ⟨-, hbad, -⟩
        rotate_left
        · cases hbad
        refine AT.then_p ?_
        exact AT.panics rfl ⟨7, (by rw [hrd, rd1_cons p1, if_neg (by omega), if_pos (offI_short h)]), rfl, rfl, (by repeat (first | assumption | exact Ent.refl _ | refine Ent.left ?_))⟩ (Imp.drop (Imp.drop (Imp.drop (Imp.drop (Imp.refl _ _)))))
      rintro _ _ _ ⟨rfl, hw, -, rfl, rfl⟩
      obtain ⟨hyl, ho⟩ := offI1 hw
      rw [ho] at hb7 ⊢
      simp only at hb7 ⊢
      refine WL.nil ?_
      refine AT.mid (b3.take y.toNat, b3.drop y.toNat, A7, c7, _) ⟨⟨by rw [hrd]; rw [rd1_cons p1, if_neg (by omega), if_neg (by omega)], (by simp; omega)⟩, (by repeat (first | assumption | exact Ent.refl _ | refine Ent.left ?_)), (by first | assumption | exact RdOk.mono (by assumption) (by repeat (first | assumption | exact Ent.refl _ | refine Ent.left ?_))), (by first | (simp only [List.length_drop, List.length_cons] at hle2 ⊢; omega) | (simp only [List.length_drop, List.length_cons]; omega) | (simp only [List.length_drop]; omega) | (simp only [List.length_cons] at hle2; omega) | omega)⟩ ⟨rfl, rfl, rfl, rfl, rfl, trivial⟩ (Imp.eq rfl)
    · -- if 1: no
      try have p1 := of_decide_eq_false h1
      refine WC.skip ?_
      refine AT.mid ([], b, A3, cap3, _) ⟨⟨by rw [hrd]; rw [rd1_no p1], by simp⟩, (by repeat (first | assumption | exact Ent.refl _ | refine Ent.left ?_)), (by first | assumption | exact RdOk.mono (by assumption) (by repeat (first | assumption | exact Ent.refl _ | refine Ent.left ?_))), (by first | (simp only [List.length_drop, List.length_cons] at hle2 ⊢; omega) | (simp only [List.length_drop, List.length_cons]; omega) | (simp only [List.length_drop]; omega) | (simp only [List.length_cons] at hle2; omega) | omega)⟩ ⟨rfl, rfl, rfl, rfl, rfl, trivial⟩ (Imp.eq rfl)
  · -- behind the cut
    rintro ⟨t, b3, A2, c2, k2⟩ ⟨⟨hrd, ht64⟩, hk2, hb2, hle2⟩
    simp only at hrd ht64 hk2 hb2 hle2 ⊢
    refine WC.cut (σ := List UInt8 × Int × List UInt8 × Option Addr × Nat × (PH → Prop)) (fun ⟨t, u, b3, A2, c2, k2⟩ => (rd (M + 1) deep left (x :: b) = rd3 (rd M (deep + 1)) (x.toNat : Int) (left - 1) t u b3 ∧ t.length ≤ 64) ∧ Ent k2 K ∧ RdOk k2 A2 c2 b3 ∧ b3.length ≤ b.length) (fun _ => [(0, .pointer (some (ad r 0))), (1, .int .i64 deep), (5, .pointer (some (ad b2 0))), (6, .int .i64 (fieldsN (x.toNat : Int))), (4, .pointer (some (ad b1 0)))]) (fun ⟨t, u, b3, A2, c2, k2⟩ => Pt b2 (.cells (Tg.mk x.toNat u 0 t none 0 []).cells.toArray 38 (0, 0)) :: Pt b1 (.cells (Value.agg #[.int .i64 0, .int .i64 0, .int .i64 0, .string (bs []), .slice none 0 0]).cells 38 (0, 0)) :: TRd r p (left - 1) :: Rd p A2 b3.length c2 0 :: own) (fun ⟨t, u, b3, A2, c2, k2⟩ => k2) ?_ ?_
    · -- cut
      refine WC.seq ?_
      refine WC.region ?_
      refine WL.q (q_move rfl) rfl ?_
      refine WL.eff (e_call rfl (c226 (f := fieldsN (x.toNat : Int)) (m := 2) (fieldsN_le _) (by decide))) rfl ?_; rintro _ _ _ ⟨rfl, rfl, rfl⟩
      refine WL.nil ?_
      refine AT.then_n ?_
      refine WC.cond rfl (fun h2 => ?_) (fun h2 => ?_)
      · -- if 2: yes
        try have p2 := of_decide_eq_true h2
        refine WC.seq ?_
        refine WC.region ?_
        refine WL.q (q_move rfl) rfl ?_
        refine WL.q (q_nil rfl) rfl ?_
        refine WL.q (q_fieldAddr rfl fo_229_0) rfl ?_
        refine WL.q (q_load rfl a_62 (by first | exact Cell.ptL 0 rfl rfl | exact Cell.ptL 1 rfl rfl | exact Cell.ptL 2 rfl rfl | exact Cell.ptL 3 rfl rfl | exact Cell.ptL 4 rfl rfl)) rfl ?_
        refine WL.eff (e_call rfl (Spec.rd 3 rfl (c34 hb2))) rfl ?_; rintro _ _ _ ⟨rfl, rfl, A8, c8, rfl, hb8⟩
        have hn5 := offs1_le b3
        first | refine WL.q (q_convI (-9223372036854775808) 9223372036854775807 u_5 u_3 rfl rfl rfl (by omega)) rfl ?_ | refine WL.q (q_conv rfl u_5 u_3 rfl) rfl ?_
        refine WL.q (q_fieldAddr rfl fo_38_1) rfl ?_
        refine WL.effn (e_store 0 rfl rfl rfl i_3 rfl (by rw [Tg.len]; omega)) ?_; rintro _ _ _ ⟨rfl, rfl, rfl⟩
        refine WL.nil ?_
        refine AT.then_n ?_
        refine WC.region ?_
        refine WL.q (q_move rfl) rfl ?_
        refine WL.q (q_fieldAddr rfl fo_38_1) rfl ?_
        refine WL.q (q_load rfl a_3 (by first | exact Cell.ptL 0 rfl rfl | exact Cell.ptL 1 rfl rfl | exact Cell.ptL 2 rfl rfl | exact Cell.ptL 3 rfl rfl | exact Cell.ptL 4 rfl rfl)) rfl ?_
        refine WL.eff (e_call rfl (c228 (u := (num (offs b3 0 1).1 : Int)))) rfl ?_; rintro _ _ _ ⟨rfl, rfl, rfl⟩
        refine WL.effP (e_callP rfl (c227 (i := 2) (j := 3) rfl rfl)) rfl ?_ ?_
        · -- a panic
          rintro _ _ _ ⟨h, rfl, rfl⟩
          obtain ⟨c, rfl, hc⟩ : ∃ c, _ = pan c ∧ rd (M + 1) deep left (x :: b) = .err c := by
            rcases h with ⟨h, h2⟩ | ⟨h, hbad, h2⟩
            · exact ⟨7, h2, by rw [hrd, offs1_nil h, rd2_nil p2]⟩
            · obtain ⟨y, b4, rfl⟩ := offs1 h
              simp only [offs_cons, num_single] at hbad
              refine ⟨150, h2, ?_⟩
              rw [hrd, rd2_cons p2, if_neg (by rw [hbad]; simp)]
          refine AT.then_p ?_
          exact AT.panics rfl ⟨c, hc, rfl, rfl, (by repeat (first | assumption | exact Ent.refl _ | refine Ent.left ?_))⟩ (Imp.drop (Imp.drop (Imp.drop (Imp.drop (Imp.refl _ _)))))
        rintro _ _ _ ⟨rfl, hw, hkn, rfl, rfl⟩
        obtain ⟨y, b4, rfl⟩ := offs1 hw
        simp only [offs_cons, num_single] at hkn hb8 ⊢
        refine WL.nil ?_
        refine AT.mid (t, y.toNat, b4, A8, c8, _) ⟨⟨by rw [hrd]; rw [rd2_cons p2, if_pos hkn], ht64⟩, (by repeat (first | assumption | exact Ent.refl _ | refine Ent.left ?_)), (by first | assumption | exact RdOk.mono (by assumption) (by repeat (first | assumption | exact Ent.refl _ | refine Ent.left ?_))), (by first | (simp only [List.length_drop, List.length_cons] at hle2 ⊢; omega) | (simp only [List.length_drop, List.length_cons]; omega) | (simp only [List.length_drop]; omega) | (simp only [List.length_cons] at hle2; omega) | omega)⟩ ⟨rfl, rfl, rfl, rfl, rfl, trivial⟩ (Imp.eq rfl)
      · -- if 2: no
        try have p2 := of_decide_eq_false h2
        refine WC.skip ?_
        refine AT.mid (t, 0, b3, A2, c2, _) ⟨⟨by rw [hrd]; rw [rd2_no p2], ht64⟩, (by repeat (first | assumption | exact Ent.refl _ | refine Ent.left ?_)), (by first | assumption | exact RdOk.mono (by assumption) (by repeat (first | assumption | exact Ent.refl _ | refine Ent.left ?_))), (by first | (simp only [List.length_drop, List.length_cons] at hle2 ⊢; omega) | (simp only [List.length_drop, List.length_cons]; omega) | (simp only [List.length_drop]; omega) | (simp only [List.length_cons] at hle2; omega) | omega)⟩ ⟨rfl, rfl, rfl, rfl, rfl, trivial⟩ (Imp.eq rfl)
    · -- behind the cut
      rintro ⟨t, u, b3, A2, c2, k2⟩ ⟨⟨hrd, ht64⟩, hk2, hb2, hle2⟩
      simp only at hrd ht64 hk2 hb2 hle2 ⊢
      refine WC.cut (σ := List UInt8 × Int × Int × List UInt8 × Option Addr × Nat × (PH → Prop)) (fun ⟨t, u, n, b3, A2, c2, k2⟩ => (rd (M + 1) deep left (x :: b) = rd4 (rd M (deep + 1)) (x.toNat : Int) (left - 1) t u n b3 ∧ t.length ≤ 64) ∧ Ent k2 K ∧ RdOk k2 A2 c2 b3 ∧ b3.length ≤ b.length) (fun _ => [(0, .pointer (some (ad r 0))), (1, .int .i64 deep), (5, .pointer (some (ad b2 0))), (6, .int .i64 (fieldsN (x.toNat : Int))), (4, .pointer (some (ad b1 0)))]) (fun ⟨t, u, n, b3, A2, c2, k2⟩ => Pt b2 (.cells (Tg.mk x.toNat u n t none 0 []).cells.toArray 38 (0, 0)) :: Pt b1 (.cells (Value.agg #[.int .i64 0, .int .i64 0, .int .i64 0, .string (bs []), .slice none 0 0]).cells 38 (0, 0)) :: TRd r p (left - 1) :: Rd p A2 b3.length c2 0 :: own) (fun ⟨t, u, n, b3, A2, c2, k2⟩ => k2) ?_ ?_
      · -- cut
        refine WC.seq ?_
        refine WC.region ?_
        refine WL.q (q_move rfl) rfl ?_
        refine WL.eff (e_call rfl (c226 (f := fieldsN (x.toNat : Int)) (m := 4) (fieldsN_le _) (by decide))) rfl ?_; rintro _ _ _ ⟨rfl, rfl, rfl⟩
        refine WL.nil ?_
        refine AT.then_n ?_
        refine WC.cond rfl (fun h3 => ?_) (fun h3 => ?_)
        · -- if 3: yes
          try have p3 := of_decide_eq_true h3
          refine WC.seq ?_
          refine WC.region ?_
          refine WL.q (q_move rfl) rfl ?_
          refine WL.q (q_nil rfl) rfl ?_
          refine WL.q (q_fieldAddr rfl fo_229_0) rfl ?_
          refine WL.q (q_load rfl a_62 (by first | exact Cell.ptL 0 rfl rfl | exact Cell.ptL 1 rfl rfl | exact Cell.ptL 2 rfl rfl | exact Cell.ptL 3 rfl rfl | exact Cell.ptL 4 rfl rfl)) rfl ?_
          refine WL.eff (e_call rfl (Spec.rd 3 rfl (c42 hb2))) rfl ?_; rintro _ _ _ ⟨rfl, rfl, A9, c9, rfl, hb9⟩
          have hn5 := offs2_le b3
          first | refine WL.q (q_convI (-9223372036854775808) 9223372036854775807 u_34 u_3 rfl rfl rfl (by omega)) rfl ?_ | refine WL.q (q_conv rfl u_34 u_3 rfl) rfl ?_
          refine WL.q (q_fieldAddr rfl fo_38_2) rfl ?_
          refine WL.effn (e_store 0 rfl rfl rfl i_3 rfl (by rw [Tg.len]; omega)) ?_; rintro _ _ _ ⟨rfl, rfl, rfl⟩
          refine WL.nil ?_
          refine AT.then_n ?_
          refine WC.region ?_
          refine WL.q (q_move rfl) rfl ?_
          refine WL.effP (e_callP rfl (c227 (i := 2) (j := 3) rfl rfl)) rfl ?_ ?_
          · -- a panic
            rintro _ _ _ ⟨h, rfl, rfl⟩
            rcases h with ⟨h, rfl⟩ | ⟨-, hbad, -⟩
            rotate_left
            · cases hbad
            refine AT.then_p ?_
            exact AT.panics rfl ⟨7, (by rw [hrd, rd3, if_pos p3, if_pos (offs2_short h)]), rfl, rfl, (by repeat (first | assumption | exact Ent.refl _ | refine Ent.left ?_))⟩ (Imp.drop (Imp.drop (Imp.drop (Imp.drop (Imp.refl _ _)))))
          rintro _ _ _ ⟨rfl, hw, -, rfl, rfl⟩
          obtain ⟨hyl, ho⟩ := offs2 hw
          rw [ho] at hb9 ⊢
          simp only at hb9 ⊢
          refine WL.nil ?_
          refine AT.mid (t, u, num (b3.take 2), b3.drop 2, A9, c9, _) ⟨⟨by rw [hrd]; rw [rd3, if_pos p3, if_neg (by omega)], ht64⟩, (by repeat (first | assumption | exact Ent.refl _ | refine Ent.left ?_)), (by first | assumption | exact RdOk.mono (by assumption) (by repeat (first | assumption | exact Ent.refl _ | refine Ent.left ?_))), (by first | (simp only [List.length_drop, List.length_cons] at hle2 ⊢; omega) | (simp only [List.length_drop, List.length_cons]; omega) | (simp only [List.length_drop]; omega) | (simp only [List.length_cons] at hle2; omega) | omega)⟩ ⟨rfl, rfl, rfl, rfl, rfl, trivial⟩ (Imp.eq rfl)
        · -- if 3: no
          try have p3 := of_decide_eq_false h3
          refine WC.skip ?_
          refine AT.mid (t, u, 0, b3, A2, c2, _) ⟨⟨by rw [hrd]; rw [rd3, if_neg p3], ht64⟩, (by repeat (first | assumption | exact Ent.refl _ | refine Ent.left ?_)), (by first | assumption | exact RdOk.mono (by assumption) (by repeat (first | assumption | exact Ent.refl _ | refine Ent.left ?_))), (by first | (simp only [List.length_drop, List.length_cons] at hle2 ⊢; omega) | (simp only [List.length_drop, List.length_cons]; omega) | (simp only [List.length_drop]; omega) | (simp only [List.length_cons] at hle2; omega) | omega)⟩ ⟨rfl, rfl, rfl, rfl, rfl, trivial⟩ (Imp.eq rfl)
      · -- behind the cut
        rintro ⟨t, u, n, b3, A2, c2, k2⟩ ⟨⟨hrd, ht64⟩, hk2, hb2, hle2⟩
        simp only at hrd ht64 hk2 hb2 hle2 ⊢
        refine WC.seq ?_
        refine WC.seq ?_
        refine WC.region ?_
        refine WL.q (q_move rfl) rfl ?_
        refine WL.eff (e_call rfl (c229 (f := fieldsN (x.toNat : Int)) (fieldsN_le _))) rfl ?_; rintro _ _ _ ⟨rfl, rfl, rfl⟩
        have hkn2 := kidsN_le (fieldsN (x.toNat : Int))
        refine WL.q (q_move rfl) rfl ?_
        refine WL.nil ?_
        refine AT.then_n ?_
        refine WC.block ?_
        refine WC.loop (σ := List Tg × Int × List UInt8 × Option Addr × Nat × Option Addr × Nat × (PH → Prop)) (fun ⟨acc, left1, b4, A4, c4, At, ct, k4⟩ => (rd (M + 1) deep left (x :: b) = rdF (x.toNat : Int) u n t (rdL (rd M (deep + 1)) (kidsN (fieldsN (x.toNat : Int)) - acc.length) left1 b4 (erL acc)) ∧ acc.length ≤ kidsN (fieldsN (x.toNat : Int))) ∧ Ent k4 K ∧ RdOk k4 A4 c4 b4 ∧ b4.length ≤ b.length ∧ (0 ≤ left1 ∧ left1 ≤ left - 1) ∧ acc.length ≤ ct ∧ ∀ y ∈ acc, Ent k4 y.ok ∧ y.small) (fun ⟨acc, left1, b4, A4, c4, At, ct, k4⟩ => (89, .int .i64 acc.length) :: (88, .int .i64 (kidsN (fieldsN (x.toNat : Int)))) :: [(0, .pointer (some (ad r 0))), (1, .int .i64 deep), (5, .pointer (some (ad b2 0))), (6, .int .i64 (fieldsN (x.toNat : Int))), (4, .pointer (some (ad b1 0)))]) (fun ⟨acc, left1, b4, A4, c4, At, ct, k4⟩ => Pt b2 (.cells ([.int .i64 x.toNat, .int .i64 u, .int .i64 n, .string (bs t), .slice At acc.length ct] : List Value).toArray 38 (0, 0)) :: Pt b1 (.cells (Value.agg #[.int .i64 0, .int .i64 0, .int .i64 0, .string (bs []), .slice none 0 0]).cells 38 (0, 0)) :: TRd r p left1 :: Rd p A4 b4.length c4 0 :: ORow At ct 38 5 (acc.flatMap Tg.cells) :: own) (fun ⟨acc, left1, b4, A4, c4, At, ct, k4⟩ => k4) (fun ⟨acc, left1, b4, A4, c4, At, ct, k4⟩ => kidsN (fieldsN (x.toNat : Int)) - acc.length) ([], left - 1, b3, A2, c2, none, 0, k2) ⟨⟨by rw [hrd]; rfl, by simp⟩, hk2, hb2, hle2, by omega, by simp, fun y hy => nomatch hy⟩ ⟨rfl, rfl, rfl, rfl, rfl, rfl, rfl, trivial⟩ (Imp.trans (Imp.orowNil 38 5) (Imp.perm (List.perm_append_comm (l₁ := [_]) (l₂ := [_, _, _, _]) |>.append_right own))) ?_
        rintro ⟨acc, left1, b4, A4, c4, At, ct, k4⟩ ⟨⟨hrd, hacc⟩, hk4, hb4, hle4, hleft4, hct, hall⟩
        simp only at hrd hacc hk4 hb4 hle4 hleft4 hct hall ⊢
        refine WC.seq ?_
        refine WC.region ?_
        refine WL.q (q_lss rfl rfl) rfl ?_
        refine WL.nil ?_
        refine AT.then_n ?_
        refine WC.seq ?_
        refine WC.cond rfl (fun h4 => ?_) (fun h4 => ?_)
        · -- if 4: yes
          try have p4 := of_decide_eq_true h4
          have hlt : acc.length < kidsN (fieldsN (x.toNat : Int)) := by omega
          obtain ⟨m, hm⟩ : ∃ m, kidsN (fieldsN (x.toNat : Int)) - acc.length = m + 1 := ⟨kidsN (fieldsN (x.toNat : Int)) - acc.length - 1, by omega⟩
          rw [hm, rdL] at hrd
          refine WC.skip ?_
          refine AT.then_n ?_
          refine WC.seq ?_
          refine WC.block ?_
          refine WC.drawS [0, 2, 3, 4, 8] (Pt b2 (.cells ([.int .i64 x.toNat, .int .i64 u, .int .i64 n, .string (bs t), .slice At acc.length ct] : List Value).toArray 38 (0, 0)) :: []) k4 mixed (NoPan.blk (NoPan.then (NoPan.then (NoPan.blk (NoPan.then NoPan.body))))) (Imp.keepRest (List.Sublist.cons_cons _ (List.nil_sublist _)) (Ent.refl _)) rfl ?_
          refine WD.sched [(0, 0), (1, 0), (2, 0), (3, 0), (4, 0), (5, 2), (6, 2), (7, 1), (8, 0), (9, 1)] true (by decide +kernel) ?_
          refine WS.q 0 rfl (q_fieldAddr rfl fo_38_4) rfl ?_
          refine WS.q 1 rfl (q_load rfl a_35 (by first | exact Cell.ptL 0 rfl rfl | exact Cell.ptL 1 rfl rfl | exact Cell.ptL 2 rfl rfl | exact Cell.ptL 3 rfl rfl | exact Cell.ptL 4 rfl rfl)) rfl ?_
          refine WS.q 2 rfl (q_move rfl) rfl ?_
          refine WS.q 3 rfl (q_move rfl) rfl ?_
          first | refine WS.q 4 rfl (q_add64 rfl rfl (by omega)) rfl ?_ | refine WS.q 4 rfl (q_add rfl rfl) rfl ?_
          refine WS.effP 5 rfl (e_callP rfl (SpecP.pre (Imp.trans (Imp.front 3 rfl) (Imp.front 3 rfl)) (ih hb4 (by omega) (by omega) (by omega) (by omega)))) rfl ?_ ?_
          · -- a panic
            rintro _ _ k9 ⟨c, hc, rfl, rfl, hk9⟩
            refine AT.blk_p ?_
            refine AT.then_p ?_
            refine AT.then_p ?_
            refine AT.blk_p ?_
            refine AT.then_p ?_
            exact AT.panics rfl ⟨c, by rw [hrd, hc]; rfl, rfl, rfl, hk9.trans hk4⟩ (Imp.drop (Imp.drop (Imp.drop (Imp.refl _ _))))
          rintro _ _ k9 ⟨T9, b9, left9, A9, c9, rfl, rfl, hrd9, hk9, hT9, hs9, hb9, hlt9, hl9, hl9b⟩
          obtain ⟨k1, u1, n1, t1, A1, cap1, l1⟩ := T9
          refine ⟨(Imp.keepRest (List.Sublist.cons _ (List.Sublist.cons _ (List.Sublist.cons_cons _ (List.nil_sublist _)))) (by repeat (first | assumption | exact Ent.refl _ | refine Ent.left ?_))), ?_⟩
          refine WS.effL 6 rfl (e_buildSliceK (cs := (Tg.mk k1 u1 n1 t1 A1 cap1 l1).cells) rfl u_35 i_38 rfl rfl rfl rfl rfl) rfl ?_; rintro _ _ _ ⟨b7, rfl, rfl, rfl⟩
          refine ⟨(Imp.keepRest (List.Sublist.cons _ (List.Sublist.cons _ (List.Sublist.cons_cons _ (List.nil_sublist _)))) (by repeat (first | assumption | exact Ent.refl _ | refine Ent.left ?_))), ?_⟩
          refine WS.eff 7 rfl (e_append 4 rfl rfl (Src.row Ent.right (k := 1) rfl rfl) rfl u_35 (.inl ⟨_, u_35⟩) i_38 rfl (by rw [flat_len Tg.cells 5 Tg.len]) rfl (Tg.ones _) (by omega)) rfl ?_; rintro _ _ _ ⟨A8, c8, rfl, rfl, rfl, hc8⟩
          refine WS.q 8 rfl (q_fieldAddr rfl fo_38_4) rfl ?_
          first | refine WS.effn 9 rfl (e_store 0 rfl rfl rfl i_35 rfl (by simp)) ?_ | refine WS.effn 9 rfl (e_store 1 rfl rfl rfl i_35 rfl (by simp)) ?_ | refine WS.effn 9 rfl (e_store 2 rfl rfl rfl i_35 rfl (by simp)) ?_ | refine WS.effn 9 rfl (e_store 3 rfl rfl rfl i_35 rfl (by simp)) ?_ | refine WS.effn 9 rfl (e_store 4 rfl rfl rfl i_35 rfl (by simp)) ?_
          rintro _ _ _ ⟨rfl, rfl, rfl⟩
          refine WS.done ?_
          refine AT.blk_n ?_
          refine AT.then_n ?_
          refine WC.region ?_
          first | refine WL.q (q_add64 rfl rfl (by omega)) rfl ?_ | refine WL.q (q_add rfl rfl) rfl ?_
          refine WL.q (q_move rfl) rfl ?_
          refine WL.nil ?_
          have hlen9 : kidsN (fieldsN (x.toNat : Int)) - (acc ++ [Tg.mk k1 u1 n1 t1 A1 cap1 l1]).length = m := by simp; omega
          refine AT.mid (acc ++ [Tg.mk k1 u1 n1 t1 A1 cap1 l1], left9, b9, A9, c9, A8, c8, k9) ⟨⟨⟨?_, ?_⟩, hk9.trans hk4, hb9, by simp only; omega, by simp only; omega, by simpa using hc8, ?_⟩, ?_⟩ ⟨vint (by simp), rfl, rfl, rfl, rfl, rfl, rfl, trivial⟩ (Imp.trans (Imp.ent (Ent.refl _).left) (Imp.trans (Imp.perm ((List.perm_append_comm (l₁ := [_, _]) (l₂ := [_, _])).append_right _)) (Imp.eq ?_)))
          · rw [hlen9, hrd, hrd9, erL_map (acc ++ _), List.map_append, ← erL_map]; rfl
          · simp; omega
          · intro y hy
            rcases List.mem_append.1 hy with hy | hy
            · exact ⟨hk9.trans (hall y hy).1, (hall y hy).2⟩
            · rw [List.mem_singleton.1 hy]; exact ⟨hT9, hs9⟩
          · simp only; omega
          · simp [List.flatMap_append]
        · -- if 4: no
          try have p4 := of_decide_eq_false h4
          refine WC.exit ?_
          refine AT.then_e ?_
          refine AT.then_e ?_
          refine AT.blk_e ?_
          refine AT.then_n ?_
          refine WC.seq ?_
          refine WC.region ?_
          refine WL.q (q_loadA (vs := (Tg.mk x.toNat u n t At ct acc).cells) rfl a_38 i_38 (Cells.pt 0 rfl) rfl) rfl ?_
          refine WL.effn (e_storeAll 1 rfl rfl rfl i_38 rfl (Tg.len _) (by simp [Value.cells]) (Tg.ones _)) ?_; rintro _ _ _ ⟨rfl, rfl, rfl⟩
          refine WL.nil ?_
          refine AT.then_n ?_
          refine WC.ret ?_
          have hi0 : kidsN (fieldsN (x.toNat : Int)) - acc.length = 0 := by omega
          rw [hi0, rdL, rdF] at hrd
          exact AT.doneP rfl (RO.cellA (T := 38) rfl rfl a_38 i_38 (Cells.pt 1 rfl) (Tg.len _)) ⟨Tg.mk x.toNat u n t At ct acc, b4, left1, A4, c4, rfl, rfl, by rw [hrd, Tg.er_mk, ← erL_map], hk4.left, Ent.term hct ⟨Ent.right, fun y hy => (hall y hy).1.left⟩, Tg.small_mk.2 ⟨by omega, by omega, fun y hy => (hall y hy).2⟩, hb4.mono (Ent.refl _).left, by simp only [List.length_cons]; omega, by omega, by omega⟩ (Imp.drop (Imp.drop (Imp.trans (Imp.front 2 rfl) Imp.orowStay)))

theorem c165_nil {own : List SP} {K : PH → Prop} {r p M cap : Nat} {A : Option Addr} {deep left : Int} (hb : RdOk K A cap []) (hdeep : 1 ≤ deep ∧ deep ≤ 61) (hleft : 0 ≤ left ∧ left ≤ 1200) : SpecP Try.prog 165 [.pointer (some (ad r 0)), .int .i64 deep] (TRd r p left :: Rd p A ([] : List UInt8).length cap 0 :: own) (K)
    (RdΦ own K r p (M + 1) deep left []) (RdΨ own K (M + 1) deep left []) := by
  refine SpecP.of en_165 Try.func165 rfl rfl fun g => ?_
  refine WC.seq ?_
  refine WC.region ?_
  refine WL.eff (e_alloc i_38) rfl ?_; rintro _ _ _ ⟨b1, rfl, rfl, rfl⟩
  refine WL.nil ?_
  refine AT.then_n ?_
  refine WC.seq ?_
  refine WC.region ?_
  refine WL.q (q_move rfl) rfl ?_
  refine WL.q (q_nil rfl) rfl ?_
  refine WL.q (q_fieldAddr rfl fo_229_0) rfl ?_
  refine WL.q (q_load rfl a_62 (by first | exact Cell.ptL 0 rfl rfl | exact Cell.ptL 1 rfl rfl | exact Cell.ptL 2 rfl rfl | exact Cell.ptL 3 rfl rfl | exact Cell.ptL 4 rfl rfl)) rfl ?_
  refine WL.eff (e_call rfl (Spec.rd 2 rfl (c34_nil hb))) rfl ?_; rintro _ _ _ ⟨rfl, rfl, A3, cap3, rfl, hb3⟩
  first | refine WL.q (q_convI (-9223372036854775808) 9223372036854775807 u_5 u_3 rfl rfl rfl (by omega)) rfl ?_ | refine WL.q (q_conv rfl u_5 u_3 rfl) rfl ?_
  refine WL.q (q_buildL (cs := (Tg.mk 0 0 0 [] none 0 []).cells) rfl pl_38 i_38 rfl rfl) rfl ?_
  refine WL.eff (e_alloc i_38) rfl ?_; rintro _ _ _ ⟨b2, rfl, rfl, rfl⟩
  refine WL.effn (e_storeAll 0 rfl rfl rfl i_38 rfl (Tg.len _) (by simp [Value.cells]) (Tg.ones _)) ?_; rintro _ _ _ ⟨rfl, rfl, rfl⟩
  refine WL.nil ?_
  refine AT.then_n ?_
  refine WC.seq ?_
  refine WC.region ?_
  refine WL.q (q_fieldAddr rfl fo_38_0) rfl ?_
  refine WL.q (q_load rfl a_3 (by first | exact Cell.ptL 0 rfl rfl | exact Cell.ptL 1 rfl rfl | exact Cell.ptL 2 rfl rfl | exact Cell.ptL 3 rfl rfl | exact Cell.ptL 4 rfl rfl)) rfl ?_
  refine WL.eff (e_call rfl (c225 (k := 0))) rfl ?_; rintro _ _ _ ⟨rfl, rfl, rfl⟩
  refine WL.q (q_assign rfl) rfl ?_
  refine WL.nil ?_
  refine AT.then_n ?_
  refine WC.seq ?_
  refine WC.region ?_
  refine WL.q (q_move rfl) rfl ?_
  refine WL.q (q_nil rfl) rfl ?_
  refine WL.q (q_fieldAddr rfl fo_229_1) rfl ?_
  refine WL.q (q_load rfl a_3 (by first | exact Cell.ptL 0 rfl rfl | exact Cell.ptL 1 rfl rfl | exact Cell.ptL 2 rfl rfl | exact Cell.ptL 3 rfl rfl | exact Cell.ptL 4 rfl rfl)) rfl ?_
  first | refine WL.q (q_sub64 rfl rfl (by omega)) rfl ?_ | refine WL.q (q_sub rfl rfl) rfl ?_
  refine WL.q (q_nil rfl) rfl ?_
  refine WL.q (q_fieldAddr rfl fo_229_1) rfl ?_
  refine WL.effn (e_store 2 rfl rfl rfl i_3 rfl (by simp)) ?_; rintro _ _ _ ⟨rfl, rfl, rfl⟩
  refine WL.nil ?_
  refine AT.then_n ?_
  refine WC.seq ?_
  refine WC.region ?_
  refine WLy.enter ?_
  refine WLy.q (q_move rfl) rfl rfl ?_
  refine WLy.q (q_move rfl) rfl rfl ?_
  refine WLy.q (q_neq rfl rfl) rfl rfl ?_
  refine WLy.q (q_move rfl) rfl rfl ?_
  refine WLy.open0 3 28 true rfl rfl ?_
  refine WLy.qg 0 rfl rfl rfl (q_move rfl) rfl rfl rfl ?_
  refine WLy.qg 0 rfl rfl rfl (q_nil rfl) rfl rfl rfl ?_
  refine WLy.qg 0 rfl rfl rfl (q_fieldAddr rfl fo_229_1) rfl rfl rfl ?_
  refine WLy.qg 0 rfl rfl rfl (q_load rfl a_3 (by first | exact Cell.ptL 0 rfl rfl | exact Cell.ptL 1 rfl rfl | exact Cell.ptL 2 rfl rfl | exact Cell.ptL 3 rfl rfl | exact Cell.ptL 4 rfl rfl)) rfl rfl rfl ?_
  refine WLy.qg 0 rfl rfl rfl (q_geq rfl rfl) rfl rfl rfl ?_
  refine WLy.and0 0 rfl rfl rfl rfl rfl rfl rfl ?_
  refine WLy.q (q_move rfl) rfl rfl ?_
  refine WLy.open0 10 35 true rfl rfl ?_
  refine WLy.qg 0 rfl rfl rfl (q_move rfl) rfl rfl rfl ?_
  refine WLy.qg 0 rfl rfl rfl (q_leq rfl rfl) rfl rfl rfl ?_
  refine WLy.and0 0 rfl rfl rfl rfl rfl rfl rfl ?_
  refine WLy.effP (e_callP rfl (c227 (i := 2) (j := 3) rfl rfl)) rfl rfl ?_ (fun _ _ _ h => absurd h.2.1 (by decide))
  rintro _ _ _ ⟨h, rfl, rfl⟩
  rcases h with ⟨h, rfl⟩ | ⟨h, -, -⟩
  rotate_left
  · exact absurd h (by decide)
  refine AT.then_p ?_
  exact AT.panics rfl ⟨7, by rw [rd_nil], rfl, rfl, Ent.refl _⟩ (Imp.drop (Imp.drop (Imp.drop (Imp.drop (Imp.refl _ _)))))


theorem c165 : ∀ (N : Nat) {own : List SP} {K : PH → Prop} {r p cap : Nat} {A : Option Addr} {b : List UInt8} {deep left : Int} (hb : RdOk K A cap b) (hM : b.length < N) (hl2 : b.length ≤ 100000) (hdeep : 1 ≤ deep ∧ deep ≤ 61) (hleft : 0 ≤ left ∧ left ≤ 1200),
    SpecP Try.prog 165 [.pointer (some (ad r 0)), .int .i64 deep] (TRd r p left :: Rd p A b.length cap 0 :: own) K (RdΦ own K r p N deep left b) (RdΨ own K N deep left b)
  | 0, _, _, _, _, _, _, _, _, _, _, hM, _, _, _ => absurd hM (Nat.not_lt_zero _)
  | N + 1, _, _, _, _, _, _, [], _, _, hb, hM, hl2, hdeep, hleft => c165_nil hb hdeep hleft
  | N + 1, _, _, _, _, _, _, x :: b, _, _, hb, hM, hl2, hdeep, hleft => c165_cons hb (by simpa using hM) (by simp at hl2; omega) hdeep hleft fun hb hM hl2 hdeep hleft => c165 N hb hM hl2 hdeep hleft
/-- What Decode gives. -/
def DcΦ (own : List SP) (K : PH → Prop) (b : List UInt8) : Value → List SP → (PH → Prop) → Prop := fun v o k =>
  o = own ∧ Ent k K ∧ ((∃ (T : Tg) (rest : List UInt8) (l : Int), rd (b.length + 1) 1 1200 b = .ok T.er rest l ∧ rest.length ≤ b.length ∧ Ent k T.ok ∧ T.small ∧ v = .tuple #[.agg T.cells.toArray, .int .i64 ((b.length : Int) - rest.length), .int .i64 0]) ∨
    ∃ c, rd (b.length + 1) 1 1200 b = .err c ∧ v = .tuple #[.agg (Tg.mk 0 0 0 [] none 0 []).cells.toArray, .int .i64 0, .int .i64 c])

theorem c164_ret {g : Os × Array (Nat × ByteArray)} {own : List SP} {K : PH → Prop} {b1 b2 b3 : Nat} : SpecD g Try.prog 164 [.pointer (some (ad b1 0)), .pointer (some (ad b2 0)), .pointer (some (ad b3 0))] .returning .returning own K own K := by
  refine SpecD.recover .nilIface en_164 Try.func164 rfl rfl (.inl ⟨rfl, rfl, rfl⟩) rfl rfl ?_
  refine WC.seq ?_
  refine WC.region ?_
  refine WL.q (q_move rfl) rfl ?_
  refine WL.q (q_neqI0 ii_20 rfl) rfl ?_
  refine WL.nil ?_
  refine AT.then_n ?_
  refine WC.condHF rfl (rfl) ?_
  refine WC.skip ?_
  exact AT.doneN rfl (RO.none rfl) ⟨rfl, rfl⟩ (Imp.refl _ _)

theorem c164_pan {g : Os × Array (Nat × ByteArray)} {own : List SP} {K : PH → Prop} {b1 b2 b3 : Nat} {c : Int} : SpecD g Try.prog 164 [.pointer (some (ad b1 0)), .pointer (some (ad b2 0)), .pointer (some (ad b3 0))] (.panicking (pan c)) (.panicking [{ v := .iface 231 (.agg #[.int .i64 c]), recovered := true }]) (Pt b3 (.cells ([.int .i64 0] : List Value).toArray 68 (0, 0)) :: Pt b2 (.cells ([.int .i64 0] : List Value).toArray 3 (0, 0)) :: Pt b1 (.cells (Tg.mk 0 0 0 [] none 0 []).cells.toArray 38 (0, 0)) :: own) K (Pt b3 (.cells ([.int .i64 c] : List Value).toArray 68 (0, 0)) :: Pt b2 (.cells ([.int .i64 0] : List Value).toArray 3 (0, 0)) :: Pt b1 (.cells (Tg.mk 0 0 0 [] none 0 []).cells.toArray 38 (0, 0)) :: own) K := by
  refine SpecD.recover (.iface 231 (.agg #[.int .i64 c])) en_164 Try.func164 rfl rfl (.inr ⟨rfl, rfl⟩) rfl rfl ?_
  refine WC.seq ?_
  refine WC.region ?_
  refine WL.q (q_move rfl) rfl ?_
  refine WL.q (q_neqI1 ii_20 rfl) rfl ?_
  refine WL.nil ?_
  refine AT.then_n ?_
  refine WC.condHT rfl (rfl) ?_
  refine WC.seq ?_
  refine WC.region ?_
  refine WL.q (q_move rfl) rfl ?_
  refine WL.q (q_assertOk ii_231 rfl) rfl ?_
  refine WL.q (q_move rfl) rfl ?_
  refine WL.q (q_extract rfl rfl) rfl ?_
  refine WL.q (q_extract rfl rfl) rfl ?_
  refine WL.eff (e_alloc i_231) rfl ?_; rintro _ _ _ ⟨b1, rfl, rfl, rfl⟩
  refine WL.effn (e_storeAll 0 (vs := [.int .i64 c]) rfl rfl rfl i_231 rfl rfl rfl (by simp [Ones, Value.oneCell'])) ?_; rintro _ _ _ ⟨rfl, rfl, rfl⟩
  refine WL.q (q_assign rfl) rfl ?_
  refine WL.nil ?_
  refine AT.then_n ?_
  refine WC.seq ?_
  refine WC.seq ?_
  refine WC.region ?_
  refine WL.q (q_move rfl) rfl ?_
  refine WL.q (q_not rfl) rfl ?_
  refine WL.nil ?_
  refine AT.then_n ?_
  refine WC.condHF rfl (rfl) ?_
  refine WC.skip ?_
  refine AT.then_n ?_
  refine WC.drawS [0, 1] _ _ mixed NoPan.body (Imp.refl _ _) rfl ?_
  refine WD.sched [(0, 0), (1, 0), (2, 0), (3, 2), (4, 2), (5, 1)] true (by decide +kernel) ?_
  refine WS.q 0 rfl (q_buildL (cs := (Tg.mk 0 0 0 [] none 0 []).cells) rfl pl_38 i_38 rfl rfl) rfl ?_
  refine WS.q 1 rfl (q_fieldAddr rfl fo_231_0) rfl ?_
  refine WS.q 2 rfl (q_load rfl a_68 (by first | exact Cell.ptL 0 rfl rfl | exact Cell.ptL 1 rfl rfl | exact Cell.ptL 2 rfl rfl | exact Cell.ptL 3 rfl rfl | exact Cell.ptL 4 rfl rfl)) rfl ?_
  refine WS.effn2 3 rfl (e_storeAll 3 rfl rfl rfl i_38 rfl (Tg.len _) (Tg.len _) (Tg.ones _)) ?_; rintro _ _ _ ⟨rfl, rfl, rfl⟩
  refine ⟨(by first | exact (Imp.refl _ _) | exact (Imp.sub (List.Sublist.cons _ (List.Sublist.refl _))) | exact (Imp.ent (Ent.left (Ent.refl _)))), ?_⟩
  first | refine WS.effn2 4 rfl (e_store 0 rfl rfl rfl i_3 rfl (by simp)) ?_ | refine WS.effn2 4 rfl (e_store 1 rfl rfl rfl i_3 rfl (by simp)) ?_ | refine WS.effn2 4 rfl (e_store 2 rfl rfl rfl i_3 rfl (by simp)) ?_ | refine WS.effn2 4 rfl (e_store 3 rfl rfl rfl i_3 rfl (by simp)) ?_ | refine WS.effn2 4 rfl (e_store 4 rfl rfl rfl i_3 rfl (by simp)) ?_
  rintro _ _ _ ⟨rfl, rfl, rfl⟩
  refine ⟨(by first | exact (Imp.refl _ _) | exact (Imp.sub (List.Sublist.cons _ (List.Sublist.refl _))) | exact (Imp.ent (Ent.left (Ent.refl _)))), ?_⟩
  first | refine WS.effn 5 rfl (e_store 0 rfl rfl rfl i_68 rfl (by simp)) ?_ | refine WS.effn 5 rfl (e_store 1 rfl rfl rfl i_68 rfl (by simp)) ?_ | refine WS.effn 5 rfl (e_store 2 rfl rfl rfl i_68 rfl (by simp)) ?_ | refine WS.effn 5 rfl (e_store 3 rfl rfl rfl i_68 rfl (by simp)) ?_ | refine WS.effn 5 rfl (e_store 4 rfl rfl rfl i_68 rfl (by simp)) ?_
  rintro _ _ _ ⟨rfl, rfl, rfl⟩
  refine WS.done ?_
  exact AT.doneN rfl (RO.none rfl) ⟨rfl, rfl⟩ (Imp.drop (Imp.refl _ _))

theorem c67 {own : List SP} {K : PH → Prop} {A : Option Addr} {ca : Nat} {b : List UInt8} (hb : Ent K (Row A (b.map bv))) (hl : b.length ≤ 100000) : Spec Try.prog 67 [.slice A b.length ca] (own) (K)
    (DcΦ own K b) := by
  refine Spec.ofD en_67 Try.func67 rfl rfl fun g => ?_
  refine WC.seq ?_
  refine WC.region ?_
  refine WL.eff (e_alloc i_38) rfl ?_; rintro _ _ _ ⟨b1, rfl, rfl, rfl⟩
  refine WL.eff (e_alloc i_3) rfl ?_; rintro _ _ _ ⟨b2, rfl, rfl, rfl⟩
  refine WL.eff (e_alloc i_68) rfl ?_; rintro _ _ _ ⟨b3, rfl, rfl, rfl⟩
  refine WL.nil ?_
  refine AT.then_n ?_
  refine WC.seq ?_
  refine WC.region ?_
  refine WL.q (q_move rfl) rfl ?_
  refine WL.eff (e_call rfl (c33 hb (by omega))) rfl ?_; rintro _ _ _ ⟨p, A4, cap4, rfl, rfl, rfl, hc4⟩
  refine WL.q (q_buildL (cs := [.pointer (some (ad p 0)), .int .i64 1200]) rfl pl_229 i_229 rfl rfl) rfl ?_
  refine WL.eff (e_box rfl) rfl ?_; rintro _ _ _ ⟨r, rfl, rfl, rfl⟩
  refine WL.q (q_assign rfl) rfl ?_
  refine WL.nil ?_
  refine AT.then_n ?_
  refine WC.seq ?_
  refine WC.region ?_
  refine WL.q (q_makeFunc rfl rfl) rfl ?_
  refine WL.defer (first := []) rfl rfl rfl ?_
  refine WL.nil ?_
  refine AT.then_n ?_
  refine WC.seq ?_
  refine WC.region ?_
  refine WL.q (q_move rfl) rfl ?_
  refine WL.effP (e_callP rfl (c165 (b.length + 1) (r := r) (p := p) (cap := cap4) (b := b) ⟨Ent.right, hc4⟩ (by omega) hl (by omega) (by omega))) rfl ?_ ?_
  · -- a panic
    rintro _ _ k9 ⟨c, hc, rfl, rfl, hk9⟩
    refine AT.then_p ?_
    exact AT.leaveP (first := []) (cap := [.pointer (some (ad b1 0)), .pointer (some (ad b2 0)), .pointer (some (ad b3 0))]) rfl c164_pan rfl (RO.list (rs := [.cell 2 38, .cell 3 3, .cell 4 68]) (vs := [_, _, _]) rfl ⟨RV.cA rfl a_38 i_38 (Cells.pt 2 rfl) (Tg.len _), RV.c1 rfl a_3 (Cell.ptL 1 rfl rfl), RV.c1 rfl a_68 (Cell.ptL 0 rfl rfl), trivial⟩ (by simp)) ⟨rfl, hk9.trans (Ent.refl _).left, .inr ⟨c, hc, rfl⟩⟩ (Imp.drop (Imp.drop (Imp.drop (Imp.refl _ _))))
  rintro _ _ k9 ⟨T9, b9, left9, A9, c9, rfl, rfl, hrd9, hk9, hT9, hs9, hb9, hlt9, hl9, hl9b⟩
  refine WL.effn (e_storeAll 4 rfl rfl rfl i_38 rfl (Tg.len _) (by simp [Value.cells]) (Tg.ones _)) ?_; rintro _ _ _ ⟨rfl, rfl, rfl⟩
  refine WL.nil ?_
  refine AT.then_n ?_
  refine WC.strong (Q' := bodyD Try.prog Try.f67 (RG _ g)) ?_ bodyD_post
  refine WC.seq ?_
  refine WC.drawS [1, 2, 3, 4, 5, 8] _ _ mixed (NoPan.then NoPan.bodyD) (Imp.refl _ _) rfl ?_
  refine WD.sched [(0, 0), (1, 0), (2, 0), (3, 0), (4, 0), (5, 0), (6, 0), (7, 2), (8, 0), (9, 2), (10, 1), (11, 1)] true (by decide +kernel) ?_
  refine WS.q 0 rfl (q_loadA rfl a_38 i_38 (Cells.pt 4 rfl) (Tg.len _)) rfl ?_
  refine WS.q 1 rfl (q_move rfl) rfl ?_
  refine WS.q 2 rfl (q_len rfl u_23) rfl ?_
  refine WS.q 3 rfl (q_move rfl) rfl ?_
  refine WS.q 4 rfl (q_nil rfl) rfl ?_
  refine WS.q 5 rfl (q_fieldAddr rfl fo_229_0) rfl ?_
  refine WS.q 6 rfl (q_load rfl a_62 (by first | exact Cell.ptL 0 rfl rfl | exact Cell.ptL 1 rfl rfl | exact Cell.ptL 2 rfl rfl | exact Cell.ptL 3 rfl rfl | exact Cell.ptL 4 rfl rfl)) rfl ?_
  refine WS.eff2 7 rfl (e_call rfl (Spec.ro 1 rfl c36)) rfl ?_; rintro _ _ _ ⟨rfl, rfl, rfl⟩
  refine ⟨(by first | exact (Imp.refl _ _) | exact (Imp.sub (List.Sublist.cons _ (List.Sublist.refl _))) | exact (Imp.ent (Ent.left (Ent.refl _)))), ?_⟩
  first | refine WS.q 8 rfl (q_sub64 rfl rfl (by omega)) rfl ?_ | refine WS.q 8 rfl (q_sub rfl rfl) rfl ?_
  refine WS.effn2 9 rfl (e_storeAll 4 rfl rfl rfl i_38 rfl (Tg.len _) (Tg.len _) (Tg.ones _)) ?_; rintro _ _ _ ⟨rfl, rfl, rfl⟩
  refine ⟨(by first | exact (Imp.refl _ _) | exact (Imp.sub (List.Sublist.cons _ (List.Sublist.refl _))) | exact (Imp.ent (Ent.left (Ent.refl _)))), ?_⟩
  first | refine WS.effn 10 rfl (e_store 0 rfl rfl rfl i_3 rfl (by simp)) ?_ | refine WS.effn 10 rfl (e_store 1 rfl rfl rfl i_3 rfl (by simp)) ?_ | refine WS.effn 10 rfl (e_store 2 rfl rfl rfl i_3 rfl (by simp)) ?_ | refine WS.effn 10 rfl (e_store 3 rfl rfl rfl i_3 rfl (by simp)) ?_ | refine WS.effn 10 rfl (e_store 4 rfl rfl rfl i_3 rfl (by simp)) ?_
  rintro _ _ _ ⟨rfl, rfl, rfl⟩
  first | refine WS.effn 11 rfl (e_store 0 rfl rfl rfl i_68 rfl (by simp)) ?_ | refine WS.effn 11 rfl (e_store 1 rfl rfl rfl i_68 rfl (by simp)) ?_ | refine WS.effn 11 rfl (e_store 2 rfl rfl rfl i_68 rfl (by simp)) ?_ | refine WS.effn 11 rfl (e_store 3 rfl rfl rfl i_68 rfl (by simp)) ?_ | refine WS.effn 11 rfl (e_store 4 rfl rfl rfl i_68 rfl (by simp)) ?_
  rintro _ _ _ ⟨rfl, rfl, rfl⟩
  refine WS.done ?_
  refine AT.then_n ?_
  refine WC.ret ?_
  exact AT.leave (first := []) (cap := [.pointer (some (ad b1 0)), .pointer (some (ad b2 0)), .pointer (some (ad b3 0))]) rfl c164_ret rfl (RO.list (rs := [.cell 2 38, .cell 3 3, .cell 4 68]) (vs := [_, _, _]) rfl ⟨RV.cA rfl a_38 i_38 (Cells.pt 4 rfl) (Tg.len _), RV.c1 rfl a_3 (Cell.ptL 3 rfl rfl), RV.c1 rfl a_68 (Cell.ptL 2 rfl rfl), trivial⟩ (by simp)) ⟨rfl, hk9.trans (Ent.refl _).left, .inl ⟨T9, b9, left9, hrd9, by omega, hT9, hs9, rfl⟩⟩ (Imp.drop (Imp.drop (Imp.drop (Imp.drop (Imp.drop (Imp.refl _ _))))))

end Go.Proofs.Sl
