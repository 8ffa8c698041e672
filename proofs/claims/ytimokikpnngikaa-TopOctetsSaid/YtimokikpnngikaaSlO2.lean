/- The law TopOctets: what it goes through. -/
import Derived.Test.YtimokikpnngikaaSlOct
namespace Go.Proofs.Sl
open Go
set_option linter.unusedVariables false
set_option linter.unusedSimpArgs false

theorem rev_set (w j : Nat) (t : List UInt8) (h : j < w) (v : UInt8) : ((List.replicate (w - j) (0 : UInt8) ++ t).map bv).set (w - 1 - j) (bv v) = (List.replicate (w - (j + 1)) (0 : UInt8) ++ (v :: t)).map bv := by
  have e : w - j = (w - (j + 1)) + 1 := by omega
  have e2 : w - 1 - j = w - (j + 1) := by omega
  rw [e, e2, List.replicate_succ', List.map_append, List.map_append, List.map_append]
  rw [List.append_assoc, List.set_append_right _ _ (by simp)]
  simp
theorem be_drop {n x j : Nat} (h : j < n) : (be n x).drop (n - (j + 1)) = UInt8.ofNat (x / 2 ^ (8 * j)) :: (be n x).drop (n - j) := by
  have h1 : n - (j + 1) < (be n x).length := by rw [be_len]; omega
  rw [List.drop_eq_getElem_cons h1]
  congr 1
  · simp only [be, List.getElem_map, List.getElem_range]
    congr 3; omega
  · congr 1; omega
theorem pow8 (j : Nat) : 2 ^ (8 * (j + 1)) = 2 ^ (8 * j) * 256 := by rw [Nat.mul_succ, Nat.pow_add]

theorem c45 {own : List SP} {K : PH → Prop} {n w : Nat} (hn : n ≤ 18446744073709551615) (hw : w ≤ 8) : Spec Try.prog 45 [.int .u64 n, .int .i64 w] (own) (K)
    (Ret (.string (bs (be w n))) own K) := by
  refine Spec.of en_45 Try.func45 rfl rfl fun g => ?_
  refine WC.seq ?_
  refine WC.region ?_
  refine WL.q (q_assign rfl) rfl ?_
  refine WL.nil ?_
  refine AT.then_n ?_
  refine WC.seq ?_
  refine WC.region ?_
  refine WL.q (q_move rfl) rfl ?_
  refine WL.eff (e_makeSlice1 w w rfl rfl rfl rfl u_23 i_5 rfl (by omega) (by omega)) rfl ?_; rintro _ _ _ ⟨A1, rfl, rfl, rfl⟩
  refine WL.q (q_assign rfl) rfl ?_
  refine WL.nil ?_
  refine AT.then_n ?_
  refine WC.seq ?_
  refine WC.seq ?_
  refine WC.region ?_
  refine WL.q (q_move rfl) rfl ?_
  first | refine WL.q (q_sub64 rfl rfl (by omega)) rfl ?_ | refine WL.q (q_sub rfl rfl) rfl ?_
  refine WL.q (q_assign rfl) rfl ?_
  refine WL.nil ?_
  refine AT.then_n ?_
  refine WC.block ?_
  refine WC.loop (σ := Nat × Nat) (fun s => s.1 ≤ w ∧ s.2 = n / 2 ^ (8 * s.1) ∧ s.2 ≤ 18446744073709551615) (fun s => [(6, .int .i64 ((w : Int) - 1 - s.1)), (5, .slice A1 w w), (0, .int .u64 s.2)]) (fun s => ORow A1 w 5 1 ((List.replicate (w - s.1) 0 ++ (be w n).drop (w - s.1)).map bv) :: own) (fun _ => K) (fun s => w - s.1) (0, n) ⟨by omega, by simp, hn⟩ ⟨by simp [look], rfl, rfl, trivial⟩ (Imp.eq (by rw [rep_bv]; simp [List.drop_eq_nil_of_le, be_len])) ?_
  rintro ⟨j, m⟩ ⟨hj, hm, hm2⟩
  simp only at hj hm hm2 ⊢
  refine WC.seq ?_
  refine WC.seq ?_
  refine WC.region ?_
  refine WL.q (q_move rfl) rfl ?_
  refine WL.q (q_geq rfl rfl) rfl ?_
  refine WL.nil ?_
  refine AT.then_n ?_
  refine WC.cond rfl (fun h1 => ?_) (fun h1 => ?_)
  · -- if 1: yes
    try have p1 := of_decide_eq_true h1
    have hlt : j < w := by omega
    refine WC.skip ?_
    refine AT.then_n ?_
    refine WC.seq ?_
    refine WC.block ?_
    refine WC.seq ?_
    refine WC.region ?_
    refine WL.q (q_move rfl) rfl ?_
    refine WL.q (q_move rfl) rfl ?_
    refine WL.q (q_move rfl) rfl ?_
    first | refine WL.q (q_convI (0) 255 u_70 u_5 rfl rfl rfl (by omega)) rfl ?_ | refine WL.q (q_convB u_70 u_5 rfl) rfl ?_ | refine WL.q (q_conv rfl u_70 u_5 rfl) rfl ?_
    refine WL.q (q_indexAddr rfl rfl u_23 i_5 (Based.orow 0 rfl (by simp; omega)) (by omega)) rfl ?_
    refine WL.effn (e_storeO 0 rfl rfl rfl i_5 rfl (by simp [be_len]; omega)) ?_; rintro _ _ _ ⟨rfl, rfl, rfl⟩
    refine WL.nil ?_
    refine AT.then_n ?_
    refine WC.region ?_
    refine WL.q (q_move rfl) rfl ?_
    first | refine WL.q (q_quo0 rfl rfl ⟨by omega, by simp [IntKind.max, IntKind.bits, IntKind.signed]; omega, by omega⟩) rfl ?_
    refine WL.q (q_assign rfl) rfl ?_
    refine WL.nil ?_
    refine AT.blk_n ?_
    refine AT.then_n ?_
    refine WC.region ?_
    refine WL.q (q_move rfl) rfl ?_
    first | refine WL.q (q_sub64 rfl rfl (by omega)) rfl ?_ | refine WL.q (q_sub rfl rfl) rfl ?_
    refine WL.q (q_assign rfl) rfl ?_
    refine WL.nil ?_
    refine AT.mid (j + 1, m / 256) ⟨⟨by omega, ?_, by simp only; omega⟩, by simp only; omega⟩ ⟨?_, rfl, ?_, trivial⟩ (Imp.eq ?_)
    · simp only; rw [pow8, ← Nat.div_div_eq_div_mul, ← hm]
    · show some (Value.int _ _) = some (Value.int _ _); congr 2; simp only; omega
    · show some (Value.int _ _) = some (Value.int _ _); congr 2
    · have e1 : ((w : Int) - 1 - (j : Int)).toNat * 1 = w - 1 - j := by omega
      simp only [List.set_cons_zero, e1]
      rw [rev_set _ _ _ hlt, be_drop hlt, hm]
  · -- if 1: no
    try have p1 := of_decide_eq_false h1
    have hj2 : j = w := by omega
    subst hj2
    refine WC.exit ?_
    refine AT.then_e ?_
    refine AT.then_e ?_
    refine AT.blk_e ?_
    refine AT.then_n ?_
    refine WC.seq ?_
    refine WC.region ?_
    refine WL.q (q_move rfl) rfl ?_
    refine WL.q (q_b2s (l := be j n) (by rw [be_len]; rfl) u_23 u_5 u_9 (fun g w hS => by simpa using (HS.orowSrc 0 hS rfl))) rfl ?_
    refine WL.q (q_assign rfl) rfl ?_
    refine WL.nil ?_
    refine AT.then_n ?_
    refine WC.ret ?_
    exact AT.done rfl (RO.one rfl rfl) ⟨rfl, rfl, rfl⟩ (Imp.drop (Imp.refl _ _))


/-- A thing that is laid, or taken off. -/
structure Scp where
  kind : UInt8
  n : Nat
  B : Option Addr
  bl : Nat
  bc : Nat
def Scp.cells (x : Scp) : List Value := [bv x.kind, .int .u64 x.n, .slice x.B x.bl x.bc]
theorem Scp.len (x : Scp) : x.cells.length = 3 := rfl
/-- How many bytes it has. -/
def Scp.wide (x : Scp) : Int := [(1 : Int), 2, 4, 8, ((x.n % 300 : Nat) : Int) - 9].getD (x.kind.toNat % 5) 0
/-- What is taken off, how many were, and why it does not go on. -/
def scoop (len : Nat) (st : Nat × Nat × Int) (x : Scp) : Nat × Nat × Int :=
  if st.2.2 ≠ 0 then st else if x.wide < 0 then (st.1, st.2.1, 2) else if (len : Int) - st.1 < x.wide then (st.1, st.2.1, 7) else (st.1 + x.wide.toNat, st.2.1 + 1, 0)
def part (s : List UInt8) (st : Nat × Nat × Int) (x : Scp) : List UInt8 :=
  if st.2.2 ≠ 0 then [] else if x.wide < 0 then [] else if (s.length : Int) - st.1 < x.wide then [] else (s.drop st.1).take x.wide.toNat
def scoops (len : Nat) (l : List Scp) : Nat × Nat × Int := l.foldl (scoop len) (0, 0, 0)
theorem offI_scoop (s : List UInt8) (st : Nat × Nat × Int) (x : Scp) (h : st.1 ≤ s.length) :
    offI (s.drop st.1) st.2.2 x.wide = (part s st x, s.drop (scoop s.length st x).1, (scoop s.length st x).2.2) := by
  unfold offI part scoop offs
  by_cases h1 : st.2.2 = 0
  · by_cases h2 : x.wide < 0
    · simp [h1, h2]
    · by_cases h3 : (s.length : Int) - st.1 < x.wide
      · have : (s.drop st.1).length < x.wide.toNat := by simp; omega
        simp [h1, h2, h3]; omega
      · have : ¬ (s.drop st.1).length < x.wide.toNat := by simp; omega
        simp only [h1, h2, h3, this, if_true, if_false, ne_eq, not_true]
        simp [List.drop_drop]
  · simp [h1]
theorem offI_nat (l : List UInt8) (why : Int) (w : Nat) : offI l why w = offs l why w := by
  unfold offI
  by_cases h : why = 0
  · have : ¬ ((w : Int) < 0) := by omega
    simp [h, this]
  · unfold offs; simp [h]
theorem scoop_le (len : Nat) (st : Nat × Nat × Int) (x : Scp) (h : st.1 ≤ len) : (scoop len st x).1 ≤ len ∧ (scoop len st x).2.1 ≤ st.2.1 + 1 := by
  unfold scoop
  split
  · exact ⟨h, by omega⟩
  · split
    · exact ⟨h, by simp⟩
    · split
      · exact ⟨h, by simp⟩
      · refine ⟨?_, by simp⟩
        simp only; omega
theorem part_len (s : List UInt8) (st : Nat × Nat × Int) (x : Scp) (h : x.kind.toNat % 5 < 4) : (part s st x).length ≤ 8 := by
  have hw : x.wide ≤ 8 := by
    have : x.kind.toNat % 5 = 0 ∨ x.kind.toNat % 5 = 1 ∨ x.kind.toNat % 5 = 2 ∨ x.kind.toNat % 5 = 3 := by omega
    unfold Scp.wide
    rcases this with h | h | h | h <;> rw [h] <;> simp
  unfold part
  split
  · simp
  · split
    · simp
    · split
      · simp
      · simp; omega
theorem part_le (s : List UInt8) (st : Nat × Nat × Int) (x : Scp) : (part s st x).length ≤ s.length := by
  unfold part
  split
  · simp
  · split
    · simp
    · split
      · simp
      · simp; omega
theorem wide_at (x : Scp) {i : Nat} (h : i = x.kind.toNat % 5) : ([Value.int .i64 1, .int .i64 2, .int .i64 4, .int .i64 8, .int .i64 (((x.n % 300 : Nat) : Int) - 9)] : List Value)[i]? = some (.int .i64 x.wide) := by
  subst h
  have : x.kind.toNat % 5 = 0 ∨ x.kind.toNat % 5 = 1 ∨ x.kind.toNat % 5 = 2 ∨ x.kind.toNat % 5 = 3 ∨ x.kind.toNat % 5 = 4 := by omega
  unfold Scp.wide
  rcases this with h | h | h | h | h <;> rw [h] <;> rfl
theorem mod5 (k : UInt8) : ((k.toNat : Int) % 5).toNat = k.toNat % 5 := by omega

theorem c11 {own : List SP} {K : PH → Prop} {s : List UInt8} {A : Option Addr} {ca : Nat} {l : List Scp} (hr : Ent K (Row A (l.flatMap Scp.cells))) (hs : s.length ≤ 140737488355328) (hl : l.length ≤ 140737488355328) (hn : ∀ x ∈ l, x.n ≤ 18446744073709551615) : Spec Try.prog 11 [.string (bs s), .slice A l.length ca] (own) (K)
    (fun v own' K' => v = .tuple #[.int .i64 (scoops s.length l).2.1, .bool true] ∧ own' = own ∧ K = K') := by
  refine Spec.of en_11 Try.func11 rfl rfl fun g => ?_
  refine WC.seq ?_
  refine WC.region ?_
  refine WL.q (q_assign rfl) rfl ?_
  refine WL.q (q_assign rfl) rfl ?_
  refine WL.nil ?_
  refine AT.then_n ?_
  refine WC.seq ?_
  refine WC.region ?_
  refine WL.q (q_move rfl) rfl ?_
  refine WL.eff (e_s2b rfl u_9 u_23 u_5 i_5 (by omega)) rfl ?_; rintro _ _ _ ⟨A0, c0, rfl, rfl, rfl, hc0⟩
  refine WL.imp Imp.orowStay ?_
  have hk0 : Ent (K ∩ Row A0 (s.map bv)) (Row A0 (s.map bv)) := Ent.right
  refine WL.eff (e_call rfl (c33 hk0 (by omega))) rfl ?_; rintro _ _ _ ⟨p, RA0, rc0, rfl, rfl, rfl, hrc⟩
  obtain ⟨K1, hK1⟩ : ∃ K1, K1 = K ∩ Row A0 (s.map bv) ∩ Row RA0 (s.map bv) := ⟨_, rfl⟩
  have hRA0 : RdOk K1 RA0 rc0 s := ⟨by rw [hK1]; exact Ent.right, hrc⟩
  have hrK : Ent K1 (Row A (l.flatMap Scp.cells)) := by rw [hK1]; exact hr.left.left
  have hKK : Ent K1 K := by rw [hK1]; exact (Ent.refl K).left.left
  rw [← hK1]
  refine WL.q (q_assign rfl) rfl ?_
  refine WL.nil ?_
  refine AT.then_n ?_
  refine WC.seq ?_
  refine WC.region ?_
  refine WL.q (q_assign rfl) rfl ?_
  refine WL.q (q_assign rfl) rfl ?_
  refine WL.q (q_assign rfl) rfl ?_
  refine WL.nil ?_
  refine AT.then_n ?_
  refine WC.seq ?_
  refine WC.seq ?_
  refine WC.region ?_
  refine WL.q (q_move rfl) rfl ?_
  refine WL.q (q_eqlP rfl rfl u_62) rfl ?_
  refine WL.nil ?_
  refine AT.then_n ?_
  refine WC.condHF rfl (rfl) ?_
  refine WC.skip ?_
  refine AT.then_n ?_
  refine WC.seq ?_
  refine WC.seq ?_
  refine WC.region ?_
  refine WL.q (q_move rfl) rfl ?_
  refine WL.q (q_len rfl u_22) rfl ?_
  refine WL.q (q_move rfl) rfl ?_
  refine WL.nil ?_
  refine AT.then_n ?_
  refine WC.block ?_
  refine WC.loop (σ := Nat × Nat × Nat × Int × Option Addr × Nat) (fun ⟨i, at_, many, fault, RA, rc⟩ => i ≤ l.length ∧ scoops s.length (l.take i) = (at_, many, fault) ∧ at_ ≤ s.length ∧ many ≤ i ∧ RdOk K1 RA rc (s.drop at_))
      (fun ⟨i, at_, many, fault, RA, rc⟩ => [(7, .int .i64 at_), (8, .int .i64 many), (9, .int .i64 fault), (0, .string (bs s)), (6, .pointer (some (ad p 0))), (22, .slice A l.length ca), (23, .int .i64 l.length), (24, .int .i64 i)])
      (fun ⟨i, at_, many, fault, RA, rc⟩ => Rd p RA (s.drop at_).length rc fault :: own) (fun _ => K1) (fun ⟨i, at_, many, fault, RA, rc⟩ => l.length - i) (0, 0, 0, 0, RA0, rc0)
      ⟨by omega, rfl, by omega, by omega, hRA0⟩ ⟨rfl, rfl, rfl, rfl, rfl, rfl, rfl, rfl, trivial⟩ (Imp.eq rfl) ?_
  rintro ⟨i, at_, many, fault, RA, rc⟩ ⟨hi, hst, hat, hmany, hRd⟩
  simp only at hi hst hat hmany hRd ⊢
  refine WC.seq ?_
  refine WC.region ?_
  refine WL.q (q_lss rfl rfl) rfl ?_
  refine WL.nil ?_
  refine AT.then_n ?_
  refine WC.seq ?_
  refine WC.cond rfl (fun h2 => ?_) (fun h2 => ?_)
  · -- if 2: yes
    try have p2 := of_decide_eq_true h2
    have hlt : i < l.length := by omega
    have hx := hn _ (List.getElem_mem hlt)
    have hku := (l[i]).kind.toNat_lt
    refine WC.skip ?_
    refine AT.then_n ?_
    refine WC.seq ?_
    refine WC.block ?_
    refine WC.seq ?_
    refine WC.region ?_
    refine WL.q (q_indexAddr rfl rfl u_22 i_72 (Based.row hrK (by rw [flat_len _ 3 Scp.len]; omega)) (by omega)) rfl ?_
    refine WL.q (q_loadA rfl a_72 i_72 (Cells.at hrK Scp.len hlt) rfl) rfl ?_
    refine WL.eff (e_alloc i_72) rfl ?_; rintro _ _ _ ⟨b3, rfl, rfl, rfl⟩
    first | refine WL.effn (e_storeN 0 rfl rfl rfl i_72 rfl rfl (by simp) (by simp [Ones, Value.oneCell', Scp.cells, bv])) ?_ | refine WL.effn (e_storeN 1 rfl rfl rfl i_72 rfl rfl (by simp) (by simp [Ones, Value.oneCell', Scp.cells, bv])) ?_
    rintro _ _ _ ⟨rfl, rfl, rfl⟩
    refine WL.nil ?_
    refine AT.then_n ?_
    refine WC.seq ?_
    refine WC.region ?_
    refine WL.q (q_fieldAddr rfl fo_72_1) rfl ?_
    refine WL.q (q_load rfl a_70 (by first | exact Cell.ptL 0 rfl rfl | exact Cell.ptL 1 rfl rfl)) rfl ?_
    first | refine WL.q (q_rem0 rfl rfl (by omega)) rfl ?_
    first | refine WL.q (q_convI (-9223372036854775808) 9223372036854775807 u_70 u_3 rfl rfl rfl (by omega)) rfl ?_ | refine WL.q (q_conv rfl u_70 u_3 rfl) rfl ?_
    first | refine WL.q (q_sub64 rfl rfl (by omega)) rfl ?_ | refine WL.q (q_sub rfl rfl) rfl ?_
    refine WL.eff (e_buildSliceL rfl u_77 i_3 rfl rfl rfl rfl rfl) rfl ?_; rintro _ _ _ ⟨b4, rfl, rfl, rfl⟩
    refine WL.q (q_fieldAddr rfl fo_72_0) rfl ?_
    refine WL.q (q_load rfl a_5 (by first | exact Cell.ptL 0 rfl rfl | exact Cell.ptL 1 rfl rfl)) rfl ?_
    first | refine WL.q (q_rem0 rfl rfl (by omega)) rfl ?_
    refine WL.q (q_indexAddr rfl rfl u_77 i_3 (Based.of _ _) (by simp; omega)) rfl ?_
    refine WL.q (q_load rfl a_3 (by simp only [adr, add_mk]; exact Cell.ptL 0 (cs := [Value.int .i64 1, .int .i64 2, .int .i64 4, .int .i64 8, .int .i64 (((l[i].n % 300 : Nat) : Int) - 9)]) rfl (wide_at l[i] (by rw [Nat.zero_add, Nat.mul_one]; exact mod5 _)))) rfl ?_
    refine WL.q (q_assign rfl) rfl ?_
    refine WL.nil ?_
    refine AT.then_n ?_
    refine WC.seq ?_
    refine WC.region ?_
    refine WL.q (q_assign rfl) rfl ?_
    refine WL.nil ?_
    refine AT.then_n ?_
    refine WC.cut (σ := Unit) (fun _ => True) (fun _ => [(13, .string (bs (part s (at_, many, fault) l[i]))), (7, .int .i64 (scoop s.length (at_, many, fault) l[i]).1), (8, .int .i64 (scoop s.length (at_, many, fault) l[i]).2.1), (9, .int .i64 (scoop s.length (at_, many, fault) l[i]).2.2), (11, .pointer (some (ad b3 0))), (12, .int .i64 (l[i]).wide), (0, .string (bs s)), (6, .pointer (some (ad p 0))), (22, .slice A l.length ca), (23, .int .i64 l.length), (24, .int .i64 i)])
        (fun _ => Pt b4 (.cells ([.int .i64 1, .int .i64 2, .int .i64 4, .int .i64 8, .int .i64 (((l[i].n % 300 : Nat) : Int) - 9)] : List Value).toArray 3 (0, 0)) :: Pt b3 (.cells (Scp.cells l[i]).toArray 72 (0, 0)) :: Rd p RA (s.drop at_).length rc fault :: own) (fun _ => K1) ?_ ?_
    · -- cut
      refine WC.block ?_
      refine WC.seq ?_
      refine WC.region ?_
      refine WL.q (q_move rfl) rfl ?_
      refine WL.q (q_neq rfl rfl) rfl ?_
      refine WL.q (q_assign rfl) rfl ?_
      refine WL.nil ?_
      refine AT.then_n ?_
      refine WC.cond rfl (fun h3 => ?_) (fun h3 => ?_)
      · -- if 3: yes
        try have p3 := of_decide_eq_true h3
        refine WC.skip ?_
        refine AT.blk_n ?_
        refine AT.mid () trivial ?_ (Imp.refl _ _)
        refine ⟨?_, ?_, ?_, ?_, rfl, rfl, rfl, rfl, rfl, rfl, rfl, trivial⟩ <;> simp [look, part, scoop, show ({ data := #[] } : ByteArray) = bs [] from rfl, *] <;> omega
      · -- if 3: no
        try have p3 := of_decide_eq_false h3
        refine WC.seq ?_
        refine WC.region ?_
        refine WL.q (q_move rfl) rfl ?_
        refine WL.q (q_lss rfl rfl) rfl ?_
        refine WL.q (q_assign rfl) rfl ?_
        refine WL.nil ?_
        refine AT.then_n ?_
        refine WC.cond rfl (fun h4 => ?_) (fun h4 => ?_)
        · -- if 4: yes
          try have p4 := of_decide_eq_true h4
          refine WC.region ?_
          refine WL.q (q_assign rfl) rfl ?_
          refine WL.nil ?_
          refine AT.blk_n ?_
          refine AT.mid () trivial ?_ (Imp.refl _ _)
          refine ⟨?_, ?_, ?_, ?_, rfl, rfl, rfl, rfl, rfl, rfl, rfl, trivial⟩ <;> simp [look, part, scoop, show ({ data := #[] } : ByteArray) = bs [] from rfl, *] <;> omega
        · -- if 4: no
          try have p4 := of_decide_eq_false h4
          refine WC.seq ?_
          refine WC.region ?_
          refine WL.q (q_move rfl) rfl ?_
          first | refine WL.q (q_lenB rfl u_9) rfl ?_ | refine WL.q (q_lenS rfl u_9) rfl ?_
          refine WL.q (q_move rfl) rfl ?_
          first | refine WL.q (q_sub64 rfl rfl (by omega)) rfl ?_ | refine WL.q (q_sub rfl rfl) rfl ?_
          refine WL.q (q_move rfl) rfl ?_
          refine WL.q (q_lss rfl rfl) rfl ?_
          refine WL.q (q_assign rfl) rfl ?_
          refine WL.nil ?_
          refine AT.then_n ?_
          refine WC.cond rfl (fun h5 => ?_) (fun h5 => ?_)
          · -- if 5: yes
            try have p5 := of_decide_eq_true h5
            refine WC.region ?_
            refine WL.q (q_assign rfl) rfl ?_
            refine WL.nil ?_
            refine AT.blk_n ?_
            refine AT.mid () trivial ?_ (Imp.refl _ _)
            refine ⟨?_, ?_, ?_, ?_, rfl, rfl, rfl, rfl, rfl, rfl, rfl, trivial⟩ <;> simp [look, part, scoop, show ({ data := #[] } : ByteArray) = bs [] from rfl, *] <;> omega
          · -- if 5: no
            try have p5 := of_decide_eq_false h5
            refine WC.seq ?_
            refine WC.region ?_
            refine WL.q (q_move rfl) rfl ?_
            refine WL.q (q_move rfl) rfl ?_
            refine WL.q (q_move rfl) rfl ?_
            refine WL.q (q_move rfl) rfl ?_
            first | refine WL.q (q_add64 rfl rfl (by omega)) rfl ?_ | refine WL.q (q_add rfl rfl) rfl ?_
            refine WL.q (q_sliceS (l := at_) (h := at_ + l[i].wide.toNat) rfl ⟨_, _, rfl, rfl⟩ ⟨_, _, rfl, by omega⟩ u_9 (by omega)) rfl ?_
            refine WL.q (q_assign rfl) rfl ?_
            refine WL.nil ?_
            refine AT.then_n ?_
            refine WC.seq ?_
            refine WC.region ?_
            refine WL.q (q_move rfl) rfl ?_
            refine WL.q (q_move rfl) rfl ?_
            first | refine WL.q (q_add64 rfl rfl (by omega)) rfl ?_ | refine WL.q (q_add rfl rfl) rfl ?_
            refine WL.q (q_assign rfl) rfl ?_
            refine WL.nil ?_
            refine AT.then_n ?_
            refine WC.region ?_
            refine WL.q (q_move rfl) rfl ?_
            first | refine WL.q (q_add64 rfl rfl (by omega)) rfl ?_ | refine WL.q (q_add rfl rfl) rfl ?_
            refine WL.q (q_assign rfl) rfl ?_
            refine WL.nil ?_
            refine AT.blk_n ?_
            refine AT.mid () trivial ?_ (Imp.refl _ _)
            refine ⟨?_, ?_, ?_, ?_, rfl, rfl, rfl, rfl, rfl, rfl, rfl, trivial⟩ <;> simp [look, part, scoop, show ({ data := #[] } : ByteArray) = bs [] from rfl, *] <;> omega
    · -- behind the cut
      rintro _ -
      have hsl := scoop_le s.length (at_, many, fault) l[i] hat
      have hoff := offI_scoop s (at_, many, fault) l[i] hat
      have htl : l[i].kind.toNat % 5 < 4 → (part s (at_, many, fault) l[i]).length ≤ 8 := part_len s _ _
      have hlen : (part s (at_, many, fault) l[i]).length ≤ s.length := part_le s _ _
      have hstep : scoops s.length (l.take (i + 1)) = scoop s.length (at_, many, fault) l[i] := by
        simp only [scoops] at hst ⊢
        rw [List.take_succ_eq_append_getElem hlt, List.foldl_append, hst]; rfl
      revert hsl hoff htl hlen hstep
      generalize part s (at_, many, fault) l[i] = t
      generalize scoop s.length (at_, many, fault) l[i] = st
      obtain ⟨at2, many2, fault2⟩ := st
      intro hsl hoff htl hlen hstep
      simp only at hsl hoff htl hlen hstep ⊢
      obtain ⟨tn, htn⟩ : ∃ tn, tn = if l[i].kind.toNat % 5 < 4 then num t else 0 := ⟨_, rfl⟩
      refine WC.seq ?_
      refine WC.region ?_
      refine WL.q (q_assign rfl) rfl ?_
      refine WL.nil ?_
      refine AT.then_n ?_
      refine WC.cut (σ := Unit) (fun _ => True) (fun _ => [(14, .int .u64 tn), (13, .string (bs t)), (7, .int .i64 at2), (8, .int .i64 many2), (9, .int .i64 fault2), (11, .pointer (some (ad b3 0))), (12, .int .i64 (l[i]).wide), (0, .string (bs s)), (6, .pointer (some (ad p 0))), (22, .slice A l.length ca), (23, .int .i64 l.length), (24, .int .i64 i)]) (fun _ => Pt b4 (.cells ([.int .i64 1, .int .i64 2, .int .i64 4, .int .i64 8, .int .i64 (((l[i].n % 300 : Nat) : Int) - 9)] : List Value).toArray 3 (0, 0)) :: Pt b3 (.cells (Scp.cells l[i]).toArray 72 (0, 0)) :: Rd p RA (s.drop at_).length rc fault :: own) (fun _ => K1) ?_ ?_
      · -- cut
        refine WC.seq ?_
        refine WC.region ?_
        refine WL.q (q_assign rfl) rfl ?_
        refine WL.nil ?_
        refine AT.then_n ?_
        refine WC.block ?_
        refine WC.loop (σ := Nat) (fun k => k ≤ t.length ∧ (l[i].kind.toNat % 5 < 4 ∨ k = 0)) (fun k => [(15, .int .i64 k), (14, .int .u64 (num (t.take k))), (13, .string (bs t)), (7, .int .i64 at2), (8, .int .i64 many2), (9, .int .i64 fault2), (11, .pointer (some (ad b3 0))), (12, .int .i64 (l[i]).wide), (0, .string (bs s)), (6, .pointer (some (ad p 0))), (22, .slice A l.length ca), (23, .int .i64 l.length), (24, .int .i64 i)]) (fun _ => Pt b4 (.cells ([.int .i64 1, .int .i64 2, .int .i64 4, .int .i64 8, .int .i64 (((l[i].n % 300 : Nat) : Int) - 9)] : List Value).toArray 3 (0, 0)) :: Pt b3 (.cells (Scp.cells l[i]).toArray 72 (0, 0)) :: Rd p RA (s.drop at_).length rc fault :: own) (fun _ => K1) (fun k => t.length - k) 0 ⟨by omega, .inr rfl⟩ ⟨rfl, rfl, rfl, rfl, rfl, rfl, rfl, rfl, rfl, rfl, rfl, rfl, rfl, trivial⟩ (Imp.refl _ _) ?_
        rintro k ⟨hk, hk4⟩
        refine WC.seq ?_
        refine WC.seq ?_
        refine WC.region ?_
        refine WL.q (q_move rfl) rfl ?_
        refine WL.q (q_move rfl) rfl ?_
        first | refine WL.q (q_lenB rfl u_9) rfl ?_ | refine WL.q (q_lenS rfl u_9) rfl ?_
        refine WL.q (q_lss rfl rfl) rfl ?_
        refine WL.q (q_move rfl) rfl ?_
        refine WL.split 67 rfl (fun hg20_4 => ?_) (fun hg20_4 => ?_)
        · -- guard 20.4: True
          try have hp20_4 := of_decide_eq_true hg20_4
          refine WL.on rfl rfl hg20_4 ?_
          refine WL.q (q_fieldAddr rfl fo_72_0) rfl ?_
          refine WL.on rfl rfl hg20_4 ?_
          refine WL.q (q_load rfl a_5 (by first | exact Cell.ptL 0 rfl rfl | exact Cell.ptL 1 rfl rfl)) rfl ?_
          refine WL.on rfl rfl hg20_4 ?_
          first | refine WL.q (q_rem0 rfl rfl (by omega)) rfl ?_
          refine WL.on rfl rfl hg20_4 ?_
          refine WL.q (q_lss rfl rfl) rfl ?_
          refine WL.q (q_pickT rfl hg20_4 rfl) rfl ?_
          refine WL.nil ?_
          refine AT.then_n ?_
          refine WC.cond rfl (fun h6 => ?_) (fun h6 => ?_)
          · -- if 6: yes
            try have p6 := of_decide_eq_true h6
            have hkt : k < t.length := by omega
            have hb := num_le7 (l := t.take k) (by simp; omega)
            have hu := t[k].toNat_lt
            refine WC.skip ?_
            refine AT.then_n ?_
            refine WC.seq ?_
            refine WC.block ?_
            refine WC.region ?_
            refine WL.q (q_move rfl) rfl ?_
            first | refine WL.q (q_mulR (0) 18446744073709551615 rfl rfl rfl rfl (by omega)) rfl ?_ | refine WL.q (q_mul rfl rfl) rfl ?_
            refine WL.q (q_move rfl) rfl ?_
            refine WL.q (q_move rfl) rfl ?_
            refine WL.q (q_indexB (b := t[k]) rfl rfl u_9 (by omega) (by simp [hkt])) rfl ?_
            first | refine WL.q (q_convI (0) 18446744073709551615 u_5 u_70 rfl rfl rfl (by omega)) rfl ?_ | refine WL.q (q_conv rfl u_5 u_70 rfl) rfl ?_
            first | refine WL.q (q_addR (0) 18446744073709551615 rfl rfl rfl rfl (by omega)) rfl ?_ | refine WL.q (q_add rfl rfl) rfl ?_
            refine WL.q (q_assign rfl) rfl ?_
            refine WL.nil ?_
            refine AT.blk_n ?_
            refine AT.then_n ?_
            refine WC.region ?_
            refine WL.q (q_move rfl) rfl ?_
            first | refine WL.q (q_add64 rfl rfl (by omega)) rfl ?_ | refine WL.q (q_add rfl rfl) rfl ?_
            refine WL.q (q_assign rfl) rfl ?_
            refine WL.nil ?_
            refine AT.mid (k + 1) ⟨⟨by omega, .inl (by omega)⟩, by omega⟩ ⟨rfl, ?_, rfl, rfl, rfl, rfl, rfl, rfl, rfl, rfl, rfl, rfl, rfl, trivial⟩ (Imp.refl _ _)
            rw [num_take hkt]; rfl
          · -- if 6: no
            try have p6 := of_decide_eq_false h6
            have hkk : tn = num (t.take k) := by
              have : k = 0 := by omega
              subst this; rw [htn, if_neg (by omega)]; rfl
            refine WC.exit ?_
            refine AT.then_e ?_
            refine AT.then_e ?_
            refine AT.blk_e ?_
            refine AT.mid () trivial ⟨?_, rfl, rfl, rfl, rfl, rfl, rfl, rfl, rfl, rfl, rfl, rfl, trivial⟩ (Imp.refl _ _)
            show some (Value.int _ _) = some (Value.int _ _)
            rw [hkk]
        · -- guard 20.4: False
          try have hp20_4 := of_decide_eq_false hg20_4
          have hkk : tn = num (t.take k) := by
            rw [htn]; split
            · rw [List.take_of_length_le (by omega)]
            · have : k = 0 := by omega
              subst this; rfl
          refine WL.off rfl rfl hg20_4 rfl ?_
          refine WL.off rfl rfl hg20_4 rfl ?_
          refine WL.off rfl rfl hg20_4 rfl ?_
          refine WL.off rfl rfl hg20_4 rfl ?_
          refine WL.q (q_pickF rfl hg20_4 rfl) rfl ?_
          refine WL.nil ?_
          refine AT.then_n ?_
          refine WC.condF rfl ?_
          refine WC.exit ?_
          refine AT.then_e ?_
          refine AT.then_e ?_
          refine AT.blk_e ?_
          refine AT.mid () trivial ⟨?_, rfl, rfl, rfl, rfl, rfl, rfl, rfl, rfl, rfl, rfl, rfl, trivial⟩ (Imp.refl _ _)
          show some (Value.int _ _) = some (Value.int _ _)
          rw [hkk]
      · -- behind the cut
        rintro _ -
        refine WC.seq ?_
        refine WC.region ?_
        refine WL.q (q_assign rfl) rfl ?_
        refine WL.nil ?_
        refine AT.then_n ?_
        refine WC.cut (σ := Option Addr × Nat) (fun q => RdOk K1 q.1 q.2 (s.drop at2)) (fun _ => [(16, .bool true), (13, .string (bs t)), (7, .int .i64 at2), (8, .int .i64 many2), (9, .int .i64 fault2), (11, .pointer (some (ad b3 0))), (12, .int .i64 (l[i]).wide), (0, .string (bs s)), (6, .pointer (some (ad p 0))), (22, .slice A l.length ca), (23, .int .i64 l.length), (24, .int .i64 i)]) (fun q => Rd p q.1 (s.drop at2).length q.2 fault2 :: Pt b4 (.cells ([.int .i64 1, .int .i64 2, .int .i64 4, .int .i64 8, .int .i64 (((l[i].n % 300 : Nat) : Int) - 9)] : List Value).toArray 3 (0, 0)) :: Pt b3 (.cells (Scp.cells l[i]).toArray 72 (0, 0)) :: own) (fun _ => K1) ?_ ?_
        · -- cut
          refine WC.seq ?_
          refine WC.region ?_
          refine WL.q (q_fieldAddr rfl fo_72_0) rfl ?_
          refine WL.q (q_load rfl a_5 (by first | exact Cell.ptL 0 rfl rfl | exact Cell.ptL 1 rfl rfl)) rfl ?_
          first | refine WL.q (q_rem0 rfl rfl (by omega)) rfl ?_
          refine WL.nil ?_
          refine AT.then_n ?_
          refine WC.block ?_
          refine WC.seq ?_
          refine WC.region ?_
          refine WL.imp (Imp.front 2 rfl) ?_
          refine WL.q (q_eql rfl rfl) rfl ?_
          refine WL.q (q_assign rfl) rfl ?_
          refine WL.nil ?_
          refine AT.then_n ?_
          refine WC.cond rfl (fun h7 => ?_) (fun h7 => ?_)
          · -- if 7: yes
            try have p7 := of_decide_eq_true h7
            have hk5 : l[i].kind.toNat % 5 = 0 := by omega
            have hw5 : l[i].wide = ((1 : Nat) : Int) := by simp [Scp.wide, hk5]
            rw [hw5, offI_nat] at hoff
            have hnt : num t < 18446744073709551616 := num_le8 (htl (by omega))
            refine WC.region ?_
            refine WL.q (q_move rfl) rfl ?_
            refine WL.eff (e_call rfl (c34 hRd)) rfl ?_; rintro _ _ _ ⟨rfl, rfl, A1, cap1, rfl, h1⟩
            simp only [hoff] at h1 ⊢
            first | refine WL.q (q_convI (0) 18446744073709551615 u_5 u_70 rfl rfl rfl (by omega)) rfl ?_ | refine WL.q (q_conv rfl u_5 u_70 rfl) rfl ?_
            refine WL.q (q_move rfl) rfl ?_
            refine WL.q (q_eql rfl rfl) rfl ?_
            refine WL.q (q_assign rfl) rfl ?_
            refine WL.nil ?_
            refine AT.blk_n ?_
            refine AT.mid (A1, cap1) h1 ⟨?_, rfl, rfl, rfl, rfl, rfl, rfl, rfl, rfl, rfl, rfl, rfl, trivial⟩ (Imp.eq rfl)
            show some (Value.bool _) = some (Value.bool true)
            simp [htn, hk5]
          · -- if 7: no
            try have p7 := of_decide_eq_false h7
            refine WC.seq ?_
            refine WC.region ?_
            refine WL.q (q_eql rfl rfl) rfl ?_
            refine WL.q (q_assign rfl) rfl ?_
            refine WL.nil ?_
            refine AT.then_n ?_
            refine WC.cond rfl (fun h8 => ?_) (fun h8 => ?_)
            · -- if 8: yes
              try have p8 := of_decide_eq_true h8
              have hk5 : l[i].kind.toNat % 5 = 1 := by omega
              have hw5 : l[i].wide = ((2 : Nat) : Int) := by simp [Scp.wide, hk5]
              rw [hw5, offI_nat] at hoff
              have hnt : num t < 18446744073709551616 := num_le8 (htl (by omega))
              refine WC.region ?_
              refine WL.q (q_move rfl) rfl ?_
              refine WL.eff (e_call rfl (c42 hRd)) rfl ?_; rintro _ _ _ ⟨rfl, rfl, A1, cap1, rfl, h1⟩
              simp only [hoff] at h1 ⊢
              first | refine WL.q (q_convI (0) 18446744073709551615 u_34 u_70 rfl rfl rfl (by omega)) rfl ?_ | refine WL.q (q_conv rfl u_34 u_70 rfl) rfl ?_
              refine WL.q (q_move rfl) rfl ?_
              refine WL.q (q_eql rfl rfl) rfl ?_
              refine WL.q (q_assign rfl) rfl ?_
              refine WL.nil ?_
              refine AT.blk_n ?_
              refine AT.mid (A1, cap1) h1 ⟨?_, rfl, rfl, rfl, rfl, rfl, rfl, rfl, rfl, rfl, rfl, rfl, trivial⟩ (Imp.eq rfl)
              show some (Value.bool _) = some (Value.bool true)
              simp [htn, hk5]
            · -- if 8: no
              try have p8 := of_decide_eq_false h8
              refine WC.seq ?_
              refine WC.region ?_
              refine WL.q (q_eql rfl rfl) rfl ?_
              refine WL.q (q_assign rfl) rfl ?_
              refine WL.nil ?_
              refine AT.then_n ?_
              refine WC.cond rfl (fun h9 => ?_) (fun h9 => ?_)
              · -- if 9: yes
                try have p9 := of_decide_eq_true h9
                have hk5 : l[i].kind.toNat % 5 = 2 := by omega
                have hw5 : l[i].wide = ((4 : Nat) : Int) := by simp [Scp.wide, hk5]
                rw [hw5, offI_nat] at hoff
                have hnt : num t < 18446744073709551616 := num_le8 (htl (by omega))
                refine WC.region ?_
                refine WL.q (q_move rfl) rfl ?_
                refine WL.eff (e_call rfl (c35 hRd)) rfl ?_; rintro _ _ _ ⟨rfl, rfl, A1, cap1, rfl, h1⟩
                simp only [hoff] at h1 ⊢
                first | refine WL.q (q_convI (0) 18446744073709551615 u_65 u_70 rfl rfl rfl (by omega)) rfl ?_ | refine WL.q (q_conv rfl u_65 u_70 rfl) rfl ?_
                refine WL.q (q_move rfl) rfl ?_
                refine WL.q (q_eql rfl rfl) rfl ?_
                refine WL.q (q_assign rfl) rfl ?_
                refine WL.nil ?_
                refine AT.blk_n ?_
                refine AT.mid (A1, cap1) h1 ⟨?_, rfl, rfl, rfl, rfl, rfl, rfl, rfl, rfl, rfl, rfl, rfl, trivial⟩ (Imp.eq rfl)
                show some (Value.bool _) = some (Value.bool true)
                simp [htn, hk5]
              · -- if 9: no
                try have p9 := of_decide_eq_false h9
                refine WC.seq ?_
                refine WC.region ?_
                refine WL.q (q_eql rfl rfl) rfl ?_
                refine WL.q (q_assign rfl) rfl ?_
                refine WL.nil ?_
                refine AT.then_n ?_
                refine WC.cond rfl (fun h10 => ?_) (fun h10 => ?_)
                · -- if 10: yes
                  try have p10 := of_decide_eq_true h10
                  have hk5 : l[i].kind.toNat % 5 = 3 := by omega
                  have hw5 : l[i].wide = ((8 : Nat) : Int) := by simp [Scp.wide, hk5]
                  rw [hw5, offI_nat] at hoff
                  have hnt : num t < 18446744073709551616 := num_le8 (htl (by omega))
                  refine WC.region ?_
                  refine WL.q (q_move rfl) rfl ?_
                  refine WL.eff (e_call rfl (c43 hRd)) rfl ?_; rintro _ _ _ ⟨rfl, rfl, A1, cap1, rfl, h1⟩
                  simp only [hoff] at h1 ⊢
                  refine WL.q (q_move rfl) rfl ?_
                  refine WL.q (q_eql rfl rfl) rfl ?_
                  refine WL.q (q_assign rfl) rfl ?_
                  refine WL.nil ?_
                  refine AT.blk_n ?_
                  refine AT.mid (A1, cap1) h1 ⟨?_, rfl, rfl, rfl, rfl, rfl, rfl, rfl, rfl, rfl, rfl, rfl, trivial⟩ (Imp.eq rfl)
                  show some (Value.bool _) = some (Value.bool true)
                  simp [htn, hk5]
                · -- if 10: no
                  try have p10 := of_decide_eq_false h10
                  refine WC.region ?_
                  refine WL.q (q_move rfl) rfl ?_
                  refine WL.q (q_move rfl) rfl ?_
                  refine WL.eff (e_call rfl (c44 hRd (by simp; omega))) rfl ?_; rintro _ _ _ ⟨A1, cap1, A2, cap2, rfl, rfl, hraw, h1⟩
                  simp only [hoff] at h1 hraw ⊢
                  refine WL.q (q_b2sK rfl u_23 u_5 u_9 (hraw.trans Ent.right)) rfl ?_
                  refine WL.q (q_move rfl) rfl ?_
                  refine WL.q (q_eqlS rfl rfl) rfl ?_
                  refine WL.q (q_assign rfl) rfl ?_
                  refine WL.nil ?_
                  refine AT.blk_n ?_
                  refine AT.mid (A1, cap1) h1 ⟨?_, rfl, rfl, rfl, rfl, rfl, rfl, rfl, rfl, rfl, rfl, rfl, trivial⟩ (Imp.keepRest (List.Sublist.refl _) (hraw.trans (Ent.refl _).left))
                  show some (Value.bool _) = some (Value.bool true)
                  simp
        · -- behind the cut
          rintro ⟨RA2, rc2⟩ hRd2
          simp only at hRd2 ⊢
          refine WC.seq ?_
          refine WC.region ?_
          refine WL.q (q_move rfl) rfl ?_
          refine WL.q (q_not rfl) rfl ?_
          refine WL.q (q_move rfl) rfl ?_
          refine WL.on rfl rfl rfl ?_
          refine WL.q (q_move rfl) rfl ?_
          refine WL.on rfl rfl rfl ?_
          refine WL.eff (e_call rfl (c36)) rfl ?_; rintro _ _ _ ⟨rfl, rfl, rfl⟩
          refine WL.on rfl rfl rfl ?_
          refine WL.q (q_move rfl) rfl ?_
          refine WL.on rfl rfl rfl ?_
          first | refine WL.q (q_lenB rfl u_9) rfl ?_ | refine WL.q (q_lenS rfl u_9) rfl ?_
          refine WL.on rfl rfl rfl ?_
          refine WL.q (q_move rfl) rfl ?_
          refine WL.on rfl rfl rfl ?_
          first | refine WL.q (q_sub64 rfl rfl (by omega)) rfl ?_ | refine WL.q (q_sub rfl rfl) rfl ?_
          refine WL.on rfl rfl rfl ?_
          refine WL.q (q_neq rfl rfl) rfl ?_
          refine WL.q (q_pickF rfl rfl rfl) rfl ?_
          refine WL.q (q_move rfl) rfl ?_
          refine WL.on rfl rfl (by simp; omega) ?_
          refine WL.q (q_move rfl) rfl ?_
          refine WL.on rfl rfl (by simp; omega) ?_
          refine WL.eff (e_call rfl (c37)) rfl ?_; rintro _ _ _ ⟨rfl, rfl, rfl⟩
          refine WL.on rfl rfl (by simp; omega) ?_
          refine WL.q (q_move rfl) rfl ?_
          refine WL.on rfl rfl (by simp; omega) ?_
          refine WL.q (q_neq rfl rfl) rfl ?_
          refine WL.q (q_pickF rfl (by simp; omega) rfl) rfl ?_
          refine WL.nil ?_
          refine AT.then_n ?_
          refine WC.condHF rfl (by simp) ?_
          refine WC.skip ?_
          refine AT.blk_n ?_
          refine AT.then_n ?_
          refine WC.region ?_
          first | refine WL.q (q_add64 rfl rfl (by omega)) rfl ?_ | refine WL.q (q_add rfl rfl) rfl ?_
          refine WL.q (q_move rfl) rfl ?_
          refine WL.nil ?_
          refine AT.mid (i + 1, at2, many2, fault2, RA2, rc2) ⟨⟨by omega, hstep, hsl.1, by simp only; omega, hRd2⟩, by simp only; omega⟩ ⟨rfl, rfl, rfl, rfl, rfl, rfl, rfl, rfl, trivial⟩ (Imp.keepRest (List.Sublist.cons_cons _ (List.Sublist.cons _ (List.Sublist.cons _ (List.Sublist.refl _)))) (Ent.refl _))
  · -- if 2: no
    try have p2 := of_decide_eq_false h2
    refine WC.exit ?_
    refine AT.then_e ?_
    refine AT.then_e ?_
    refine AT.blk_e ?_
    refine AT.then_n ?_
    refine WC.seq ?_
    refine WC.region ?_
    refine WL.q (q_move rfl) rfl ?_
    refine WL.q (q_assign rfl) rfl ?_
    refine WL.q (q_assign rfl) rfl ?_
    refine WL.nil ?_
    refine AT.then_n ?_
    refine WC.ret ?_
    refine AT.done rfl (RO.two rfl rfl rfl) ⟨?_, rfl, rfl⟩ (Imp.keepRest (List.sublist_cons_self _ _) hKK)
    have hil : i = l.length := by omega
    subst hil
    rw [List.take_length] at hst
    rw [hst]


theorem be_mod (w n : Nat) : be w (n % 2 ^ (8 * w)) = be w n := by
  unfold be
  apply List.map_congr_left
  intro k hk
  rw [List.mem_range] at hk
  apply UInt8.toNat_inj.1
  simp only [UInt8.toNat_ofNat']
  have e : 8 * w = 8 * (w - 1 - k) + 8 * (k + 1) := by omega
  rw [e, Nat.pow_add, Nat.mod_mul_right_div_self]
  rw [Nat.mod_mod_of_dvd]
  exact ⟨2 ^ (8 * k), by rw [show 8 * (k + 1) = 8 + 8 * k by omega, Nat.pow_add]⟩
def sumW (L : List Scp) : Nat := (L.map fun x => x.wide.toNat).sum
theorem scoops_all (len : Nat) : ∀ (L : List Scp) (p m : Nat), (∀ x ∈ L, 0 ≤ x.wide) → p + sumW L ≤ len → L.foldl (scoop len) (p, m, 0) = (p + sumW L, m + L.length, 0)
  | [], p, m, _, _ => by simp [sumW]
  | x :: L, p, m, h, hl => by
    have hx := h x (by simp)
    have e : sumW (x :: L) = x.wide.toNat + sumW L := by simp [sumW]
    rw [e] at hl
    have h2 : ¬ ((len : Int) - p < x.wide) := by omega
    have h3 : scoop len (p, m, 0) x = (p + x.wide.toNat, m + 1, 0) := by
      have : ¬ x.wide < 0 := by omega
      simp [scoop, this, h2]
    rw [List.foldl_cons, h3, scoops_all len L _ _ (fun y hy => h y (by simp [hy])) (by omega), e, List.length_cons]
    congr 1
    · omega
    · congr 1; omega
theorem sumW_snoc (L : List Scp) (x : Scp) : sumW (L ++ [x]) = sumW L + x.wide.toNat := by simp [sumW]
/-- Nothing but noughts. -/
def zeros (l : List UInt8) : Bool := decide (∀ x ∈ l, x = 0)
theorem all_T {c : List UInt8} {k : Nat} (hk : k < c.length) (h : zeros (c.take k) = true) : decide ((c[k].toNat : Int) = 0) = zeros (c.take (k + 1)) := by
  unfold zeros at *
  have h := of_decide_eq_true h
  rw [List.take_succ_eq_append_getElem hk, decide_eq_decide]
  constructor
  · intro h0 x hx
    rcases List.mem_append.1 hx with hx | hx
    · exact h x hx
    · simp at hx; rw [hx]; exact UInt8.toNat_inj.1 (by simpa using h0)
  · intro h0
    rw [h0 c[k] (List.mem_append.2 (.inr (by simp)))]; rfl
theorem all_F {c : List UInt8} {k : Nat} (hk : k < c.length) (h : zeros (c.take k) = false) : false = zeros (c.take (k + 1)) := by
  unfold zeros at *
  have h := of_decide_eq_false h
  rw [List.take_succ_eq_append_getElem hk]
  symm; rw [decide_eq_false_iff_not]
  exact fun h0 => h fun x hx => h0 x (List.mem_append.2 (.inl hx))

theorem c12 {own : List SP} {K : PH → Prop} {A B Cc : Option Addr} {ca cb cc : Nat} {l : List Scp} {b c : List UInt8} (hrl : Ent K (Row A (l.flatMap Scp.cells))) (hrb : Ent K (Row B (b.map bv))) (hrc : Ent K (Row Cc (c.map bv))) (hl : l.length ≤ 30) (hb : b.length ≤ 200) (hc : c.length ≤ 200) (hn : ∀ x ∈ l, x.n ≤ 18446744073709551615) : Spec Try.prog 12 [.slice A l.length ca, .slice B b.length cb, .slice Cc c.length cc] (own) (K)
    (fun v own2 K2 => v = .bool true ∧ own = own2 ∧ K = K2) := by
  refine Spec.of en_12 Try.func12 rfl rfl fun g => ?_
  refine WC.seq ?_
  refine WC.region ?_
  refine WL.q (q_assign rfl) rfl ?_
  refine WL.nil ?_
  refine AT.then_n ?_
  refine WC.seq ?_
  refine WC.drawS _ _ mixed (NoPan.then NoPan.body) (Imp.refl _ _) rfl ?_
  refine WD.sched [(0, 0), (2, 0), (3, 0), (1, 2), (4, 0), (5, 0)] true (by decide +kernel) ?_
  refine WS.q 0 rfl (q_move rfl) rfl ?_
  refine WS.q 2 rfl (q_move rfl) rfl ?_
  refine WS.q 3 rfl (q_b2sK rfl u_23 u_5 u_9 hrb) rfl ?_
  refine WS.eff2 1 rfl (e_appendNK rfl rfl (Src.row hrb (k := b.length) (by simp) rfl) u_23 (.inl ⟨_, u_23⟩) i_5 rfl (by simp) (ones_bv b) (by omega)) rfl ?_; rintro _ _ _ ⟨A1, cap1, rfl, rfl, rfl, hc1⟩
  refine ⟨(by first | exact (Imp.refl _ _) | exact (Imp.sub (List.Sublist.cons _ (List.Sublist.refl _))) | exact (Imp.ent (Ent.left (Ent.refl _)))), ?_⟩
  refine WS.q 4 rfl (q_assign rfl) rfl ?_
  refine WS.q 5 rfl (q_assign rfl) rfl ?_
  refine WS.done ?_
  refine AT.then_n ?_
  refine WC.seq ?_
  refine WC.region ?_
  refine WL.q (q_assign rfl) rfl ?_
  refine WL.nil ?_
  refine AT.then_n ?_
  refine WC.seq ?_
  refine WC.seq ?_
  refine WC.region ?_
  refine WL.q (q_move rfl) rfl ?_
  refine WL.q (q_len rfl u_22) rfl ?_
  refine WL.q (q_move rfl) rfl ?_
  refine WL.nil ?_
  refine AT.then_n ?_
  refine WC.block ?_
  refine WC.loop (σ := Nat × List UInt8 × Option Addr × Nat × List Scp × Option Addr × Nat × (PH → Prop)) (fun ⟨i, o7, A7, c7, L, A9, c9, k7⟩ => i ≤ l.length ∧ o7.length = b.length + sumW L ∧ o7.length ≤ b.length + 8 * i ∧ L.length ≤ i ∧ (∀ x ∈ L, 0 ≤ x.wide ∧ x.n ≤ 18446744073709551615) ∧ Ent k7 K ∧ Ent k7 (Row A7 (o7.map bv)))
      (fun ⟨i, o7, A7, c7, L, A9, c9, k7⟩ => [(23, .int .i64 i), (21, .slice A l.length ca), (22, .int .i64 l.length), (9, .slice A9 L.length c9), (7, .slice A7 o7.length c7), (8, .string (bs o7)), (1, .slice B b.length cb), (2, .slice Cc c.length cc)])
      (fun ⟨i, o7, A7, c7, L, A9, c9, k7⟩ => ORow A9 c9 72 3 (L.flatMap Scp.cells) :: own) (fun ⟨i, o7, A7, c7, L, A9, c9, k7⟩ => k7) (fun ⟨i, o7, A7, c7, L, A9, c9, k7⟩ => l.length - i) (0, b, A1, cap1, [], none, 0, _)
      ⟨by omega, by simp [sumW], by simp, by simp, by simp, (Ent.refl K).left, Ent.right⟩ ⟨rfl, rfl, rfl, rfl, rfl, rfl, rfl, rfl, trivial⟩ (Imp.orowNil 72 3) ?_
  rintro ⟨i, o7, A7, c7, L, A9, c9, k7⟩ ⟨hi, ho, ho8, hL, hLw, hkK, h7⟩
  simp only at hi ho ho8 hL hLw hkK h7 ⊢
  have hrlK := hkK.trans hrl
  refine WC.seq ?_
  refine WC.region ?_
  refine WL.q (q_lss rfl rfl) rfl ?_
  refine WL.nil ?_
  refine AT.then_n ?_
  refine WC.seq ?_
  refine WC.cond rfl (fun h1 => ?_) (fun h1 => ?_)
  · -- if 1: yes
    try have p1 := of_decide_eq_true h1
    have hlt : i < l.length := by omega
    have hx := hn _ (List.getElem_mem hlt)
    have hku := (l[i]).kind.toNat_lt
    refine WC.skip ?_
    refine AT.then_n ?_
    refine WC.seq ?_
    refine WC.block ?_
    refine WC.seq ?_
    refine WC.region ?_
    refine WL.q (q_indexAddr rfl rfl u_22 i_72 (Based.row hrlK (by rw [flat_len _ 3 Scp.len]; omega)) (by omega)) rfl ?_
    refine WL.q (q_loadA rfl a_72 i_72 (Cells.at hrlK Scp.len hlt) rfl) rfl ?_
    refine WL.eff (e_alloc i_72) rfl ?_; rintro _ _ _ ⟨b2, rfl, rfl, rfl⟩
    first | refine WL.effn (e_storeN 0 rfl rfl rfl i_72 rfl rfl (by simp) (by simp [Ones, Value.oneCell', Scp.cells, bv])) ?_ | refine WL.effn (e_storeN 1 rfl rfl rfl i_72 rfl rfl (by simp) (by simp [Ones, Value.oneCell', Scp.cells, bv])) ?_
    rintro _ _ _ ⟨rfl, rfl, rfl⟩
    refine WL.nil ?_
    refine AT.then_n ?_
    refine WC.seq ?_
    refine WC.seq ?_
    refine WC.region ?_
    refine WL.q (q_fieldAddr rfl fo_72_0) rfl ?_
    refine WL.q (q_load rfl a_5 (by first | exact Cell.ptL 0 rfl rfl | exact Cell.ptL 1 rfl rfl)) rfl ?_
    first | refine WL.q (q_rem0 rfl rfl (by omega)) rfl ?_
    refine WL.nil ?_
    refine AT.then_n ?_
    refine WC.block ?_
    refine WC.seq ?_
    refine WC.region ?_
    refine WL.q (q_eql rfl rfl) rfl ?_
    refine WL.q (q_assign rfl) rfl ?_
    refine WL.nil ?_
    refine AT.then_n ?_
    refine WC.cond rfl (fun h2 => ?_) (fun h2 => ?_)
    · -- if 2: yes
      try have p2 := of_decide_eq_true h2
      have hk5 : l[i].kind.toNat % 5 = 1 := by omega
      have hw8 : (⟨l[i].kind, 0, none, 0, 0⟩ : Scp).wide = ((2 : Nat) : Int) := by simp [Scp.wide, hk5]
      refine WC.drawS _ _ mixed (NoPan.blk (NoPan.then (NoPan.blk (NoPan.then (NoPan.then (NoPan.blk (NoPan.then NoPan.body))))))) (Imp.refl _ _) rfl ?_
      refine WD.sched [(0, 0), (1, 0), (2, 0), (3, 0), (5, 0), (6, 0), (7, 0), (4, 2), (8, 2), (9, 0), (10, 0), (11, 0)] true (by decide +kernel) ?_
      refine WS.q 0 rfl (q_move rfl) rfl ?_
      refine WS.q 1 rfl (q_fieldAddr rfl fo_72_1) rfl ?_
      refine WS.q 2 rfl (q_load rfl a_70 (by first | exact Cell.ptL 0 rfl rfl | exact Cell.ptL 1 rfl rfl)) rfl ?_
      refine WS.q 3 rfl (q_convN u_70 u_34 rfl rfl) rfl ?_
      refine WS.q 5 rfl (q_move rfl) rfl ?_
      refine WS.q 6 rfl (q_fieldAddr rfl fo_72_1) rfl ?_
      refine WS.q 7 rfl (q_load rfl a_70 (by first | exact Cell.ptL 0 rfl rfl | exact Cell.ptL 1 rfl rfl)) rfl ?_
      refine WS.eff2 4 rfl (e_call rfl (c38 h7 (by omega) (x := l[i].n % 2 ^ IntKind.u16.bits) (by simp [IntKind.bits]; omega))) rfl ?_; rintro _ _ _ ⟨A8, cap8, rfl, rfl, rfl⟩
      refine ⟨(by first | exact (Imp.refl _ _) | exact (Imp.sub (List.Sublist.cons _ (List.Sublist.refl _))) | exact (Imp.ent (Ent.left (Ent.refl _)))), ?_⟩
      refine WS.eff2 8 rfl (e_call rfl (c45 (n := l[i].n) (w := 2) hx (by omega))) rfl ?_; rintro _ _ _ ⟨rfl, rfl, rfl⟩
      refine ⟨(by first | exact (Imp.refl _ _) | exact (Imp.sub (List.Sublist.cons _ (List.Sublist.refl _))) | exact (Imp.ent (Ent.left (Ent.refl _)))), ?_⟩
      refine WS.q 9 rfl (q_addS rfl rfl (by rw [be_len]; omega)) rfl ?_
      refine WS.q 10 rfl (q_assign rfl) rfl ?_
      refine WS.q 11 rfl (q_assign rfl) rfl ?_
      refine WS.done ?_
      refine AT.blk_n ?_
      refine AT.then_n ?_
      refine WC.region ?_
      refine WL.q (q_move rfl) rfl ?_
      refine WL.q (q_fieldAddr rfl fo_72_0) rfl ?_
      refine WL.q (q_load rfl a_5 (by first | exact Cell.ptL 0 rfl rfl | exact Cell.ptL 1 rfl rfl)) rfl ?_
      refine WL.q (q_buildL rfl pl_72 i_72 rfl rfl) rfl ?_
      refine WL.eff (e_buildSliceK (cs := Scp.cells ⟨l[i].kind, 0, none, 0, 0⟩) rfl u_22 i_72 rfl rfl rfl rfl rfl) rfl ?_; rintro _ _ _ ⟨b11, rfl, rfl, rfl⟩
      refine WL.eff (e_append 1 rfl rfl (Src.row Ent.right (k := 1) rfl rfl) rfl u_22 (.inl ⟨_, u_22⟩) i_72 rfl (by rw [flat_len _ 3 Scp.len]) rfl (by simp [Ones, Value.oneCell', Scp.cells, bv]) (by omega)) rfl ?_; rintro _ _ _ ⟨A12, cap12, rfl, rfl, rfl, hc12⟩
      refine WL.q (q_assign rfl) rfl ?_
      refine WL.nil ?_
      refine AT.blk_n ?_
      refine AT.then_n ?_
      refine WC.region ?_
      first | refine WL.q (q_add64 rfl rfl (by omega)) rfl ?_ | refine WL.q (q_add rfl rfl) rfl ?_
      refine WL.q (q_move rfl) rfl ?_
      refine WL.nil ?_
      refine AT.mid (i + 1, o7 ++ be 2 l[i].n, A8, cap8, L ++ [⟨l[i].kind, 0, none, 0, 0⟩], A12, cap12, _) ⟨⟨by omega, ?_, by simp [be_len]; omega, by simp; omega, ?_, hkK.left.left, ?_⟩, by simp only; omega⟩ ⟨rfl, rfl, rfl, ?_, ?_, rfl, rfl, rfl, trivial⟩ (Imp.trans (Imp.sub (List.Sublist.cons _ (List.Sublist.refl _))) (Imp.eq ?_))
      · simp only; rw [sumW_snoc, List.length_append, be_len, hw8]; simp; omega
      · simp only
        intro x hx
        rcases List.mem_append.1 hx with hx | hx
        · exact hLw x hx
        · simp at hx; subst hx; rw [hw8]; exact ⟨by simp, by simp⟩
      · simp only; rw [← show be 2 (l[i].n % 2 ^ IntKind.u16.bits) = be 2 l[i].n from be_mod 2 l[i].n]; exact Ent.right.left
      · exact vsl (by simp)
      · exact vsl (by simp [be_len])
      · simp [Scp.cells, List.flatMap_append]
    · -- if 2: no
      try have p2 := of_decide_eq_false h2
      refine WC.seq ?_
      refine WC.region ?_
      refine WL.q (q_eql rfl rfl) rfl ?_
      refine WL.q (q_assign rfl) rfl ?_
      refine WL.nil ?_
      refine AT.then_n ?_
      refine WC.cond rfl (fun h3 => ?_) (fun h3 => ?_)
      · -- if 3: yes
        try have p3 := of_decide_eq_true h3
        have hk5 : l[i].kind.toNat % 5 = 2 := by omega
        have hw8 : (⟨l[i].kind, 0, none, 0, 0⟩ : Scp).wide = ((4 : Nat) : Int) := by simp [Scp.wide, hk5]
        refine WC.drawS _ _ mixed (NoPan.blk (NoPan.then (NoPan.blk (NoPan.then (NoPan.then (NoPan.blk (NoPan.then NoPan.body))))))) (Imp.refl _ _) rfl ?_
        refine WD.sched [(0, 0), (1, 0), (2, 0), (3, 0), (5, 0), (6, 0), (7, 0), (4, 2), (8, 2), (9, 0), (10, 0), (11, 0)] true (by decide +kernel) ?_
        refine WS.q 0 rfl (q_move rfl) rfl ?_
        refine WS.q 1 rfl (q_fieldAddr rfl fo_72_1) rfl ?_
        refine WS.q 2 rfl (q_load rfl a_70 (by first | exact Cell.ptL 0 rfl rfl | exact Cell.ptL 1 rfl rfl)) rfl ?_
        refine WS.q 3 rfl (q_convN u_70 u_65 rfl rfl) rfl ?_
        refine WS.q 5 rfl (q_move rfl) rfl ?_
        refine WS.q 6 rfl (q_fieldAddr rfl fo_72_1) rfl ?_
        refine WS.q 7 rfl (q_load rfl a_70 (by first | exact Cell.ptL 0 rfl rfl | exact Cell.ptL 1 rfl rfl)) rfl ?_
        refine WS.eff2 4 rfl (e_call rfl (c39 h7 (by omega) (x := l[i].n % 2 ^ IntKind.u32.bits) (by simp [IntKind.bits]; omega))) rfl ?_; rintro _ _ _ ⟨A8, cap8, rfl, rfl, rfl⟩
        refine ⟨(by first | exact (Imp.refl _ _) | exact (Imp.sub (List.Sublist.cons _ (List.Sublist.refl _))) | exact (Imp.ent (Ent.left (Ent.refl _)))), ?_⟩
        refine WS.eff2 8 rfl (e_call rfl (c45 (n := l[i].n) (w := 4) hx (by omega))) rfl ?_; rintro _ _ _ ⟨rfl, rfl, rfl⟩
        refine ⟨(by first | exact (Imp.refl _ _) | exact (Imp.sub (List.Sublist.cons _ (List.Sublist.refl _))) | exact (Imp.ent (Ent.left (Ent.refl _)))), ?_⟩
        refine WS.q 9 rfl (q_addS rfl rfl (by rw [be_len]; omega)) rfl ?_
        refine WS.q 10 rfl (q_assign rfl) rfl ?_
        refine WS.q 11 rfl (q_assign rfl) rfl ?_
        refine WS.done ?_
        refine AT.blk_n ?_
        refine AT.then_n ?_
        refine WC.region ?_
        refine WL.q (q_move rfl) rfl ?_
        refine WL.q (q_fieldAddr rfl fo_72_0) rfl ?_
        refine WL.q (q_load rfl a_5 (by first | exact Cell.ptL 0 rfl rfl | exact Cell.ptL 1 rfl rfl)) rfl ?_
        refine WL.q (q_buildL rfl pl_72 i_72 rfl rfl) rfl ?_
        refine WL.eff (e_buildSliceK (cs := Scp.cells ⟨l[i].kind, 0, none, 0, 0⟩) rfl u_22 i_72 rfl rfl rfl rfl rfl) rfl ?_; rintro _ _ _ ⟨b11, rfl, rfl, rfl⟩
        refine WL.eff (e_append 1 rfl rfl (Src.row Ent.right (k := 1) rfl rfl) rfl u_22 (.inl ⟨_, u_22⟩) i_72 rfl (by rw [flat_len _ 3 Scp.len]) rfl (by simp [Ones, Value.oneCell', Scp.cells, bv]) (by omega)) rfl ?_; rintro _ _ _ ⟨A12, cap12, rfl, rfl, rfl, hc12⟩
        refine WL.q (q_assign rfl) rfl ?_
        refine WL.nil ?_
        refine AT.blk_n ?_
        refine AT.then_n ?_
        refine WC.region ?_
        first | refine WL.q (q_add64 rfl rfl (by omega)) rfl ?_ | refine WL.q (q_add rfl rfl) rfl ?_
        refine WL.q (q_move rfl) rfl ?_
        refine WL.nil ?_
        refine AT.mid (i + 1, o7 ++ be 4 l[i].n, A8, cap8, L ++ [⟨l[i].kind, 0, none, 0, 0⟩], A12, cap12, _) ⟨⟨by omega, ?_, by simp [be_len]; omega, by simp; omega, ?_, hkK.left.left, ?_⟩, by simp only; omega⟩ ⟨rfl, rfl, rfl, ?_, ?_, rfl, rfl, rfl, trivial⟩ (Imp.trans (Imp.sub (List.Sublist.cons _ (List.Sublist.refl _))) (Imp.eq ?_))
        · simp only; rw [sumW_snoc, List.length_append, be_len, hw8]; simp; omega
        · simp only
          intro x hx
          rcases List.mem_append.1 hx with hx | hx
          · exact hLw x hx
          · simp at hx; subst hx; rw [hw8]; exact ⟨by simp, by simp⟩
        · simp only; rw [← show be 4 (l[i].n % 2 ^ IntKind.u32.bits) = be 4 l[i].n from be_mod 4 l[i].n]; exact Ent.right.left
        · exact vsl (by simp)
        · exact vsl (by simp [be_len])
        · simp [Scp.cells, List.flatMap_append]
      · -- if 3: no
        try have p3 := of_decide_eq_false h3
        refine WC.seq ?_
        refine WC.region ?_
        refine WL.q (q_eql rfl rfl) rfl ?_
        refine WL.q (q_assign rfl) rfl ?_
        refine WL.nil ?_
        refine AT.then_n ?_
        refine WC.cond rfl (fun h4 => ?_) (fun h4 => ?_)
        · -- if 4: yes
          try have p4 := of_decide_eq_true h4
          have hk5 : l[i].kind.toNat % 5 = 3 := by omega
          have hw8 : (⟨l[i].kind, 0, none, 0, 0⟩ : Scp).wide = ((8 : Nat) : Int) := by simp [Scp.wide, hk5]
          refine WC.drawS _ _ mixed (NoPan.blk (NoPan.then (NoPan.blk (NoPan.then (NoPan.then (NoPan.blk (NoPan.then NoPan.body))))))) (Imp.refl _ _) rfl ?_
          refine WD.sched [(0, 0), (1, 0), (2, 0), (4, 0), (5, 0), (6, 0), (3, 2), (7, 2), (8, 0), (9, 0), (10, 0)] true (by decide +kernel) ?_
          refine WS.q 0 rfl (q_move rfl) rfl ?_
          refine WS.q 1 rfl (q_fieldAddr rfl fo_72_1) rfl ?_
          refine WS.q 2 rfl (q_load rfl a_70 (by first | exact Cell.ptL 0 rfl rfl | exact Cell.ptL 1 rfl rfl)) rfl ?_
          refine WS.q 4 rfl (q_move rfl) rfl ?_
          refine WS.q 5 rfl (q_fieldAddr rfl fo_72_1) rfl ?_
          refine WS.q 6 rfl (q_load rfl a_70 (by first | exact Cell.ptL 0 rfl rfl | exact Cell.ptL 1 rfl rfl)) rfl ?_
          refine WS.eff2 3 rfl (e_call rfl (c46 h7 (by omega) (x := l[i].n) (by omega))) rfl ?_; rintro _ _ _ ⟨A8, cap8, rfl, rfl, rfl⟩
          refine ⟨(by first | exact (Imp.refl _ _) | exact (Imp.sub (List.Sublist.cons _ (List.Sublist.refl _))) | exact (Imp.ent (Ent.left (Ent.refl _)))), ?_⟩
          refine WS.eff2 7 rfl (e_call rfl (c45 (n := l[i].n) (w := 8) hx (by omega))) rfl ?_; rintro _ _ _ ⟨rfl, rfl, rfl⟩
          refine ⟨(by first | exact (Imp.refl _ _) | exact (Imp.sub (List.Sublist.cons _ (List.Sublist.refl _))) | exact (Imp.ent (Ent.left (Ent.refl _)))), ?_⟩
          refine WS.q 8 rfl (q_addS rfl rfl (by rw [be_len]; omega)) rfl ?_
          refine WS.q 9 rfl (q_assign rfl) rfl ?_
          refine WS.q 10 rfl (q_assign rfl) rfl ?_
          refine WS.done ?_
          refine AT.blk_n ?_
          refine AT.then_n ?_
          refine WC.region ?_
          refine WL.q (q_move rfl) rfl ?_
          refine WL.q (q_fieldAddr rfl fo_72_0) rfl ?_
          refine WL.q (q_load rfl a_5 (by first | exact Cell.ptL 0 rfl rfl | exact Cell.ptL 1 rfl rfl)) rfl ?_
          refine WL.q (q_buildL rfl pl_72 i_72 rfl rfl) rfl ?_
          refine WL.eff (e_buildSliceK (cs := Scp.cells ⟨l[i].kind, 0, none, 0, 0⟩) rfl u_22 i_72 rfl rfl rfl rfl rfl) rfl ?_; rintro _ _ _ ⟨b11, rfl, rfl, rfl⟩
          refine WL.eff (e_append 1 rfl rfl (Src.row Ent.right (k := 1) rfl rfl) rfl u_22 (.inl ⟨_, u_22⟩) i_72 rfl (by rw [flat_len _ 3 Scp.len]) rfl (by simp [Ones, Value.oneCell', Scp.cells, bv]) (by omega)) rfl ?_; rintro _ _ _ ⟨A12, cap12, rfl, rfl, rfl, hc12⟩
          refine WL.q (q_assign rfl) rfl ?_
          refine WL.nil ?_
          refine AT.blk_n ?_
          refine AT.then_n ?_
          refine WC.region ?_
          first | refine WL.q (q_add64 rfl rfl (by omega)) rfl ?_ | refine WL.q (q_add rfl rfl) rfl ?_
          refine WL.q (q_move rfl) rfl ?_
          refine WL.nil ?_
          refine AT.mid (i + 1, o7 ++ be 8 l[i].n, A8, cap8, L ++ [⟨l[i].kind, 0, none, 0, 0⟩], A12, cap12, _) ⟨⟨by omega, ?_, by simp [be_len]; omega, by simp; omega, ?_, hkK.left.left, ?_⟩, by simp only; omega⟩ ⟨rfl, rfl, rfl, ?_, ?_, rfl, rfl, rfl, trivial⟩ (Imp.trans (Imp.sub (List.Sublist.cons _ (List.Sublist.refl _))) (Imp.eq ?_))
          · simp only; rw [sumW_snoc, List.length_append, be_len, hw8]; simp; omega
          · simp only
            intro x hx
            rcases List.mem_append.1 hx with hx | hx
            · exact hLw x hx
            · simp at hx; subst hx; rw [hw8]; exact ⟨by simp, by simp⟩
          · simp only; exact Ent.right.left
          · exact vsl (by simp)
          · exact vsl (by simp [be_len])
          · simp [Scp.cells, List.flatMap_append]
        · -- if 4: no
          try have p4 := of_decide_eq_false h4
          refine WC.exit ?_
          refine AT.blk_x rfl ?_
          refine AT.then_e ?_
          refine AT.blk_e ?_
          refine AT.then_n ?_
          refine WC.region ?_
          first | refine WL.q (q_add64 rfl rfl (by omega)) rfl ?_ | refine WL.q (q_add rfl rfl) rfl ?_
          refine WL.q (q_move rfl) rfl ?_
          refine WL.nil ?_
          refine AT.mid (i + 1, o7, A7, c7, L, A9, c9, k7) ⟨⟨by simp only; omega, ho, by simp only; omega, by simp only; omega, hLw, hkK, h7⟩, by simp only; omega⟩ ⟨rfl, rfl, rfl, rfl, rfl, rfl, rfl, rfl, trivial⟩ (Imp.drop (Imp.refl _ _))
  · -- if 1: no
    try have p1 := of_decide_eq_false h1
    refine WC.exit ?_
    refine AT.then_e ?_
    refine AT.then_e ?_
    refine AT.blk_e ?_
    refine AT.then_n ?_
    refine WC.seq ?_
    refine WC.seq ?_
    refine WC.region ?_
    refine WL.q (q_move rfl) rfl ?_
    refine WL.q (q_b2sK rfl u_23 u_5 u_9 h7) rfl ?_
    refine WL.q (q_move rfl) rfl ?_
    refine WL.q (q_neqS rfl rfl) rfl ?_
    refine WL.nil ?_
    refine AT.then_n ?_
    refine WC.condHF rfl (by simp) ?_
    refine WC.skip ?_
    refine AT.then_n ?_
    refine WC.seq ?_
    refine WC.region ?_
    refine WL.q (q_assign rfl) rfl ?_
    refine WL.nil ?_
    refine AT.then_n ?_
    refine WC.seq ?_
    refine WC.seq ?_
    refine WC.region ?_
    refine WL.q (q_move rfl) rfl ?_
    refine WL.q (q_len rfl u_23) rfl ?_
    refine WL.q (q_move rfl) rfl ?_
    refine WL.nil ?_
    refine AT.then_n ?_
    refine WC.block ?_
    refine WC.loop (σ := Nat) (fun k => k ≤ c.length) (fun k => [(78, .int .i64 k), (76, .slice Cc c.length cc), (77, .int .i64 c.length), (12, .bool (zeros (c.take k))), (9, .slice A9 L.length c9), (7, .slice A7 o7.length c7), (8, .string (bs o7)), (1, .slice B b.length cb), (2, .slice Cc c.length cc)]) (fun _ => ORow A9 c9 72 3 (L.flatMap Scp.cells) :: own) (fun _ => k7) (fun k => c.length - k) 0 (by omega) ⟨rfl, rfl, rfl, by simp [look, zeros], rfl, rfl, rfl, rfl, rfl, trivial⟩ (Imp.refl _ _) ?_
    intro k hk
    refine WC.seq ?_
    refine WC.region ?_
    refine WL.q (q_lss rfl rfl) rfl ?_
    refine WL.nil ?_
    refine AT.then_n ?_
    refine WC.seq ?_
    refine WC.cond rfl (fun h6 => ?_) (fun h6 => ?_)
    · -- if 6: yes
      try have p6 := of_decide_eq_true h6
      have hkc : k < c.length := by omega
      refine WC.skip ?_
      refine AT.then_n ?_
      refine WC.seq ?_
      refine WC.block ?_
      refine WC.seq ?_
      refine WC.region ?_
      refine WL.q (q_indexAddr rfl rfl u_23 i_5 (Based.row (hkK.trans hrc) (by simp; omega)) (by omega)) rfl ?_
      refine WL.q (q_load rfl a_5 (Cell.row (hkK.trans hrc) (v := bv c[k]) (by simp [hkc]))) rfl ?_
      refine WL.q (q_assign rfl) rfl ?_
      refine WL.nil ?_
      refine AT.then_n ?_
      refine WC.region ?_
      refine WL.q (q_move rfl) rfl ?_
      refine WL.q (q_move rfl) rfl ?_
      refine WL.split 83 rfl (fun hg21_1 => ?_) (fun hg21_1 => ?_)
      · -- guard 21.1: True
        try have hp21_1 := of_decide_eq_true hg21_1
        refine WL.on rfl rfl hg21_1 ?_
        refine WL.q (q_move rfl) rfl ?_
        refine WL.on rfl rfl hg21_1 ?_
        refine WL.q (q_eql rfl rfl) rfl ?_
        refine WL.q (q_pickT rfl hg21_1 rfl) rfl ?_
        refine WL.q (q_assign rfl) rfl ?_
        refine WL.nil ?_
        refine AT.blk_n ?_
        refine AT.then_n ?_
        refine WC.region ?_
        first | refine WL.q (q_add64 rfl rfl (by omega)) rfl ?_ | refine WL.q (q_add rfl rfl) rfl ?_
        refine WL.q (q_move rfl) rfl ?_
        refine WL.nil ?_
        refine AT.mid (k + 1) ⟨by omega, by omega⟩ ⟨rfl, rfl, rfl, ?_, rfl, rfl, rfl, rfl, rfl, trivial⟩ (Imp.refl _ _)
        show some (Value.bool _) = some (Value.bool _)
        rw [all_T hkc hg21_1]
      · -- guard 21.1: False
        try have hp21_1 := of_decide_eq_false hg21_1
        refine WL.off rfl rfl hg21_1 rfl ?_
        refine WL.off rfl rfl hg21_1 rfl ?_
        refine WL.q (q_pickF rfl hg21_1 rfl) rfl ?_
        refine WL.q (q_assign rfl) rfl ?_
        refine WL.nil ?_
        refine AT.blk_n ?_
        refine AT.then_n ?_
        refine WC.region ?_
        first | refine WL.q (q_add64 rfl rfl (by omega)) rfl ?_ | refine WL.q (q_add rfl rfl) rfl ?_
        refine WL.q (q_move rfl) rfl ?_
        refine WL.nil ?_
        refine AT.mid (k + 1) ⟨by omega, by omega⟩ ⟨rfl, rfl, rfl, ?_, rfl, rfl, rfl, rfl, rfl, trivial⟩ (Imp.refl _ _)
        show some (Value.bool _) = some (Value.bool _)
        rw [all_F hkc hg21_1]
    · -- if 6: no
      try have p6 := of_decide_eq_false h6
      have hkc : k = c.length := by omega
      subst hkc
      rw [List.take_length]
      have hsc := scoops_all (o7.length - b.length) L 0 0 (fun x hx => (hLw x hx).1) (by omega)
      refine WC.exit ?_
      refine AT.then_e ?_
      refine AT.then_e ?_
      refine AT.blk_e ?_
      refine AT.then_n ?_
      refine WC.seq ?_
      refine WC.region ?_
      refine WL.imp Imp.orowStay ?_
      refine WL.q (q_move rfl) rfl ?_
      refine WL.q (q_move rfl) rfl ?_
      refine WL.q (q_len rfl u_23) rfl ?_
      refine WL.q (q_sliceS (l := b.length) (h := o7.length) rfl ⟨_, _, rfl, rfl⟩ rfl u_9 (by omega)) rfl ?_
      refine WL.q (q_move rfl) rfl ?_
      refine WL.eff (e_call rfl (c11 (s := (o7.drop b.length).take (o7.length - b.length)) (l := L) Ent.right (by simp; omega) (by omega) (fun x hx => (hLw x hx).2))) rfl ?_; rintro _ _ _ ⟨rfl, rfl, rfl⟩
      refine WL.q (q_move rfl) rfl ?_
      refine WL.q (q_extract rfl rfl) rfl ?_
      refine WL.q (q_extract rfl rfl) rfl ?_
      refine WL.q (q_assign rfl) rfl ?_
      refine WL.q (q_assign rfl) rfl ?_
      refine WL.nil ?_
      refine AT.then_n ?_
      refine WC.seq ?_
      refine WC.drawS _ _ mixed (NoPan.then NoPan.body) (Imp.refl _ _) rfl ?_
      refine WD.sched [(0, 0), (1, 0)] false (by decide +kernel) ?_
      refine WS.q 0 rfl (q_move rfl) rfl ?_
      refine WS.q 1 rfl (q_move rfl) rfl ?_
      refine WS.back ?_
      refine WD.sched [(2, 0), (3, 0), (4, 0), (5, 0), (6, 0), (7, 0)] false (by decide +kernel) ?_
      refine WS.qon 2 rfl rfl rfl rfl (q_move rfl) rfl ?_
      refine WS.qon 3 rfl rfl rfl rfl (q_move rfl) rfl ?_
      refine WS.qon 4 rfl rfl rfl rfl (q_len rfl u_22) rfl ?_
      refine WS.qon 5 rfl rfl rfl rfl (q_eql rfl rfl) rfl ?_
      refine WS.q 6 rfl (q_pickT rfl rfl rfl) rfl ?_
      refine WS.q 7 rfl (q_move rfl) rfl ?_
      refine WS.back ?_
      refine WD.sched [(8, 0), (9, 0), (11, 0), (12, 0), (13, 0), (14, 0), (15, 0), (10, 2), (16, 0), (17, 0), (18, 0)] false (by decide +kernel) ?_
      refine WS.qon 8 rfl rfl rfl (by simp [scoops, hsc]) (q_move rfl) rfl ?_
      refine WS.qon 9 rfl rfl rfl (by simp [scoops, hsc]) (q_move rfl) rfl ?_
      refine WS.qon 11 rfl rfl rfl (by simp [scoops, hsc]) (q_move rfl) rfl ?_
      refine WS.qon 12 rfl rfl rfl (by simp [scoops, hsc]) (q_b2sK rfl u_23 u_5 u_9 (hkK.trans hrb).left) rfl ?_
      refine WS.qon 13 rfl rfl rfl (by simp [scoops, hsc]) (q_move rfl) rfl ?_
      refine WS.qon 14 rfl rfl rfl (by simp [scoops, hsc]) (q_b2sK rfl u_23 u_5 u_9 (hkK.trans hrc).left) rfl ?_
      refine WS.qon 15 rfl rfl rfl (by simp [scoops, hsc]) (q_eqlS rfl rfl) rfl ?_
      refine WS.effon2 10 rfl rfl rfl (by simp [scoops, hsc]) (e_call rfl (c40 (hkK.trans hrb).left (hkK.trans hrc).left)) rfl ?_; rintro _ _ _ ⟨rfl, rfl, rfl⟩
      refine ⟨(by first | exact (Imp.refl _ _) | exact (Imp.sub (List.Sublist.cons _ (List.Sublist.refl _))) | exact (Imp.ent (Ent.left (Ent.refl _)))), ?_⟩
      refine WS.qon 16 rfl rfl rfl (by simp [scoops, hsc]) (q_eqlB rfl rfl u_4) rfl ?_
      refine WS.q 17 rfl (q_pickT rfl (by simp [scoops, hsc]) rfl) rfl ?_
      refine WS.q 18 rfl (q_move rfl) rfl ?_
      refine WS.back ?_
      refine WD.sched [(19, 0), (20, 0), (21, 2), (22, 2), (23, 0), (24, 0)] false (by decide +kernel) ?_
      refine WS.qon 19 rfl rfl rfl (by simp) (q_move rfl) rfl ?_
      refine WS.qon 20 rfl rfl rfl (by simp) (q_move rfl) rfl ?_
      refine WS.effon2 21 rfl rfl rfl (by simp) (e_s2bK rfl u_9 u_23 u_5 i_5 (by first | omega | (simp; omega))) rfl ?_; rintro _ _ _ ⟨A19, cap19, rfl, rfl, rfl, hcap19⟩
      refine ⟨(by first | exact (Imp.refl _ _) | exact (Imp.sub (List.Sublist.cons _ (List.Sublist.refl _))) | exact (Imp.ent (Ent.left (Ent.refl _)))), ?_⟩
      refine WS.effon2 22 rfl rfl rfl (by simp) (e_call rfl (c40 h7.left.left Ent.right)) rfl ?_; rintro _ _ _ ⟨rfl, rfl, rfl⟩
      refine ⟨(by first | exact (Imp.refl _ _) | exact (Imp.sub (List.Sublist.cons _ (List.Sublist.refl _))) | exact (Imp.ent (Ent.left (Ent.refl _)))), ?_⟩
      refine WS.q 23 rfl (q_pickT rfl (by simp) rfl) rfl ?_
      refine WS.q 24 rfl (q_move rfl) rfl ?_
      refine WS.back ?_
      refine WD.sched [(25, 0), (27, 0), (26, 2), (28, 0), (29, 0), (30, 0)] false (by decide +kernel) ?_
      refine WS.qon 25 rfl rfl rfl (by simp) (q_move rfl) rfl ?_
      refine WS.qon 27 rfl rfl rfl (by simp) (q_move rfl) rfl ?_
      refine WS.effon2 26 rfl rfl rfl (by simp) (e_call rfl (c41 (hkK.trans hrc).left.left (by omega))) rfl ?_; rintro _ _ _ ⟨rfl, rfl, rfl⟩
      refine ⟨(by first | exact (Imp.refl _ _) | exact (Imp.sub (List.Sublist.cons _ (List.Sublist.refl _))) | exact (Imp.ent (Ent.left (Ent.refl _)))), ?_⟩
      refine WS.qon 28 rfl rfl rfl (by simp) (q_eqlB rfl rfl u_4) rfl ?_
      refine WS.q 29 rfl (q_pickT rfl (by simp) rfl) rfl ?_
      refine WS.q 30 rfl (q_move rfl) rfl ?_
      refine WS.back ?_
      refine WD.sched [(31, 0), (32, 0), (33, 2), (34, 2), (35, 0), (36, 0)] true (by decide +kernel) ?_
      refine WS.qon 31 rfl rfl rfl (by simp [zeros]) (q_move rfl) rfl ?_
      refine WS.qon 32 rfl rfl rfl (by simp [zeros]) (q_len rfl u_23) rfl ?_
      refine WS.effon2 33 rfl rfl rfl (by simp [zeros]) (e_makeSlice1K b.length rfl rfl rfl rfl u_23 i_5 rfl (by omega) (by omega)) rfl ?_; rintro _ _ _ ⟨A33, rfl, rfl, rfl⟩
      refine ⟨(by first | exact (Imp.refl _ _) | exact (Imp.sub (List.Sublist.cons _ (List.Sublist.refl _))) | exact (Imp.ent (Ent.left (Ent.refl _)))), ?_⟩
      refine WS.effon2 34 rfl rfl rfl (by simp [zeros]) (e_call rfl ((c41 (a := List.replicate b.length 0) (ca := b.length) (by rw [← rep_bv]; exact Ent.right) (by simp; omega)).cast (by simp))) rfl ?_; rintro _ _ _ ⟨rfl, rfl, rfl⟩
      refine ⟨(by first | exact (Imp.refl _ _) | exact (Imp.sub (List.Sublist.cons _ (List.Sublist.refl _))) | exact (Imp.ent (Ent.left (Ent.refl _)))), ?_⟩
      refine WS.q 35 rfl (q_pickT rfl (by simp [zeros]) rfl) rfl ?_
      refine WS.q 36 rfl (q_assign rfl) rfl ?_
      refine WS.done ?_
      refine AT.then_n ?_
      refine WC.ret ?_
      refine AT.done rfl (RO.one rfl rfl) ⟨?_, rfl, rfl⟩ (Imp.ent (hkK.left.left.left))
      simp


theorem c33' {own : List SP} {K : PH → Prop} {A : Option Addr} {ca : Nat} {b : List UInt8} (hb : Ent K (Row A (b.map bv))) (hl : b.length ≤ 140737488355328) : Spec Try.prog 33 [.slice A b.length ca] own K
    (fun v own' K' => ∃ p A' cap', v = .pointer (some (ad p 0)) ∧ own' = Rd p A' b.length cap' 0 :: own ∧ Ent K' K ∧ RdOk K' A' cap' b) :=
  (c33 hb hl).mono fun v o k ⟨p, A', cap', h1, h2, h3, h4⟩ => ⟨p, A', cap', h1, h2, by rw [h3]; exact (Ent.refl K).left, by rw [h3]; exact Ent.right, h4⟩
theorem nilRow {K : PH → Prop} : Ent K (Row none []) := (nothing K).trans Ent.right

theorem c10 {own : List SP} {K : PH → Prop}  : Spec Try.prog 10 [] (own) (K)
    (Ret (.bool true) own K) := by
  refine Spec.of en_10 Try.func10 rfl rfl fun g => ?_
  refine WC.seq ?_
  refine WC.region ?_
  refine WL.q (q_assign rfl) rfl ?_
  refine WL.nil ?_
  refine AT.then_n ?_
  refine WC.seq ?_
  refine WC.region ?_
  refine WL.eff (e_buildSliceK rfl u_23 i_5 rfl rfl rfl rfl rfl) rfl ?_; rintro _ _ _ ⟨b1, rfl, rfl, rfl⟩
  refine WL.eff (e_call rfl (c33' (b := [0, 1, 2, 3, 4]) Ent.right (by decide))) rfl ?_; rintro _ _ K1 ⟨p, RA, rc, rfl, rfl, hK1, hR1⟩
  refine WL.q (q_assign rfl) rfl ?_
  refine WL.nil ?_
  refine AT.then_n ?_
  refine WC.seq ?_
  refine WC.seq ?_
  refine WC.region ?_
  refine WL.q (q_move rfl) rfl ?_
  refine WL.q (q_eqlP rfl rfl u_62) rfl ?_
  refine WL.q (q_move rfl) rfl ?_
  refine WL.on rfl rfl rfl ?_
  refine WL.q (q_move rfl) rfl ?_
  refine WL.on rfl rfl rfl ?_
  refine WL.eff (e_call rfl (c34 (by assumption))) rfl ?_; rintro _ _ _ ⟨rfl, rfl, A3, cap3, rfl, h3⟩
  refine WL.on rfl rfl rfl ?_
  refine WL.q (q_neq rfl rfl) rfl ?_
  refine WL.q (q_pickF rfl rfl rfl) rfl ?_
  refine WL.q (q_move rfl) rfl ?_
  refine WL.on rfl rfl rfl ?_
  refine WL.q (q_move rfl) rfl ?_
  refine WL.on rfl rfl rfl ?_
  refine WL.eff (e_call rfl (c35 (by assumption))) rfl ?_; rintro _ _ _ ⟨rfl, rfl, A4, cap4, rfl, h4⟩
  refine WL.on rfl rfl rfl ?_
  refine WL.q (q_neq rfl rfl) rfl ?_
  refine WL.q (q_pickF rfl rfl rfl) rfl ?_
  refine WL.q (q_move rfl) rfl ?_
  refine WL.on rfl rfl rfl ?_
  refine WL.q (q_move rfl) rfl ?_
  refine WL.on rfl rfl rfl ?_
  refine WL.eff (e_call rfl c36) rfl ?_; rintro _ _ _ ⟨rfl, rfl, rfl⟩
  refine WL.on rfl rfl rfl ?_
  refine WL.q (q_neq rfl rfl) rfl ?_
  refine WL.q (q_pickF rfl rfl rfl) rfl ?_
  refine WL.q (q_move rfl) rfl ?_
  refine WL.on rfl rfl rfl ?_
  refine WL.q (q_move rfl) rfl ?_
  refine WL.on rfl rfl rfl ?_
  refine WL.eff (e_call rfl (c34 (by assumption))) rfl ?_; rintro _ _ _ ⟨rfl, rfl, A6, cap6, rfl, h6⟩
  refine WL.on rfl rfl rfl ?_
  refine WL.q (q_neq rfl rfl) rfl ?_
  refine WL.q (q_pickF rfl rfl rfl) rfl ?_
  refine WL.q (q_move rfl) rfl ?_
  refine WL.on rfl rfl rfl ?_
  refine WL.q (q_move rfl) rfl ?_
  refine WL.on rfl rfl rfl ?_
  refine WL.eff (e_call rfl c37) rfl ?_; rintro _ _ _ ⟨rfl, rfl, rfl⟩
  refine WL.on rfl rfl rfl ?_
  refine WL.q (q_neq rfl rfl) rfl ?_
  refine WL.q (q_pickF rfl rfl rfl) rfl ?_
  refine WL.nil ?_
  refine AT.then_n ?_
  refine WC.condHF rfl (rfl) ?_
  refine WC.skip ?_
  refine AT.then_n ?_
  refine WC.seq ?_
  refine WC.region ?_
  refine WL.q (q_buildL rfl pl_72 i_72 rfl rfl) rfl ?_
  refine WL.q (q_buildL rfl pl_72 i_72 rfl rfl) rfl ?_
  refine WL.eff (e_buildSliceK rfl u_22 i_72 rfl rfl rfl rfl rfl) rfl ?_; rintro _ _ _ ⟨b8, rfl, rfl, rfl⟩
  refine WL.eff (e_call rfl (c11 (s := [5, 6]) (l := ([⟨2, 0, none, 0, 0⟩, ⟨0, 0, none, 0, 0⟩] : List Scp)) Ent.right (by decide) (by decide) (by decide))) rfl ?_; rintro _ _ _ ⟨rfl, rfl, rfl⟩
  refine WL.q (q_move rfl) rfl ?_
  refine WL.q (q_extract rfl rfl) rfl ?_
  refine WL.q (q_extract rfl rfl) rfl ?_
  refine WL.q (q_assign rfl) rfl ?_
  refine WL.q (q_assign rfl) rfl ?_
  refine WL.nil ?_
  refine AT.then_n ?_
  refine WC.seq ?_
  refine WC.region ?_
  refine WL.q (q_buildL rfl pl_72 i_72 rfl rfl) rfl ?_
  refine WL.q (q_buildL rfl pl_72 i_72 rfl rfl) rfl ?_
  refine WL.eff (e_buildSliceK rfl u_22 i_72 rfl rfl rfl rfl rfl) rfl ?_; rintro _ _ _ ⟨b10, rfl, rfl, rfl⟩
  refine WL.eff (e_call rfl (c11 (s := [5, 6]) (l := ([⟨4, 8, none, 0, 0⟩, ⟨0, 0, none, 0, 0⟩] : List Scp)) Ent.right (by decide) (by decide) (by decide))) rfl ?_; rintro _ _ _ ⟨rfl, rfl, rfl⟩
  refine WL.q (q_move rfl) rfl ?_
  refine WL.q (q_extract rfl rfl) rfl ?_
  refine WL.q (q_extract rfl rfl) rfl ?_
  refine WL.q (q_assign rfl) rfl ?_
  refine WL.q (q_assign rfl) rfl ?_
  refine WL.nil ?_
  refine AT.then_n ?_
  refine WC.seq ?_
  refine WC.region ?_
  refine WL.q (q_buildL rfl pl_72 i_72 rfl rfl) rfl ?_
  refine WL.q (q_buildL rfl pl_72 i_72 rfl rfl) rfl ?_
  refine WL.q (q_buildL rfl pl_72 i_72 rfl rfl) rfl ?_
  refine WL.q (q_buildL rfl pl_72 i_72 rfl rfl) rfl ?_
  refine WL.eff (e_buildSliceK rfl u_22 i_72 rfl rfl rfl rfl rfl) rfl ?_; rintro _ _ _ ⟨b12, rfl, rfl, rfl⟩
  refine WL.eff (e_call rfl (c11 (s := [1, 2, 3, 97, 98, 99]) (l := ([⟨0, 0, none, 0, 0⟩, ⟨1, 0, none, 0, 0⟩, ⟨4, 12, none, 0, 0⟩, ⟨4, 9, none, 0, 0⟩] : List Scp)) Ent.right (by decide) (by decide) (by decide))) rfl ?_; rintro _ _ _ ⟨rfl, rfl, rfl⟩
  refine WL.q (q_move rfl) rfl ?_
  refine WL.q (q_extract rfl rfl) rfl ?_
  refine WL.q (q_extract rfl rfl) rfl ?_
  refine WL.q (q_assign rfl) rfl ?_
  refine WL.q (q_assign rfl) rfl ?_
  refine WL.nil ?_
  refine AT.then_n ?_
  refine WC.seq ?_
  refine WC.region ?_
  refine WL.eff (e_call rfl (c38 (b := []) (x := 515) nilRow (by decide) (by decide))) rfl ?_; rintro _ _ _ ⟨A70, cap70, rfl, rfl, rfl⟩
  refine WL.q (q_b2sK (l := [] ++ be 2 515) rfl u_23 u_5 u_9 Ent.right) rfl ?_
  refine WL.q (q_eqlS rfl rfl) rfl ?_
  refine WL.q (q_move rfl) rfl ?_
  refine WL.on rfl rfl (by decide) ?_
  refine WL.eff (e_buildSliceK rfl u_23 i_5 rfl rfl rfl rfl rfl) rfl ?_; rintro _ _ _ ⟨b15, rfl, rfl, rfl⟩
  refine WL.on rfl rfl (by decide) ?_
  refine WL.eff (e_call rfl (c39 (b := [9]) (x := 1) Ent.right (by decide) (by decide))) rfl ?_; rintro _ _ _ ⟨A75, cap75, rfl, rfl, rfl⟩
  refine WL.on rfl rfl (by decide) ?_
  refine WL.q (q_b2sK (l := [9] ++ be 4 1) rfl u_23 u_5 u_9 Ent.right) rfl ?_
  refine WL.on rfl rfl (by decide) ?_
  refine WL.q (q_eqlS rfl rfl) rfl ?_
  refine WL.q (q_pickT rfl (by decide) rfl) rfl ?_
  refine WL.q (q_move rfl) rfl ?_
  refine WL.on rfl rfl (by decide) ?_
  refine WL.q (q_move rfl) rfl ?_
  refine WL.q (q_pickT rfl (by decide) rfl) rfl ?_
  refine WL.q (q_move rfl) rfl ?_
  refine WL.on rfl rfl rfl ?_
  refine WL.q (q_move rfl) rfl ?_
  refine WL.on rfl rfl rfl ?_
  refine WL.q (q_eql rfl rfl) rfl ?_
  refine WL.q (q_pickT rfl rfl rfl) rfl ?_
  refine WL.q (q_move rfl) rfl ?_
  refine WL.on rfl rfl (by decide) ?_
  refine WL.q (q_move rfl) rfl ?_
  refine WL.q (q_pickT rfl (by decide) rfl) rfl ?_
  refine WL.q (q_move rfl) rfl ?_
  refine WL.on rfl rfl rfl ?_
  refine WL.q (q_move rfl) rfl ?_
  refine WL.on rfl rfl rfl ?_
  refine WL.q (q_eql rfl rfl) rfl ?_
  refine WL.q (q_pickT rfl rfl rfl) rfl ?_
  refine WL.q (q_move rfl) rfl ?_
  refine WL.on rfl rfl (by decide) ?_
  refine WL.q (q_move rfl) rfl ?_
  refine WL.q (q_pickT rfl (by decide) rfl) rfl ?_
  refine WL.q (q_move rfl) rfl ?_
  refine WL.on rfl rfl rfl ?_
  refine WL.q (q_move rfl) rfl ?_
  refine WL.on rfl rfl rfl ?_
  refine WL.q (q_eql rfl rfl) rfl ?_
  refine WL.q (q_pickT rfl rfl rfl) rfl ?_
  refine WL.q (q_move rfl) rfl ?_
  refine WL.on rfl rfl (by decide) ?_
  refine WL.eff (e_buildSliceK rfl u_23 i_5 rfl rfl rfl rfl rfl) rfl ?_; rintro _ _ _ ⟨b17, rfl, rfl, rfl⟩
  refine WL.on rfl rfl (by decide) ?_
  refine WL.eff (e_call rfl (c40 (a := []) (b := []) nilRow Ent.right)) rfl ?_; rintro _ _ _ ⟨rfl, rfl, rfl⟩
  refine WL.q (q_pickT rfl (by decide) rfl) rfl ?_
  refine WL.q (q_move rfl) rfl ?_
  refine WL.on rfl rfl (by decide) ?_
  refine WL.eff (e_buildSliceK rfl u_23 i_5 rfl rfl rfl rfl rfl) rfl ?_; rintro _ _ _ ⟨b19, rfl, rfl, rfl⟩
  refine WL.on rfl rfl (by decide) ?_
  refine WL.eff (e_call rfl (c40 (a := [0]) (b := []) Ent.right nilRow)) rfl ?_; rintro _ _ _ ⟨rfl, rfl, rfl⟩
  refine WL.on rfl rfl (by decide) ?_
  refine WL.q (q_not rfl) rfl ?_
  refine WL.q (q_pickT rfl (by decide) rfl) rfl ?_
  refine WL.q (q_move rfl) rfl ?_
  refine WL.on rfl rfl (by decide) ?_
  refine WL.eff (e_buildSliceK rfl u_23 i_5 rfl rfl rfl rfl rfl) rfl ?_; rintro _ _ _ ⟨b21, rfl, rfl, rfl⟩
  refine WL.on rfl rfl (by decide) ?_
  refine WL.eff (e_call rfl (c41 (a := [0, 1]) Ent.right (by decide))) rfl ?_; rintro _ _ _ ⟨rfl, rfl, rfl⟩
  refine WL.on rfl rfl (by decide) ?_
  refine WL.q (q_not rfl) rfl ?_
  refine WL.q (q_pickT rfl (by decide) rfl) rfl ?_
  refine WL.q (q_assign rfl) rfl ?_
  refine WL.nil ?_
  refine AT.then_n ?_
  refine WC.ret ?_
  exact AT.done rfl (RO.one rfl rfl) ⟨congrArg Value.bool (by decide), rfl, rfl⟩ (Imp.keepRest (List.sublist_cons_self _ _) (Ent.trans (by repeat (first | exact Ent.refl K1 | refine Ent.left ?_)) (hK1.trans (Ent.refl K).left)))

theorem c3 {own : List SP} {K : PH → Prop} {A B Cc : Option Addr} {ca cb cc : Nat} {l : List Scp} {b c : List UInt8} (hrl : Ent K (Row A (l.flatMap Scp.cells))) (hrb : Ent K (Row B (b.map bv))) (hrc : Ent K (Row Cc (c.map bv))) (hl : l.length ≤ 140737488355328) (hb : b.length ≤ 140737488355328) (hn : ∀ x ∈ l, x.n ≤ 18446744073709551615) : Spec Try.prog 3 [.slice A l.length ca, .slice B b.length cb, .slice Cc c.length cc] (own) (K)
    (Ret (.bool true) own K) := by
  refine Spec.of en_3 Try.func3 rfl rfl fun g => ?_
  refine WC.seq ?_
  refine WC.region ?_
  refine WL.q (q_assign rfl) rfl ?_
  refine WL.nil ?_
  refine AT.then_n ?_
  refine WC.seq ?_
  refine WC.seq ?_
  refine WC.region ?_
  refine WL.q (q_move rfl) rfl ?_
  refine WL.q (q_len rfl u_22) rfl ?_
  refine WL.q (q_gtr rfl rfl) rfl ?_
  refine WL.q (q_move rfl) rfl ?_
  refine WL.split 12 rfl (fun hg1_3 => ?_) (fun hg1_3 => ?_)
  · -- guard 1.3: True
    try have hp1_3 := of_decide_eq_true hg1_3
    refine WL.off rfl rfl hg1_3 rfl ?_
    refine WL.off rfl rfl hg1_3 rfl ?_
    refine WL.off rfl rfl hg1_3 rfl ?_
    refine WL.q (q_pickT rfl hg1_3 rfl) rfl ?_
    refine WL.q (q_move rfl) rfl ?_
    refine WL.off rfl rfl rfl rfl ?_
    refine WL.off rfl rfl rfl rfl ?_
    refine WL.off rfl rfl rfl rfl ?_
    refine WL.q (q_pickT rfl rfl rfl) rfl ?_
    refine WL.nil ?_
    refine AT.then_n ?_
    refine WC.condT rfl ?_
    refine WC.seq ?_
    refine WC.region ?_
    refine WL.eff (e_call rfl (c10)) rfl ?_; rintro _ _ _ ⟨rfl, rfl, rfl⟩
    refine WL.q (q_assign rfl) rfl ?_
    refine WL.nil ?_
    refine AT.then_n ?_
    refine WC.ret ?_
    refine AT.then_r ?_
    exact AT.done rfl (RO.one rfl rfl) ⟨rfl, rfl, rfl⟩ (Imp.refl _ _)
  · -- guard 1.3: False
    try have hp1_3 := of_decide_eq_false hg1_3
    refine WL.on rfl rfl hg1_3 ?_
    refine WL.q (q_move rfl) rfl ?_
    refine WL.on rfl rfl hg1_3 ?_
    refine WL.q (q_len rfl u_23) rfl ?_
    refine WL.on rfl rfl hg1_3 ?_
    refine WL.q (q_gtr rfl rfl) rfl ?_
    refine WL.q (q_pickF rfl hg1_3 rfl) rfl ?_
    refine WL.q (q_move rfl) rfl ?_
    refine WL.split 17 rfl (fun hg1_8 => ?_) (fun hg1_8 => ?_)
    · -- guard 1.8: True
      try have hp1_8 := of_decide_eq_true hg1_8
      refine WL.off rfl rfl hg1_8 rfl ?_
      refine WL.off rfl rfl hg1_8 rfl ?_
      refine WL.off rfl rfl hg1_8 rfl ?_
      refine WL.q (q_pickT rfl hg1_8 rfl) rfl ?_
      refine WL.nil ?_
      refine AT.then_n ?_
      refine WC.condT rfl ?_
      refine WC.seq ?_
      refine WC.region ?_
      refine WL.eff (e_call rfl (c10)) rfl ?_; rintro _ _ _ ⟨rfl, rfl, rfl⟩
      refine WL.q (q_assign rfl) rfl ?_
      refine WL.nil ?_
      refine AT.then_n ?_
      refine WC.ret ?_
      refine AT.then_r ?_
      exact AT.done rfl (RO.one rfl rfl) ⟨rfl, rfl, rfl⟩ (Imp.refl _ _)
    · -- guard 1.8: False
      try have hp1_8 := of_decide_eq_false hg1_8
      refine WL.on rfl rfl hg1_8 ?_
      refine WL.q (q_move rfl) rfl ?_
      refine WL.on rfl rfl hg1_8 ?_
      refine WL.q (q_len rfl u_23) rfl ?_
      refine WL.on rfl rfl hg1_8 ?_
      refine WL.q (q_gtr rfl rfl) rfl ?_
      refine WL.q (q_pickF rfl hg1_8 rfl) rfl ?_
      refine WL.nil ?_
      refine AT.then_n ?_
      refine WC.cond rfl (fun h1 => ?_) (fun h1 => ?_)
      · -- if 1: yes
        try have p1 := of_decide_eq_true h1
        refine WC.seq ?_
        refine WC.region ?_
        refine WL.eff (e_call rfl (c10)) rfl ?_; rintro _ _ _ ⟨rfl, rfl, rfl⟩
        refine WL.q (q_assign rfl) rfl ?_
        refine WL.nil ?_
        refine AT.then_n ?_
        refine WC.ret ?_
        refine AT.then_r ?_
        exact AT.done rfl (RO.one rfl rfl) ⟨rfl, rfl, rfl⟩ (Imp.refl _ _)
      · -- if 1: no
        try have p1 := of_decide_eq_false h1
        refine WC.skip ?_
        refine AT.then_n ?_
        refine WC.seq ?_
        refine WC.region ?_
        refine WL.q (q_move rfl) rfl ?_
        refine WL.q (q_b2sK rfl u_23 u_5 u_9 hrb) rfl ?_
        refine WL.q (q_move rfl) rfl ?_
        refine WL.eff (e_call rfl (c11 hrl hb hl hn)) rfl ?_; rintro _ _ _ ⟨rfl, rfl, rfl⟩
        refine WL.q (q_move rfl) rfl ?_
        refine WL.q (q_extract rfl rfl) rfl ?_
        refine WL.q (q_extract rfl rfl) rfl ?_
        refine WL.q (q_assign rfl) rfl ?_
        refine WL.q (q_assign rfl) rfl ?_
        refine WL.nil ?_
        refine AT.then_n ?_
        refine WC.seq ?_
        refine WC.region ?_
        refine WL.q (q_move rfl) rfl ?_
        refine WL.q (q_move rfl) rfl ?_
        refine WL.on rfl rfl rfl ?_
        refine WL.q (q_move rfl) rfl ?_
        refine WL.on rfl rfl rfl ?_
        refine WL.q (q_move rfl) rfl ?_
        refine WL.on rfl rfl rfl ?_
        refine WL.q (q_move rfl) rfl ?_
        refine WL.on rfl rfl rfl ?_
        refine WL.eff (e_call rfl (c12 hrl hrb hrc (by omega) (by omega) (by omega) hn)) rfl ?_; rintro _ _ _ ⟨rfl, rfl, rfl⟩
        refine WL.q (q_pickT rfl rfl rfl) rfl ?_
        refine WL.q (q_move rfl) rfl ?_
        refine WL.on rfl rfl rfl ?_
        refine WL.eff (e_call rfl (c10)) rfl ?_; rintro _ _ _ ⟨rfl, rfl, rfl⟩
        refine WL.q (q_pickT rfl rfl rfl) rfl ?_
        refine WL.q (q_assign rfl) rfl ?_
        refine WL.nil ?_
        refine AT.then_n ?_
        refine WC.ret ?_
        exact AT.done rfl (RO.one rfl rfl) ⟨rfl, rfl, rfl⟩ (Imp.refl _ _)

end Go.Proofs.Sl
