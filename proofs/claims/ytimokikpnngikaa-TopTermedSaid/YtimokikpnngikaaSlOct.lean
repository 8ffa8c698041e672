/- Layer 1: bytes, and numbers in them: what the functions come to. -/
import Derived.Test.YtimokikpnngikaaSlQ2
import Derived.Test.YtimokikpnngikaaSlTab
namespace Go.Proofs.Sl
open Go
set_option linter.unusedVariables false
set_option linter.unusedSimpArgs false

theorem bvmap_len (l : List UInt8) : (l.map bv).length = l.length := by simp
theorem bvmap_get {l : List UInt8} {i : Nat} (h : i < l.length) : (l.map bv)[i]? = some (bv l[i]) := by simp [h]
theorem rep_bv (n : Nat) : List.replicate n (Value.int .u8 0) = (List.replicate n (0 : UInt8)).map bv := by simp [bv]
/-- A number in so many bytes. -/
def be (n x : Nat) : List UInt8 := (List.range n).map fun k => UInt8.ofNat (x / 2 ^ (8 * (n - 1 - k)))
theorem be_len (n x : Nat) : (be n x).length = n := by simp [be]
theorem be_take {n x k : Nat} (h : k < n) : (be n x).take (k + 1) = (be n x).take k ++ [UInt8.ofNat (x / 2 ^ (8 * (n - 1 - k)))] := by
  rw [List.take_succ_eq_append_getElem (by rw [be_len]; exact h)]
  simp [be]
theorem set_at {α : Type} (l : List α) (v z : α) (m : Nat) : (l ++ List.replicate (m + 1) z).set l.length v = (l ++ [v]) ++ List.replicate m z := by
  rw [List.set_append_right _ _ (Nat.le_refl _)]; simp [List.replicate_succ]

theorem c40 {own : List SP} {K : PH → Prop} {A B : Option Addr} {ca cb : Nat} {a b : List UInt8} (ha : Ent K (Row A (a.map bv))) (hb : Ent K (Row B (b.map bv))) : Spec Try.prog 40 [.slice A a.length ca, .slice B b.length cb] (own) (K)
    (Ret (.bool (decide (a = b))) own K) := by
  refine Spec.of en_40 Try.func40 rfl rfl fun g => ?_
  refine WC.seq ?_
  refine WC.region ?_
  refine WL.q (q_assign rfl) rfl ?_
  refine WL.nil ?_
  refine AT.then_n ?_
  refine WC.seq ?_
  refine WC.region ?_
  refine WL.q (q_move rfl) rfl ?_
  refine WL.q (q_b2sK rfl u_23 u_5 u_9 ha) rfl ?_
  refine WL.q (q_move rfl) rfl ?_
  refine WL.q (q_b2sK rfl u_23 u_5 u_9 hb) rfl ?_
  refine WL.q (q_eqlS rfl rfl) rfl ?_
  refine WL.q (q_assign rfl) rfl ?_
  refine WL.nil ?_
  refine AT.then_n ?_
  refine WC.ret ?_
  exact AT.done rfl (RO.one rfl rfl) ⟨rfl, rfl, rfl⟩ (Imp.refl _ _)

theorem c41 {own : List SP} {K : PH → Prop} {A : Option Addr} {ca : Nat} {a : List UInt8} (ha : Ent K (Row A (a.map bv))) (hl : a.length ≤ 140737488355328) : Spec Try.prog 41 [.slice A a.length ca] (own) (K)
    (Ret (.bool (decide (∀ b ∈ a, b = 0))) own K) := by
  refine Spec.of en_41 Try.func41 rfl rfl fun g => ?_
  refine WC.seq ?_
  refine WC.region ?_
  refine WL.q (q_assign rfl) rfl ?_
  refine WL.nil ?_
  refine AT.then_n ?_
  refine WC.seq ?_
  refine WC.seq ?_
  refine WC.region ?_
  refine WL.q (q_move rfl) rfl ?_
  refine WL.q (q_len rfl u_23) rfl ?_
  refine WL.q (q_move rfl) rfl ?_
  refine WL.nil ?_
  refine AT.then_n ?_
  refine WC.block ?_
  refine WC.loop (σ := Nat) (fun i => i ≤ a.length ∧ ∀ b ∈ a.take i, b = 0) (fun i => [(7, .int .i64 i), (5, .slice A a.length ca), (6, .int .i64 a.length)]) (fun _ => own) (fun _ => K) (fun i => a.length - i) 0 ⟨by omega, by simp⟩ ⟨rfl, rfl, rfl, trivial⟩ (Imp.refl _ _) ?_
  rintro i ⟨hi, hz⟩
  refine WC.seq ?_
  refine WC.region ?_
  refine WL.q (q_lss rfl rfl) rfl ?_
  refine WL.nil ?_
  refine AT.then_n ?_
  refine WC.seq ?_
  refine WC.cond rfl (fun h1 => ?_) (fun h1 => ?_)
  · -- if 1: yes
    try have p1 := of_decide_eq_true h1
    have hlt : i < a.length := by omega
    refine WC.skip ?_
    refine AT.then_n ?_
    refine WC.seq ?_
    refine WC.block ?_
    refine WC.seq ?_
    refine WC.region ?_
    refine WL.q (q_indexAddr rfl rfl u_23 i_5 (Based.row ha (by simp; omega)) (by omega)) rfl ?_
    refine WL.q (q_load rfl a_5 (Cell.row ha (v := bv a[i]) (by simp [hlt]))) rfl ?_
    refine WL.q (q_assign rfl) rfl ?_
    refine WL.nil ?_
    refine AT.then_n ?_
    refine WC.seq ?_
    refine WC.region ?_
    refine WL.q (q_move rfl) rfl ?_
    refine WL.q (q_neq rfl rfl) rfl ?_
    refine WL.nil ?_
    refine AT.then_n ?_
    refine WC.cond rfl (fun h2 => ?_) (fun h2 => ?_)
    · -- if 2: yes
      try have p2 := of_decide_eq_true h2
      refine WC.seq ?_
      refine WC.region ?_
      refine WL.q (q_assign rfl) rfl ?_
      refine WL.nil ?_
      refine AT.then_n ?_
      refine WC.ret ?_
      refine AT.blk_r ?_
      refine AT.then_r ?_
      refine AT.then_r ?_
      refine AT.blk_r ?_
      refine AT.then_r ?_
      refine AT.done rfl (RO.one rfl rfl) ⟨?_, rfl, rfl⟩ (Imp.refl _ _)
      rw [decide_eq_false]
      intro hall
      exact p2 (by rw [hall _ (List.getElem_mem hlt)]; rfl)
    · -- if 2: no
      try have p2 := of_decide_eq_false h2
      have hb0 : a[i] = 0 := by
        have h0 : (a[i].toNat : Int) = 0 := by simpa using p2
        exact UInt8.toNat_inj.1 (by simpa using h0)
      refine WC.skip ?_
      refine AT.blk_n ?_
      refine AT.then_n ?_
      refine WC.region ?_
      first | refine WL.q (q_add64 rfl rfl (by omega)) rfl ?_ | refine WL.q (q_add rfl rfl) rfl ?_
      refine WL.q (q_move rfl) rfl ?_
      refine WL.nil ?_
      refine AT.mid (i + 1) ⟨⟨by omega, ?_⟩, by omega⟩ ⟨rfl, rfl, rfl, trivial⟩ (Imp.refl _ _)
      intro b hb
      rw [List.take_succ_eq_append_getElem hlt] at hb
      rcases List.mem_append.1 hb with hb | hb
      · exact hz b hb
      · simp at hb; subst hb; exact hb0
  · -- if 1: no
    try have p1 := of_decide_eq_false h1
    refine WC.exit ?_
    refine AT.then_e ?_
    refine AT.then_e ?_
    refine AT.blk_e ?_
    refine AT.then_n ?_
    refine WC.seq ?_
    refine WC.region ?_
    refine WL.q (q_assign rfl) rfl ?_
    refine WL.nil ?_
    refine AT.then_n ?_
    refine WC.ret ?_
    refine AT.done rfl (RO.one rfl rfl) ⟨?_, rfl, rfl⟩ (Imp.refl _ _)
    rw [decide_eq_true]
    have : i = a.length := by omega
    subst this
    simpa using hz

theorem c146O {own : List SP} {K : PH → Prop} {A : Option Addr} {ca : Nat} {b : List UInt8} {x n : Nat} (hb : Ent K (Row A (b.map bv))) (hl : b.length ≤ 1000000000) (hx : x ≤ 65535) (hn : n ≤ 8) : Spec Try.prog 146 [.slice A b.length ca, .int .u16 x, .int .i64 n] (own) (K)
    (fun v own' K' => ∃ A', v = .slice A' (b.length + n) (b.length + n) ∧ own' = ORow A' (b.length + n) 5 1 ((b ++ be n x).map bv) :: own ∧ K = K') := by
  refine Spec.of en_146 Try.func146 rfl rfl fun g => ?_
  refine WC.seq ?_
  refine WC.region ?_
  refine WL.q (q_assign rfl) rfl ?_
  refine WL.nil ?_
  refine AT.then_n ?_
  refine WC.seq ?_
  refine WC.region ?_
  refine WL.q (q_move rfl) rfl ?_
  refine WL.q (q_len rfl u_23) rfl ?_
  refine WL.q (q_move rfl) rfl ?_
  first | refine WL.q (q_add64 rfl rfl (by omega)) rfl ?_ | refine WL.q (q_add rfl rfl) rfl ?_
  refine WL.eff (e_makeSlice1 (b.length + n) (b.length + n) rfl rfl (by omega) (by omega) u_23 i_5 rfl (by omega) (by omega)) rfl ?_; rintro _ _ _ ⟨A1, rfl, rfl, rfl⟩
  refine WL.q (q_assign rfl) rfl ?_
  refine WL.nil ?_
  refine AT.then_n ?_
  refine WC.seq ?_
  refine WC.region ?_
  refine WL.q (q_move rfl) rfl ?_
  refine WL.q (q_move rfl) rfl ?_
  refine WL.eff (e_copy 0 rfl rfl (Src.row hb (k := b.length) (by simp) rfl) rfl u_23 i_5 (by simp) (by simp) (by omega) (ones_bv b)) rfl ?_; rintro _ _ _ ⟨rfl, rfl, rfl⟩
  refine WL.nil ?_
  refine AT.then_n ?_
  refine WC.seq ?_
  refine WC.seq ?_
  refine WC.region ?_
  refine WL.q (q_move rfl) rfl ?_
  refine WL.q (q_move rfl) rfl ?_
  refine WL.nil ?_
  refine AT.then_n ?_
  refine WC.block ?_
  refine WC.loop (σ := Nat) (fun k => k ≤ n) (fun k => [(18, .int .i64 k), (17, .int .i64 n), (7, .slice A1 (b.length + n) (b.length + n)), (0, .slice A b.length ca), (1, .int .u16 x), (2, .int .i64 n)]) (fun k => ORow A1 (b.length + n) 5 1 ((b ++ (be n x).take k).map bv ++ List.replicate (n - k) (.int .u8 0)) :: own) (fun _ => K) (fun k => n - k) 0 (by omega) ⟨rfl, rfl, rfl, rfl, rfl, rfl, trivial⟩ (Imp.eq (by simp)) ?_
  intro k hk
  refine WC.seq ?_
  refine WC.region ?_
  refine WL.q (q_lss rfl rfl) rfl ?_
  refine WL.nil ?_
  refine AT.then_n ?_
  refine WC.seq ?_
  refine WC.cond rfl (fun h1 => ?_) (fun h1 => ?_)
  · -- if 1: yes
    try have p1 := of_decide_eq_true h1
    have hlt : k < n := by omega
    refine WC.skip ?_
    refine AT.then_n ?_
    refine WC.seq ?_
    refine WC.block ?_
    refine WC.seq ?_
    refine WC.region ?_
    refine WL.q (q_move rfl) rfl ?_
    refine WL.q (q_assign rfl) rfl ?_
    refine WL.nil ?_
    refine AT.then_n ?_
    refine WC.region ?_
    refine WL.q (q_move rfl) rfl ?_
    refine WL.q (q_move rfl) rfl ?_
    refine WL.q (q_len rfl u_23) rfl ?_
    refine WL.q (q_move rfl) rfl ?_
    first | refine WL.q (q_add64 rfl rfl (by omega)) rfl ?_ | refine WL.q (q_add rfl rfl) rfl ?_
    refine WL.q (q_move rfl) rfl ?_
    first | refine WL.q (q_convI (0) 18446744073709551615 u_34 u_70 rfl rfl rfl (by omega)) rfl ?_ | refine WL.q (q_conv rfl u_34 u_70 rfl) rfl ?_
    refine WL.q (q_move rfl) rfl ?_
    first | refine WL.q (q_sub64 rfl rfl (by omega)) rfl ?_ | refine WL.q (q_sub rfl rfl) rfl ?_
    refine WL.q (q_move rfl) rfl ?_
    first | refine WL.q (q_sub64 rfl rfl (by omega)) rfl ?_ | refine WL.q (q_sub rfl rfl) rfl ?_
    first | refine WL.q (q_mul64 rfl rfl (by omega)) rfl ?_ | refine WL.q (q_mul rfl rfl) rfl ?_
    refine WL.q (q_shrI (8 * (n - 1 - k)) rfl rfl (by omega) (by simp [IntKind.bits]; omega)) rfl ?_
    refine WL.q (q_convB u_70 u_5 rfl) rfl ?_
    refine WL.q (q_indexAddr rfl rfl u_23 i_5 (Based.orow 0 rfl (by simp; omega)) (by omega)) rfl ?_
    refine WL.effn (e_storeO 0 rfl rfl rfl i_5 rfl (by simp [be_len]; omega)) ?_; rintro _ _ _ ⟨rfl, rfl, rfl⟩
    refine WL.nil ?_
    refine AT.blk_n ?_
    refine AT.then_n ?_
    refine WC.region ?_
    first | refine WL.q (q_add64 rfl rfl (by omega)) rfl ?_ | refine WL.q (q_add rfl rfl) rfl ?_
    refine WL.q (q_move rfl) rfl ?_
    refine WL.nil ?_
    refine AT.mid (k + 1) ⟨by omega, by omega⟩ ⟨rfl, rfl, rfl, rfl, rfl, rfl, trivial⟩ (Imp.eq ?_)
    have e1 : n - k = n - (k + 1) + 1 := by omega
    have e2 : b.length + k = ((b ++ (be n x).take k).map bv).length := by simp [be_len]; omega
    have e3 : ((b.length : Int) + (k : Int)).toNat * 1 = b.length + k := by omega
    simp only [List.set_cons_zero, e3]
    rw [e1, e2, set_at, be_take hlt]
    simp
  · -- if 1: no
    try have p1 := of_decide_eq_false h1
    refine WC.exit ?_
    refine AT.then_e ?_
    refine AT.then_e ?_
    refine AT.blk_e ?_
    refine AT.then_n ?_
    refine WC.seq ?_
    refine WC.region ?_
    refine WL.q (q_move rfl) rfl ?_
    refine WL.q (q_assign rfl) rfl ?_
    refine WL.nil ?_
    refine AT.then_n ?_
    refine WC.ret ?_
    have hk : k = n := by omega
    subst hk
    refine AT.done rfl (RO.one rfl rfl) ⟨A1, rfl, rfl, rfl⟩ ?_
    have e1 : (b ++ (be k x).take k).map bv ++ List.replicate (k - k) (Value.int .u8 0) = (b ++ be k x).map bv := by
      rw [List.take_of_length_le (by rw [be_len]; exact Nat.le_refl _)]; simp
    rw [e1]
    exact Imp.refl _ _

theorem c147O {own : List SP} {K : PH → Prop} {A : Option Addr} {ca : Nat} {b : List UInt8} {x n : Nat} (hb : Ent K (Row A (b.map bv))) (hl : b.length ≤ 1000000000) (hx : x ≤ 4294967295) (hn : n ≤ 8) : Spec Try.prog 147 [.slice A b.length ca, .int .u32 x, .int .i64 n] (own) (K)
    (fun v own' K' => ∃ A', v = .slice A' (b.length + n) (b.length + n) ∧ own' = ORow A' (b.length + n) 5 1 ((b ++ be n x).map bv) :: own ∧ K = K') := by
  refine Spec.of en_147 Try.func147 rfl rfl fun g => ?_
  refine WC.seq ?_
  refine WC.region ?_
  refine WL.q (q_assign rfl) rfl ?_
  refine WL.nil ?_
  refine AT.then_n ?_
  refine WC.seq ?_
  refine WC.region ?_
  refine WL.q (q_move rfl) rfl ?_
  refine WL.q (q_len rfl u_23) rfl ?_
  refine WL.q (q_move rfl) rfl ?_
  first | refine WL.q (q_add64 rfl rfl (by omega)) rfl ?_ | refine WL.q (q_add rfl rfl) rfl ?_
  refine WL.eff (e_makeSlice1 (b.length + n) (b.length + n) rfl rfl (by omega) (by omega) u_23 i_5 rfl (by omega) (by omega)) rfl ?_; rintro _ _ _ ⟨A1, rfl, rfl, rfl⟩
  refine WL.q (q_assign rfl) rfl ?_
  refine WL.nil ?_
  refine AT.then_n ?_
  refine WC.seq ?_
  refine WC.region ?_
  refine WL.q (q_move rfl) rfl ?_
  refine WL.q (q_move rfl) rfl ?_
  refine WL.eff (e_copy 0 rfl rfl (Src.row hb (k := b.length) (by simp) rfl) rfl u_23 i_5 (by simp) (by simp) (by omega) (ones_bv b)) rfl ?_; rintro _ _ _ ⟨rfl, rfl, rfl⟩
  refine WL.nil ?_
  refine AT.then_n ?_
  refine WC.seq ?_
  refine WC.seq ?_
  refine WC.region ?_
  refine WL.q (q_move rfl) rfl ?_
  refine WL.q (q_move rfl) rfl ?_
  refine WL.nil ?_
  refine AT.then_n ?_
  refine WC.block ?_
  refine WC.loop (σ := Nat) (fun k => k ≤ n) (fun k => [(18, .int .i64 k), (17, .int .i64 n), (7, .slice A1 (b.length + n) (b.length + n)), (0, .slice A b.length ca), (1, .int .u32 x), (2, .int .i64 n)]) (fun k => ORow A1 (b.length + n) 5 1 ((b ++ (be n x).take k).map bv ++ List.replicate (n - k) (.int .u8 0)) :: own) (fun _ => K) (fun k => n - k) 0 (by omega) ⟨rfl, rfl, rfl, rfl, rfl, rfl, trivial⟩ (Imp.eq (by simp)) ?_
  intro k hk
  refine WC.seq ?_
  refine WC.region ?_
  refine WL.q (q_lss rfl rfl) rfl ?_
  refine WL.nil ?_
  refine AT.then_n ?_
  refine WC.seq ?_
  refine WC.cond rfl (fun h1 => ?_) (fun h1 => ?_)
  · -- if 1: yes
    try have p1 := of_decide_eq_true h1
    have hlt : k < n := by omega
    refine WC.skip ?_
    refine AT.then_n ?_
    refine WC.seq ?_
    refine WC.block ?_
    refine WC.seq ?_
    refine WC.region ?_
    refine WL.q (q_move rfl) rfl ?_
    refine WL.q (q_assign rfl) rfl ?_
    refine WL.nil ?_
    refine AT.then_n ?_
    refine WC.region ?_
    refine WL.q (q_move rfl) rfl ?_
    refine WL.q (q_move rfl) rfl ?_
    refine WL.q (q_len rfl u_23) rfl ?_
    refine WL.q (q_move rfl) rfl ?_
    first | refine WL.q (q_add64 rfl rfl (by omega)) rfl ?_ | refine WL.q (q_add rfl rfl) rfl ?_
    refine WL.q (q_move rfl) rfl ?_
    first | refine WL.q (q_convI (0) 18446744073709551615 u_65 u_70 rfl rfl rfl (by omega)) rfl ?_ | refine WL.q (q_conv rfl u_65 u_70 rfl) rfl ?_
    refine WL.q (q_move rfl) rfl ?_
    first | refine WL.q (q_sub64 rfl rfl (by omega)) rfl ?_ | refine WL.q (q_sub rfl rfl) rfl ?_
    refine WL.q (q_move rfl) rfl ?_
    first | refine WL.q (q_sub64 rfl rfl (by omega)) rfl ?_ | refine WL.q (q_sub rfl rfl) rfl ?_
    first | refine WL.q (q_mul64 rfl rfl (by omega)) rfl ?_ | refine WL.q (q_mul rfl rfl) rfl ?_
    refine WL.q (q_shrI (8 * (n - 1 - k)) rfl rfl (by omega) (by simp [IntKind.bits]; omega)) rfl ?_
    refine WL.q (q_convB u_70 u_5 rfl) rfl ?_
    refine WL.q (q_indexAddr rfl rfl u_23 i_5 (Based.orow 0 rfl (by simp; omega)) (by omega)) rfl ?_
    refine WL.effn (e_storeO 0 rfl rfl rfl i_5 rfl (by simp [be_len]; omega)) ?_; rintro _ _ _ ⟨rfl, rfl, rfl⟩
    refine WL.nil ?_
    refine AT.blk_n ?_
    refine AT.then_n ?_
    refine WC.region ?_
    first | refine WL.q (q_add64 rfl rfl (by omega)) rfl ?_ | refine WL.q (q_add rfl rfl) rfl ?_
    refine WL.q (q_move rfl) rfl ?_
    refine WL.nil ?_
    refine AT.mid (k + 1) ⟨by omega, by omega⟩ ⟨rfl, rfl, rfl, rfl, rfl, rfl, trivial⟩ (Imp.eq ?_)
    have e1 : n - k = n - (k + 1) + 1 := by omega
    have e2 : b.length + k = ((b ++ (be n x).take k).map bv).length := by simp [be_len]; omega
    have e3 : ((b.length : Int) + (k : Int)).toNat * 1 = b.length + k := by omega
    simp only [List.set_cons_zero, e3]
    rw [e1, e2, set_at, be_take hlt]
    simp
  · -- if 1: no
    try have p1 := of_decide_eq_false h1
    refine WC.exit ?_
    refine AT.then_e ?_
    refine AT.then_e ?_
    refine AT.blk_e ?_
    refine AT.then_n ?_
    refine WC.seq ?_
    refine WC.region ?_
    refine WL.q (q_move rfl) rfl ?_
    refine WL.q (q_assign rfl) rfl ?_
    refine WL.nil ?_
    refine AT.then_n ?_
    refine WC.ret ?_
    have hk : k = n := by omega
    subst hk
    refine AT.done rfl (RO.one rfl rfl) ⟨A1, rfl, rfl, rfl⟩ ?_
    have e1 : (b ++ (be k x).take k).map bv ++ List.replicate (k - k) (Value.int .u8 0) = (b ++ be k x).map bv := by
      rw [List.take_of_length_le (by rw [be_len]; exact Nat.le_refl _)]; simp
    rw [e1]
    exact Imp.refl _ _

theorem c150O {own : List SP} {K : PH → Prop} {A : Option Addr} {ca : Nat} {b : List UInt8} {x n : Nat} (hb : Ent K (Row A (b.map bv))) (hl : b.length ≤ 1000000000) (hx : x ≤ 18446744073709551615) (hn : n ≤ 8) : Spec Try.prog 150 [.slice A b.length ca, .int .u64 x, .int .i64 n] (own) (K)
    (fun v own' K' => ∃ A', v = .slice A' (b.length + n) (b.length + n) ∧ own' = ORow A' (b.length + n) 5 1 ((b ++ be n x).map bv) :: own ∧ K = K') := by
  refine Spec.of en_150 Try.func150 rfl rfl fun g => ?_
  refine WC.seq ?_
  refine WC.region ?_
  refine WL.q (q_assign rfl) rfl ?_
  refine WL.nil ?_
  refine AT.then_n ?_
  refine WC.seq ?_
  refine WC.region ?_
  refine WL.q (q_move rfl) rfl ?_
  refine WL.q (q_len rfl u_23) rfl ?_
  refine WL.q (q_move rfl) rfl ?_
  first | refine WL.q (q_add64 rfl rfl (by omega)) rfl ?_ | refine WL.q (q_add rfl rfl) rfl ?_
  refine WL.eff (e_makeSlice1 (b.length + n) (b.length + n) rfl rfl (by omega) (by omega) u_23 i_5 rfl (by omega) (by omega)) rfl ?_; rintro _ _ _ ⟨A1, rfl, rfl, rfl⟩
  refine WL.q (q_assign rfl) rfl ?_
  refine WL.nil ?_
  refine AT.then_n ?_
  refine WC.seq ?_
  refine WC.region ?_
  refine WL.q (q_move rfl) rfl ?_
  refine WL.q (q_move rfl) rfl ?_
  refine WL.eff (e_copy 0 rfl rfl (Src.row hb (k := b.length) (by simp) rfl) rfl u_23 i_5 (by simp) (by simp) (by omega) (ones_bv b)) rfl ?_; rintro _ _ _ ⟨rfl, rfl, rfl⟩
  refine WL.nil ?_
  refine AT.then_n ?_
  refine WC.seq ?_
  refine WC.seq ?_
  refine WC.region ?_
  refine WL.q (q_move rfl) rfl ?_
  refine WL.q (q_move rfl) rfl ?_
  refine WL.nil ?_
  refine AT.then_n ?_
  refine WC.block ?_
  refine WC.loop (σ := Nat) (fun k => k ≤ n) (fun k => [(18, .int .i64 k), (17, .int .i64 n), (7, .slice A1 (b.length + n) (b.length + n)), (0, .slice A b.length ca), (1, .int .u64 x), (2, .int .i64 n)]) (fun k => ORow A1 (b.length + n) 5 1 ((b ++ (be n x).take k).map bv ++ List.replicate (n - k) (.int .u8 0)) :: own) (fun _ => K) (fun k => n - k) 0 (by omega) ⟨rfl, rfl, rfl, rfl, rfl, rfl, trivial⟩ (Imp.eq (by simp)) ?_
  intro k hk
  refine WC.seq ?_
  refine WC.region ?_
  refine WL.q (q_lss rfl rfl) rfl ?_
  refine WL.nil ?_
  refine AT.then_n ?_
  refine WC.seq ?_
  refine WC.cond rfl (fun h1 => ?_) (fun h1 => ?_)
  · -- if 1: yes
    try have p1 := of_decide_eq_true h1
    have hlt : k < n := by omega
    refine WC.skip ?_
    refine AT.then_n ?_
    refine WC.seq ?_
    refine WC.block ?_
    refine WC.seq ?_
    refine WC.region ?_
    refine WL.q (q_move rfl) rfl ?_
    refine WL.q (q_assign rfl) rfl ?_
    refine WL.nil ?_
    refine AT.then_n ?_
    refine WC.region ?_
    refine WL.q (q_move rfl) rfl ?_
    refine WL.q (q_move rfl) rfl ?_
    refine WL.q (q_len rfl u_23) rfl ?_
    refine WL.q (q_move rfl) rfl ?_
    first | refine WL.q (q_add64 rfl rfl (by omega)) rfl ?_ | refine WL.q (q_add rfl rfl) rfl ?_
    refine WL.q (q_move rfl) rfl ?_
    refine WL.q (q_move rfl) rfl ?_
    first | refine WL.q (q_sub64 rfl rfl (by omega)) rfl ?_ | refine WL.q (q_sub rfl rfl) rfl ?_
    refine WL.q (q_move rfl) rfl ?_
    first | refine WL.q (q_sub64 rfl rfl (by omega)) rfl ?_ | refine WL.q (q_sub rfl rfl) rfl ?_
    first | refine WL.q (q_mul64 rfl rfl (by omega)) rfl ?_ | refine WL.q (q_mul rfl rfl) rfl ?_
    refine WL.q (q_shrI (8 * (n - 1 - k)) rfl rfl (by omega) (by simp [IntKind.bits]; omega)) rfl ?_
    refine WL.q (q_convB u_70 u_5 rfl) rfl ?_
    refine WL.q (q_indexAddr rfl rfl u_23 i_5 (Based.orow 0 rfl (by simp; omega)) (by omega)) rfl ?_
    refine WL.effn (e_storeO 0 rfl rfl rfl i_5 rfl (by simp [be_len]; omega)) ?_; rintro _ _ _ ⟨rfl, rfl, rfl⟩
    refine WL.nil ?_
    refine AT.blk_n ?_
    refine AT.then_n ?_
    refine WC.region ?_
    first | refine WL.q (q_add64 rfl rfl (by omega)) rfl ?_ | refine WL.q (q_add rfl rfl) rfl ?_
    refine WL.q (q_move rfl) rfl ?_
    refine WL.nil ?_
    refine AT.mid (k + 1) ⟨by omega, by omega⟩ ⟨rfl, rfl, rfl, rfl, rfl, rfl, trivial⟩ (Imp.eq ?_)
    have e1 : n - k = n - (k + 1) + 1 := by omega
    have e2 : b.length + k = ((b ++ (be n x).take k).map bv).length := by simp [be_len]; omega
    have e3 : ((b.length : Int) + (k : Int)).toNat * 1 = b.length + k := by omega
    simp only [List.set_cons_zero, e3]
    rw [e1, e2, set_at, be_take hlt]
    simp
  · -- if 1: no
    try have p1 := of_decide_eq_false h1
    refine WC.exit ?_
    refine AT.then_e ?_
    refine AT.then_e ?_
    refine AT.blk_e ?_
    refine AT.then_n ?_
    refine WC.seq ?_
    refine WC.region ?_
    refine WL.q (q_move rfl) rfl ?_
    refine WL.q (q_assign rfl) rfl ?_
    refine WL.nil ?_
    refine AT.then_n ?_
    refine WC.ret ?_
    have hk : k = n := by omega
    subst hk
    refine AT.done rfl (RO.one rfl rfl) ⟨A1, rfl, rfl, rfl⟩ ?_
    have e1 : (b ++ (be k x).take k).map bv ++ List.replicate (k - k) (Value.int .u8 0) = (b ++ be k x).map bv := by
      rw [List.take_of_length_le (by rw [be_len]; exact Nat.le_refl _)]; simp
    rw [e1]
    exact Imp.refl _ _

theorem c38O {own : List SP} {K : PH → Prop} {A : Option Addr} {ca : Nat} {b : List UInt8} {x : Nat} (hb : Ent K (Row A (b.map bv))) (hl : b.length ≤ 1000000000) (hx : x ≤ 65535) : Spec Try.prog 38 [.slice A b.length ca, .int .u16 x] (own) (K)
    (fun v own' K' => ∃ A', v = .slice A' (b.length + 2) (b.length + 2) ∧ own' = ORow A' (b.length + 2) 5 1 ((b ++ be 2 x).map bv) :: own ∧ K = K') := by
  refine Spec.of en_38 Try.func38 rfl rfl fun g => ?_
  refine WC.seq ?_
  refine WC.region ?_
  refine WL.q (q_assign rfl) rfl ?_
  refine WL.nil ?_
  refine AT.then_n ?_
  refine WC.seq ?_
  refine WC.region ?_
  refine WL.q (q_move rfl) rfl ?_
  refine WL.q (q_move rfl) rfl ?_
  refine WL.eff (e_call rfl (c146O hb hl hx (n := 2) (by omega))) rfl ?_; rintro _ _ _ ⟨A1, rfl, rfl, rfl⟩
  refine WL.q (q_assign rfl) rfl ?_
  refine WL.nil ?_
  refine AT.then_n ?_
  refine WC.ret ?_
  exact AT.done rfl (RO.one rfl rfl) ⟨A1, rfl, rfl, rfl⟩ (Imp.refl _ _)

theorem c38 {own : List SP} {K : PH → Prop} {A : Option Addr} {ca : Nat} {b : List UInt8} {x : Nat} (hb : Ent K (Row A (b.map bv))) (hl : b.length ≤ 1000000000) (hx : x ≤ 65535) : Spec Try.prog 38 [.slice A b.length ca, .int .u16 x] (own) (K)
    (fun v own' K' => ∃ A' cap', v = .slice A' (b.length + 2) cap' ∧ own = own' ∧ K' = K ∩ Row A' ((b ++ be 2 x).map bv)) :=
  Spec.weak (c38O hb hl hx) fun v o k ⟨A', h1, h2, h3⟩ => ⟨own, _, by subst h2 h3; exact Imp.orowStay, A', _, h1, rfl, rfl⟩
theorem c39O {own : List SP} {K : PH → Prop} {A : Option Addr} {ca : Nat} {b : List UInt8} {x : Nat} (hb : Ent K (Row A (b.map bv))) (hl : b.length ≤ 1000000000) (hx : x ≤ 4294967295) : Spec Try.prog 39 [.slice A b.length ca, .int .u32 x] (own) (K)
    (fun v own' K' => ∃ A', v = .slice A' (b.length + 4) (b.length + 4) ∧ own' = ORow A' (b.length + 4) 5 1 ((b ++ be 4 x).map bv) :: own ∧ K = K') := by
  refine Spec.of en_39 Try.func39 rfl rfl fun g => ?_
  refine WC.seq ?_
  refine WC.region ?_
  refine WL.q (q_assign rfl) rfl ?_
  refine WL.nil ?_
  refine AT.then_n ?_
  refine WC.seq ?_
  refine WC.region ?_
  refine WL.q (q_move rfl) rfl ?_
  refine WL.q (q_move rfl) rfl ?_
  refine WL.eff (e_call rfl (c147O hb hl hx (n := 4) (by omega))) rfl ?_; rintro _ _ _ ⟨A1, rfl, rfl, rfl⟩
  refine WL.q (q_assign rfl) rfl ?_
  refine WL.nil ?_
  refine AT.then_n ?_
  refine WC.ret ?_
  exact AT.done rfl (RO.one rfl rfl) ⟨A1, rfl, rfl, rfl⟩ (Imp.refl _ _)

theorem c39 {own : List SP} {K : PH → Prop} {A : Option Addr} {ca : Nat} {b : List UInt8} {x : Nat} (hb : Ent K (Row A (b.map bv))) (hl : b.length ≤ 1000000000) (hx : x ≤ 4294967295) : Spec Try.prog 39 [.slice A b.length ca, .int .u32 x] (own) (K)
    (fun v own' K' => ∃ A' cap', v = .slice A' (b.length + 4) cap' ∧ own = own' ∧ K' = K ∩ Row A' ((b ++ be 4 x).map bv)) :=
  Spec.weak (c39O hb hl hx) fun v o k ⟨A', h1, h2, h3⟩ => ⟨own, _, by subst h2 h3; exact Imp.orowStay, A', _, h1, rfl, rfl⟩
theorem c46O {own : List SP} {K : PH → Prop} {A : Option Addr} {ca : Nat} {b : List UInt8} {x : Nat} (hb : Ent K (Row A (b.map bv))) (hl : b.length ≤ 1000000000) (hx : x ≤ 18446744073709551615) : Spec Try.prog 46 [.slice A b.length ca, .int .u64 x] (own) (K)
    (fun v own' K' => ∃ A', v = .slice A' (b.length + 8) (b.length + 8) ∧ own' = ORow A' (b.length + 8) 5 1 ((b ++ be 8 x).map bv) :: own ∧ K = K') := by
  refine Spec.of en_46 Try.func46 rfl rfl fun g => ?_
  refine WC.seq ?_
  refine WC.region ?_
  refine WL.q (q_assign rfl) rfl ?_
  refine WL.nil ?_
  refine AT.then_n ?_
  refine WC.seq ?_
  refine WC.region ?_
  refine WL.q (q_move rfl) rfl ?_
  refine WL.q (q_move rfl) rfl ?_
  refine WL.eff (e_call rfl (c150O hb hl hx (n := 8) (by omega))) rfl ?_; rintro _ _ _ ⟨A1, rfl, rfl, rfl⟩
  refine WL.q (q_assign rfl) rfl ?_
  refine WL.nil ?_
  refine AT.then_n ?_
  refine WC.ret ?_
  exact AT.done rfl (RO.one rfl rfl) ⟨A1, rfl, rfl, rfl⟩ (Imp.refl _ _)

theorem c46 {own : List SP} {K : PH → Prop} {A : Option Addr} {ca : Nat} {b : List UInt8} {x : Nat} (hb : Ent K (Row A (b.map bv))) (hl : b.length ≤ 1000000000) (hx : x ≤ 18446744073709551615) : Spec Try.prog 46 [.slice A b.length ca, .int .u64 x] (own) (K)
    (fun v own' K' => ∃ A' cap', v = .slice A' (b.length + 8) cap' ∧ own = own' ∧ K' = K ∩ Row A' ((b ++ be 8 x).map bv)) :=
  Spec.weak (c46O hb hl hx) fun v o k ⟨A', h1, h2, h3⟩ => ⟨own, _, by subst h2 h3; exact Imp.orowStay, A', _, h1, rfl, rfl⟩

/-- A reader: what it has ahead, and why it does not go on. -/
def Rd (p : Nat) (A : Option Addr) (n cap : Nat) (why : Int) : SP := Pt p (.cells ([.slice A n cap, .int .i64 why] : List Value).toArray 204 (0, 0))
/-- What so many bytes are as a number. -/
def num (l : List UInt8) : Nat := l.foldl (fun x b => 256 * x + b.toNat) 0
/-- What is taken off: nothing, where it does not go on. -/
def offs (l : List UInt8) (why : Int) (w : Nat) : List UInt8 × List UInt8 × Int :=
  if why = 0 then (if l.length < w then ([], l, 7) else (l.take w, l.drop w, 0)) else ([], l, why)
theorem cut0 {K : PH → Prop} {A : Option Addr} {cap m : Nat} {l : List UInt8} (hr : Ent K (Row A (l.map bv))) (hm : m ≤ l.length) (hc : l.length ≤ cap) : Ent K (Row (cutA A cap 1 0) ((l.take m).map bv)) := by
  have := Row.cut (l := 0) (h := m) (n := l.length) (sz := 1) hr (by simp) ⟨by omega, hm, hc⟩
  simpa [List.map_take] using this
theorem cut1 {K : PH → Prop} {A : Option Addr} {cap m : Nat} {l : List UInt8} (hr : Ent K (Row A (l.map bv))) (hm : m ≤ l.length) (hc : l.length ≤ cap) : Ent K (Row (cutA A cap 1 m) ((l.drop m).map bv)) := by
  have := Row.cut (l := m) (h := l.length) (n := l.length) (sz := 1) hr (by simp) ⟨hm, Nat.le_refl _, hc⟩
  rw [Nat.mul_one, Nat.mul_one, List.take_of_length_le (by simp)] at this
  simpa [List.map_drop] using this

theorem c33 {own : List SP} {K : PH → Prop} {A : Option Addr} {ca : Nat} {b : List UInt8} (hb : Ent K (Row A (b.map bv))) (hl : b.length ≤ 140737488355328) : Spec Try.prog 33 [.slice A b.length ca] (own) (K)
    (fun v own' K' => ∃ p A' cap', v = .pointer (some (ad p 0)) ∧ own' = Rd p A' b.length cap' 0 :: own ∧ K' = K ∩ Row A' (b.map bv) ∧ b.length ≤ cap') := by
  refine Spec.of en_33 Try.func33 rfl rfl fun g => ?_
  refine WC.seq ?_
  refine WC.region ?_
  refine WL.q (q_assign rfl) rfl ?_
  refine WL.nil ?_
  refine AT.then_n ?_
  refine WC.seq ?_
  refine WC.region ?_
  refine WL.q (q_move rfl) rfl ?_
  refine WL.eff (e_appendN rfl rfl (Src.row hb (k := b.length) (by simp) rfl) u_23 (.inl ⟨_, u_23⟩) i_5 rfl (by simp) (ones_bv b) (by omega)) rfl ?_; rintro _ _ _ ⟨A1, cap1, rfl, rfl, rfl, hc1⟩
  refine WL.q (q_buildL rfl pl_202 i_202 rfl rfl) rfl ?_
  refine WL.q (q_buildL rfl pl_204 i_204 rfl rfl) rfl ?_
  refine WL.eff (e_box rfl) rfl ?_; rintro _ _ _ ⟨b2, rfl, rfl, rfl⟩
  refine WL.q (q_assign rfl) rfl ?_
  refine WL.nil ?_
  refine AT.then_n ?_
  refine WC.ret ?_
  refine AT.done rfl (RO.one rfl rfl) ⟨b2, A1, cap1, rfl, rfl, rfl, hc1⟩ ?_
  exact fun g w h => ((h.perm (List.Perm.swap _ _ _)).orowStay)

theorem c148_why {own : List SP} {K : PH → Prop} {p : Nat} {A : Option Addr} {cap : Nat} {l : List UInt8} {why : Int} {m : Int} {fv : Value} (hw : why ≠ 0) : Spec Try.prog 148 [.pointer (some (ad p 0)), .int .i64 m, fv] (Rd p A l.length cap why :: own) (K)
    (Ret (.tuple #[]) (Rd p A l.length cap why :: own) K) := by
  refine Spec.of en_148 Try.func148 rfl rfl fun g => ?_
  refine WC.block ?_
  refine WC.seq ?_
  refine WC.region ?_
  refine WL.q (q_move rfl) rfl ?_
  refine WL.q (q_nil rfl) rfl ?_
  refine WL.q (q_fieldAddr rfl fo_202_1) rfl ?_
  refine WL.q (q_load rfl a_68 (by first | exact Cell.ptL 0 rfl rfl | exact Cell.ptL 1 rfl rfl | exact Cell.ptL 2 rfl rfl)) rfl ?_
  refine WL.q (q_neq rfl rfl) rfl ?_
  refine WL.q (q_assign rfl) rfl ?_
  refine WL.nil ?_
  refine AT.then_n ?_
  refine WC.condPT rfl (hw) ?_
  refine WC.skip ?_
  refine AT.blk_n ?_
  exact AT.doneN rfl (RO.none rfl) ⟨rfl, rfl, rfl⟩ (Imp.refl _ _)

theorem c148_neg {own : List SP} {K : PH → Prop} {p : Nat} {A : Option Addr} {cap : Nat} {l : List UInt8} {m : Int} {fv : Value} (hm : m < 0) : Spec Try.prog 148 [.pointer (some (ad p 0)), .int .i64 m, fv] (Rd p A l.length cap 0 :: own) (K)
    (Ret (.tuple #[]) (Rd p A l.length cap 2 :: own) K) := by
  refine Spec.of en_148 Try.func148 rfl rfl fun g => ?_
  refine WC.block ?_
  refine WC.seq ?_
  refine WC.region ?_
  refine WL.q (q_move rfl) rfl ?_
  refine WL.q (q_nil rfl) rfl ?_
  refine WL.q (q_fieldAddr rfl fo_202_1) rfl ?_
  refine WL.q (q_load rfl a_68 (by first | exact Cell.ptL 0 rfl rfl | exact Cell.ptL 1 rfl rfl | exact Cell.ptL 2 rfl rfl)) rfl ?_
  refine WL.q (q_neq rfl rfl) rfl ?_
  refine WL.q (q_assign rfl) rfl ?_
  refine WL.nil ?_
  refine AT.then_n ?_
  refine WC.condPF rfl (by simp) ?_
  refine WC.seq ?_
  refine WC.region ?_
  refine WL.q (q_move rfl) rfl ?_
  refine WL.q (q_lss rfl rfl) rfl ?_
  refine WL.q (q_assign rfl) rfl ?_
  refine WL.nil ?_
  refine AT.then_n ?_
  refine WC.condPT rfl (hm) ?_
  refine WC.region ?_
  refine WL.q (q_move rfl) rfl ?_
  refine WL.q (q_nil rfl) rfl ?_
  refine WL.q (q_fieldAddr rfl fo_202_1) rfl ?_
  first | refine WL.effn (e_store 0 rfl rfl rfl i_68 rfl (by simp)) ?_ | refine WL.effn (e_store 1 rfl rfl rfl i_68 rfl (by simp)) ?_ | refine WL.effn (e_store 2 rfl rfl rfl i_68 rfl (by simp)) ?_
  rintro _ _ _ ⟨rfl, rfl, rfl⟩
  refine WL.nil ?_
  refine AT.blk_n ?_
  exact AT.doneN rfl (RO.none rfl) ⟨rfl, rfl, rfl⟩ (Imp.refl _ _)

theorem c148_short {own : List SP} {K : PH → Prop} {p : Nat} {A : Option Addr} {cap : Nat} {l : List UInt8} {m : Int} {fv : Value} (hm : 0 ≤ m) (hl : (l.length : Int) < m) : Spec Try.prog 148 [.pointer (some (ad p 0)), .int .i64 m, fv] (Rd p A l.length cap 0 :: own) (K)
    (Ret (.tuple #[]) (Rd p A l.length cap 7 :: own) K) := by
  refine Spec.of en_148 Try.func148 rfl rfl fun g => ?_
  refine WC.block ?_
  refine WC.seq ?_
  refine WC.region ?_
  refine WL.q (q_move rfl) rfl ?_
  refine WL.q (q_nil rfl) rfl ?_
  refine WL.q (q_fieldAddr rfl fo_202_1) rfl ?_
  refine WL.q (q_load rfl a_68 (by first | exact Cell.ptL 0 rfl rfl | exact Cell.ptL 1 rfl rfl | exact Cell.ptL 2 rfl rfl)) rfl ?_
  refine WL.q (q_neq rfl rfl) rfl ?_
  refine WL.q (q_assign rfl) rfl ?_
  refine WL.nil ?_
  refine AT.then_n ?_
  refine WC.condPF rfl (by simp) ?_
  refine WC.seq ?_
  refine WC.region ?_
  refine WL.q (q_move rfl) rfl ?_
  refine WL.q (q_lss rfl rfl) rfl ?_
  refine WL.q (q_assign rfl) rfl ?_
  refine WL.nil ?_
  refine AT.then_n ?_
  refine WC.condPF rfl (by omega) ?_
  refine WC.seq ?_
  refine WC.region ?_
  refine WL.q (q_move rfl) rfl ?_
  refine WL.q (q_nil rfl) rfl ?_
  refine WL.q (q_fieldAddr rfl fo_202_0) rfl ?_
  refine WL.q (q_load rfl a_23 (by first | exact Cell.ptL 0 rfl rfl | exact Cell.ptL 1 rfl rfl | exact Cell.ptL 2 rfl rfl)) rfl ?_
  refine WL.q (q_len rfl u_23) rfl ?_
  refine WL.q (q_move rfl) rfl ?_
  refine WL.q (q_lss rfl rfl) rfl ?_
  refine WL.q (q_assign rfl) rfl ?_
  refine WL.nil ?_
  refine AT.then_n ?_
  refine WC.condPT rfl (hl) ?_
  refine WC.region ?_
  refine WL.q (q_move rfl) rfl ?_
  refine WL.q (q_nil rfl) rfl ?_
  refine WL.q (q_fieldAddr rfl fo_202_1) rfl ?_
  first | refine WL.effn (e_store 0 rfl rfl rfl i_68 rfl (by simp)) ?_ | refine WL.effn (e_store 1 rfl rfl rfl i_68 rfl (by simp)) ?_ | refine WL.effn (e_store 2 rfl rfl rfl i_68 rfl (by simp)) ?_
  rintro _ _ _ ⟨rfl, rfl, rfl⟩
  refine WL.nil ?_
  refine AT.blk_n ?_
  exact AT.doneN rfl (RO.none rfl) ⟨rfl, rfl, rfl⟩ (Imp.refl _ _)

theorem c148_ok {own : List SP} {K : PH → Prop} {p : Nat} {A : Option Addr} {cap : Nat} {l : List UInt8} {m f : Nat} {fs cs : List Value} {Φ : Value → List SP → (PH → Prop) → Prop} (hl : m ≤ l.length) (hc : l.length ≤ cap)
    (hf : Spec Try.prog f (fs ++ [.slice (cutA A cap 1 0) (m - 0) (cap - 0)] ++ cs) (Rd p (cutA A cap 1 m) (l.length - m) (cap - m) 0 :: own) K Φ) : Spec Try.prog 148 [.pointer (some (ad p 0)), .int .i64 m, .func (.func f) fs.toArray cs.toArray] (Rd p A l.length cap 0 :: own) (K)
    (fun v own' K' => v = .tuple #[] ∧ ∃ v', Φ v' own' K') := by
  refine Spec.of en_148 Try.func148 rfl rfl fun g => ?_
  refine WC.block ?_
  refine WC.seq ?_
  refine WC.region ?_
  refine WL.q (q_move rfl) rfl ?_
  refine WL.q (q_nil rfl) rfl ?_
  refine WL.q (q_fieldAddr rfl fo_202_1) rfl ?_
  refine WL.q (q_load rfl a_68 (by first | exact Cell.ptL 0 rfl rfl | exact Cell.ptL 1 rfl rfl | exact Cell.ptL 2 rfl rfl)) rfl ?_
  refine WL.q (q_neq rfl rfl) rfl ?_
  refine WL.q (q_assign rfl) rfl ?_
  refine WL.nil ?_
  refine AT.then_n ?_
  refine WC.condPF rfl (by simp) ?_
  refine WC.seq ?_
  refine WC.region ?_
  refine WL.q (q_move rfl) rfl ?_
  refine WL.q (q_lss rfl rfl) rfl ?_
  refine WL.q (q_assign rfl) rfl ?_
  refine WL.nil ?_
  refine AT.then_n ?_
  refine WC.condPF rfl (by omega) ?_
  refine WC.seq ?_
  refine WC.region ?_
  refine WL.q (q_move rfl) rfl ?_
  refine WL.q (q_nil rfl) rfl ?_
  refine WL.q (q_fieldAddr rfl fo_202_0) rfl ?_
  refine WL.q (q_load rfl a_23 (by first | exact Cell.ptL 0 rfl rfl | exact Cell.ptL 1 rfl rfl | exact Cell.ptL 2 rfl rfl)) rfl ?_
  refine WL.q (q_len rfl u_23) rfl ?_
  refine WL.q (q_move rfl) rfl ?_
  refine WL.q (q_lss rfl rfl) rfl ?_
  refine WL.q (q_assign rfl) rfl ?_
  refine WL.nil ?_
  refine AT.then_n ?_
  refine WC.condPF rfl (by omega) ?_
  refine WC.seq ?_
  refine WC.region ?_
  refine WL.q (q_move rfl) rfl ?_
  refine WL.q (q_nil rfl) rfl ?_
  refine WL.q (q_fieldAddr rfl fo_202_0) rfl ?_
  refine WL.q (q_load rfl a_23 (by first | exact Cell.ptL 0 rfl rfl | exact Cell.ptL 1 rfl rfl | exact Cell.ptL 2 rfl rfl)) rfl ?_
  refine WL.q (q_move rfl) rfl ?_
  refine WL.q (q_slice rfl rfl ⟨_, _, rfl, rfl⟩ u_23 i_5 (by omega)) rfl ?_
  refine WL.q (q_assign rfl) rfl ?_
  refine WL.nil ?_
  refine AT.then_n ?_
  refine WC.seq ?_
  refine WC.region ?_
  refine WL.q (q_move rfl) rfl ?_
  refine WL.q (q_move rfl) rfl ?_
  refine WL.q (q_nil rfl) rfl ?_
  refine WL.q (q_fieldAddr rfl fo_202_0) rfl ?_
  refine WL.q (q_load rfl a_23 (by first | exact Cell.ptL 0 rfl rfl | exact Cell.ptL 1 rfl rfl | exact Cell.ptL 2 rfl rfl)) rfl ?_
  refine WL.q (q_move rfl) rfl ?_
  refine WL.q (q_slice rfl ⟨_, _, rfl, rfl⟩ rfl u_23 i_5 (by omega)) rfl ?_
  refine WL.q (q_nil rfl) rfl ?_
  refine WL.q (q_fieldAddr rfl fo_202_0) rfl ?_
  first | refine WL.effn (e_store 0 rfl rfl rfl i_23 rfl (by simp)) ?_ | refine WL.effn (e_store 1 rfl rfl rfl i_23 rfl (by simp)) ?_ | refine WL.effn (e_store 2 rfl rfl rfl i_23 rfl (by simp)) ?_
  rintro _ _ _ ⟨rfl, rfl, rfl⟩
  refine WL.nil ?_
  refine AT.then_n ?_
  refine WC.region ?_
  refine WL.q (q_move rfl) rfl ?_
  refine WL.q (q_move rfl) rfl ?_
  refine WL.eff (e_callv rfl rfl hf) rfl ?_; rintro v1 o1 k1 hv1
  refine WL.nil ?_
  refine AT.blk_n ?_
  exact AT.doneN rfl (RO.none rfl) ⟨rfl, v1, hv1⟩ (Imp.refl _ _)


theorem num_take {l : List UInt8} {k : Nat} (h : k < l.length) : num (l.take (k + 1)) = 256 * num (l.take k) + l[k].toNat := by
  unfold num; rw [List.take_succ_eq_append_getElem h, List.foldl_append]; rfl
theorem num_lt : ∀ (l : List UInt8) (x : Nat), l.foldl (fun x b => 256 * x + b.toNat) x < (x + 1) * 256 ^ l.length
  | [], x => by simp
  | b :: l, x => by
    have := num_lt l (256 * x + b.toNat)
    have hb := b.toNat_lt
    refine Nat.lt_of_lt_of_le this ?_
    rw [List.length_cons, Nat.pow_succ, Nat.mul_comm (256 ^ l.length) 256, ← Nat.mul_assoc]
    exact Nat.mul_le_mul_right _ (by omega)
theorem num_le7 {l : List UInt8} (h : l.length ≤ 7) : num l < 72057594037927936 := by
  have := num_lt l 0
  have h2 : 256 ^ l.length ≤ 256 ^ 7 := Nat.pow_le_pow_right (by omega) h
  unfold num; omega
theorem num_le8 {l : List UInt8} (h : l.length ≤ 8) : num l < 18446744073709551616 := by
  have := num_lt l 0
  have h2 : 256 ^ l.length ≤ 256 ^ 8 := Nat.pow_le_pow_right (by omega) h
  unfold num; omega

theorem c221 {own : List SP} {K : PH → Prop} {X : SP} {b m : Nat} {A : Option Addr} {cap : Nat} {l : List UInt8} (hr : Ent K (Row A (l.map bv))) (hm : l.length = m) (hn : m ≤ 8) : Spec Try.prog 221 [.slice A m cap, .pointer (some (ad b 0))] (X :: Pt b (.cells ([.int .u64 0] : List Value).toArray 70 (0, 0)) :: own) (K)
    (Ret (.tuple #[]) (X :: Pt b (.cells ([.int .u64 (num l)] : List Value).toArray 70 (0, 0)) :: own) K) := by
  refine Spec.of en_221 Try.func221 rfl rfl fun g => ?_
  refine WC.seq ?_
  refine WC.region ?_
  refine WL.q (q_move rfl) rfl ?_
  refine WL.q (q_len rfl u_23) rfl ?_
  refine WL.q (q_move rfl) rfl ?_
  refine WL.nil ?_
  refine AT.then_n ?_
  refine WC.block ?_
  refine WC.loop (σ := Nat) (fun k => k ≤ m) (fun k => [(7, .int .i64 k), (5, .slice A m cap), (6, .int .i64 m), (1, .pointer (some (ad b 0)))]) (fun k => X :: Pt b (.cells ([.int .u64 (num (l.take k))] : List Value).toArray 70 (0, 0)) :: own) (fun _ => K) (fun k => m - k) 0 (by omega) ⟨rfl, rfl, rfl, rfl, trivial⟩ (Imp.refl _ _) ?_
  intro k hk
  refine WC.seq ?_
  refine WC.region ?_
  refine WL.q (q_lss rfl rfl) rfl ?_
  refine WL.nil ?_
  refine AT.then_n ?_
  refine WC.seq ?_
  refine WC.cond rfl (fun h1 => ?_) (fun h1 => ?_)
  · -- if 1: yes
    try have p1 := of_decide_eq_true h1
    have hlt : k < l.length := by omega
    have hb := num_le7 (l := l.take k) (by simp; omega)
    have hu := l[k].toNat_lt
    refine WC.skip ?_
    refine AT.then_n ?_
    refine WC.seq ?_
    refine WC.block ?_
    refine WC.seq ?_
    refine WC.region ?_
    refine WL.q (q_indexAddr rfl rfl u_23 i_5 (Based.row hr (by simp; omega)) (by omega)) rfl ?_
    refine WL.q (q_load rfl a_5 (Cell.row hr (v := bv l[k]) (by simp [hlt]))) rfl ?_
    refine WL.q (q_assign rfl) rfl ?_
    refine WL.nil ?_
    refine AT.then_n ?_
    refine WC.region ?_
    refine WL.q (q_load rfl a_70 (by first | exact Cell.ptL 0 rfl rfl | exact Cell.ptL 1 rfl rfl | exact Cell.ptL 2 rfl rfl)) rfl ?_
    first | refine WL.q (q_mulR (0) 18446744073709551615 rfl rfl rfl rfl (by omega)) rfl ?_ | refine WL.q (q_mul rfl rfl) rfl ?_
    refine WL.q (q_move rfl) rfl ?_
    first | refine WL.q (q_convI (0) 18446744073709551615 u_5 u_70 rfl rfl rfl (by omega)) rfl ?_ | refine WL.q (q_conv rfl u_5 u_70 rfl) rfl ?_
    first | refine WL.q (q_addR (0) 18446744073709551615 rfl rfl rfl rfl (by omega)) rfl ?_ | refine WL.q (q_add rfl rfl) rfl ?_
    first | refine WL.effn (e_store 0 rfl rfl rfl i_70 rfl (by simp)) ?_ | refine WL.effn (e_store 1 rfl rfl rfl i_70 rfl (by simp)) ?_ | refine WL.effn (e_store 2 rfl rfl rfl i_70 rfl (by simp)) ?_
    rintro _ _ _ ⟨rfl, rfl, rfl⟩
    refine WL.nil ?_
    refine AT.blk_n ?_
    refine AT.then_n ?_
    refine WC.region ?_
    first | refine WL.q (q_add64 rfl rfl (by omega)) rfl ?_ | refine WL.q (q_add rfl rfl) rfl ?_
    refine WL.q (q_move rfl) rfl ?_
    refine WL.nil ?_
    refine AT.mid (k + 1) ⟨by omega, by omega⟩ ⟨rfl, rfl, rfl, rfl, trivial⟩ (Imp.eq ?_)
    rw [num_take hlt]; rfl
  · -- if 1: no
    try have p1 := of_decide_eq_false h1
    refine WC.exit ?_
    refine AT.then_e ?_
    refine AT.then_e ?_
    refine AT.blk_e ?_
    refine AT.doneN rfl (RO.none rfl) ⟨rfl, rfl, rfl⟩ (Imp.eq ?_)
    have : k = l.length := by omega
    rw [this, List.take_length]

theorem c145_why {own : List SP} {K : PH → Prop} {p : Nat} {A : Option Addr} {cap : Nat} {l : List UInt8} {why : Int} {w : Nat} (hw : why ≠ 0) : Spec Try.prog 145 [.pointer (some (ad p 0)), .int .i64 w] (Rd p A l.length cap why :: own) (K)
    (Ret (.int .u64 0) (Rd p A l.length cap why :: own) K) := by
  refine Spec.of en_145 Try.func145 rfl rfl fun g => ?_
  refine WC.seq ?_
  refine WC.region ?_
  refine WL.eff (e_alloc i_70) rfl ?_; rintro _ _ _ ⟨b1, rfl, rfl, rfl⟩
  refine WL.nil ?_
  refine AT.then_n ?_
  refine WC.seq ?_
  refine WC.seq ?_
  refine WC.region ?_
  refine WL.q (q_move rfl) rfl ?_
  refine WL.q (q_eqlP rfl rfl u_62) rfl ?_
  refine WL.nil ?_
  refine AT.then_n ?_
  refine WC.condHF rfl (rfl) ?_
  refine WC.skip ?_
  refine AT.then_n ?_
  refine WC.seq ?_
  refine WC.region ?_
  refine WL.q (q_move rfl) rfl ?_
  refine WL.q (q_nil rfl) rfl ?_
  refine WL.q (q_fieldAddr rfl fo_204_0) rfl ?_
  refine WL.q (q_move rfl) rfl ?_
  refine WL.q (q_makeFunc rfl rfl) rfl ?_
  refine WL.imp Imp.swap ?_
  refine WL.eff (e_call rfl (c148_why hw)) rfl ?_; rintro _ _ _ ⟨rfl, rfl, rfl⟩
  refine WL.nil ?_
  refine AT.then_n ?_
  refine WC.seq ?_
  refine WC.region ?_
  refine WL.q (q_load rfl a_70 (by first | exact Cell.ptL 0 rfl rfl | exact Cell.ptL 1 rfl rfl | exact Cell.ptL 2 rfl rfl)) rfl ?_
  first | refine WL.effn (e_store 0 rfl rfl rfl i_70 rfl (by simp)) ?_ | refine WL.effn (e_store 1 rfl rfl rfl i_70 rfl (by simp)) ?_ | refine WL.effn (e_store 2 rfl rfl rfl i_70 rfl (by simp)) ?_
  rintro _ _ _ ⟨rfl, rfl, rfl⟩
  refine WL.nil ?_
  refine AT.then_n ?_
  refine WC.ret ?_
  exact AT.done rfl (RO.cell1 rfl rfl a_70 (by first | exact Cell.pt 0 rfl rfl | exact Cell.pt 1 rfl rfl)) ⟨rfl, rfl, rfl⟩ (Imp.trans Imp.swap (Imp.drop (Imp.refl _ _)))

theorem c145_short {own : List SP} {K : PH → Prop} {p : Nat} {A : Option Addr} {cap : Nat} {l : List UInt8} {w : Nat} (hl : l.length < w) : Spec Try.prog 145 [.pointer (some (ad p 0)), .int .i64 w] (Rd p A l.length cap 0 :: own) (K)
    (Ret (.int .u64 0) (Rd p A l.length cap 7 :: own) K) := by
  refine Spec.of en_145 Try.func145 rfl rfl fun g => ?_
  refine WC.seq ?_
  refine WC.region ?_
  refine WL.eff (e_alloc i_70) rfl ?_; rintro _ _ _ ⟨b1, rfl, rfl, rfl⟩
  refine WL.nil ?_
  refine AT.then_n ?_
  refine WC.seq ?_
  refine WC.seq ?_
  refine WC.region ?_
  refine WL.q (q_move rfl) rfl ?_
  refine WL.q (q_eqlP rfl rfl u_62) rfl ?_
  refine WL.nil ?_
  refine AT.then_n ?_
  refine WC.condHF rfl (rfl) ?_
  refine WC.skip ?_
  refine AT.then_n ?_
  refine WC.seq ?_
  refine WC.region ?_
  refine WL.q (q_move rfl) rfl ?_
  refine WL.q (q_nil rfl) rfl ?_
  refine WL.q (q_fieldAddr rfl fo_204_0) rfl ?_
  refine WL.q (q_move rfl) rfl ?_
  refine WL.q (q_makeFunc rfl rfl) rfl ?_
  refine WL.imp Imp.swap ?_
  refine WL.eff (e_call rfl (c148_short (by omega) (by omega))) rfl ?_; rintro _ _ _ ⟨rfl, rfl, rfl⟩
  refine WL.nil ?_
  refine AT.then_n ?_
  refine WC.seq ?_
  refine WC.region ?_
  refine WL.q (q_load rfl a_70 (by first | exact Cell.ptL 0 rfl rfl | exact Cell.ptL 1 rfl rfl | exact Cell.ptL 2 rfl rfl)) rfl ?_
  first | refine WL.effn (e_store 0 rfl rfl rfl i_70 rfl (by simp)) ?_ | refine WL.effn (e_store 1 rfl rfl rfl i_70 rfl (by simp)) ?_ | refine WL.effn (e_store 2 rfl rfl rfl i_70 rfl (by simp)) ?_
  rintro _ _ _ ⟨rfl, rfl, rfl⟩
  refine WL.nil ?_
  refine AT.then_n ?_
  refine WC.ret ?_
  exact AT.done rfl (RO.cell1 rfl rfl a_70 (by first | exact Cell.pt 0 rfl rfl | exact Cell.pt 1 rfl rfl)) ⟨rfl, rfl, rfl⟩ (Imp.trans Imp.swap (Imp.drop (Imp.refl _ _)))

theorem c145_ok {own : List SP} {K : PH → Prop} {p : Nat} {A : Option Addr} {cap : Nat} {l : List UInt8} {w : Nat} (hr : Ent K (Row A (l.map bv))) (hl : w ≤ l.length) (hc : l.length ≤ cap) (h8 : w ≤ 8) : Spec Try.prog 145 [.pointer (some (ad p 0)), .int .i64 w] (Rd p A l.length cap 0 :: own) (K)
    (Ret (.int .u64 (num (l.take w))) (Rd p (cutA A cap 1 w) (l.length - w) (cap - w) 0 :: own) K) := by
  refine Spec.of en_145 Try.func145 rfl rfl fun g => ?_
  refine WC.seq ?_
  refine WC.region ?_
  refine WL.eff (e_alloc i_70) rfl ?_; rintro _ _ _ ⟨b1, rfl, rfl, rfl⟩
  refine WL.nil ?_
  refine AT.then_n ?_
  refine WC.seq ?_
  refine WC.seq ?_
  refine WC.region ?_
  refine WL.q (q_move rfl) rfl ?_
  refine WL.q (q_eqlP rfl rfl u_62) rfl ?_
  refine WL.nil ?_
  refine AT.then_n ?_
  refine WC.condHF rfl (rfl) ?_
  refine WC.skip ?_
  refine AT.then_n ?_
  refine WC.seq ?_
  refine WC.region ?_
  refine WL.q (q_move rfl) rfl ?_
  refine WL.q (q_nil rfl) rfl ?_
  refine WL.q (q_fieldAddr rfl fo_204_0) rfl ?_
  refine WL.q (q_move rfl) rfl ?_
  refine WL.q (q_makeFunc rfl rfl) rfl ?_
  refine WL.imp Imp.swap ?_
  refine WL.eff (e_call rfl (c148_ok (fs := []) (cs := [_]) hl hc (c221 (l := l.take w) (cut0 hr hl hc) (by simp; omega) (by omega)))) rfl ?_; rintro _ _ _ ⟨rfl, v9, rfl, rfl, rfl⟩
  refine WL.nil ?_
  refine AT.then_n ?_
  refine WC.seq ?_
  refine WC.region ?_
  refine WL.q (q_load rfl a_70 (by first | exact Cell.ptL 0 rfl rfl | exact Cell.ptL 1 rfl rfl | exact Cell.ptL 2 rfl rfl)) rfl ?_
  first | refine WL.effn (e_store 0 rfl rfl rfl i_70 rfl (by simp)) ?_ | refine WL.effn (e_store 1 rfl rfl rfl i_70 rfl (by simp)) ?_ | refine WL.effn (e_store 2 rfl rfl rfl i_70 rfl (by simp)) ?_
  rintro _ _ _ ⟨rfl, rfl, rfl⟩
  refine WL.nil ?_
  refine AT.then_n ?_
  refine WC.ret ?_
  exact AT.done rfl (RO.cell1 rfl rfl a_70 (by first | exact Cell.pt 0 rfl rfl | exact Cell.pt 1 rfl rfl)) ⟨rfl, rfl, rfl⟩ (Imp.trans Imp.swap (Imp.drop (Imp.refl _ _)))


/-- A reader, as it stands: some row, known to hold these bytes. -/
def RdOk (K : PH → Prop) (A : Option Addr) (cap : Nat) (l : List UInt8) : Prop := Ent K (Row A (l.map bv)) ∧ l.length ≤ cap
theorem RdOk.mono {K K' : PH → Prop} {A : Option Addr} {cap : Nat} {l : List UInt8} (h : RdOk K A cap l) (e : Ent K' K) : RdOk K' A cap l := ⟨e.trans h.1, h.2⟩
theorem Spec.mono {P : Program} {f : FuncId} {args : List Value} {own : List SP} {K : PH → Prop} {Φ Ψ : Value → List SP → (PH → Prop) → Prop} (h : Spec P f args own K Φ) (hi : ∀ v o k, Φ v o k → Ψ v o k) : Spec P f args own K Ψ :=
  ⟨h.1, fun g w hS => (h.2 g w hS).mono fun x w' ⟨v, o, k, e, hΦ, hS'⟩ => ⟨v, o, k, e, hi v o k hΦ, hS'⟩⟩
/-- What a reader comes to. -/
def RdPost (p : Nat) (own : List SP) (K : PH → Prop) (v : Value) (l : List UInt8) (why : Int) : Value → List SP → (PH → Prop) → Prop := fun v' own' K' =>
  v = v' ∧ K = K' ∧ ∃ A cap, own' = Rd p A l.length cap why :: own ∧ RdOk K A cap l
theorem c145 {own : List SP} {K : PH → Prop} {p : Nat} {A : Option Addr} {cap w : Nat} {l : List UInt8} {why : Int} (h : RdOk K A cap l) (h8 : w ≤ 8) :
    Spec Try.prog 145 [.pointer (some (ad p 0)), .int .i64 w] (Rd p A l.length cap why :: own) K (RdPost p own K (.int .u64 (num (offs l why w).1)) (offs l why w).2.1 (offs l why w).2.2) := by
  unfold offs
  by_cases hw : why = 0
  · subst hw
    by_cases hl : l.length < w
    · simp only [hl, if_true]
      exact (c145_short hl).mono fun v o k ⟨e1, e2, e3⟩ => ⟨e1, e3, A, cap, e2.symm, h⟩
    · simp only [hl, if_true, if_false]
      refine (c145_ok h.1 (by omega) h.2 h8).mono fun v o k ⟨e1, e2, e3⟩ => ⟨e1, e3, _, cap - w, ?_, ⟨cut1 h.1 (by omega) h.2, ?_⟩⟩
      · rw [← e2, List.length_drop]
      · rw [List.length_drop]; have := h.2; omega
  · simp only [hw, if_false]
    exact (c145_why hw).mono fun v o k ⟨e1, e2, e3⟩ => ⟨e1, e3, A, cap, e2.symm, h⟩


theorem offs_len (l : List UInt8) (why : Int) (w : Nat) : (offs l why w).1.length ≤ w := by
  unfold offs; split
  · split
    · simp
    · simp; omega
  · simp
theorem num_offs (l : List UInt8) (why : Int) (w : Nat) : num (offs l why w).1 < 256 ^ w := by
  have h1 := num_lt (offs l why w).1 0
  have h2 : 256 ^ (offs l why w).1.length ≤ 256 ^ w := Nat.pow_le_pow_right (by omega) (offs_len l why w)
  unfold num; omega

theorem c34 {own : List SP} {K : PH → Prop} {p : Nat} {A : Option Addr} {cap : Nat} {l : List UInt8} {why : Int} (h : RdOk K A cap l) : Spec Try.prog 34 [.pointer (some (ad p 0))] (Rd p A l.length cap why :: own) (K)
    (RdPost p own K (.int .u8 (num (offs l why 1).1)) (offs l why 1).2.1 (offs l why 1).2.2) := by
  refine Spec.of en_34 Try.func34 rfl rfl fun g => ?_
  refine WC.seq ?_
  refine WC.region ?_
  refine WL.q (q_assign rfl) rfl ?_
  refine WL.nil ?_
  refine AT.then_n ?_
  refine WC.seq ?_
  refine WC.region ?_
  refine WL.q (q_move rfl) rfl ?_
  refine WL.eff (e_call rfl (c145 h (w := 1) (by omega))) rfl ?_; rintro _ _ _ ⟨rfl, rfl, A1, cap1, rfl, h1⟩
  refine WL.q (q_convI 0 255 u_70 u_5 rfl rfl rfl (by have := num_offs l why 1; omega)) rfl ?_
  refine WL.q (q_assign rfl) rfl ?_
  refine WL.nil ?_
  refine AT.then_n ?_
  refine WC.ret ?_
  exact AT.done rfl (RO.one rfl rfl) ⟨rfl, rfl, A1, cap1, rfl, h1⟩ (Imp.refl _ _)

theorem c42 {own : List SP} {K : PH → Prop} {p : Nat} {A : Option Addr} {cap : Nat} {l : List UInt8} {why : Int} (h : RdOk K A cap l) : Spec Try.prog 42 [.pointer (some (ad p 0))] (Rd p A l.length cap why :: own) (K)
    (RdPost p own K (.int .u16 (num (offs l why 2).1)) (offs l why 2).2.1 (offs l why 2).2.2) := by
  refine Spec.of en_42 Try.func42 rfl rfl fun g => ?_
  refine WC.seq ?_
  refine WC.region ?_
  refine WL.q (q_assign rfl) rfl ?_
  refine WL.nil ?_
  refine AT.then_n ?_
  refine WC.seq ?_
  refine WC.region ?_
  refine WL.q (q_move rfl) rfl ?_
  refine WL.eff (e_call rfl (c145 h (w := 2) (by omega))) rfl ?_; rintro _ _ _ ⟨rfl, rfl, A1, cap1, rfl, h1⟩
  refine WL.q (q_convI 0 65535 u_70 u_34 rfl rfl rfl (by have := num_offs l why 2; omega)) rfl ?_
  refine WL.q (q_assign rfl) rfl ?_
  refine WL.nil ?_
  refine AT.then_n ?_
  refine WC.ret ?_
  exact AT.done rfl (RO.one rfl rfl) ⟨rfl, rfl, A1, cap1, rfl, h1⟩ (Imp.refl _ _)

theorem c35 {own : List SP} {K : PH → Prop} {p : Nat} {A : Option Addr} {cap : Nat} {l : List UInt8} {why : Int} (h : RdOk K A cap l) : Spec Try.prog 35 [.pointer (some (ad p 0))] (Rd p A l.length cap why :: own) (K)
    (RdPost p own K (.int .u32 (num (offs l why 4).1)) (offs l why 4).2.1 (offs l why 4).2.2) := by
  refine Spec.of en_35 Try.func35 rfl rfl fun g => ?_
  refine WC.seq ?_
  refine WC.region ?_
  refine WL.q (q_assign rfl) rfl ?_
  refine WL.nil ?_
  refine AT.then_n ?_
  refine WC.seq ?_
  refine WC.region ?_
  refine WL.q (q_move rfl) rfl ?_
  refine WL.eff (e_call rfl (c145 h (w := 4) (by omega))) rfl ?_; rintro _ _ _ ⟨rfl, rfl, A1, cap1, rfl, h1⟩
  refine WL.q (q_convI 0 4294967295 u_70 u_65 rfl rfl rfl (by have := num_offs l why 4; omega)) rfl ?_
  refine WL.q (q_assign rfl) rfl ?_
  refine WL.nil ?_
  refine AT.then_n ?_
  refine WC.ret ?_
  exact AT.done rfl (RO.one rfl rfl) ⟨rfl, rfl, A1, cap1, rfl, h1⟩ (Imp.refl _ _)

theorem c43 {own : List SP} {K : PH → Prop} {p : Nat} {A : Option Addr} {cap : Nat} {l : List UInt8} {why : Int} (h : RdOk K A cap l) : Spec Try.prog 43 [.pointer (some (ad p 0))] (Rd p A l.length cap why :: own) (K)
    (RdPost p own K (.int .u64 (num (offs l why 8).1)) (offs l why 8).2.1 (offs l why 8).2.2) := by
  refine Spec.of en_43 Try.func43 rfl rfl fun g => ?_
  refine WC.seq ?_
  refine WC.region ?_
  refine WL.q (q_assign rfl) rfl ?_
  refine WL.nil ?_
  refine AT.then_n ?_
  refine WC.seq ?_
  refine WC.region ?_
  refine WL.q (q_move rfl) rfl ?_
  refine WL.eff (e_call rfl (c145 h (w := 8) (by omega))) rfl ?_; rintro _ _ _ ⟨rfl, rfl, A1, cap1, rfl, h1⟩
  refine WL.q (q_assign rfl) rfl ?_
  refine WL.nil ?_
  refine AT.then_n ?_
  refine WC.ret ?_
  exact AT.done rfl (RO.one rfl rfl) ⟨rfl, rfl, A1, cap1, rfl, h1⟩ (Imp.refl _ _)

theorem c36 {own : List SP} {K : PH → Prop} {p : Nat} {A : Option Addr} {n cap : Nat} {why : Int} : Spec Try.prog 36 [.pointer (some (ad p 0))] (Rd p A n cap why :: own) (K)
    (Ret (.int .i64 n) (Rd p A n cap why :: own) K) := by
  refine Spec.of en_36 Try.func36 rfl rfl fun g => ?_
  refine WC.seq ?_
  refine WC.region ?_
  refine WL.q (q_assign rfl) rfl ?_
  refine WL.nil ?_
  refine AT.then_n ?_
  refine WC.seq ?_
  refine WC.seq ?_
  refine WC.region ?_
  refine WL.q (q_move rfl) rfl ?_
  refine WL.q (q_eqlP rfl rfl u_62) rfl ?_
  refine WL.nil ?_
  refine AT.then_n ?_
  refine WC.condHF rfl (rfl) ?_
  refine WC.skip ?_
  refine AT.then_n ?_
  refine WC.seq ?_
  refine WC.region ?_
  refine WL.q (q_move rfl) rfl ?_
  refine WL.q (q_nil rfl) rfl ?_
  refine WL.q (q_fieldAddr rfl fo_204_0) rfl ?_
  refine WL.q (q_fieldAddr rfl fo_202_0) rfl ?_
  refine WL.q (q_load rfl a_23 (by first | exact Cell.ptL 0 rfl rfl | exact Cell.ptL 1 rfl rfl | exact Cell.ptL 2 rfl rfl)) rfl ?_
  refine WL.q (q_len rfl u_23) rfl ?_
  refine WL.q (q_assign rfl) rfl ?_
  refine WL.nil ?_
  refine AT.then_n ?_
  refine WC.ret ?_
  exact AT.done rfl (RO.one rfl rfl) ⟨rfl, rfl, rfl⟩ (Imp.refl _ _)

theorem c37 {own : List SP} {K : PH → Prop} {p : Nat} {A : Option Addr} {n cap : Nat} {why : Int} : Spec Try.prog 37 [.pointer (some (ad p 0))] (Rd p A n cap why :: own) (K)
    (Ret (.int .i64 why) (Rd p A n cap why :: own) K) := by
  refine Spec.of en_37 Try.func37 rfl rfl fun g => ?_
  refine WC.seq ?_
  refine WC.region ?_
  refine WL.q (q_assign rfl) rfl ?_
  refine WL.nil ?_
  refine AT.then_n ?_
  refine WC.seq ?_
  refine WC.seq ?_
  refine WC.region ?_
  refine WL.q (q_move rfl) rfl ?_
  refine WL.q (q_eqlP rfl rfl u_62) rfl ?_
  refine WL.nil ?_
  refine AT.then_n ?_
  refine WC.condHF rfl (rfl) ?_
  refine WC.skip ?_
  refine AT.then_n ?_
  refine WC.seq ?_
  refine WC.region ?_
  refine WL.q (q_move rfl) rfl ?_
  refine WL.q (q_nil rfl) rfl ?_
  refine WL.q (q_fieldAddr rfl fo_204_0) rfl ?_
  refine WL.q (q_fieldAddr rfl fo_202_1) rfl ?_
  refine WL.q (q_load rfl a_68 (by first | exact Cell.ptL 0 rfl rfl | exact Cell.ptL 1 rfl rfl | exact Cell.ptL 2 rfl rfl)) rfl ?_
  refine WL.q (q_assign rfl) rfl ?_
  refine WL.nil ?_
  refine AT.then_n ?_
  refine WC.ret ?_
  exact AT.done rfl (RO.one rfl rfl) ⟨rfl, rfl, rfl⟩ (Imp.refl _ _)


/-- What is taken off, of any number of bytes. -/
def offI (l : List UInt8) (why m : Int) : List UInt8 × List UInt8 × Int :=
  if why = 0 then (if m < 0 then ([], l, 2) else offs l 0 m.toNat) else ([], l, why)
theorem nothing (K : PH → Prop) : Ent K (K ∩ Row none []) := fun H h => ⟨h, .inl ⟨rfl, fun a ha => by cases ha⟩⟩

theorem c149 {own : List SP} {K : PH → Prop} {X : SP} {b m : Nat} {A : Option Addr} {cap : Nat} {l : List UInt8} (hr : Ent K (Row A (l.map bv))) (hm : l.length = m) (hn : m ≤ 140737488355328) : Spec Try.prog 149 [.slice A m cap, .pointer (some (ad b 0))] (X :: Pt b (.cells ([.slice none 0 0] : List Value).toArray 23 (0, 0)) :: own) (K)
    (fun v own' K' => ∃ A' cap', v = .tuple #[] ∧ own' = X :: Pt b (.cells ([.slice A' m cap'] : List Value).toArray 23 (0, 0)) :: own ∧ K' = K ∩ Row A' (l.map bv)) := by
  refine Spec.of en_149 Try.func149 rfl rfl fun g => ?_
  refine WC.region ?_
  refine WL.q (q_load rfl a_23 (by first | exact Cell.ptL 0 rfl rfl | exact Cell.ptL 1 rfl rfl | exact Cell.ptL 2 rfl rfl)) rfl ?_
  refine WL.q (q_move rfl) rfl ?_
  refine WL.eff (e_appendN rfl rfl (Src.row hr (k := m) (by simp [hm]) rfl) u_23 (.inl ⟨_, u_23⟩) i_5 rfl (by simp [hm]) (ones_bv l) (by omega)) rfl ?_; rintro _ _ _ ⟨A1, cap1, rfl, rfl, rfl, hc1⟩
  first | refine WL.effn (e_store 0 rfl rfl rfl i_23 rfl (by simp)) ?_ | refine WL.effn (e_store 1 rfl rfl rfl i_23 rfl (by simp)) ?_ | refine WL.effn (e_store 2 rfl rfl rfl i_23 rfl (by simp)) ?_
  rintro _ _ _ ⟨rfl, rfl, rfl⟩
  refine WL.nil ?_
  exact AT.doneN rfl (RO.none rfl) ⟨A1, cap1, rfl, rfl, rfl⟩ Imp.orowStay

theorem c44_why {own : List SP} {K : PH → Prop} {p : Nat} {A : Option Addr} {cap : Nat} {l : List UInt8} {why : Int} {m : Int} (hw : why ≠ 0) : Spec Try.prog 44 [.pointer (some (ad p 0)), .int .i64 m] (Rd p A l.length cap why :: own) (K)
    (Ret (.slice none 0 0) (Rd p A l.length cap why :: own) K) := by
  refine Spec.of en_44 Try.func44 rfl rfl fun g => ?_
  refine WC.seq ?_
  refine WC.region ?_
  refine WL.eff (e_alloc i_23) rfl ?_; rintro _ _ _ ⟨b1, rfl, rfl, rfl⟩
  refine WL.nil ?_
  refine AT.then_n ?_
  refine WC.seq ?_
  refine WC.seq ?_
  refine WC.region ?_
  refine WL.q (q_move rfl) rfl ?_
  refine WL.q (q_neqP rfl rfl u_62) rfl ?_
  refine WL.nil ?_
  refine AT.then_n ?_
  refine WC.condHT rfl (rfl) ?_
  refine WC.region ?_
  refine WL.q (q_move rfl) rfl ?_
  refine WL.q (q_nil rfl) rfl ?_
  refine WL.q (q_fieldAddr rfl fo_204_0) rfl ?_
  refine WL.q (q_move rfl) rfl ?_
  refine WL.q (q_makeFunc rfl rfl) rfl ?_
  refine WL.imp Imp.swap ?_
  refine WL.eff (e_call rfl (c148_why hw)) rfl ?_; rintro _ _ _ ⟨rfl, rfl, rfl⟩
  refine WL.nil ?_
  refine AT.then_n ?_
  refine WC.seq ?_
  refine WC.region ?_
  refine WL.q (q_load rfl a_23 (by first | exact Cell.ptL 0 rfl rfl | exact Cell.ptL 1 rfl rfl | exact Cell.ptL 2 rfl rfl)) rfl ?_
  first | refine WL.effn (e_store 0 rfl rfl rfl i_23 rfl (by simp)) ?_ | refine WL.effn (e_store 1 rfl rfl rfl i_23 rfl (by simp)) ?_ | refine WL.effn (e_store 2 rfl rfl rfl i_23 rfl (by simp)) ?_
  rintro _ _ _ ⟨rfl, rfl, rfl⟩
  refine WL.nil ?_
  refine AT.then_n ?_
  refine WC.ret ?_
  exact AT.done rfl (RO.cell1 rfl rfl a_23 (by first | exact Cell.pt 0 rfl rfl | exact Cell.pt 1 rfl rfl)) ⟨rfl, rfl, rfl⟩ (Imp.trans Imp.swap (Imp.drop (Imp.refl _ _)))

theorem c44_neg {own : List SP} {K : PH → Prop} {p : Nat} {A : Option Addr} {cap : Nat} {l : List UInt8} {m : Int} (hm : m < 0) : Spec Try.prog 44 [.pointer (some (ad p 0)), .int .i64 m] (Rd p A l.length cap 0 :: own) (K)
    (Ret (.slice none 0 0) (Rd p A l.length cap 2 :: own) K) := by
  refine Spec.of en_44 Try.func44 rfl rfl fun g => ?_
  refine WC.seq ?_
  refine WC.region ?_
  refine WL.eff (e_alloc i_23) rfl ?_; rintro _ _ _ ⟨b1, rfl, rfl, rfl⟩
  refine WL.nil ?_
  refine AT.then_n ?_
  refine WC.seq ?_
  refine WC.seq ?_
  refine WC.region ?_
  refine WL.q (q_move rfl) rfl ?_
  refine WL.q (q_neqP rfl rfl u_62) rfl ?_
  refine WL.nil ?_
  refine AT.then_n ?_
  refine WC.condHT rfl (rfl) ?_
  refine WC.region ?_
  refine WL.q (q_move rfl) rfl ?_
  refine WL.q (q_nil rfl) rfl ?_
  refine WL.q (q_fieldAddr rfl fo_204_0) rfl ?_
  refine WL.q (q_move rfl) rfl ?_
  refine WL.q (q_makeFunc rfl rfl) rfl ?_
  refine WL.imp Imp.swap ?_
  refine WL.eff (e_call rfl (c148_neg hm)) rfl ?_; rintro _ _ _ ⟨rfl, rfl, rfl⟩
  refine WL.nil ?_
  refine AT.then_n ?_
  refine WC.seq ?_
  refine WC.region ?_
  refine WL.q (q_load rfl a_23 (by first | exact Cell.ptL 0 rfl rfl | exact Cell.ptL 1 rfl rfl | exact Cell.ptL 2 rfl rfl)) rfl ?_
  first | refine WL.effn (e_store 0 rfl rfl rfl i_23 rfl (by simp)) ?_ | refine WL.effn (e_store 1 rfl rfl rfl i_23 rfl (by simp)) ?_ | refine WL.effn (e_store 2 rfl rfl rfl i_23 rfl (by simp)) ?_
  rintro _ _ _ ⟨rfl, rfl, rfl⟩
  refine WL.nil ?_
  refine AT.then_n ?_
  refine WC.ret ?_
  exact AT.done rfl (RO.cell1 rfl rfl a_23 (by first | exact Cell.pt 0 rfl rfl | exact Cell.pt 1 rfl rfl)) ⟨rfl, rfl, rfl⟩ (Imp.trans Imp.swap (Imp.drop (Imp.refl _ _)))

theorem c44_short {own : List SP} {K : PH → Prop} {p : Nat} {A : Option Addr} {cap : Nat} {l : List UInt8} {m : Int} (h0 : 0 ≤ m) (hl : (l.length : Int) < m) : Spec Try.prog 44 [.pointer (some (ad p 0)), .int .i64 m] (Rd p A l.length cap 0 :: own) (K)
    (Ret (.slice none 0 0) (Rd p A l.length cap 7 :: own) K) := by
  refine Spec.of en_44 Try.func44 rfl rfl fun g => ?_
  refine WC.seq ?_
  refine WC.region ?_
  refine WL.eff (e_alloc i_23) rfl ?_; rintro _ _ _ ⟨b1, rfl, rfl, rfl⟩
  refine WL.nil ?_
  refine AT.then_n ?_
  refine WC.seq ?_
  refine WC.seq ?_
  refine WC.region ?_
  refine WL.q (q_move rfl) rfl ?_
  refine WL.q (q_neqP rfl rfl u_62) rfl ?_
  refine WL.nil ?_
  refine AT.then_n ?_
  refine WC.condHT rfl (rfl) ?_
  refine WC.region ?_
  refine WL.q (q_move rfl) rfl ?_
  refine WL.q (q_nil rfl) rfl ?_
  refine WL.q (q_fieldAddr rfl fo_204_0) rfl ?_
  refine WL.q (q_move rfl) rfl ?_
  refine WL.q (q_makeFunc rfl rfl) rfl ?_
  refine WL.imp Imp.swap ?_
  refine WL.eff (e_call rfl (c148_short (by omega) (by omega))) rfl ?_; rintro _ _ _ ⟨rfl, rfl, rfl⟩
  refine WL.nil ?_
  refine AT.then_n ?_
  refine WC.seq ?_
  refine WC.region ?_
  refine WL.q (q_load rfl a_23 (by first | exact Cell.ptL 0 rfl rfl | exact Cell.ptL 1 rfl rfl | exact Cell.ptL 2 rfl rfl)) rfl ?_
  first | refine WL.effn (e_store 0 rfl rfl rfl i_23 rfl (by simp)) ?_ | refine WL.effn (e_store 1 rfl rfl rfl i_23 rfl (by simp)) ?_ | refine WL.effn (e_store 2 rfl rfl rfl i_23 rfl (by simp)) ?_
  rintro _ _ _ ⟨rfl, rfl, rfl⟩
  refine WL.nil ?_
  refine AT.then_n ?_
  refine WC.ret ?_
  exact AT.done rfl (RO.cell1 rfl rfl a_23 (by first | exact Cell.pt 0 rfl rfl | exact Cell.pt 1 rfl rfl)) ⟨rfl, rfl, rfl⟩ (Imp.trans Imp.swap (Imp.drop (Imp.refl _ _)))

theorem c44_ok {own : List SP} {K : PH → Prop} {p : Nat} {A : Option Addr} {cap : Nat} {l : List UInt8} {w : Nat} (hr : Ent K (Row A (l.map bv))) (hl : w ≤ l.length) (hc : l.length ≤ cap) (h8 : w ≤ 140737488355328) : Spec Try.prog 44 [.pointer (some (ad p 0)), .int .i64 w] (Rd p A l.length cap 0 :: own) (K)
    (fun v own' K' => ∃ A' cap', v = .slice A' w cap' ∧ own' = Rd p (cutA A cap 1 w) (l.length - w) (cap - w) 0 :: own ∧ K' = K ∩ Row A' ((l.take w).map bv)) := by
  refine Spec.of en_44 Try.func44 rfl rfl fun g => ?_
  refine WC.seq ?_
  refine WC.region ?_
  refine WL.eff (e_alloc i_23) rfl ?_; rintro _ _ _ ⟨b1, rfl, rfl, rfl⟩
  refine WL.nil ?_
  refine AT.then_n ?_
  refine WC.seq ?_
  refine WC.seq ?_
  refine WC.region ?_
  refine WL.q (q_move rfl) rfl ?_
  refine WL.q (q_neqP rfl rfl u_62) rfl ?_
  refine WL.nil ?_
  refine AT.then_n ?_
  refine WC.condHT rfl (rfl) ?_
  refine WC.region ?_
  refine WL.q (q_move rfl) rfl ?_
  refine WL.q (q_nil rfl) rfl ?_
  refine WL.q (q_fieldAddr rfl fo_204_0) rfl ?_
  refine WL.q (q_move rfl) rfl ?_
  refine WL.q (q_makeFunc rfl rfl) rfl ?_
  refine WL.imp Imp.swap ?_
  refine WL.eff (e_call rfl (c148_ok (fs := []) (cs := [_]) hl hc (c149 (l := l.take w) (cut0 hr hl hc) (by simp; omega) (by omega)))) rfl ?_; rintro _ _ _ ⟨rfl, v9, A9, cap9, rfl, rfl, rfl⟩
  refine WL.nil ?_
  refine AT.then_n ?_
  refine WC.seq ?_
  refine WC.region ?_
  refine WL.q (q_load rfl a_23 (by first | exact Cell.ptL 0 rfl rfl | exact Cell.ptL 1 rfl rfl | exact Cell.ptL 2 rfl rfl)) rfl ?_
  first | refine WL.effn (e_store 0 rfl rfl rfl i_23 rfl (by simp)) ?_ | refine WL.effn (e_store 1 rfl rfl rfl i_23 rfl (by simp)) ?_ | refine WL.effn (e_store 2 rfl rfl rfl i_23 rfl (by simp)) ?_
  rintro _ _ _ ⟨rfl, rfl, rfl⟩
  refine WL.nil ?_
  refine AT.then_n ?_
  refine WC.ret ?_
  exact AT.done rfl (RO.cell1 rfl rfl a_23 (by first | exact Cell.pt 0 rfl rfl | exact Cell.pt 1 rfl rfl)) ⟨A9, _, rfl, rfl, rfl⟩ (Imp.trans Imp.swap (Imp.drop (Imp.refl _ _)))


/-- What comes of asking a reader for bytes. -/
def RawPost (p : Nat) (own : List SP) (K : PH → Prop) (t l : List UInt8) (why : Int) : Value → List SP → (PH → Prop) → Prop := fun v own' K' =>
  ∃ A cap A' cap', v = .slice A' t.length cap' ∧ own' = Rd p A l.length cap why :: own ∧ Ent K' (K ∩ Row A' (t.map bv)) ∧ RdOk K A cap l
theorem c44 {own : List SP} {K : PH → Prop} {p : Nat} {A : Option Addr} {cap : Nat} {l : List UInt8} {why m : Int} (h : RdOk K A cap l) (hl : l.length ≤ 140737488355328) :
    Spec Try.prog 44 [.pointer (some (ad p 0)), .int .i64 m] (Rd p A l.length cap why :: own) K (RawPost p own K (offI l why m).1 (offI l why m).2.1 (offI l why m).2.2) := by
  unfold offI
  by_cases hw : why = 0
  · subst hw
    by_cases hm : m < 0
    · simp only [hm, if_true]
      exact (c44_neg hm).mono fun v o k ⟨e1, e2, e3⟩ => ⟨A, cap, none, 0, e1.symm, e2.symm, by rw [← e3]; exact nothing K, h⟩
    · simp only [hm, if_true, if_false]
      unfold offs
      obtain ⟨w, rfl⟩ := Int.eq_ofNat_of_zero_le (Int.not_lt.1 hm)
      rw [Int.toNat_natCast]
      by_cases hlw : l.length < w
      · simp only [hlw, if_true]
        exact (c44_short (by omega) (by omega)).mono fun v o k ⟨e1, e2, e3⟩ => ⟨A, cap, none, 0, e1.symm, e2.symm, by rw [← e3]; exact nothing K, h⟩
      · simp only [hlw, if_true, if_false]
        refine (c44_ok h.1 (by omega) h.2 (by omega)).mono fun v o k ⟨A', cap', e1, e2, e3⟩ => ⟨cutA A cap 1 w, cap - w, A', cap', ?_, ?_, by rw [e3]; exact Ent.refl _, ⟨?_, ?_⟩⟩
        · rw [e1, List.length_take]; congr 1; omega
        · rw [e2, List.length_drop]
        · exact cut1 h.1 (by omega) h.2
        · rw [List.length_drop]; have := h.2; omega
  · simp only [hw, if_false]
    exact (c44_why hw).mono fun v o k ⟨e1, e2, e3⟩ => ⟨A, cap, none, 0, e1.symm, e2.symm, by rw [← e3]; exact nothing K, h⟩

end Go.Proofs.Sl
