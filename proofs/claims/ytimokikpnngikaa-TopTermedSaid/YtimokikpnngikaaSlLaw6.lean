/- What may be is read back; how many terms there are. No program in sight. -/
import Derived.Test.YtimokikpnngikaaSlLaw5
import Derived.Test.YtimokikpnngikaaSlBeg
namespace Go.Proofs.Sl
open Go
theorem u8I_toNat {k : Int} (h : 0 ≤ k ∧ k ≤ 255) : ((u8I k).toNat : Int) = k := by
  unfold u8I; simp; omega
theorem num_two {n : Int} (h : 0 ≤ n ∧ n ≤ 65535) (b : List UInt8) : (num ((u8I (n / 256) :: u8I n :: b).take 2) : Int) = n := by
  have e1 : ((u8I (n / 256)).toNat : Int) = n / 256 := u8I_toNat (by omega)
  have e2 : ((u8I n).toNat : Int) = n % 256 := by unfold u8I; simp; omega
  simp [num]; omega
theorem rdL_put {rdk : Int → List UInt8 → RR} {deep : Int} : ∀ (L : List Tm) (hk : ∀ x ∈ L, ∀ left rest l, wk deep left x = (true, l) → (putB x ++ rest).length ≤ (putBL L).length + rest.length → True) (left : Int) (rest : List UInt8) (acc : List Tm) (l : Int)
    (hr : ∀ x ∈ L, ∀ left rest2 l, wk deep left x = (true, l) → (putB x ++ rest2).length ≤ (putBL L ++ rest).length → rdk left (putB x ++ rest2) = .ok x rest2 l), wkL deep left L = (true, l) → rdL rdk L.length left (putBL L ++ rest) acc = .ok (acc ++ L) rest l
  | [], _, left, rest, acc, l, hr, h => by
    rw [wkL_nil] at h; cases h
    rw [putBL, List.length_nil, rdL]; simp
  | x :: L, _, left, rest, acc, l, hr, h => by
    rw [wkL_cons] at h
    by_cases hx : (wk deep left x).1 = true
    · rw [if_pos hx] at h
      have hxe : wk deep left x = (true, (wk deep left x).2) := Prod.ext hx rfl
      have e1 := hr x (by simp) left (putBL L ++ rest) _ hxe (by rw [putBL]; simp)
      rw [putBL, List.append_assoc, List.length_cons, rdL, e1]
      simp only
      rw [rdL_put L (fun _ _ _ _ _ _ _ => trivial) _ rest (acc ++ [x]) l (fun y hy left rest2 l h1 h2 => hr y (by simp [hy]) left rest2 l h1 (by rw [putBL]; simp at h2 ⊢; omega)) h]
      simp
    · rw [if_neg hx] at h; cases h
theorem rd_put : ∀ (N : Nat) (deep left : Int) (T : Tm) (rest : List UInt8) (l : Int), wk deep left T = (true, l) → (putB T ++ rest).length < N → rd N deep left (putB T ++ rest) = .ok T rest l
  | 0, _, _, _, _, _, _, h => absurd h (Nat.not_lt_zero _)
  | N + 1, deep, left, .mk k u n t L, rest, l, hw, hN => by
    rw [wk_mk] at hw
    by_cases hb : left - 1 < 0 ∨ 60 < deep ∨ plainB k u n t L.length = false
    · rw [if_pos hb] at hw; cases hw
    · rw [if_neg hb] at hw
      have hp : plainB k u n t L.length = true := by
        cases h : plainB k u n t L.length
        · exact absurd (.inr (.inr h)) hb
        · rfl
      obtain ⟨p1, p2, p3, p4, p5, p6⟩ := plainB_iff.1 hp
      have hk8 := (f_pos k).1 p1
      have hk : ((u8I k).toNat : Int) = k := u8I_toNat (by omega)
      have e0 : putB (.mk k u n t L) ++ rest = u8I k :: (P1 k t ++ (P2 k u ++ (P3 k n ++ (putBL L ++ rest)))) := by rw [putB_P]; simp [List.append_assoc]
      rw [e0] at hN ⊢
      rw [rd_cons, hk, if_pos ⟨p1, by omega, by omega⟩]
      have h4 : rd4 (rd N (deep + 1)) k (left - 1) t u n (putBL L ++ rest) = .ok (.mk k u n t L) rest l := by
        unfold rd4
        rw [← p2, rdL_put L (fun _ _ _ _ _ _ _ => trivial) (left - 1) rest [] l (fun x hx left2 rest2 l2 h1 h2 => rd_put N (deep + 1) left2 x rest2 l2 h1 (by simp at h2 hN ⊢; omega)) hw, rdF]
        rfl
      have h3 : rd3 (rd N (deep + 1)) k (left - 1) t u (P3 k n ++ (putBL L ++ rest)) = .ok (.mk k u n t L) rest l := by
        unfold rd3 P3
        rcases p6 with ⟨hf, hn⟩ | ⟨hf, rfl⟩
        · rw [if_pos hf, if_pos hf, if_neg (by simp)]
          show rd4 _ k (left - 1) t u (num ((u8I (n / 256) :: u8I n :: (putBL L ++ rest)).take 2)) (putBL L ++ rest) = _
          rw [num_two hn, h4]
        · rw [if_neg hf, if_neg hf]; exact h4
      have h2 : rd2 (rd N (deep + 1)) k (left - 1) t (P2 k u ++ (P3 k n ++ (putBL L ++ rest))) = .ok (.mk k u n t L) rest l := by
        unfold P2
        rcases p5 with ⟨hf, hn⟩ | ⟨hf, rfl⟩
        · have hu : ((u8I u).toNat : Int) = u := u8I_toNat (by simp [knownB] at hn; omega)
          rw [if_pos hf, List.cons_append, List.nil_append, rd2_cons hf, hu, if_pos hn, h3]
        · rw [if_neg hf, rd2_no hf]; exact h3
      unfold P1
      by_cases hf : fieldsN k &&& 1 ≠ 0
      · have ht : ((u8I t.length).toNat : Int) = t.length := u8I_toNat (by omega)
        have ht2 : (u8I t.length).toNat = t.length := by omega
        rw [if_pos hf, List.cons_append, rd1_cons hf, ht2, if_neg (by omega), if_neg (by simp), List.take_left, List.drop_left, h2]
      · have : t = [] := p4.resolve_left hf
        subst this
        rw [if_neg hf, rd1_no hf]; exact h2
theorem putB_inj {A B : Tm} (ha : (wk 1 1200 A).1 = true) (hb : (wk 1 1200 B).1 = true) (h : putB A = putB B) : A = B := by
  have h1 := rd_put ((putB A).length + 1) 1 1200 A [] (wk 1 1200 A).2 (Prod.ext ha rfl) (by simp)
  have h2 := rd_put ((putB B).length + 1) 1 1200 B [] (wk 1 1200 B).2 (Prod.ext hb rfl) (by simp)
  rw [h, h2] at h1
  cases h1; rfl
theorem szP_ne {T : Tm} : szP T ≠ 0 ↔ (wk 1 1200 T).1 = true := by
  unfold szP
  by_cases h : (wk 1 1200 T).1 = true
  · rw [if_pos h]
    have := (wk_le 1 1200 T).1
    exact ⟨fun _ => h, fun _ => by omega⟩
  · rw [if_neg h]; exact ⟨fun h2 => absurd rfl h2, fun h2 => absurd h2 h⟩
theorem szP_pos {T : Tm} (h : szP T ≠ 0) : 0 < szP T := by
  have h2 := szP_ne.1 h
  unfold szP
  rw [if_pos h2]
  have := (wk_le 1 1200 T).1
  omega
/-! ### How many -/
mutual
def cnt : Tm → Nat
  | .mk _ _ _ _ l => 1 + cntL l
def cntL : List Tm → Nat
  | [] => 0
  | x :: l => cnt x + cntL l
end
mutual
theorem sz5_cnt {most : Int} (hm : 0 ≤ most) : ∀ (T : Tm), ((cnt T : Int) ≤ most → sz5 most T = cnt T) ∧ (most < (cnt T : Int) → most < sz5 most T)
  | .mk k u n t l => by
    have := sz5L_cnt hm 1 (by omega) l
    rw [sz5_mk, cnt]
    exact ⟨fun h => (this.1 (by omega)).trans (by omega), fun h => this.2 (by omega)⟩
theorem sz5L_cnt {most : Int} (hm : 0 ≤ most) : ∀ (n : Int) (h0 : 0 < n) (l : List Tm), (n + (cntL l : Int) ≤ most → sz5L most n l = n + cntL l) ∧ (most < n + (cntL l : Int) → most < sz5L most n l)
  | n, h0, [] => by rw [sz5L_nil, cntL]; simp
  | n, h0, x :: l => by
    have hx := sz5_cnt hm x
    have hp := sz5_pos most x
    rw [sz5L_cons, cntL]
    by_cases hn : n > most
    · rw [if_pos hn]; exact ⟨fun h => by omega, fun _ => hn⟩
    · rw [if_neg hn]
      have hl := sz5L_cnt hm (n + sz5 most x) (by omega) l
      have hge := sz5L_ge most (n + sz5 most x) l
      by_cases hc : (cnt x : Int) ≤ most
      · rw [hx.1 hc] at hl ⊢
        exact ⟨fun h => by rw [hl.1 (by omega)]; omega, fun h => hl.2 (by omega)⟩
      · have := hx.2 (by omega)
        exact ⟨fun h => by omega, fun _ => by omega⟩
end
/-! ### The law's own look at a term -/
theorem plain_eq (k u n : Int) (t : List UInt8) (m : Nat) : plainB k u n t m = plain5 k u n t m := by
  have h0 := f_pos k
  have h1 := f_1 k
  have h2 := f_2 k
  have h4 := f_4 k
  have hk : kidsN (fieldsN k) = kids5 k ∨ ¬ (1 ≤ k ∧ k ≤ 8) := by
    by_cases h : 1 ≤ k ∧ k ≤ 8
    · left
      have : k = 1 ∨ k = 2 ∨ k = 3 ∨ k = 4 ∨ k = 5 ∨ k = 6 ∨ k = 7 ∨ k = 8 := by omega
      rcases this with rfl | rfl | rfl | rfl | rfl | rfl | rfl | rfl <;> rfl
    · exact .inr h
  rw [Bool.eq_iff_iff, plainB_iff]
  unfold plain5
  simp only [Bool.and_eq_true, Bool.or_eq_true, decide_eq_true_eq, Bool.not_eq_true', text5, user5, num5, knownB, and_assoc, decide_eq_false_iff_not]
  rw [h0, h1, h2, h4]
  rcases hk with hk | hk
  · rw [hk]
    exact ⟨fun ⟨⟨a1, a2⟩, r⟩ => ⟨a1, a2, r⟩, fun ⟨a1, a2, r⟩ => ⟨⟨a1, a2⟩, r⟩⟩
  · exact ⟨fun h => absurd h.1 hk, fun h => absurd ⟨h.1, h.2.1⟩ hk⟩
mutual
theorem wk_may : ∀ (deep left : Int) (T : Tm), 1 ≤ deep → ((wk deep left T).1 = true ↔ may5 (deep - 1) T = true ∧ (cnt T : Int) ≤ left) ∧ ((wk deep left T).1 = true → (wk deep left T).2 = left - cnt T)
  | deep, left, .mk k u n t l, hd => by
    have hl := wkL_may (deep + 1) (left - 1) l (by omega)
    rw [show deep + 1 - 1 = deep - 1 + 1 by omega] at hl
    rw [wk_mk, may5_mk, cnt, plain_eq]
    by_cases hb : left - 1 < 0 ∨ 60 < deep ∨ plain5 k u n t l.length = false
    · rw [if_pos hb]
      refine ⟨⟨fun h => (by cases h), fun ⟨h1, h2⟩ => ?_⟩, fun h => (by cases h)⟩
      simp only [Bool.and_eq_true, decide_eq_true_eq] at h1
      rcases hb with h | h | h
      · omega
      · omega
      · rw [h] at h1; cases h1.1.2
    · rw [if_neg hb]
      have hp : plain5 k u n t l.length = true := by
        cases h : plain5 k u n t l.length
        · exact absurd (.inr (.inr h)) hb
        · rfl
      rw [hp]
      simp only [Bool.and_true, Bool.and_eq_true, decide_eq_true_eq]
      refine ⟨⟨fun h => ⟨⟨by omega, (hl.1.1 h).1⟩, by
        rcases (hl.1.1 h).2 with h9 | h9
        · subst h9; rw [cntL]; omega
        · omega⟩, fun ⟨h1, h2⟩ => hl.1.2 ⟨h1.2, .inr (by omega)⟩⟩, fun h => by rw [hl.2 h]; omega⟩
theorem wkL_may : ∀ (deep left : Int) (l : List Tm), 1 ≤ deep → ((wkL deep left l).1 = true ↔ may5L (deep - 1) l = true ∧ (l = [] ∨ (cntL l : Int) ≤ left)) ∧ ((wkL deep left l).1 = true → (wkL deep left l).2 = left - cntL l)
  | deep, left, [], _ => by rw [wkL_nil, may5L_nil, cntL]; simp
  | deep, left, x :: l, hd => by
    have hx := wk_may deep left x hd
    have hl := wkL_may deep (wk deep left x).2 l hd
    rw [wkL_cons, may5L_cons, cntL]
    by_cases h : (wk deep left x).1 = true
    · rw [if_pos h]
      have h1 := hx.1.1 h
      have h2 := hx.2 h
      rw [h2] at hl ⊢
      rw [h1.1, Bool.true_and]
      refine ⟨⟨fun h3 => ⟨(hl.1.1 h3).1, .inr ?_⟩, fun ⟨h3, h4⟩ => hl.1.2 ⟨h3, .inr ?_⟩⟩, fun h3 => by rw [hl.2 h3]; omega⟩
      · rcases (hl.1.1 h3).2 with rfl | h4
        · rw [cntL]; omega
        · omega
      · rcases h4 with h4 | h4
        · cases h4
        · omega
    · rw [if_neg h]
      refine ⟨⟨fun h3 => (by cases h3), fun ⟨h3, h4⟩ => absurd (hx.1.2 ⟨by simp at h3; exact h3.1, ?_⟩) h⟩, fun h3 => (by cases h3)⟩
      rcases h4 with h4 | h4
      · cases h4
      · omega
end
/-- Whether a term may be, as the law has it. -/
def ok5 (T : Tm) : Bool := may5 0 T && decide (sz5 1300 T ≤ 1200)
theorem cnt_pos : ∀ (T : Tm), 0 < cnt T
  | .mk .. => by rw [cnt]; omega
theorem sz5_1200 (T : Tm) : sz5 1300 T ≤ 1200 ↔ (cnt T : Int) ≤ 1200 := by
  obtain ⟨h1, h2⟩ := sz5_cnt (most := 1300) (by omega) T
  by_cases h : (cnt T : Int) ≤ 1300
  · rw [h1 h]
  · have := h2 (by omega); omega
theorem ok5_iff {T : Tm} : ok5 T = true ↔ szP T ≠ 0 := by
  have h := (wk_may 1 1200 T (by omega)).1
  unfold ok5
  rw [szP_ne, h, Bool.and_eq_true, decide_eq_true_eq, sz5_1200]
  simp
theorem szP_sz5 {T : Tm} (h : szP T ≠ 0) : szP T = sz5 1300 T := by
  have hw := szP_ne.1 h
  have h1 := wk_may 1 1200 T (by omega)
  have h2 := h1.2 hw
  have h3 := (h1.1.1 hw).2
  rw [(sz5_cnt (most := 1300) (by omega) T).1 (by omega)]
  unfold szP
  rw [if_pos hw, h2]; omega
end Go.Proofs.Sl
