/- Operations that make memory, or write to it. -/
import Derived.Test.YtimokikpnngikaaSlD
import Derived.Laws.Sem
namespace Go.Proofs.Sl
open Go

/-- The cells of a value that are to be laid: each of one cell. -/
def Ones (vs : List Value) : Prop := ∀ v ∈ vs, v.oneCell' = true

section
variable {P : Program}

/-- Cells laid into a block. -/
theorem run_storeBlock (b : Nat) (T : TypeId) (fr : Nat × Nat) : ∀ (vs : List Value) (o i : Nat) (cs : List Value) (w : World), w.heap[b]? = some (.cells cs.toArray T fr) → o + i + vs.length ≤ cs.length →
    (∀ j, o + i ≤ j → j < o + i + vs.length → ¬ (fr.1 ≤ j ∧ j < fr.2)) → Ones vs →
    ∃ w', (storeCells (ad b o) vs i).run P w = .ok () w' ∧ w'.os = w.os ∧ w'.output = w.output ∧
      w'.heap[b]? = some (.cells (cs.take (o + i) ++ vs ++ cs.drop (o + i + vs.length)).toArray T fr) ∧ ∀ c, c ≠ b → w'.heap[c]? = w.heap[c]?
  | [], o, i, cs, w, h, hl, hf, h1 => ⟨w, rfl, rfl, rfl, by simpa using h, fun _ _ => rfl⟩
  | v :: r, o, i, cs, w, h, hl, hf, h1 => by
    simp only [List.length_cons] at hl hf
    have hc : w.cell? (ad b (o + i)) = some (cs[o + i]'(by omega)) := by
      refine cell_of h ?_
      simp
    have hz : w.frozen? (ad b (o + i)) = false := by
      have := hf (o + i) (by omega) (by omega)
      simp only [World.frozen?, h]
      simp; omega
    have hst : (store ((ad b o).add i) v).run P w = .ok () (w.setCell (ad b (o + i)) v) := by
      rw [add_mk, run_store P w _ v _ (h1 v (by simp))]
      simp [hc, hz]
    have hb : b < w.heap.size := (Array.getElem?_eq_some_iff.1 h).1
    have hw : (w.setCell (ad b (o + i)) v).heap[b]? = some (.cells (cs.set (o + i) v).toArray T fr) := by
      simp only [World.setCell, Array.getElem?_modify, if_true, h]
      simp
    have hx : ∀ c, c ≠ b → (w.setCell (ad b (o + i)) v).heap[c]? = w.heap[c]? := fun c hc => by
      simp only [World.setCell, Array.getElem?_modify, if_neg (Ne.symm hc)]
    obtain ⟨w', hr, hos, hout, hb', hx'⟩ := run_storeBlock b T fr r o (i + 1) (cs.set (o + i) v) _ hw (by simp; omega) (fun j h1 h2 => hf j (by omega) (by omega)) (fun u hu => h1 u (by simp [hu]))
    refine ⟨w', ?_, hos, hout, ?_, fun c hc => (hx' c hc).trans (hx c hc)⟩
    · simp only [storeCells, Sem.run_bind, hst, Result.andThen]; exact hr
    · rw [hb']
      congr 3
      have e1 : o + (i + 1) = o + i + 1 := by omega
      rw [e1]
      have hlt : o + i < cs.length := by omega
      rw [List.take_set, List.drop_set_of_lt (by omega), List.take_succ_eq_append_getElem hlt]
      rw [List.set_append_right _ _ (by simp; omega)]
      simp only [List.append_assoc, List.length_take]
      rw [show o + i - min (o + i) cs.length = 0 by omega, show o + i + 1 + r.length = o + i + (r.length + 1) by omega]
      rfl
end

section
variable {C : Cx} {e : Env} {own : List SP} {K : PH → Prop} {ty : TypeId}

theorem cells_one {v : Value} (h : v.oneCell' = true) : v.cells = #[v] := by
  cases v <;> first | rfl | (simp [Value.oneCell'] at h)

/-- A new variable, of nought. -/
theorem e_alloc {t : TypeId} {n by_ : Nat} {z : Value} (hi : Inf C.P t n by_ z) : EO C (.alloc t) ty e own K
    (fun v own' K' => ∃ b, v = .pointer (some (ad b 0)) ∧ own' = Pt b (.cells z.cells t (0, 0)) :: own ∧ K = K') :=
  EO.of_run (by simp) fun a w hA hS => ⟨_, _, _, w.alloc (.cells z.cells t (0, 0)), ⟨w.heap.size, rfl, rfl, rfl⟩, hS.alloc _, .inl (by
    simp [execOp, op0, Instr.alloc, hi.zero, newVar, newRow])⟩

/-- A new variable, that holds something. -/
theorem e_box {t : TypeId} {x : Operand} {v : Value} (hx : ev e x = some v) : EO C (.box t x) ty e own K
    (fun p own' K' => ∃ b, p = .pointer (some (ad b 0)) ∧ own' = Pt b (.cells v.cells t (0, 0)) :: own ∧ K = K') :=
  EO.of_run (by simp) fun a w hA hS => ⟨_, _, _, w.alloc (.cells v.cells t (0, 0)), ⟨w.heap.size, rfl, rfl, rfl⟩, hS.alloc _, .inl (by
    simp [execOp, op0, Instr.box, hA.ev hx, newVar, newRow])⟩

/-- A store into a block of one's own, of cells. -/
theorem e_storeN (i : Nat) {t : TypeId} {n by_ : Nat} {z : Value} {x y : Operand} {b o : Nat} {cs vs : List Value} {T : TypeId} {v : Value} (hx : ev e x = some (.pointer (some (ad b o)))) (hy : ev e y = some v)
    (hi : own[i]? = some (Pt b (.cells cs.toArray T (0, 0)))) (ht : Inf C.P t n by_ z) (hv : v.cells = vs.toArray) (hn : vs.length = n) (hl : o + n ≤ cs.length) (h1 : Ones vs) :
    EO C (.store t x y) ty e own K (Ret undef (own.set i (Pt b (.cells (cs.take o ++ vs ++ cs.drop (o + n)).toArray T (0, 0)))) K) :=
  EO.of_run (by simp) fun a w hA hS => by
    have hb := hS.ptAt hi
    obtain ⟨w', hr, hos, hout, hb', hx'⟩ := run_storeBlock (P := C.P) b T (0, 0) vs o 0 cs w hb (by omega) (fun j _ _ => by simp) h1
    refine ⟨undef, _, K, w', ⟨rfl, rfl, rfl⟩, ?_, .inr ⟨?_, rfl⟩⟩
    · have := (hS.focus hi).turn hos hout hb' hx'
      rw [hn] at this
      exact this.unfocus hi
    · simp only [execOp, op0, hA.ev hx, hA.ev hy]
      simp [Instr.storeAt, Instr.sureAddr, storeVar, ht.size, hv, hn, hr]

/-- A store into a block of one's own, of one cell. -/
theorem e_store (i : Nat) {t : TypeId} {by_ : Nat} {z : Value} {x y : Operand} {b o : Nat} {cs : List Value} {T : TypeId} {v : Value} (hx : ev e x = some (.pointer (some (ad b o)))) (hy : ev e y = some v)
    (hi : own[i]? = some (Pt b (.cells cs.toArray T (0, 0)))) (ht : Inf C.P t 1 by_ z) (h1 : v.oneCell' = true) (hl : o < cs.length) :
    EO C (.store t x y) ty e own K (Ret undef (own.set i (Pt b (.cells (cs.set o v).toArray T (0, 0)))) K) := by
  have := e_storeN (C := C) (own := own) (K := K) (ty := ty) i hx hy hi ht (vs := [v]) (by rw [cells_one h1]) rfl (by omega) (fun u hu => by simp at hu; subst hu; exact h1)
  have he : cs.take o ++ [v] ++ cs.drop (o + 1) = cs.set o v := by
    rw [List.set_eq_take_append_cons_drop]; simp [hl]
  rwa [he] at this

/-! ### Rows of one's own -/
/-- A row that may still be appended to: what its cells hold. -/
def ORow (A : Option Addr) (cap : Nat) (T : TypeId) (sz : Nat) (cs : List Value) : SP := fun h =>
  (A = none ∧ cap = 0 ∧ cs = [] ∧ h = PH.emp) ∨
  ∃ b pad fr, A = some (ad b 0) ∧ h = PH.one b (.cells (cs ++ pad).toArray T fr) ∧ (cs ++ pad).length = cap * sz ∧ (fr = (0, 0) ∨ (cs ++ pad).length ≤ fr.1)

/-- Either there is nothing, or a block. -/
theorem HS.orow {g : Os × Array (Nat × ByteArray)} {A : Option Addr} {cap : Nat} {T : TypeId} {sz : Nat} {cs : List Value} {w : World} (h : HS g (ORow A cap T sz cs :: own) K w) :
    (A = none ∧ cap = 0 ∧ cs = [] ∧ HS g own K w) ∨
    ∃ b pad fr, A = some (ad b 0) ∧ (cs ++ pad).length = cap * sz ∧ (fr = (0, 0) ∨ (cs ++ pad).length ≤ fr.1) ∧ HS g (Pt b (.cells (cs ++ pad).toArray T fr) :: own) K w := by
  obtain ⟨H, k, d, s, t, u, h1, h2, d', rfl, a, r⟩ := h.ex
  rcases a with ⟨rfl, rfl, rfl, rfl⟩ | ⟨b, pad, fr, rfl, rfl, hl, hf⟩
  · refine .inl ⟨rfl, rfl, rfl, h.os, h.out, H, h2, (PH.disj_un.1 d).2, s, PH.sub_trans (PH.un_right d') t, u, r⟩
  · exact .inr ⟨b, pad, fr, rfl, hl, hf, h.os, h.out, H, _, d, s, t, u, _, h2, d', rfl, rfl, r⟩

theorem HS.orowNil {g : Os × Array (Nat × ByteArray)} {w : World} (T : TypeId) (sz : Nat) (h : HS g own K w) : HS g (ORow none 0 T sz [] :: own) K w := by
  obtain ⟨H, k, d, s, t, u, v⟩ := h.ex
  exact ⟨h.os, h.out, H, k, d, s, t, u, PH.emp, k, fun _ => .inl rfl, (PH.emp_un k).symm, .inl ⟨rfl, rfl, rfl, rfl⟩, v⟩
theorem Imp.orowNil (T : TypeId) (sz : Nat) : Imp own K (ORow none 0 T sz [] :: own) K := fun _ _ h => h.orowNil T sz

theorem HS.orowOf {g : Os × Array (Nat × ByteArray)} {w : World} {b : Nat} {cs pad : List Value} {T : TypeId} {fr : Nat × Nat} {cap sz : Nat} (hl : (cs ++ pad).length = cap * sz) (hf : fr = (0, 0) ∨ (cs ++ pad).length ≤ fr.1)
    (h : HS g (Pt b (.cells (cs ++ pad).toArray T fr) :: own) K w) : HS g (ORow (some (ad b 0)) cap T sz cs :: own) K w :=
  h.head fun x hx => .inr ⟨b, pad, fr, rfl, hx, hl, hf⟩

/-- It becomes a row that stays. -/
theorem HS.orowStay {g : Os × Array (Nat × ByteArray)} {w : World} {A : Option Addr} {cap : Nat} {T : TypeId} {sz : Nat} {cs : List Value} (h : HS g (ORow A cap T sz cs :: own) K w) : HS g own (K ∩ Row A cs) w :=
  h.freeze fun x hx H hs => by
    rcases hx with ⟨rfl, rfl, rfl, _⟩ | ⟨b, pad, fr, rfl, rfl, _, _⟩
    · exact .inl ⟨rfl, fun a ha => by cases ha⟩
    · refine .inr ⟨b, 0, rfl, (cs ++ pad).toArray, T, fr, hs _ _ (by simp [PH.one]), fun j x hx => ?_⟩
      have : j < cs.length := by
        rcases Nat.lt_or_ge j cs.length with h | h
        · exact h
        · rw [List.getElem?_eq_none h] at hx; cases hx
      simp [List.getElem?_append_left this, hx]
theorem Imp.orowStay {A : Option Addr} {cap : Nat} {T : TypeId} {sz : Nat} {cs : List Value} : Imp (ORow A cap T sz cs :: own) K own (K ∩ Row A cs) := fun _ _ h => h.orowStay

theorem Cell.orow (i : Nat) {A : Option Addr} {cap : Nat} {T : TypeId} {sz : Nat} {cs : List Value} {j : Nat} {v : Value} (hi : own[i]? = some (ORow A cap T sz cs)) (hv : cs[j]? = some v) : Cell own K (adr A j) v := by
  intro g w h
  rcases (h.focus hi).orow with ⟨_, _, rfl, _⟩ | ⟨b, pad, fr, rfl, _, _, h'⟩
  · simp at hv
  · have hj : j < cs.length := by
      rcases Nat.lt_or_ge j cs.length with h | h
      · exact h
      · rw [List.getElem?_eq_none h] at hv; cases hv
    simp only [adr, add_mk]
    exact cell_of h'.pt (by simp [List.getElem?_append_left hj, hv])

theorem Based.orow (i : Nat) {A : Option Addr} {cap : Nat} {T : TypeId} {sz : Nat} {cs : List Value} (hi : own[i]? = some (ORow A cap T sz cs)) (h : 0 < cs.length) : Based own K A := fun g w hS => by
  rcases (hS.focus hi).orow with ⟨_, _, rfl, _⟩ | ⟨b, pad, fr, rfl, _, _, _⟩
  · simp at h
  · exact ⟨b, 0, rfl⟩

/-- What is appended, or copied. -/
def Src (P : Program) (own : List SP) (K : PH → Prop) (sz : Nat) (v : Value) (k : Nat) (new : List Value) : Prop :=
  (∀ w, (Builtin.lenOf v).run P w = .ok k w) ∧ ∀ g w, HS g own K w → (Builtin.firstCells sz k v).run P w = .ok new.toArray w

theorem nextcap_le {need cap : Nat} (h : cap < need) : Builtin.nextslicecap need cap ≤ 2 * need := by
  unfold Builtin.nextslicecap
  split
  · omega
  · split
    · omega
    · rename_i h1 h2
      have key : ∀ r c, c ≤ 2 * need → 256 ≤ c → (c ≤ need ∨ need ≤ c) → Builtin.growBy need r c ≤ 2 * need := by
        intro r
        induction r with
        | zero => intro c h _ _; simpa [Builtin.growBy] using h
        | succ r ih =>
          intro c hc h256 _
          unfold Builtin.growBy
          split
          · exact hc
          · refine ih _ ?_ ?_ ?_ <;> omega
      exact key 4 cap (by omega) (by omega) (by omega)

theorem zeroCells_size (z : Array Value) (n : Nat) : (Builtin.zeroCells z n).size = n * z.size := by simp [Builtin.zeroCells]

theorem run_append {C : Cx} {own : List SP} {K : PH → Prop} (i : Nat) {t u el : TypeId} {ty : TypeId} {v : Value} {A : Option Addr} {n cap sz by_ k : Nat} {z : Value} {cs new : List Value} {w : World}
    (hS : HS C.g own K w) (hsrc : Src C.P own K sz v k new) (hi : own[i]? = some (ORow A cap el sz cs)) (hu : Und C.P t (.slice el)) (hu2 : (∃ el', Und C.P u (.slice el')) ∨ Und C.P u .string)
    (hinf : Inf C.P el sz by_ z) (hz : z.cells.size = sz) (hlen : cs.length = n * sz) (hnew : new.length = k * sz) (h1 : Ones new) (hb : (n + k) * by_ ≤ 140737488355328 ∧ n + k ≤ 4611686018427387904) :
    ∃ A' cap' w', (Builtin.append_ #[t, u] ty #[.slice A n cap, v]).run C.P w = .ok (.slice A' (n + k) cap') w' ∧ HS C.g (own.set i (ORow A' cap' el sz (cs ++ new))) K w' ∧ n + k ≤ cap' := by
  obtain ⟨j, hj, hjz, hjs, hjb⟩ := hinf.info
  have hfo := hS.focus hi
  have h2 := hsrc.2 _ _ hS
  have h3 := hsrc.1 w
  by_cases hroom : n + k ≤ cap
  · -- there is room
    rcases hfo.orow with ⟨rfl, rfl, rfl, h'⟩ | ⟨b, pad, fr, rfl, hl, hf, h'⟩
    · have hk : n = 0 ∧ k = 0 := by omega
      obtain ⟨rfl, rfl⟩ := hk
      have hn0 : new = [] := by simpa using hnew
      subst hn0
      refine ⟨none, 0, w, ?_, ?_, by omega⟩
      · simp only [Builtin.append_]
        rcases hu2 with ⟨el', hu2⟩ | hu2 <;> simp [run_underlying hu, run_underlying hu2, sizeOf, typeInfo, hj, h3, hjs, h2]
      · have := (h'.orowNil el sz).unfocus hi
        simpa using this
    · have hbb := h'.pt
      simp only [List.length_append] at hl hf
      have hkc : n * sz + k * sz ≤ cap * sz := by rw [← Nat.add_mul]; exact Nat.mul_le_mul_right _ hroom
      obtain ⟨w', hr, hos, hout, hb', hx'⟩ := run_storeBlock (P := C.P) b el fr new (n * sz) 0 (cs ++ pad) w hbb (by simp; omega)
        (fun q h1 h2 => by rcases hf with rfl | hf <;> simp <;> omega) h1
      refine ⟨some (ad b 0), cap, w', ?_, ?_, hroom⟩
      · have hadd : (ad b 0).add (n * sz) = ad b (n * sz) := by rw [add_mk]; simp
        have hr' : (storeCells (ad b (n * sz)) new).run C.P w = .ok () w' := hr
        simp only [Builtin.append_]
        rcases hu2 with ⟨el', hu2⟩ | hu2 <;> simp [run_underlying hu, run_underlying hu2, sizeOf, typeInfo, hj, h3, hjs, h2, hroom, hadd, hr']
      · have h4 := h'.turn hos hout hb' hx'
        have e1 : (cs ++ pad).take (n * sz + 0) = cs := by rw [Nat.add_zero, ← hlen]; simp
        have e2 : (cs ++ pad).drop (n * sz + 0 + new.length) = pad.drop (k * sz) := by
          rw [List.drop_append, hnew, ← hlen]; simp [List.drop_eq_nil_of_le]
        rw [e1, e2] at h4
        refine HS.unfocus hi (HS.orowOf (pad := pad.drop (k * sz)) (fr := fr) ?_ ?_ h4)
        · simp; omega
        · rcases hf with rfl | hf
          · exact .inl rfl
          · right; simp; omega
  · -- it grows
    have hcap := nextcap_le (need := n + k) (cap := cap) (by omega)
    have hnc : ¬ (2 ^ 48 < Builtin.nextslicecap (n + k) cap * by_) := by
      have : Builtin.nextslicecap (n + k) cap * by_ ≤ 2 * (n + k) * by_ := Nat.mul_le_mul_right _ hcap
      have h5 : 2 * (n + k) * by_ = 2 * ((n + k) * by_) := by rw [Nat.mul_assoc]
      omega
    have hnn : ¬ (9223372036854775807 < (n : Int) + (k : Int) ∧ j.bytes = 0) := by omega
    have hold : ∀ w', HS C.g own K w' → (Builtin.firstCells sz n (.slice A n cap)).run C.P w' = .ok cs.toArray w' := fun w' hS' => by
      rcases (hS'.focus hi).orow with ⟨rfl, rfl, rfl, h'⟩ | ⟨b, pad, fr, rfl, hl, hf, h'⟩
      · simp [Builtin.firstCells]
      · have := run_loadCells_list (P := C.P) w' (ad b 0) cs (fun q x hx => by
          have hq : q < cs.length := by
            rcases Nat.lt_or_ge q cs.length with h | h
            · exact h
            · rw [List.getElem?_eq_none h] at hx; cases hx
          rw [add_mk]
          exact cell_of h'.pt (by simp [List.getElem?_append_left hq, hx]))
        rw [hlen] at this
        simpa [Builtin.firstCells] using this
    obtain ⟨newCap, hnew1, hnew2⟩ : ∃ q, q = (Question.appendCap (n + k) cap el).cut (w.tape w.drawn (.appendCap (n + k) cap el)) ∧ n + k ≤ q := ⟨_, rfl, by simp [Question.cut]⟩
    have hSd : HS C.g own K w.drew := hS.same rfl rfl rfl
    have ho := hold _ hSd
    have h2d := hsrc.2 _ _ hSd
    let w' : World := World.alloc w.drew (.cells (cs.toArray ++ (new.toArray ++ Builtin.zeroCells z.cells (newCap - (n + k)))) el)
    refine ⟨some (ad w.heap.size 0), newCap, w', ?_, ?_, hnew2⟩
    · have hnc' : ¬ (2 ^ 48 < Builtin.nextslicecap (n + k) cap * j.bytes) := by rw [hjb]; exact hnc
      simp only [Builtin.append_]
      rcases hu2 with ⟨el', hu2⟩ | hu2 <;>
        simp [run_underlying hu, run_underlying hu2, sizeOf, typeInfo, zeroValue, hj, hjz, h3, hjs, hroom, hnc', hnn, Question.forced, ← hnew1, ho, h2d, newRow, w']
    · have h4 := ((hSd.focus hi).alloc (.cells (cs.toArray ++ (new.toArray ++ Builtin.zeroCells z.cells (newCap - (n + k)))) el))
      have h5 := (h4.perm (List.Perm.swap _ _ _)).drop
      have hzs := zeroCells_size z.cells (newCap - (n + k))
      rw [hz] at hzs
      have e1 : cs.toArray ++ (new.toArray ++ Builtin.zeroCells z.cells (newCap - (n + k))) = ((cs ++ new) ++ (Builtin.zeroCells z.cells (newCap - (n + k))).toList).toArray := by
        apply Array.ext'; simp
      have h6 : HS C.g (Pt w.heap.size (.cells ((cs ++ new) ++ (Builtin.zeroCells z.cells (newCap - (n + k))).toList).toArray el (0, 0)) :: own.eraseIdx i) K w' := by
        rw [← e1]; exact h5
      refine HS.unfocus hi (HS.orowOf (pad := (Builtin.zeroCells z.cells (newCap - (n + k))).toList) (fr := (0, 0)) ?_ (.inl rfl) h6)
      simp only [List.length_append, Array.length_toList, hzs, hlen, hnew]
      rw [← Nat.add_mul, ← Nat.add_mul]
      congr 1; omega

theorem e_append {C : Cx} {e : Env} {own : List SP} {K : PH → Prop} (i : Nat) {t u el ty : TypeId} {x y : Operand} {v : Value} {A : Option Addr} {n cap sz by_ k : Nat} {z : Value} {cs new : List Value}
    (hx : ev e x = some (.slice A n cap)) (hy : ev e y = some v) (hsrc : Src C.P own K sz v k new) (hi : own[i]? = some (ORow A cap el sz cs)) (hu : Und C.P t (.slice el)) (hu2 : (∃ el', Und C.P u (.slice el')) ∨ Und C.P u .string)
    (hinf : Inf C.P el sz by_ z) (hz : z.cells.size = sz) (hlen : cs.length = n * sz) (hnew : new.length = k * sz) (h1 : Ones new) (hb : (n + k) * by_ ≤ 140737488355328 ∧ n + k ≤ 4611686018427387904) :
    EO C (.call { callee := .builtin .append, args := #[x, y], argTypes := #[t, u] }) ty e own K
      (fun r own' K' => ∃ A' cap', r = .slice A' (n + k) cap' ∧ own' = own.set i (ORow A' cap' el sz (cs ++ new)) ∧ K = K' ∧ n + k ≤ cap') :=
  EO.of_run (by simp) fun a w hA hS => by
    obtain ⟨A', cap', w', hr, hS', hle⟩ := run_append (ty := ty) i hS hsrc hi hu hu2 hinf hz hlen hnew h1 hb
    refine ⟨_, _, _, w', ⟨A', cap', rfl, rfl, rfl, hle⟩, hS', .inl ?_⟩
    simp only [execOp, op0]
    simp [resolve, invoke, builtin, hA.ev hx, hA.ev hy, hr]
end
end Go.Proofs.Sl
