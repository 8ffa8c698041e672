/- More memory: made, copied, put together. -/
import Derived.Test.YtimokikpnngikaaSlE
namespace Go.Proofs.Sl
open Go
section
variable {C : Cx} {e : Env} {own : List SP} {K : PH → Prop} {ty : TypeId}

theorem range_flat (z : List Value) (hz : 0 < z.length) : ∀ n, ((List.range (n * z.length)).map fun i => z[i % z.length]!) = (List.replicate n z).flatten
  | 0 => by simp
  | n + 1 => by
    rw [Nat.succ_mul, List.range_add, List.map_append, range_flat z hz n, List.replicate_succ', List.flatten_append]
    congr 1
    simp only [List.flatten_cons, List.flatten_nil, List.append_nil, List.map_map]
    apply List.ext_getElem
    · simp
    · intro i h1 h2
      simp at h1
      simp [Nat.add_comm, Nat.mod_eq_of_lt h1, h1]

theorem range_cells (z : Array Value) (hz : 0 < z.size) (n : Nat) : ((Array.range (n * z.size)).map fun i => z[i % z.size]!) = ((List.replicate n z.toList).flatten).toArray := by
  apply Array.ext'
  have := range_flat z.toList (by simpa using hz) n
  simp only [Array.length_toList] at this
  rw [← this]
  simp only [Array.toList_map, Array.toList_range]
  apply List.map_congr_left
  intro i _
  rw [getElem!_def, getElem!_def]
  simp

theorem range0 (f : Nat → Value) : Array.map f (Array.range 0) = #[] := by apply Array.ext'; simp

/-- make([]T, n, c) -/
theorem e_makeSlice {t el : TypeId} {sz by_ : Nat} {z : Value} {x y : Operand} {n c : Nat} (hx : ev e x = some (.int .i64 n)) (hy : ev e y = some (.int .i64 c)) (hu : Und C.P t (.slice el)) (hi : Inf C.P el sz by_ z)
    (hz : z.cells.size = sz) (hsz : 0 < sz) (hn : n ≤ c) (hc : c * by_ ≤ 140737488355328 ∧ c ≤ 4611686018427387904) :
    EO C (.makeSlice t x y) ty e own K (fun v own' K' => ∃ A, v = .slice A n c ∧ own' = ORow A c el sz ((List.replicate n z.cells.toList).flatten) :: own ∧ K = K') := by
  refine EO.of_run (by simp) fun a w hA hS => ?_
  obtain ⟨j, hj, hjz, hjs, hjb⟩ := hi.info
  refine ⟨_, _, _, w.alloc (.cells ((List.replicate c z.cells.toList).flatten).toArray el), ⟨some (ad w.heap.size 0), rfl, rfl, rfl⟩, ?_, .inl ?_⟩
  · have e1 : (List.replicate c z.cells.toList).flatten = (List.replicate n z.cells.toList).flatten ++ (List.replicate (c - n) z.cells.toList).flatten := by
      rw [← List.flatten_append, List.replicate_append_replicate]; congr 2; omega
    have h1 := hS.alloc (.cells ((List.replicate c z.cells.toList).flatten).toArray el)
    rw [e1] at h1 ⊢
    refine HS.orowOf (pad := (List.replicate (c - n) z.cells.toList).flatten) (fr := (0, 0)) ?_ (.inl rfl) h1
    simp [List.length_flatten, hz]
    rw [← Nat.add_mul]; congr 1; omega
  · have hwn : IntKind.i64.wrap (n : Int) = n := wrap64' ⟨by omega, by omega⟩
    have hwc : IntKind.i64.wrap (c : Int) = c := wrap64' ⟨by omega, by omega⟩
    have h48 : ¬ ((281474976710656 : Int) < (j.bytes : Int) * (c : Int)) := by
      rw [hjb]
      have : ((by_ * c : Nat) : Int) ≤ 140737488355328 := by rw [Nat.mul_comm]; omega
      rw [Int.natCast_mul] at this
      omega
    have hcn : ¬ ((c : Int) < n) := by omega
    have hrc := range_cells z.cells (by omega) c
    rw [hz] at hrc
    simp only [execOp, op0, hA.ev hx, hA.ev hy]
    by_cases hc0 : c = 0
    · subst hc0
      have : n = 0 := by omega
      subst this
      have h0 : IntKind.i64.wrap 0 = 0 := by decide
      simp [Instr.makeSlice, hu.run, asInt, asIntOf, typeInfo, hj, h0, askRoom, sizeOf, newRow, range0]
    · have hne : ¬ (c * sz = 0) := by
        have : 0 < c * sz := Nat.mul_pos (by omega) hsz
        omega
      simp [Instr.makeSlice, hu.run, asInt, asIntOf, typeInfo, hj, hwn, hwc, hcn, askRoom, sizeOf, hjs, hjz, zeroValue, newRow, hne]
      rw [if_neg (by rintro ((h | h) | h) <;> first | omega | exact h48 h), hz, hrc]

theorem flat1 (n : Nat) (v : Value) : (List.replicate n [v]).flatten = List.replicate n v := by
  induction n with
  | zero => rfl
  | succ n ih => rw [List.replicate_succ, List.flatten_cons, ih, List.replicate_succ]; rfl

/-- Of elements of one cell; the numbers as they stand. -/
theorem e_makeSlice1 (n c : Nat) {t el : TypeId} {by_ : Nat} {z : Value} {x y : Operand} {m l : Int} (hx : ev e x = some (.int .i64 m)) (hy : ev e y = some (.int .i64 l)) (hm : m = n) (hl : l = c) (hu : Und C.P t (.slice el)) (hi : Inf C.P el 1 by_ z)
    (hz : z.cells = #[z]) (hn : n ≤ c) (hc : c * by_ ≤ 140737488355328 ∧ c ≤ 4611686018427387904) :
    EO C (.makeSlice t x y) ty e own K (fun v own' K' => ∃ A, v = .slice A n c ∧ own' = ORow A c el 1 (List.replicate n z) :: own ∧ K = K') := by
  subst hm; subst hl
  have := e_makeSlice (C := C) (own := own) (K := K) (ty := ty) hx hy hu hi (by rw [hz]; rfl) (by omega) hn hc
  rw [hz] at this
  simpa only [flat1] using this

/-- A row of one's own, looked at. -/
theorem HS.orowSrc {g : Os × Array (Nat × ByteArray)} {w : World} (i : Nat) {A : Option Addr} {cap : Nat} {T : TypeId} {sz : Nat} {cs : List Value} (h : HS g own K w) (hi : own[i]? = some (ORow A cap T sz cs)) :
    (cs = [] ∧ ∀ a, A = some a → a.spot = none) ∨ ∃ b o, A = some (ad b o) ∧ ∀ j x, cs[j]? = some x → w.cell? (ad b (o + j)) = some x := by
  rcases (h.focus hi).orow with ⟨rfl, rfl, rfl, _⟩ | ⟨b, pad, fr, rfl, hl, hf, h'⟩
  · exact .inl ⟨rfl, fun a ha => by cases ha⟩
  · refine .inr ⟨b, 0, rfl, fun j x hx => ?_⟩
    have hq : j < cs.length := by
      rcases Nat.lt_or_ge j cs.length with h | h
      · exact h
      · rw [List.getElem?_eq_none h] at hx; cases hx
    exact cell_of h'.pt (by simp [List.getElem?_append_left hq, hx])

theorem Src.row {P : Program} {sz k n cap : Nat} {A : Option Addr} {cs : List Value} (hr : Ent K (Row A cs)) (hk : cs.length = k * sz) (hn : n = k) : Src P own K sz (.slice A n cap) k cs := by
  subst hn
  refine ⟨fun w => by simp [Builtin.lenOf], fun g w hS => ?_⟩
  rcases Row.look hr hS with ⟨rfl, _⟩ | ⟨b, o, rfl, hc⟩
  · have h0 : n * sz = 0 := by simpa using hk.symm
    cases A <;> simp [Builtin.firstCells, h0, loadCells, loadCellsFrom]
  · have := run_loadCells_list (P := P) w (ad b o) cs (fun q x hx => by rw [add_mk]; exact hc q x hx)
    rw [hk] at this
    simpa [Builtin.firstCells] using this

theorem Src.pt (i : Nat) {P : Program} {sz k n cap b o : Nat} {cs : List Value} {T : TypeId} {fr : Nat × Nat} (hi : own[i]? = some (Pt b (.cells cs.toArray T fr))) (hk : o + k * sz ≤ cs.length) (hn : n = k) : Src P own K sz (.slice (some (ad b o)) n cap) k ((cs.drop o).take (k * sz)) := by
  subst hn
  refine ⟨fun w => by simp [Builtin.lenOf], fun g w hS => ?_⟩
  have h1 : ((cs.drop o).take (n * sz)).length = n * sz := by simp; omega
  have := run_loadCells_list (P := P) w (ad b o) ((cs.drop o).take (n * sz)) (fun q x hx => by exact Cells.ptPart (K := K) i o (n * sz) hi q x hx g w hS)
  rw [h1] at this
  simpa [Builtin.firstCells] using this

theorem Src.orow (i : Nat) {P : Program} {sz k n cap : Nat} {A : Option Addr} {cs : List Value} {T : TypeId} {cap' : Nat} (hi : own[i]? = some (ORow A cap T sz cs)) (hk : cs.length = k * sz) (hn : n = k) : Src P own K sz (.slice A n cap') k cs := by
  subst hn
  refine ⟨fun w => by simp [Builtin.lenOf], fun g w hS => ?_⟩
  rcases (hS.focus hi).orow with ⟨rfl, rfl, rfl, _⟩ | ⟨b, pad, fr, rfl, hl, hf, h'⟩
  · simp [Builtin.firstCells]
  · have := run_loadCells_list (P := P) w (ad b 0) cs (fun q x hx => by
      have hq : q < cs.length := by
        rcases Nat.lt_or_ge q cs.length with h | h
        · exact h
        · rw [List.getElem?_eq_none h] at hx; cases hx
      rw [add_mk]
      exact cell_of h'.pt (by simp [List.getElem?_append_left hq, hx]))
    rw [hk] at this
    simpa [Builtin.firstCells] using this

theorem Src.str {P : Program} {l : List UInt8} {k : Nat} (hk : l.length = k) : Src P own K 1 (.string (bs l)) k (l.map bv) := by
  subst hk
  refine ⟨fun w => by simp [Builtin.lenOf]; rfl, fun g w hS => ?_⟩
  have : (bs l).extract 0 l.length = bs l := by
    apply bytes_eq
    rw [Lib.extract_data]; simp [bs]
  simp [Builtin.firstCells, this]
  simp [bs]
  intro a _; rfl

theorem ones_bv (l : List UInt8) : Ones (l.map bv) := fun v hv => by
  simp at hv; obtain ⟨b, _, rfl⟩ := hv; rfl

/-- A literal slice. -/
theorem e_buildSlice {t el : TypeId} {sz by_ n : Nat} {z : Value} {ps : List (Nat × Operand)} {vs : List (Nat × Value)} {cells : Array Value} (hp : evp e ps = some vs) (hu : Und C.P t (.slice el)) (hi : Inf C.P el sz by_ z) (hz : z.cells.size = sz) (hsz : 0 < sz)
    (hn : n * sz ≤ 16777216) (hf : Instr.fill (fun i => some (i * sz, sz)) ((List.replicate n z.cells.toList).flatten).toArray vs = some cells) :
    EO C (.buildSlice t n ps.toArray) ty e own K (fun v own' K' => ∃ b, v = .slice (some (ad b 0)) n n ∧ own' = Pt b (.cells cells el (0, 0)) :: own ∧ K = K') := by
  refine EO.of_run (by simp) fun a w hA hS => ⟨_, _, _, w.alloc (.cells cells el), ⟨w.heap.size, rfl, rfl, rfl⟩, hS.alloc _, .inl ?_⟩
  obtain ⟨j, hj, hjz, hjs, hjb⟩ := hi.info
  have hm : ps.toArray.map (fun (i, x) => (i, a.eval x)) = vs.toArray := by rw [List.map_toArray, hA.evp hp]
  have hrc := range_cells z.cells (by omega) n
  rw [hz] at hrc
  simp only [execOp, op0]
  rw [hm]
  have h24 : ¬ (2 ^ 24 < n * sz) := by omega
  by_cases hn0 : n = 0
  · subst hn0
    simp at hf
    simp [Instr.buildSlice, hu.run, sizeOf, typeInfo, hj, hjs, newRow]
    simp [range0, hf]
  · have hne : ¬ (n * sz = 0) := by
      have : 0 < n * sz := Nat.mul_pos (by omega) hsz
      omega
    have hsz0 : ¬ (sz = 0) := by omega
    simp only [Instr.buildSlice, Sem.run_bind, hu.run, Result.andThen, hi.size]
    rw [if_neg h24]
    simp [hne, hi.zero, hz, hrc, hf, newRow]

/-- copy(dst, src), into a row of one's own. -/
theorem e_copy (i : Nat) {t u el : TypeId} {x y : Operand} {v : Value} {A : Option Addr} {n cap sz by_ k : Nat} {z : Value} {cs new : List Value} (hx : ev e x = some (.slice A n cap)) (hy : ev e y = some v)
    (hsrc : Src C.P own K sz v k new) (hi : own[i]? = some (ORow A cap el sz cs)) (hu : Und C.P t (.slice el)) (hinf : Inf C.P el sz by_ z) (hlen : cs.length = n * sz) (hnew : new.length = k * sz) (hk : k ≤ n) (h1 : Ones new) :
    EO C (.call { callee := .builtin .copy, args := #[x, y], argTypes := #[t, u] }) ty e own K (Ret (.int .i64 k) (own.set i (ORow A cap el sz (new ++ cs.drop (k * sz)))) K) := by
  refine EO.of_run (by simp) fun a w hA hS => ?_
  obtain ⟨j, hj, hjz, hjs, hjb⟩ := hinf.info
  have h2 := hsrc.2 _ _ hS
  have h3 := hsrc.1 w
  have hmin : Nat.min k n = k := Nat.min_eq_left hk
  rcases (hS.focus hi).orow with ⟨rfl, rfl, rfl, h'⟩ | ⟨b, pad, fr, rfl, hl, hf, h'⟩
  · refine ⟨_, _, K, w, ⟨rfl, rfl, rfl⟩, ?_, .inl ?_⟩
    · have hkz : k * sz = 0 := by
        have : n * sz = 0 := by simpa using hlen.symm
        have : k * sz ≤ n * sz := Nat.mul_le_mul_right _ hk
        omega
      have hn0 : new = [] := by rw [hkz] at hnew; simpa using hnew
      subst hn0
      have := (h'.orowNil el sz).unfocus hi
      simpa using this
    · simp only [execOp, op0]
      simp [resolve, invoke, builtin, hA.ev hx, hA.ev hy, Builtin.copy_, hu.run, h3, hmin, sizeOf, typeInfo, hj, hjs, h2, goInt]
  · have hbb := h'.pt
    simp only [List.length_append] at hl hf
    have hkn : k * sz ≤ n * sz := Nat.mul_le_mul_right _ hk
    obtain ⟨w', hr, hos, hout, hb', hx'⟩ := run_storeBlock (P := C.P) b el fr new 0 0 (cs ++ pad) w hbb (by simp; omega)
      (fun q h1 h2 => by rcases hf with rfl | hf <;> simp <;> omega) h1
    refine ⟨_, _, K, w', ⟨rfl, rfl, rfl⟩, ?_, .inl ?_⟩
    · have h4 := h'.turn hos hout hb' hx'
      have e2 : (cs ++ pad).drop (0 + 0 + new.length) = cs.drop (k * sz) ++ pad := by
        rw [List.drop_append, hnew]
        have : k * sz - cs.length = 0 := by omega
        simp [this]
      rw [e2] at h4
      simp only [Nat.add_zero, List.take_zero, List.nil_append] at h4
      rw [← List.append_assoc] at h4
      refine HS.unfocus hi (HS.orowOf (pad := pad) (fr := fr) ?_ ?_ h4)
      · simp; omega
      · rcases hf with rfl | hf
        · exact .inl rfl
        · right; simp; omega
    · have hr' : (storeCells (ad b 0) new).run C.P w = .ok () w' := hr
      simp only [execOp, op0]
      simp [resolve, invoke, builtin, hA.ev hx, hA.ev hy, Builtin.copy_, hu.run, h3, hmin, sizeOf, typeInfo, hj, hjs, h2, goInt, hr']

/-- A store into a row of one's own, of one cell. -/
theorem e_storeO (i : Nat) {t : TypeId} {by_ : Nat} {z : Value} {x y : Operand} {A : Option Addr} {o cap sz : Nat} {cs : List Value} {T : TypeId} {v : Value} (hx : ev e x = some (.pointer (some (adr A o)))) (hy : ev e y = some v)
    (hi : own[i]? = some (ORow A cap T sz cs)) (ht : Inf C.P t 1 by_ z) (h1 : v.oneCell' = true) (hl : o < cs.length) :
    EO C (.store t x y) ty e own K (Ret undef (own.set i (ORow A cap T sz (cs.set o v))) K) := by
  refine EO.of_run (by simp) fun a w hA hS => ?_
  rcases (hS.focus hi).orow with ⟨_, _, rfl, _⟩ | ⟨b, pad, fr, rfl, hlc, hf, h'⟩
  · simp at hl
  have hbb := h'.pt
  obtain ⟨w', hr, hos, hout, hb', hx'⟩ := run_storeBlock (P := C.P) b T fr [v] o 0 (cs ++ pad) w hbb (by simp; omega)
    (fun q h1 h2 => by
      simp at h2 hf
      rcases hf with rfl | hf <;> simp <;> omega) (fun u hu => by simp at hu; subst hu; exact h1)
  refine ⟨undef, _, K, w', ⟨rfl, rfl, rfl⟩, ?_, .inr ⟨?_, rfl⟩⟩
  · have h4 := h'.turn hos hout hb' hx'
    have e1 : (cs ++ pad).take (o + 0) ++ [v] ++ (cs ++ pad).drop (o + 0 + [v].length) = cs.set o v ++ pad := by
      rw [List.set_eq_take_append_cons_drop, if_pos hl]
      simp [List.take_append, List.drop_append, show o - cs.length = 0 by omega, show o + 1 - cs.length = 0 by omega]
    rw [e1] at h4
    refine HS.unfocus hi (HS.orowOf (pad := pad) (fr := fr) ?_ ?_ h4)
    · simpa using hlc
    · simpa using hf
  · have hr' : (storeCells (ad b o) [v]).run C.P w = .ok () w' := hr
    have hadr : adr (some (ad b 0)) o = ad b o := by simp [adr, add_mk]
    rw [hadr] at hx
    simp only [execOp, op0, hA.ev hx, hA.ev hy]
    simp [Instr.storeAt, Instr.sureAddr, storeVar, ht.size, cells_one h1, hr']
end
end Go.Proofs.Sl
