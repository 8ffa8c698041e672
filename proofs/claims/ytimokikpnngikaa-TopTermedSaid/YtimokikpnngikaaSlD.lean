/- Addresses, cells, rows. -/
import Derived.Test.YtimokikpnngikaaSlC
import Derived.Laws.Tables
import Derived.Laws.Pointers
import Derived.Lib.Strings
namespace Go.Proofs.Sl
open Go

abbrev ad (b o : Nat) : Addr := ⟨b, o, none⟩
theorem add_mk (b o n : Nat) : (ad b o).add n = ad b (o + n) := by
  unfold Addr.add ad; split
  · subst_vars; rfl
  · rfl

theorem cell_of {w : World} {b o : Nat} {c : Array Value} {T : TypeId} {fr : Nat × Nat} {v : Value} (h : w.heap[b]? = some (.cells c T fr)) (hv : c[o]? = some v) : w.cell? (ad b o) = some v := by
  simp [World.cell?, h, hv]

/-- A cell's content is known. -/
def Cell (own : List SP) (K : PH → Prop) (a : Addr) (v : Value) : Prop := ∀ g w, HS g own K w → w.cell? a = some v
def Cells (own : List SP) (K : PH → Prop) (a : Addr) (vs : List Value) : Prop := ∀ j v, vs[j]? = some v → Cell own K (a.add j) v

/-- A row of cells that stays. -/
def Row (A : Option Addr) (cs : List Value) : PH → Prop := fun H =>
  (cs = [] ∧ ∀ a, A = some a → a.spot = none) ∨ ∃ b o, A = some (ad b o) ∧ ∃ c T fr, H b = some (.cells c T fr) ∧ ∀ j x, cs[j]? = some x → c[o + j]? = some x

def adr (A : Option Addr) (off : Nat) : Addr := match A with
  | some a => a.add off
  | none => ad 0 0

theorem Row.mono (A : Option Addr) (cs : List Value) {H H' : PH} (s : PH.sub H H') (h : Row A cs H) : Row A cs H' := by
  rcases h with h | ⟨b, o, e, c, T, fr, hb, hc⟩
  · exact .inl h
  · exact .inr ⟨b, o, e, c, T, fr, s _ _ hb, hc⟩

section
variable {own : List SP} {K : PH → Prop}

theorem Cell.pt (i : Nat) {b o : Nat} {c : Array Value} {T : TypeId} {fr : Nat × Nat} {v : Value} (hi : own[i]? = some (Pt b (.cells c T fr))) (hv : c[o]? = some v) : Cell own K (ad b o) v :=
  fun _ _ h => cell_of (h.ptAt hi) hv

theorem Cells.pt (i : Nat) {b : Nat} {cs : List Value} {T : TypeId} {fr : Nat × Nat} (hi : own[i]? = some (Pt b (.cells cs.toArray T fr))) : Cells own K (ad b 0) cs :=
  fun j v hv g w h => by rw [add_mk]; exact cell_of (h.ptAt hi) (by simpa using hv)

theorem Cells.ptPart (i : Nat) {b : Nat} (o n : Nat) {cs : List Value} {T : TypeId} {fr : Nat × Nat} (hi : own[i]? = some (Pt b (.cells cs.toArray T fr))) : Cells own K (ad b o) ((cs.drop o).take n) :=
  fun j v hv g w h => by
    rw [add_mk]
    refine cell_of (h.ptAt hi) ?_
    rw [List.getElem?_take] at hv
    split at hv
    · simpa using hv
    · cases hv

theorem Row.look {A : Option Addr} {cs : List Value} (hr : Ent K (Row A cs)) {g : Os × Array (Nat × ByteArray)} {w : World} (h : HS g own K w) :
    (cs = [] ∧ ∀ a, A = some a → a.spot = none) ∨ ∃ b o, A = some (ad b o) ∧ ∀ j x, cs[j]? = some x → w.cell? (ad b (o + j)) = some x := by
  obtain ⟨H, hK, hs⟩ := h.look
  rcases hr H hK with h0 | ⟨b, o, e, c, T, fr, hb, hc⟩
  · exact .inl h0
  · exact .inr ⟨b, o, e, fun j x hx => cell_of (hs _ _ hb) (hc j x hx)⟩

theorem Cell.row {A : Option Addr} {cs : List Value} (hr : Ent K (Row A cs)) {j : Nat} {v : Value} (hv : cs[j]? = some v) : Cell own K (adr A j) v := by
  intro g w h
  rcases Row.look hr h with ⟨rfl, _⟩ | ⟨b, o, rfl, hc⟩
  · simp at hv
  · simp only [adr, add_mk]; exact hc j v hv

theorem Cells.row {A : Option Addr} {cs : List Value} (hr : Ent K (Row A cs)) {o n : Nat} : Cells own K (adr A o) ((cs.drop o).take n) := by
  intro j v hv g w h
  rw [List.getElem?_take] at hv
  split at hv
  · rw [List.getElem?_drop] at hv
    rcases Row.look hr h with ⟨rfl, _⟩ | ⟨b, o', rfl, hc⟩
    · simp at hv
    · simp only [adr, add_mk]; rw [Nat.add_assoc]; exact hc _ _ hv
  · cases hv
end

/-! ### Types' tables -/
def fOff (P : Program) (s : TypeId) (f : Nat) : Option Nat := match P.underlying s with
  | some (.struct fs) => match fs[f]? with
    | some fd => match P.info? fd.type with
      | some i => if i.size = 0 then none else some fd.offset
      | none => none
    | none => none
  | _ => none
def FOff (P : Program) (s : TypeId) (f off : Nat) : Prop := fOff P s f = some off

/-- Of a field: is it an aggregate; its place; its size. -/
def fVal (P : Program) (s : TypeId) (f : Nat) : Option (Bool × Nat × Nat) := match P.underlying s with
  | some (.struct fs) => match fs[f]? with
    | some fd => match P.info? fd.type, P.underlying fd.type with
      | some i, some (.struct _) | some i, some (.array _ _) => some (true, fd.offset, i.size)
      | some i, some _ => some (false, fd.offset, i.size)
      | _, _ => none
    | none => none
  | _ => none
def FVal (P : Program) (s : TypeId) (f : Nat) (b : Bool) (off sz : Nat) : Prop := fVal P s f = some (b, off, sz)

section
variable {P : Program} {w : World}
theorem FOff.run {s : TypeId} {f off b o : Nat} (h : FOff P s f off) : (Instr.fieldAt s (.pointer (some (ad b o))) f).run P w = .ok (.pointer (some (ad b (o + off)))) w := by
  unfold FOff fOff at h
  cases hu : P.underlying s with
  | none => rw [hu] at h; cases h
  | some d =>
    rw [hu] at h
    cases d with
    | struct fs =>
      simp only at h
      cases hf : fs[f]? with
      | none => rw [hf] at h; cases h
      | some fd =>
        rw [hf] at h
        simp only at h
        cases hi : P.info? fd.type with
        | none => rw [hi] at h; cases h
        | some i =>
          rw [hi] at h
          simp only at h
          split at h
          · cases h
          · rename_i hne
            cases h
            simp [Instr.fieldAt, run_underlying hu, hf, Instr.sureAddr, fieldPlace, sizeOf, typeInfo, hi, hne]
            exact add_mk b o fd.offset
    | _ => cases h

theorem FVal.run1 {s : TypeId} {f off sz : Nat} {cs : Array Value} {v : Value} (h : FVal P s f false off sz) (hv : cs[off]? = some v) : (Instr.field s (.agg cs) f).run P w = .ok v w := by
  unfold FVal fVal at h
  cases hu : P.underlying s with
  | none => rw [hu] at h; cases h
  | some d =>
    rw [hu] at h
    cases d with
    | struct fs =>
      simp only at h
      cases hf : fs[f]? with
      | none => rw [hf] at h; cases h
      | some fd =>
        rw [hf] at h
        simp only at h
        cases hi : P.info? fd.type with
        | none => rw [hi] at h; cases h
        | some i =>
          rw [hi] at h
          cases hd : P.underlying fd.type with
          | none => rw [hd] at h; cases h
          | some d' =>
            rw [hd] at h
            cases d' <;> simp at h <;> (obtain ⟨rfl, rfl⟩ := h; simp [Instr.field, run_underlying hu, hf, asAgg, part, isAgg, run_underlying hd, hv])
    | _ => cases h

theorem FVal.runA {s : TypeId} {f off sz : Nat} {cs : Array Value} (h : FVal P s f true off sz) : (Instr.field s (.agg cs) f).run P w = .ok (.agg (cs.extract off (off + sz))) w := by
  unfold FVal fVal at h
  cases hu : P.underlying s with
  | none => rw [hu] at h; cases h
  | some d =>
    rw [hu] at h
    cases d with
    | struct fs =>
      simp only at h
      cases hf : fs[f]? with
      | none => rw [hf] at h; cases h
      | some fd =>
        rw [hf] at h
        simp only at h
        cases hi : P.info? fd.type with
        | none => rw [hi] at h; cases h
        | some i =>
          rw [hi] at h
          cases hd : P.underlying fd.type with
          | none => rw [hd] at h; cases h
          | some d' =>
            rw [hd] at h
            cases d' <;> simp at h <;> (obtain ⟨rfl, rfl⟩ := h; simp [Instr.field, run_underlying hu, hf, asAgg, part, isAgg, run_underlying hd, sizeOf, typeInfo, hi])
    | _ => cases h
end

section
variable {C : Cx} {e : Env} {own : List SP} {K : PH → Prop} {ty : TypeId} {P : Program}

theorem q_nil {x : Operand} {a : Addr} (hx : ev e x = some (.pointer (some a))) : QO C (.nilCheck x) ty e own K (.pointer (some a)) :=
  ⟨by simp, fun _ w hA _ => by simp [execOp, op0, hA.ev hx]⟩
theorem q_fieldAddr {s : TypeId} {x : Operand} {f off b o : Nat} (hx : ev e x = some (.pointer (some (ad b o)))) (hf : FOff C.P s f off) : QO C (.fieldAddr s x f) ty e own K (.pointer (some (ad b (o + off)))) :=
  ⟨by simp, fun a w hA _ => by simp [execOp, op0, hA.ev hx, hf.run]⟩
theorem q_field1 {s : TypeId} {x : Operand} {f off sz : Nat} {cs : Array Value} {v : Value} (hx : ev e x = some (.agg cs)) (hf : FVal C.P s f false off sz) (hv : cs[off]? = some v) : QO C (.field s x f) ty e own K v :=
  ⟨by simp, fun a w hA _ => by simp [execOp, op0, hA.ev hx, hf.run1 hv]⟩
theorem q_fieldA {s : TypeId} {x : Operand} {f off sz : Nat} {cs : Array Value} (hx : ev e x = some (.agg cs)) (hf : FVal C.P s f true off sz) : QO C (.field s x f) ty e own K (.agg (cs.extract off (off + sz))) :=
  ⟨by simp, fun a w hA _ => by simp [execOp, op0, hA.ev hx, hf.runA]⟩

theorem q_load {t : TypeId} {x : Operand} {a : Addr} {v : Value} (hx : ev e x = some (.pointer (some a))) (ht : AggB C.P t false) (hc : Cell own K a v) : QO C (.load t x) ty e own K v :=
  ⟨by simp, fun _ w hA hS => by
    have h1 := hc _ _ hS
    simp [execOp, op0, hA.ev hx, Instr.loadAt, Instr.sureAddr, loadVar, ht.run, run_load, h1]⟩
theorem q_loadA {t : TypeId} {x : Operand} {a : Addr} {vs : List Value} {n by_ : Nat} {z : Value} (hx : ev e x = some (.pointer (some a))) (ht : AggB C.P t true) (hi : Inf C.P t n by_ z) (hc : Cells own K a vs) (hn : vs.length = n) :
    QO C (.load t x) ty e own K (.agg vs.toArray) :=
  ⟨by simp, fun _ w hA hS => by
    have h1 := run_loadCells_list (P := C.P) w a vs (fun j v hv => hc j v hv _ _ hS)
    rw [hn] at h1
    simp [execOp, op0, hA.ev hx, Instr.loadAt, Instr.sureAddr, loadVar, ht.run, hi.size, h1]⟩

theorem q_len {t el : TypeId} {x : Operand} {A : Option Addr} {n cap : Nat} (hx : ev e x = some (.slice A n cap)) (hu : Und C.P t (.slice el)) :
    QO C (.call { callee := .builtin .len, args := #[x], argTypes := #[t] }) ty e own K (.int .i64 n) :=
  ⟨by simp, fun _ w hA hS => by
    simp [execOp, op0, hA.ev hx, resolve, invoke, builtin, Builtin.len_, goInt, hu.run]⟩
theorem q_lenS {t : TypeId} {x : Operand} {s : ByteArray} (hx : ev e x = some (.string s)) (hu : Und C.P t .string) :
    QO C (.call { callee := .builtin .len, args := #[x], argTypes := #[t] }) ty e own K (.int .i64 s.size) :=
  ⟨by simp, fun _ w hA hS => by
    simp [execOp, op0, hA.ev hx, resolve, invoke, builtin, Builtin.len_, goInt, hu.run]⟩
theorem q_cap {t el : TypeId} {x : Operand} {A : Option Addr} {n cap : Nat} (hx : ev e x = some (.slice A n cap)) (hu : Und C.P t (.slice el)) :
    QO C (.call { callee := .builtin .cap, args := #[x], argTypes := #[t] }) ty e own K (.int .i64 cap) :=
  ⟨by simp, fun _ w hA hS => by
    simp [execOp, op0, hA.ev hx, resolve, invoke, builtin, Builtin.cap_, goInt, hu.run]⟩
/-! ### Elements -/
/-- What stands at the head of a row: an address, where there is an element. -/
def Based (own : List SP) (K : PH → Prop) (A : Option Addr) : Prop := ∀ g w, HS g own K w → ∃ b o, A = some (ad b o)
theorem Based.row {A : Option Addr} {cs : List Value} (hr : Ent K (Row A cs)) (h : 0 < cs.length) : Based own K A := fun g w hS => by
  rcases Row.look hr hS with ⟨rfl, _⟩ | ⟨b, o, e, _⟩
  · simp at h
  · exact ⟨b, o, e⟩
theorem Based.of (b o : Nat) : Based own K (some (ad b o)) := fun _ _ _ => ⟨b, o, rfl⟩

theorem q_indexAddr {t el : TypeId} {sz by_ : Nat} {z : Value} {x ix : Operand} {A : Option Addr} {n cap : Nat} {k : IntKind} {i : Int} (hx : ev e x = some (.slice A n cap)) (hi : ev e ix = some (.int k i))
    (hu : Und C.P t (.slice el)) (hs : Inf C.P el sz by_ z) (hb : Based own K A) (h : 0 ≤ i ∧ i < n) : QO C (.indexAddr t x ix) ty e own K (.pointer (some (adr A (i.toNat * sz)))) :=
  ⟨by simp, fun _ w hA hS => by
    obtain ⟨b, o, rfl⟩ := hb _ _ hS
    simp [execOp, op0, hA.ev hx, hA.ev hi, Instr.indexAt, asIntOf, hu.run, h, hs.size, adr]⟩
/-- Of an array behind an address. -/
theorem q_indexAddrA {t el : TypeId} {sz by_ len : Nat} {z : Value} {x ix : Operand} {b o : Nat} {k : IntKind} {i : Int} (hx : ev e x = some (.pointer (some (ad b o)))) (hi : ev e ix = some (.int k i))
    (hu : Und C.P t (.array len el)) (hs : Inf C.P el sz by_ z) (h : 0 ≤ i ∧ i < len) : QO C (.indexAddr t x ix) ty e own K (.pointer (some (ad b (o + i.toNat * sz)))) :=
  ⟨by simp, fun _ w hA hS => by
    simp [execOp, op0, hA.ev hx, hA.ev hi, Instr.indexAt, asIntOf, hu.run, h, hs.size, Instr.sureAddr]
    exact add_mk b o _⟩
/-- Of an array's value: a cell. -/
theorem q_index1 {t el : TypeId} {by_ len : Nat} {z v : Value} {x ix : Operand} {cs : Array Value} {k : IntKind} {i : Int} (hx : ev e x = some (.agg cs)) (hi : ev e ix = some (.int k i))
    (hu : Und C.P t (.array len el)) (ha : AggB C.P el false) (hs : Inf C.P el 1 by_ z) (h : 0 ≤ i ∧ i < len) (hv : cs[i.toNat]? = some v) : QO C (.index t x ix) ty e own K v :=
  ⟨by simp, fun _ w hA hS => by
    simp [execOp, op0, hA.ev hx, hA.ev hi, Instr.index, asIntOf, hu.run, h, hs.size, part, ha.run, hv]⟩
theorem q_indexS {t : TypeId} {x ix : Operand} {s : ByteArray} {k : IntKind} {i : Int} {b : UInt8} (hx : ev e x = some (.string s)) (hi : ev e ix = some (.int k i))
    (hu : Und C.P t .string) (h : 0 ≤ i) (hv : s[i.toNat]? = some b) : QO C (.index t x ix) ty e own K (.int .u8 b.toNat) :=
  ⟨by simp, fun _ w hA hS => by
    simp [execOp, op0, hA.ev hx, hA.ev hi, Instr.index, asIntOf, hu.run, h, hv]⟩

/-! ### Strings -/
def bs (l : List UInt8) : ByteArray := ⟨⟨l⟩⟩
def bv (b : UInt8) : Value := .int .u8 b.toNat

theorem q_addS {t u : TypeId} {x y : Operand} {a b : List UInt8} (hx : ev e x = some (.string (bs a))) (hy : ev e y = some (.string (bs b))) (h : a.length + b.length ≤ 9223372036854775807) :
    QO C (.binOp .add t x y u) ty e own K (.string (bs (a ++ b))) :=
  ⟨by simp, fun _ w hA hS => by
    have h1 : ¬ ((bs a).size + (bs b).size : Int) > IntKind.i64.max := by
      have h1 : (bs a).size = a.length := rfl
      have h2 : (bs b).size = b.length := rfl
      rw [h1, h2]; show ¬ _ > (9223372036854775807 : Int); omega
    have h2 : bs a ++ bs b = bs (a ++ b) := by
      apply ByteArray.ext; simp [bs]
    simp [execOp, op0, hA.ev hx, hA.ev hy, binOp, eqGuard, Op.stringOp]
    rw [if_neg (by simpa using h1), h2]⟩
theorem toList_bs (a : List UInt8) : (bs a).toList = a := ByteArray.toList_eq _
theorem beqL (a b : List UInt8) : (a == b) = decide (a = b) := by by_cases h : a = b <;> simp [h]
theorem bytes_eq {a b : ByteArray} (h : a.data.toList = b.data.toList) : a = b := by
  obtain ⟨⟨a⟩⟩ := a; obtain ⟨⟨b⟩⟩ := b; simp at h; rw [h]
theorem q_eqlS {t u : TypeId} {x y : Operand} {a b : List UInt8} (hx : ev e x = some (.string (bs a))) (hy : ev e y = some (.string (bs b))) : QO C (.binOp .eql t x y u) ty e own K (.bool (decide (a = b))) :=
  ⟨by simp, fun _ w hA hS => by
    simp [execOp, op0, hA.ev hx, hA.ev hy, binOp, eqGuard, Op.stringOp, toList_bs, beqL]⟩
theorem q_neqS {t u : TypeId} {x y : Operand} {a b : List UInt8} (hx : ev e x = some (.string (bs a))) (hy : ev e y = some (.string (bs b))) : QO C (.binOp .neq t x y u) ty e own K (.bool (decide (a ≠ b))) :=
  ⟨by simp, fun _ w hA hS => by
    simp [execOp, op0, hA.ev hx, hA.ev hy, binOp, eqGuard, Op.stringOp, toList_bs, beqL]⟩

/-- From bytes to a string: the bytes are looked at. -/
theorem q_b2s {s d el : TypeId} {x : Operand} {A : Option Addr} {cap : Nat} {l : List UInt8} (hx : ev e x = some (.slice A l.length cap)) (hs : Und C.P s (.slice el)) (he : Und C.P el (.int .u8)) (hd : Und C.P d .string)
    (hc : ∀ g w, HS g own K w → (l = [] ∧ (∀ a, A = some a → a.spot = none)) ∨ ∃ b o, A = some (ad b o) ∧ ∀ j y, (l.map bv)[j]? = some y → w.cell? (ad b (o + j)) = some y) : QO C (.convert s d x) ty e own K (.string (bs l)) :=
  ⟨by simp, fun _ w hA hS => by
    have h1 : (convert s d (.slice A l.length cap)).run C.P w = .ok (.string (bs l)) w := by
      rcases hc _ _ hS with ⟨rfl, hsp⟩ | ⟨b, o, rfl, hcell⟩
      · cases A with
        | none => rw [run_convert_bytes_nil w s el hs he _ _ d hd]; rfl
        | some a =>
          have := run_convert_bytes_arg (P := C.P) w s el hs he a.block a.off 0 cap [] rfl (fun i hi => by omega) d hd
          have ha : (⟨a.block, a.off, none⟩ : Addr) = a := by
            have := hsp a rfl
            cases a; simp_all
          rw [ha] at this
          show (convert s d (.slice (some a) 0 cap)).run C.P w = _
          rw [this]; simp [strOfNums, bs]
      · have := run_convert_bytes_arg (P := C.P) w s el hs he b o l.length cap (l.map fun b => (b.toNat : Int)) (by simp) (fun i hi => by
            have := hcell i (bv l[i]) (by simp [hi])
            rw [this]; simp [bv, List.getD, hi]) d hd
        rw [this]
        have hm : List.map ((fun n : Int => UInt8.ofNat n.toNat) ∘ fun b : UInt8 => (b.toNat : Int)) l = l := by
          rw [show ((fun n : Int => UInt8.ofNat n.toNat) ∘ fun b : UInt8 => (b.toNat : Int)) = id from by funext b; simp]; simp
        simp [strOfNums, bs, hm]
    simp [execOp, op0, hA.ev hx, h1]⟩
theorem q_b2sK {s d el : TypeId} {x : Operand} {A : Option Addr} {cap : Nat} {l : List UInt8} (hx : ev e x = some (.slice A l.length cap)) (hs : Und C.P s (.slice el)) (he : Und C.P el (.int .u8)) (hd : Und C.P d .string)
    (hr : Ent K (Row A (l.map bv))) : QO C (.convert s d x) ty e own K (.string (bs l)) :=
  q_b2s hx hs he hd fun g w hS => (Row.look hr hS).imp (fun ⟨a, b⟩ => ⟨by simpa using a, b⟩) id

/-! ### Slicing -/
def cutA (A : Option Addr) (cap sz l : Nat) : Option Addr := if cap = l then A else A.map (·.add (l * sz))

theorem q_slice {t el : TypeId} {sz by_ : Nat} {z : Value} {x : Operand} {lo hi : Option Operand} {A : Option Addr} {n cap : Nat} {l h : Nat} (hx : ev e x = some (.slice A n cap))
    (hlo : match lo with | some y => ∃ k i, ev e y = some (.int k i) ∧ i = (l : Int) | none => l = 0) (hhi : match hi with | some y => ∃ k i, ev e y = some (.int k i) ∧ i = (h : Int) | none => h = n)
    (hu : Und C.P t (.slice el)) (hs : Inf C.P el sz by_ z) (hle : l ≤ h ∧ h ≤ cap) : QO C (.slice t x lo hi none) ty e own K (.slice (cutA A cap sz l) (h - l) (cap - l)) := by
  refine ⟨by simp, fun _ w hA hS => ?_⟩
  obtain ⟨h1, h2⟩ := hle
  cases lo with
  | none =>
    subst hlo
    cases hi with
    | none =>
      subst hhi
      simp [execOp, op0, hA.ev hx, Instr.sliceAt, Instr.slice, Instr.sliceBounds, hu.run, hs.size, cutA]
    | some y =>
      obtain ⟨k, i, hy, rfl⟩ := hhi
      simp [execOp, op0, hA.ev hx, hA.ev hy, Instr.sliceAt, Instr.slice, Instr.sliceBounds, Instr.sliceBound, asIntOf, hu.run, hs.size, cutA, h2]
  | some y' =>
    obtain ⟨k', i', hy', rfl⟩ := hlo
    cases hi with
    | none =>
      subst hhi
      simp [execOp, op0, hA.ev hx, hA.ev hy', Instr.sliceAt, Instr.slice, Instr.sliceBounds, Instr.sliceBound, asIntOf, hu.run, hs.size, cutA, h1]
    | some y =>
      obtain ⟨k, i, hy, rfl⟩ := hhi
      simp [execOp, op0, hA.ev hx, hA.ev hy, hA.ev hy', Instr.sliceAt, Instr.slice, Instr.sliceBounds, Instr.sliceBound, asIntOf, hu.run, hs.size, cutA, h1, h2]

theorem Row.cut {A : Option Addr} {cs : List Value} {cap sz l h n : Nat} (hr : Ent K (Row A cs)) (hn : cs.length = n * sz) (hle : l ≤ h ∧ h ≤ n ∧ n ≤ cap) : Ent K (Row (cutA A cap sz l) ((cs.drop (l * sz)).take ((h - l) * sz))) := by
  intro H hK
  obtain ⟨h1, h2, h3⟩ := hle
  unfold cutA
  rcases hr H hK with ⟨rfl, hsp⟩ | ⟨b, o, rfl, c, T, fr, hb, hc⟩
  · refine .inl ⟨by simp, ?_⟩
    intro a ha
    split at ha
    · exact hsp a ha
    · cases A with
      | none => cases ha
      | some x =>
        have := hsp x rfl
        simp at ha; subst ha
        unfold Addr.add; split <;> simp [this]
  · split
    · rename_i hcl
      have : h - l = 0 := by omega
      exact .inl ⟨by simp [this], fun a ha => by cases ha; rfl⟩
    · refine .inr ⟨b, o + l * sz, by simp [add_mk], c, T, fr, hb, fun j x hx => ?_⟩
      rw [List.getElem?_take] at hx
      split at hx
      · rw [List.getElem?_drop] at hx
        rw [Nat.add_assoc]; exact hc _ _ hx
      · cases hx

theorem q_sliceS {t : TypeId} {x : Operand} {lo hi : Option Operand} {s : List UInt8} {l h : Nat} (hx : ev e x = some (.string (bs s)))
    (hlo : match lo with | some y => ∃ k i, ev e y = some (.int k i) ∧ i = (l : Int) | none => l = 0) (hhi : match hi with | some y => ∃ k i, ev e y = some (.int k i) ∧ i = (h : Int) | none => h = s.length)
    (hu : Und C.P t .string) (hle : l ≤ h ∧ h ≤ s.length) : QO C (.slice t x lo hi none) ty e own K (.string (bs ((s.drop l).take (h - l)))) := by
  refine ⟨by simp, fun _ w hA hS => ?_⟩
  obtain ⟨h1, h2⟩ := hle
  have hx' : (bs s).extract l h = bs ((s.drop l).take (h - l)) := by
    apply bytes_eq
    rw [Lib.extract_data]; rfl
  have hsz : (bs s).size = s.length := rfl
  cases lo with
  | none =>
    subst hlo
    cases hi with
    | none =>
      subst hhi
      simp only [Nat.sub_zero, List.drop_zero] at hx'
      simp [execOp, op0, hA.ev hx, Instr.sliceAt, Instr.slice, Instr.sliceBounds, hu.run, hsz, hx']
    | some y =>
      obtain ⟨k, i, hy, rfl⟩ := hhi
      simp only [Nat.sub_zero, List.drop_zero] at hx'
      simp [execOp, op0, hA.ev hx, hA.ev hy, Instr.sliceAt, Instr.slice, Instr.sliceBounds, Instr.sliceBound, asIntOf, hu.run, hsz, h2, hx']
  | some y' =>
    obtain ⟨k', i', hy', rfl⟩ := hlo
    cases hi with
    | none =>
      subst hhi
      simp [execOp, op0, hA.ev hx, hA.ev hy', Instr.sliceAt, Instr.slice, Instr.sliceBounds, Instr.sliceBound, asIntOf, hu.run, hsz, h1, hx']
    | some y =>
      obtain ⟨k, i, hy, rfl⟩ := hhi
      simp [execOp, op0, hA.ev hx, hA.ev hy, hA.ev hy', Instr.sliceAt, Instr.slice, Instr.sliceBounds, Instr.sliceBound, asIntOf, hu.run, hsz, h1, h2, hx']

/-! ### Nothing there -/
theorem und_pointee {t el : TypeId} (hu : Und P t (.pointer el)) : P.underlying t = some (.pointer (P.pointee t)) := by
  rw [hu]; simp [Program.pointee, show P.underlying t = some (.pointer el) from hu]
theorem q_eqlP {t el u : TypeId} {x y : Operand} {p : Option Addr} (hx : ev e x = some (.pointer p)) (hy : ev e y = some (.pointer none)) (hu : Und C.P t (.pointer el)) : QO C (.binOp .eql t x y u) ty e own K (.bool p.isNone) :=
  ⟨by simp, fun _ w hA hS => by
    have h1 := run_eql_pointer_nil (P := C.P) w t p (und_pointee hu)
    simp only [execOp, op0, hA.ev hx, hA.ev hy]
    simp [eqGuard, h1]⟩
theorem q_neqP {t el u : TypeId} {x y : Operand} {p : Option Addr} (hx : ev e x = some (.pointer p)) (hy : ev e y = some (.pointer none)) (hu : Und C.P t (.pointer el)) : QO C (.binOp .neq t x y u) ty e own K (.bool (!p.isNone)) :=
  ⟨by simp, fun _ w hA hS => by
    have h1 := run_neq_pointer_nil (P := C.P) w t p (und_pointee hu)
    simp only [execOp, op0, hA.ev hx, hA.ev hy]
    simp [eqGuard, h1]⟩

theorem q_makeFunc {fn : Fn} {fs cs : List Operand} {vf vc : List Value} (hf : evs e fs = some vf) (hc : evs e cs = some vc) : QO C (.makeFunc fn fs.toArray cs.toArray) ty e own K (.func fn vf.toArray vc.toArray) :=
  ⟨by simp, fun _ w hA hS => by
    simp [execOp, op0, Instr.makeFunc, hA.evs hf, hA.evs hc]⟩

/-! ### Structs -/
def evp (e : Env) : List (Nat × Operand) → Option (List (Nat × Value))
  | [] => some []
  | (i, x) :: l => match ev e x with
    | some v => match evp e l with
      | some vs => some ((i, v) :: vs)
      | none => none
    | none => none
theorem Ag.evp {a : Act} (h : Ag C e a) : ∀ {l : List (Nat × Operand)} {vs : List (Nat × Value)}, evp e l = some vs → l.map (fun (i, x) => (i, a.eval x)) = vs
  | [], _, hx => by cases hx; rfl
  | (i, x) :: l, vs, hx => by
    unfold Sl.evp at hx
    cases h1 : Sl.ev e x with
    | none => rw [h1] at hx; cases hx
    | some v =>
      cases h2 : Sl.evp e l with
      | none => rw [h1, h2] at hx; cases hx
      | some us =>
        rw [h1, h2] at hx; cases hx
        simp only [List.map_cons, h.ev h1, h.evp h2]

/-- The places of a struct's fields. -/
def places (P : Program) (t : TypeId) : Option (List (Nat × Nat)) := match P.underlying t with
  | some (.struct fs) => fs.toList.mapM fun f => (P.info? f.type).map fun i => (f.offset, i.size)
  | _ => none
def Places (P : Program) (t : TypeId) (l : List (Nat × Nat)) : Prop := places P t = some l

theorem q_build {t : TypeId} {ps : List (Nat × Operand)} {vs : List (Nat × Value)} {pl : List (Nat × Nat)} {n by_ : Nat} {z : Value} {cells : Array Value} (hp : evp e ps = some vs) (hpl : Places C.P t pl) (hi : Inf C.P t n by_ z)
    (hf : Instr.fill (pl.toArray[·]?) z.cells vs = some cells) : QO C (.build t ps.toArray) ty e own K (.agg cells) := by
  refine ⟨by simp, fun a w hA hS => ?_⟩
  obtain ⟨i, hi1, hi2, _, _⟩ := hi.info
  have hb : C.P.built t vs = some cells := by
    unfold Program.built
    unfold Places places at hpl
    rw [hi1]
    cases hu : C.P.underlying t with
    | none => rw [hu] at hpl; cases hpl
    | some d =>
      rw [hu] at hpl
      cases d with
      | struct fs => simp only at hpl; simp only [hi2, hpl]; exact hf
      | _ => cases hpl
  have hm : ps.toArray.map (fun (i, x) => (i, a.eval x)) = vs.toArray := by rw [List.map_toArray, hA.evp hp]
  have h1 := run_build (P := C.P) w t vs.toArray cells (by simpa using hb)
  simp only [execOp, op0]
  rw [hm]
  simp [h1]
end
end Go.Proofs.Sl
