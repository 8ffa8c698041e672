/- Layer 2, second part: a disk as one thing: what is written, read, made firm, lost, copied. -/
import Derived.Test.YtimokikpnngikaaSlDisk
import Derived.Test.YtimokikpnngikaaSlQ
namespace Go.Proofs.Sl
open Go
set_option linter.unusedVariables false
set_option linter.unusedSimpArgs false

/-- How a disk stands. -/
structure DkS where
  n : Int
  F : List (Int × Blk)
  L : List (Int × Blk)
  out : Bool
  aon : Bool
  al : Int
  fon : Bool
  fl : Int
  ops : Int
structure DkS.Ok (d : DkS) : Prop where
  L : d.L.length ≤ 1000000
  al : -1000000 ≤ d.al ∧ d.al ≤ 1000000
  fl : -1000000 ≤ d.fl ∧ d.fl ≤ 1000000
  ops : 0 ≤ d.ops ∧ d.ops ≤ 1000000
  aon : d.aon = true → 0 ≤ d.al
  fon : d.fon = true → 0 ≤ d.fl
abbrev DkC (b m cap : Nat) (A : Option Addr) (d : DkS) : SP := Pt b (.cells (dk d.n m A d.L.length cap d.out d.aon d.al d.fon d.fl d.ops).toArray 218 (0, 0))
abbrev DkL (cap : Nat) (A : Option Addr) (L : List (Int × Blk)) : SP := ORow A cap 221 65 (L.flatMap wr)
abbrev DkM (m : Nat) (F : List (Int × Blk)) : SP := Mp m ki (fm F)
/-- What comes of asking, and how the disk stands then. -/
def DkS.ask (d : DkS) (a : Int) (lays : Bool) : Int := (askD d.n d.out d.aon d.al d.fon d.fl a lays).1
def DkS.asked (d : DkS) (a : Int) (lays : Bool) : DkS :=
  { d with out := (askD d.n d.out d.aon d.al d.fon d.fl a lays).2.1, aon := (askD d.n d.out d.aon d.al d.fon d.fl a lays).2.2.1.1, al := (askD d.n d.out d.aon d.al d.fon d.fl a lays).2.2.1.2,
           fon := (askD d.n d.out d.aon d.al d.fon d.fl a lays).2.2.2.1, fl := (askD d.n d.out d.aon d.al d.fon d.fl a lays).2.2.2.2 }
/-- .. and something was done. -/
def DkS.did (d : DkS) (a : Int) (lays : Bool) : DkS := { d.asked a lays with ops := d.ops + 1 }
abbrev blkC (b : Nat) (B : List UInt8) : SP := Pt b (.cells (B.map bv).toArray 88 (0, 0))
abbrev intC (b : Nat) (a : Int) : SP := Pt b (.cells ([.int .i64 a] : List Value).toArray 3 (0, 0))
abbrev ptrC (b T : Nat) (a : Nat) : SP := Pt b (.cells ([.pointer (some (ad a 0))] : List Value).toArray T (0, 0))
theorem holdsD_len (F L : List (Int × Blk)) (a : Int) : (holdsD F L a).length = 64 := by
  unfold holdsD
  have key : ∀ (L : List (Int × Blk)) (b : List UInt8), b.length = 64 → (L.foldl (fun b p => if p.1 = a then p.2.1 else b) b).length = 64 := by
    intro L
    induction L with
    | nil => intro b h; exact h
    | cons p L ih =>
      intro b h
      rw [List.foldl_cons]
      refine ih _ ?_
      split
      · exact p.2.2
      · exact h
  exact key L _ (fget_len F a)
theorem met_ok {on : Bool} {l : Int} (h : -1000000 ≤ l ∧ l ≤ 1000000) (ho : on = true → 0 ≤ l) : (-1000000 ≤ (met on l).2.2 ∧ (met on l).2.2 ≤ 1000000) ∧ ((met on l).2.1 = true → 0 ≤ (met on l).2.2) := by
  unfold met
  cases on
  · simpa using h
  · have := ho rfl
    by_cases h0 : l = 0
    · simp [h0]
    · simp [h0]; omega
theorem askOk {d : DkS} (h : d.Ok) (a : Int) (lays : Bool) : (d.asked a lays).Ok := by
  obtain ⟨a1, a2⟩ := met_ok h.al h.aon
  obtain ⟨f1, f2⟩ := met_ok h.fl h.fon
  unfold DkS.asked askD
  refine ⟨h.L, ?_, ?_, h.ops, ?_, ?_⟩ <;> simp only <;> (split; · first | exact h.al | exact h.fl | exact h.aon | exact h.fon) <;> (split; · first | exact h.al | exact h.fl | exact h.aon | exact h.fon) <;> (split; · first | exact h.al | exact f1 | exact h.aon | exact f2) <;>
    (split; · (split <;> first | exact a1 | exact f1 | exact a2 | exact f2)) <;> first | exact h.al | exact f1 | exact h.aon | exact f2
theorem Imp.rep64 {b : Nat} {own : List SP} {K : PH → Prop} : Imp (Pt b (.cells (Value.agg (List.replicate 64 (Value.int .u8 0)).toArray).cells 88) :: own) K (blkC b (List.replicate 64 0) :: own) K := Imp.eq (by rw [rep_bv64]; rfl)
theorem RO.blkE {C : Cx} {e : Env} {own : List SP} {K : PH → Prop} {fn : Func} {t u b : Nat} {B : List UInt8} (hr : fn.results = #[.cell t 88, .tmp u]) (hP : C.P = Try.prog) (hl : look e t = some (.pointer (some (ad b 0)))) (i : Nat) (hi : own[i]? = some (blkC b B)) (hB : B.length = 64)
    {k : IntKind} {z : Int} (hu : look e u = some (.int k z)) : RO C fn e own K (.tuple #[blkV B, .int k z]) :=
  RO.list (rs := [.cell t 88, .tmp u]) (vs := [blkV B, .int k z]) hr ⟨RV.cA hl (by rw [hP]; exact a_88) (by rw [hP]; exact i_88) (Cells.pt i hi) (by simp [hB]), RV.tmp hu, trivial⟩ (by simp)

theorem c48_ok {K : PH → Prop} {g : Os × Array (Nat × ByteArray)} {b m cap : Nat} {A : Option Addr} {d : DkS} {R : List SP} {a : Int} {B : Blk} (hd : d.Ok) (he : d.ask a true = 0) : SpecAt g Try.prog 48 [.pointer (some (ad b 0)), .int .i64 a, blkV B.1] (DkC b m cap A d :: DkL cap A d.L :: R) (K)
    (fun v o k => ∃ A2 cap2, v = .int .i64 0 ∧ K = k ∧ o = DkC b m cap2 A2 { d.did a true with L := d.L ++ [(a, B)] } :: DkL cap2 A2 (d.L ++ [(a, B)]) :: R) := by
  refine SpecAt.of en_48 Try.func48 rfl rfl ?_
  refine WC.seq ?_
  refine WC.region ?_
  refine WL.eff (e_box rfl) rfl ?_; rintro _ _ _ ⟨b1, rfl, rfl, rfl⟩
  refine WL.eff (e_box rfl) rfl ?_; rintro _ _ _ ⟨b2, rfl, rfl, rfl⟩
  refine WL.eff (e_box rfl) rfl ?_; rintro _ _ _ ⟨b3, rfl, rfl, rfl⟩
  refine WL.q (q_assign rfl) rfl ?_
  refine WL.nil ?_
  refine AT.then_n ?_
  refine WC.seq ?_
  refine WC.region ?_
  refine WL.q (q_load rfl a_83 (by first | exact Cell.ptL 0 rfl rfl | exact Cell.ptL 1 rfl rfl | exact Cell.ptL 2 rfl rfl | exact Cell.ptL 3 rfl rfl | exact Cell.ptL 4 rfl rfl | exact Cell.ptL 5 rfl rfl | exact Cell.ptL 6 rfl rfl | exact Cell.ptL 7 rfl rfl)) rfl ?_
  refine WL.q (q_load rfl a_3 (by first | exact Cell.ptL 0 rfl rfl | exact Cell.ptL 1 rfl rfl | exact Cell.ptL 2 rfl rfl | exact Cell.ptL 3 rfl rfl | exact Cell.ptL 4 rfl rfl | exact Cell.ptL 5 rfl rfl | exact Cell.ptL 6 rfl rfl | exact Cell.ptL 7 rfl rfl)) rfl ?_
  refine WL.q (q_makeFunc rfl rfl) rfl ?_
  refine WL.eff (e_callAt rfl (SpecAt.pre (Imp.front 3 rfl) (c151_ok hd.al hd.fl hd.ops he (Ψ := fun A2 k2 cap2 R2 => k2 = d.L.length + 1 ∧ R2 = blkC b3 B.1 :: intC b2 a :: ptrC b1 83 b :: DkL cap2 A2 (d.L ++ [(a, B)]) :: R)
        (VS.fn (f := 152) (first := []) (args := []) (cap := [.pointer (some (ad b1 0)), .pointer (some (ad b2 0)), .pointer (some (ad b3 0))]) (SpecAt.weak ((c152 (L := d.L) (B := B) (a := a) (R := R) hd.L).at g) fun v o k h => by
          obtain ⟨K2, A2, cap2, h1, h2, h3, h4⟩ := h
          exact ⟨o, K, Imp.ent (h2 ▸ h3), rfl, A2, d.L.length + 1, cap2, _, ⟨rfl, rfl⟩, h4⟩))))) rfl ?_; rintro _ _ _ ⟨rfl, rfl, A2, k2, cap2, R2, ⟨rfl, rfl⟩, rfl⟩
  refine WL.q (q_assign rfl) rfl ?_
  refine WL.nil ?_
  refine AT.then_n ?_
  refine WC.ret ?_
  exact AT.done rfl (RO.one rfl rfl) ⟨A2, cap2, rfl, rfl, rfl⟩ (Imp.trans (Imp.sub (List.Sublist.cons_cons _ (List.Sublist.cons _ (List.Sublist.cons _ (List.Sublist.cons _ (List.Sublist.refl _)))))) (Imp.eq (by simp [DkS.did, DkS.asked, DkC])))

theorem c48_bad {K : PH → Prop} {g : Os × Array (Nat × ByteArray)} {b m cap : Nat} {A : Option Addr} {d : DkS} {R : List SP} {a : Int} {B : Blk} (hd : d.Ok) (he : d.ask a true ≠ 0) : SpecAt g Try.prog 48 [.pointer (some (ad b 0)), .int .i64 a, blkV B.1] (DkC b m cap A d :: R) (K)
    (Ret (.int .i64 (d.ask a true)) (DkC b m cap A (d.asked a true) :: R) K) := by
  refine SpecAt.of en_48 Try.func48 rfl rfl ?_
  refine WC.seq ?_
  refine WC.region ?_
  refine WL.eff (e_box rfl) rfl ?_; rintro _ _ _ ⟨b1, rfl, rfl, rfl⟩
  refine WL.eff (e_box rfl) rfl ?_; rintro _ _ _ ⟨b2, rfl, rfl, rfl⟩
  refine WL.eff (e_box rfl) rfl ?_; rintro _ _ _ ⟨b3, rfl, rfl, rfl⟩
  refine WL.q (q_assign rfl) rfl ?_
  refine WL.nil ?_
  refine AT.then_n ?_
  refine WC.seq ?_
  refine WC.region ?_
  refine WL.q (q_load rfl a_83 (by first | exact Cell.ptL 0 rfl rfl | exact Cell.ptL 1 rfl rfl | exact Cell.ptL 2 rfl rfl | exact Cell.ptL 3 rfl rfl | exact Cell.ptL 4 rfl rfl | exact Cell.ptL 5 rfl rfl | exact Cell.ptL 6 rfl rfl | exact Cell.ptL 7 rfl rfl)) rfl ?_
  refine WL.q (q_load rfl a_3 (by first | exact Cell.ptL 0 rfl rfl | exact Cell.ptL 1 rfl rfl | exact Cell.ptL 2 rfl rfl | exact Cell.ptL 3 rfl rfl | exact Cell.ptL 4 rfl rfl | exact Cell.ptL 5 rfl rfl | exact Cell.ptL 6 rfl rfl | exact Cell.ptL 7 rfl rfl)) rfl ?_
  refine WL.q (q_makeFunc rfl rfl) rfl ?_
  refine WL.eff (e_callAt rfl (SpecAt.pre (Imp.front 3 rfl) (c151_bad hd.al hd.fl hd.ops he))) rfl ?_; rintro _ _ _ ⟨rfl, rfl, rfl⟩
  refine WL.q (q_assign rfl) rfl ?_
  refine WL.nil ?_
  refine AT.then_n ?_
  refine WC.ret ?_
  exact AT.done rfl (RO.one rfl rfl) ⟨rfl, rfl, rfl⟩ (Imp.sub (List.Sublist.cons_cons _ (List.Sublist.cons _ (List.Sublist.cons _ (List.Sublist.cons _ (List.Sublist.refl _))))))

theorem c153 {K : PH → Prop} {g : Os × Array (Nat × ByteArray)} {b m cap : Nat} {A : Option Addr} {d : DkS} {R : List SP} {a : Int} {b1 b2 b3 : Nat} {Z : List UInt8} (hd : d.Ok) (hZ : Z.length = 64) : SpecAt g Try.prog 153 [.pointer (some (ad b1 0)), .pointer (some (ad b2 0)), .pointer (some (ad b3 0))] (DkC b m cap A d :: DkL cap A d.L :: DkM m d.F :: blkC b3 Z :: intC b2 a :: ptrC b1 83 b :: R) (K)
    (Ret (.tuple #[]) (DkC b m cap A d :: DkL cap A d.L :: DkM m d.F :: blkC b3 (holdsD d.F d.L a) :: intC b2 a :: ptrC b1 83 b :: R) K) := by
  refine SpecAt.of en_153 Try.func153 rfl rfl ?_
  refine WC.drawS [1, 2] _ _ mixed NoPan.body (Imp.refl _ _) rfl ?_
  refine WD.sched [(0, 0), (1, 0), (2, 0), (3, 0), (4, 2), (5, 1)] true (by decide +kernel) ?_
  refine WS.q 0 rfl (q_load rfl a_83 (by first | exact Cell.ptL 0 rfl rfl | exact Cell.ptL 1 rfl rfl | exact Cell.ptL 2 rfl rfl | exact Cell.ptL 3 rfl rfl | exact Cell.ptL 4 rfl rfl | exact Cell.ptL 5 rfl rfl | exact Cell.ptL 6 rfl rfl | exact Cell.ptL 7 rfl rfl)) rfl ?_
  refine WS.q 1 rfl (q_nil rfl) rfl ?_
  refine WS.q 2 rfl (q_fieldAddr rfl fo_218_0) rfl ?_
  refine WS.q 3 rfl (q_load rfl a_3 (by first | exact Cell.ptL 0 rfl rfl | exact Cell.ptL 1 rfl rfl | exact Cell.ptL 2 rfl rfl | exact Cell.ptL 3 rfl rfl | exact Cell.ptL 4 rfl rfl | exact Cell.ptL 5 rfl rfl | exact Cell.ptL 6 rfl rfl | exact Cell.ptL 7 rfl rfl)) rfl ?_
  refine WS.eff2 4 rfl (e_callAt rfl (c154_at (a := a) hd.L)) rfl ?_; rintro _ _ _ ⟨rfl, rfl, rfl⟩
  refine ⟨(by first | exact (Imp.refl _ _) | exact (Imp.sub (List.Sublist.cons _ (List.Sublist.refl _))) | exact (Imp.ent (Ent.left (Ent.refl _)))), ?_⟩
  refine WS.effn 5 rfl (e_storeAll 3 rfl rfl rfl i_88 rfl (by simp [holdsD_len]) (by simp [hZ]) (ones_bv _)) ?_; rintro _ _ _ ⟨rfl, rfl, rfl⟩
  refine WS.done ?_
  exact AT.doneN rfl (RO.none rfl) ⟨rfl, rfl, rfl⟩ (Imp.refl _ _)

theorem c50_ok {K : PH → Prop} {g : Os × Array (Nat × ByteArray)} {b m cap : Nat} {A : Option Addr} {d : DkS} {R : List SP} {a : Int} (hd : d.Ok) (he : d.ask a false = 0) : SpecAt g Try.prog 50 [.pointer (some (ad b 0)), .int .i64 a] (DkC b m cap A d :: DkL cap A d.L :: DkM m d.F :: R) (K)
    (Ret (.tuple #[blkV (holdsD d.F d.L a), .int .i64 0]) (DkC b m cap A (d.did a false) :: DkL cap A d.L :: DkM m d.F :: R) K) := by
  refine SpecAt.of en_50 Try.func50 rfl rfl ?_
  refine WC.seq ?_
  refine WC.region ?_
  refine WL.eff (e_box rfl) rfl ?_; rintro _ _ _ ⟨b1, rfl, rfl, rfl⟩
  refine WL.eff (e_box rfl) rfl ?_; rintro _ _ _ ⟨b2, rfl, rfl, rfl⟩
  refine WL.eff (e_alloc i_88) rfl ?_; rintro _ _ _ ⟨b3, rfl, rfl, rfl⟩
  refine WL.q (q_assign rfl) rfl ?_
  refine WL.nil ?_
  refine AT.then_n ?_
  refine WC.seq ?_
  refine WC.region ?_
  refine WL.q (q_load rfl a_83 (by first | exact Cell.ptL 0 rfl rfl | exact Cell.ptL 1 rfl rfl | exact Cell.ptL 2 rfl rfl | exact Cell.ptL 3 rfl rfl | exact Cell.ptL 4 rfl rfl | exact Cell.ptL 5 rfl rfl | exact Cell.ptL 6 rfl rfl | exact Cell.ptL 7 rfl rfl)) rfl ?_
  refine WL.q (q_load rfl a_3 (by first | exact Cell.ptL 0 rfl rfl | exact Cell.ptL 1 rfl rfl | exact Cell.ptL 2 rfl rfl | exact Cell.ptL 3 rfl rfl | exact Cell.ptL 4 rfl rfl | exact Cell.ptL 5 rfl rfl | exact Cell.ptL 6 rfl rfl | exact Cell.ptL 7 rfl rfl)) rfl ?_
  refine WL.q (q_makeFunc rfl rfl) rfl ?_
  refine WL.eff (e_callAt rfl (SpecAt.pre (own' := DkC b m cap A d :: DkL cap A d.L :: DkM m d.F :: blkC b3 (List.replicate 64 (0 : UInt8)) :: intC b2 a :: ptrC b1 83 b :: R) (Imp.trans Imp.rep64 (Imp.trans (Imp.front 5 rfl) (Imp.trans (Imp.front 5 rfl) (Imp.front 5 rfl)))) (c151_ok hd.al hd.fl hd.ops he (Ψ := fun A2 k2 cap2 R2 => k2 = d.L.length ∧ cap2 = cap ∧ A2 = A ∧ R2 = DkL cap A d.L :: DkM m d.F :: blkC b3 (holdsD d.F d.L a) :: intC b2 a :: ptrC b1 83 b :: R)
        (VS.fn (f := 153) (first := []) (args := []) (cap := [.pointer (some (ad b1 0)), .pointer (some (ad b2 0)), .pointer (some (ad b3 0))]) (SpecAt.mono (c153 (d := d.asked a false) (a := a) (Z := (List.replicate 64 (0 : UInt8))) (askOk hd _ _) rfl) fun v o k h => ⟨h.2.2, A, d.L.length, cap, _, ⟨rfl, rfl, rfl, rfl⟩, h.2.1⟩))))) rfl ?_; rintro _ _ _ ⟨rfl, rfl, A2, k2, cap2, R2, ⟨rfl, rfl, rfl, rfl⟩, rfl⟩
  refine WL.q (q_assign rfl) rfl ?_
  refine WL.nil ?_
  refine AT.then_n ?_
  refine WC.seq ?_
  refine WC.region ?_
  refine WL.q (q_loadA rfl a_88 i_88 (Cells.pt 3 rfl) (by simp [holdsD_len])) rfl ?_
  refine WL.q (q_move rfl) rfl ?_
  refine WL.effn (e_storeAll 3 rfl rfl rfl i_88 rfl (by simp [holdsD_len]) (by simp [holdsD_len]) (ones_bv _)) ?_; rintro _ _ _ ⟨rfl, rfl, rfl⟩
  refine WL.q (q_assign rfl) rfl ?_
  refine WL.nil ?_
  refine AT.then_n ?_
  refine WC.ret ?_
  exact AT.done rfl (RO.blkE rfl rfl rfl 3 rfl (holdsD_len _ _ _) rfl) ⟨rfl, rfl, rfl⟩ (Imp.sub (List.Sublist.cons_cons _ (List.Sublist.cons_cons _ (List.Sublist.cons_cons _ (List.Sublist.cons _ (List.Sublist.cons _ (List.Sublist.cons _ (List.Sublist.refl _))))))))

theorem c50_bad {K : PH → Prop} {g : Os × Array (Nat × ByteArray)} {b m cap : Nat} {A : Option Addr} {d : DkS} {R : List SP} {a : Int} (hd : d.Ok) (he : d.ask a false ≠ 0) : SpecAt g Try.prog 50 [.pointer (some (ad b 0)), .int .i64 a] (DkC b m cap A d :: R) (K)
    (Ret (.tuple #[blkV (List.replicate 64 (0 : UInt8)), .int .i64 (d.ask a false)]) (DkC b m cap A (d.asked a false) :: R) K) := by
  refine SpecAt.of en_50 Try.func50 rfl rfl ?_
  refine WC.seq ?_
  refine WC.region ?_
  refine WL.eff (e_box rfl) rfl ?_; rintro _ _ _ ⟨b1, rfl, rfl, rfl⟩
  refine WL.eff (e_box rfl) rfl ?_; rintro _ _ _ ⟨b2, rfl, rfl, rfl⟩
  refine WL.eff (e_alloc i_88) rfl ?_; rintro _ _ _ ⟨b3, rfl, rfl, rfl⟩
  refine WL.q (q_assign rfl) rfl ?_
  refine WL.nil ?_
  refine AT.then_n ?_
  refine WC.seq ?_
  refine WC.region ?_
  refine WL.q (q_load rfl a_83 (by first | exact Cell.ptL 0 rfl rfl | exact Cell.ptL 1 rfl rfl | exact Cell.ptL 2 rfl rfl | exact Cell.ptL 3 rfl rfl | exact Cell.ptL 4 rfl rfl | exact Cell.ptL 5 rfl rfl | exact Cell.ptL 6 rfl rfl | exact Cell.ptL 7 rfl rfl)) rfl ?_
  refine WL.q (q_load rfl a_3 (by first | exact Cell.ptL 0 rfl rfl | exact Cell.ptL 1 rfl rfl | exact Cell.ptL 2 rfl rfl | exact Cell.ptL 3 rfl rfl | exact Cell.ptL 4 rfl rfl | exact Cell.ptL 5 rfl rfl | exact Cell.ptL 6 rfl rfl | exact Cell.ptL 7 rfl rfl)) rfl ?_
  refine WL.q (q_makeFunc rfl rfl) rfl ?_
  refine WL.eff (e_callAt rfl (SpecAt.pre (own' := DkC b m cap A d :: blkC b3 (List.replicate 64 (0 : UInt8)) :: intC b2 a :: ptrC b1 83 b :: R) (Imp.trans Imp.rep64 (Imp.front 3 rfl)) (c151_bad hd.al hd.fl hd.ops he))) rfl ?_; rintro _ _ _ ⟨rfl, rfl, rfl⟩
  refine WL.q (q_assign rfl) rfl ?_
  refine WL.nil ?_
  refine AT.then_n ?_
  refine WC.seq ?_
  refine WC.region ?_
  refine WL.q (q_loadA rfl a_88 i_88 (Cells.pt 1 rfl) (by simp)) rfl ?_
  refine WL.q (q_move rfl) rfl ?_
  refine WL.effn (e_storeAll 1 rfl rfl rfl i_88 rfl (by simp) (by simp) (ones_bv _)) ?_; rintro _ _ _ ⟨rfl, rfl, rfl⟩
  refine WL.q (q_assign rfl) rfl ?_
  refine WL.nil ?_
  refine AT.then_n ?_
  refine WC.ret ?_
  exact AT.done rfl (RO.blkE rfl rfl rfl 1 rfl rfl rfl) ⟨rfl, rfl, rfl⟩ (Imp.sub (List.Sublist.cons_cons _ (List.Sublist.cons _ (List.Sublist.cons _ (List.Sublist.cons _ (List.Sublist.refl _))))))

theorem c158 {own : List SP} {K : PH → Prop} {i : Int} : Spec Try.prog 158 [.int .i64 i] (own) (K)
    (Ret (.bool true) own K) := by
  refine Spec.of en_158 Try.func158 rfl rfl fun g => ?_
  refine WC.seq ?_
  refine WC.region ?_
  refine WL.q (q_assign rfl) rfl ?_
  refine WL.nil ?_
  refine AT.then_n ?_
  refine WC.seq ?_
  refine WC.region ?_
  refine WL.q (q_assign rfl) rfl ?_
  refine WL.nil ?_
  refine AT.then_n ?_
  refine WC.ret ?_
  exact AT.done rfl (RO.one rfl rfl) ⟨rfl, rfl, rfl⟩ (Imp.refl _ _)

theorem c157 {K : PH → Prop} {g : Os × Array (Nat × ByteArray)} {b m cap : Nat} {A : Option Addr} {d : DkS} {R : List SP} {b1 : Nat} (hd : d.Ok) : SpecAt g Try.prog 157 [.pointer (some (ad b1 0))] (DkC b m cap A d :: DkL cap A d.L :: DkM m d.F :: ptrC b1 83 b :: R) (K)
    (Ret (.tuple #[]) (DkC b m 0 none { d with L := [] } :: DkL 0 none [] :: DkM m (settleD (fun _ => true) d.F d.L) :: ptrC b1 83 b :: R) K) := by
  refine SpecAt.of en_157 Try.func157 rfl rfl ?_
  refine WC.region ?_
  refine WL.q (q_load rfl a_83 (by first | exact Cell.ptL 0 rfl rfl | exact Cell.ptL 1 rfl rfl | exact Cell.ptL 2 rfl rfl | exact Cell.ptL 3 rfl rfl | exact Cell.ptL 4 rfl rfl | exact Cell.ptL 5 rfl rfl | exact Cell.ptL 6 rfl rfl | exact Cell.ptL 7 rfl rfl)) rfl ?_
  refine WL.q (q_nil rfl) rfl ?_
  refine WL.q (q_fieldAddr rfl fo_218_0) rfl ?_
  refine WL.eff (e_callAt rfl (c155 (kp := fun _ => true) hd.L fun i o hi => VS.fn (f := 158) (first := []) (args := [.int .i64 i]) (cap := []) (c158.at _))) rfl ?_; rintro _ _ _ ⟨rfl, rfl, rfl⟩
  refine WL.nil ?_
  exact AT.doneN rfl (RO.none rfl) ⟨rfl, rfl, rfl⟩ (Imp.refl _ _)

theorem c55_ok {K : PH → Prop} {g : Os × Array (Nat × ByteArray)} {b m cap : Nat} {A : Option Addr} {d : DkS} {R : List SP} (hd : d.Ok) (he : d.ask 0 true = 0) : SpecAt g Try.prog 55 [.pointer (some (ad b 0))] (DkC b m cap A d :: DkL cap A d.L :: DkM m d.F :: R) (K)
    (Ret (.int .i64 0) (DkC b m 0 none { d.did 0 true with L := [] } :: DkL 0 none [] :: DkM m (settleD (fun _ => true) d.F d.L) :: R) K) := by
  refine SpecAt.of en_55 Try.func55 rfl rfl ?_
  refine WC.seq ?_
  refine WC.region ?_
  refine WL.eff (e_box rfl) rfl ?_; rintro _ _ _ ⟨b1, rfl, rfl, rfl⟩
  refine WL.q (q_assign rfl) rfl ?_
  refine WL.nil ?_
  refine AT.then_n ?_
  refine WC.seq ?_
  refine WC.region ?_
  refine WL.q (q_load rfl a_83 (by first | exact Cell.ptL 0 rfl rfl | exact Cell.ptL 1 rfl rfl | exact Cell.ptL 2 rfl rfl | exact Cell.ptL 3 rfl rfl | exact Cell.ptL 4 rfl rfl | exact Cell.ptL 5 rfl rfl | exact Cell.ptL 6 rfl rfl | exact Cell.ptL 7 rfl rfl)) rfl ?_
  refine WL.q (q_makeFunc rfl rfl) rfl ?_
  refine WL.eff (e_callAt rfl (SpecAt.pre (Imp.trans (Imp.front 3 rfl) (Imp.trans (Imp.front 3 rfl) (Imp.front 3 rfl))) (c151_ok hd.al hd.fl hd.ops he (Ψ := fun A2 k2 cap2 R2 => k2 = 0 ∧ cap2 = 0 ∧ A2 = none ∧ R2 = DkL 0 none [] :: DkM m (settleD (fun _ => true) d.F d.L) :: ptrC b1 83 b :: R)
        (VS.fn (f := 157) (first := []) (args := []) (cap := [.pointer (some (ad b1 0))]) (SpecAt.mono (c157 (d := d.asked 0 true) (askOk hd _ _)) fun v o k h => ⟨h.2.2, none, 0, 0, _, ⟨rfl, rfl, rfl, rfl⟩, h.2.1⟩))))) rfl ?_; rintro _ _ _ ⟨rfl, rfl, A2, k2, cap2, R2, ⟨rfl, rfl, rfl, rfl⟩, rfl⟩
  refine WL.q (q_assign rfl) rfl ?_
  refine WL.nil ?_
  refine AT.then_n ?_
  refine WC.ret ?_
  exact AT.done rfl (RO.one rfl rfl) ⟨rfl, rfl, rfl⟩ (Imp.sub (List.Sublist.cons_cons _ (List.Sublist.cons_cons _ (List.Sublist.cons_cons _ (List.Sublist.cons _ (List.Sublist.refl _))))))

theorem c55_bad {K : PH → Prop} {g : Os × Array (Nat × ByteArray)} {b m cap : Nat} {A : Option Addr} {d : DkS} {R : List SP} (hd : d.Ok) (he : d.ask 0 true ≠ 0) : SpecAt g Try.prog 55 [.pointer (some (ad b 0))] (DkC b m cap A d :: R) (K)
    (Ret (.int .i64 (d.ask 0 true)) (DkC b m cap A (d.asked 0 true) :: R) K) := by
  refine SpecAt.of en_55 Try.func55 rfl rfl ?_
  refine WC.seq ?_
  refine WC.region ?_
  refine WL.eff (e_box rfl) rfl ?_; rintro _ _ _ ⟨b1, rfl, rfl, rfl⟩
  refine WL.q (q_assign rfl) rfl ?_
  refine WL.nil ?_
  refine AT.then_n ?_
  refine WC.seq ?_
  refine WC.region ?_
  refine WL.q (q_load rfl a_83 (by first | exact Cell.ptL 0 rfl rfl | exact Cell.ptL 1 rfl rfl | exact Cell.ptL 2 rfl rfl | exact Cell.ptL 3 rfl rfl | exact Cell.ptL 4 rfl rfl | exact Cell.ptL 5 rfl rfl | exact Cell.ptL 6 rfl rfl | exact Cell.ptL 7 rfl rfl)) rfl ?_
  refine WL.q (q_makeFunc rfl rfl) rfl ?_
  refine WL.eff (e_callAt rfl (SpecAt.pre (Imp.front 1 rfl) (c151_bad hd.al hd.fl hd.ops he))) rfl ?_; rintro _ _ _ ⟨rfl, rfl, rfl⟩
  refine WL.q (q_assign rfl) rfl ?_
  refine WL.nil ?_
  refine AT.then_n ?_
  refine WC.ret ?_
  exact AT.done rfl (RO.one rfl rfl) ⟨rfl, rfl, rfl⟩ (Imp.sub (List.Sublist.cons_cons _ (List.Sublist.cons _ (List.Sublist.refl _))))


theorem Cell.row0 {own : List SP} {K : PH → Prop} {b o : Nat} {cs : List Value} (hr : Ent K (Row (some (ad b o)) cs)) {j : Nat} {v : Value} (hv : cs[j]? = some v) : Cell own K (ad b (o + j)) v := by
  have := Cell.row (own := own) hr hv
  simpa only [adr, add_mk] using this

theorem c156 {own : List SP} {K : PH → Prop} {b1 c1 : Nat} {A1 : Option Addr} {keep : List Bool} {i : Nat} (h1 : Ent K (Row (some (ad b1 0)) [.slice A1 keep.length c1])) (hk : keep ≠ [] → Ent K (Row A1 (keep.map Value.bool))) : Spec Try.prog 156 [.int .i64 i, .pointer (some (ad b1 0))] (own) (K)
    (Ret (.bool ((keep[i]?).getD false)) own K) := by
  refine Spec.of en_156 Try.func156 rfl rfl fun g => ?_
  refine WC.seq ?_
  refine WC.region ?_
  refine WL.q (q_assign rfl) rfl ?_
  refine WL.nil ?_
  refine AT.then_n ?_
  refine WC.seq ?_
  refine WC.region ?_
  refine WL.q (q_move rfl) rfl ?_
  refine WL.q (q_load rfl a_29 (Cell.row0 h1 (j := 0) rfl)) rfl ?_
  refine WL.q (q_len rfl u_29) rfl ?_
  refine WL.q (q_lss rfl rfl) rfl ?_
  refine WL.q (q_move rfl) rfl ?_
  refine WL.split 8 rfl (fun hg1_4 => ?_) (fun hg1_4 => ?_)
  · -- guard 1.4: True
    try have hp1_4 := of_decide_eq_true hg1_4
    have hlt : i < keep.length := by omega
    have hk := hk (by intro h; subst h; simp at hlt)
    refine WL.on rfl rfl hg1_4 ?_
    refine WL.q (q_load rfl a_29 (Cell.row0 h1 (j := 0) rfl)) rfl ?_
    refine WL.on rfl rfl hg1_4 ?_
    refine WL.q (q_move rfl) rfl ?_
    refine WL.on rfl rfl hg1_4 ?_
    refine WL.q (q_indexAddr rfl rfl u_29 i_4 (Based.row hk (by simp; omega)) (by omega)) rfl ?_
    refine WL.on rfl rfl hg1_4 ?_
    refine WL.q (q_load (v := .bool (keep[i])) rfl a_4 (Cell.row hk (by simp [hlt]))) rfl ?_
    refine WL.q (q_pickT rfl hg1_4 rfl) rfl ?_
    refine WL.q (q_assign rfl) rfl ?_
    refine WL.nil ?_
    refine AT.then_n ?_
    refine WC.ret ?_
    refine AT.done rfl (RO.one rfl rfl) ⟨?_, rfl, rfl⟩ (Imp.refl _ _)
    first
      | simp [hlt]
      | (have hge : keep.length ≤ i := by omega
         simp [List.getElem?_eq_none hge])
  · -- guard 1.4: False
    try have hp1_4 := of_decide_eq_false hg1_4
    refine WL.off rfl rfl hg1_4 rfl ?_
    refine WL.off rfl rfl hg1_4 rfl ?_
    refine WL.off rfl rfl hg1_4 rfl ?_
    refine WL.off rfl rfl hg1_4 rfl ?_
    refine WL.q (q_pickF rfl hg1_4 rfl) rfl ?_
    refine WL.q (q_assign rfl) rfl ?_
    refine WL.nil ?_
    refine AT.then_n ?_
    refine WC.ret ?_
    refine AT.done rfl (RO.one rfl rfl) ⟨?_, rfl, rfl⟩ (Imp.refl _ _)
    first
      | simp [hlt]
      | (have hge : keep.length ≤ i := by omega
         simp [List.getElem?_eq_none hge])

theorem c52 {K : PH → Prop} {g : Os × Array (Nat × ByteArray)} {b m cap : Nat} {A : Option Addr} {d : DkS} {R : List SP} {c1 : Nat} {A1 : Option Addr} {keep : List Bool} (hd : d.Ok) (hk : keep ≠ [] → Ent K (Row A1 (keep.map Value.bool))) : SpecAt g Try.prog 52 [.pointer (some (ad b 0)), .slice A1 keep.length c1] (DkC b m cap A d :: DkL cap A d.L :: DkM m d.F :: R) (K)
    (Ret (.int .i64 0) (DkC b m 0 none { d with F := settleD (fun i => (keep[i]?).getD false) d.F d.L, L := [], out := false, aon := false, al := 0, fon := false, fl := 0 } :: DkL 0 none [] :: DkM m (settleD (fun i => (keep[i]?).getD false) d.F d.L) :: R) K) := by
  refine SpecAt.of en_52 Try.func52 rfl rfl ?_
  refine WC.seq ?_
  refine WC.region ?_
  refine WL.eff (e_box rfl) rfl ?_; rintro _ _ _ ⟨b1, rfl, rfl, rfl⟩
  refine WL.q (q_assign rfl) rfl ?_
  refine WL.nil ?_
  refine AT.then_n ?_
  refine WC.seq ?_
  refine WC.seq ?_
  refine WC.region ?_
  refine WL.q (q_move rfl) rfl ?_
  refine WL.q (q_eqlP rfl rfl u_83) rfl ?_
  refine WL.nil ?_
  refine AT.then_n ?_
  refine WC.condHF rfl (rfl) ?_
  refine WC.skip ?_
  refine AT.then_n ?_
  refine WC.seq ?_
  refine WC.region ?_
  refine WL.q (q_move rfl) rfl ?_
  refine WL.q (q_nil rfl) rfl ?_
  refine WL.q (q_fieldAddr rfl fo_218_0) rfl ?_
  refine WL.imp (Imp.trans (Imp.eq (own' := Pt b1 (.cells ([.slice A1 keep.length c1] : List Value).toArray 29 (0, 0)) :: DkC b m cap A d :: DkL cap A d.L :: DkM m d.F :: R) rfl) Imp.ptStay) ?_
  refine WL.q (q_makeFunc rfl rfl) rfl ?_
  refine WL.eff (e_callAt rfl (c155 (kp := (fun i => (keep[i]?).getD false)) hd.L fun i o hi => VS.fn (f := 156) (first := []) (args := [.int .i64 i]) (cap := [.pointer (some (ad b1 0))]) ((c156 Ent.right fun h => (hk h).left).at _))) rfl ?_; rintro _ _ _ ⟨rfl, rfl, rfl⟩
  refine WL.nil ?_
  refine AT.then_n ?_
  refine WC.seq ?_
  refine WC.region ?_
  refine WL.q (q_move rfl) rfl ?_
  refine WL.q (q_move rfl) rfl ?_
  refine WL.q (q_move rfl) rfl ?_
  refine WL.q (q_buildL rfl pl_214 i_214 rfl rfl) rfl ?_
  refine WL.q (q_buildL rfl pl_214 i_214 rfl rfl) rfl ?_
  refine WL.q (q_nil rfl) rfl ?_
  refine WL.q (q_fieldAddr rfl fo_218_0) rfl ?_
  refine WL.q (q_fieldAddr rfl fo_216_3) rfl ?_
  first | refine WL.effn (e_store 0 rfl rfl rfl i_4 rfl (by simp)) ?_ | refine WL.effn (e_store 1 rfl rfl rfl i_4 rfl (by simp)) ?_ | refine WL.effn (e_store 2 rfl rfl rfl i_4 rfl (by simp)) ?_
  rintro _ _ _ ⟨rfl, rfl, rfl⟩
  refine WL.q (q_nil rfl) rfl ?_
  refine WL.q (q_fieldAddr rfl fo_218_0) rfl ?_
  refine WL.q (q_fieldAddr rfl fo_216_4) rfl ?_
  first | refine WL.effn (e_storeN 0 rfl rfl rfl i_214 rfl rfl (by simp) (by first | exact ones_bv _ | simp [Ones, Value.oneCell', bv, setsL, cellsL, Value.cells])) ?_ | refine WL.effn (e_storeN 1 rfl rfl rfl i_214 rfl rfl (by simp) (by first | exact ones_bv _ | simp [Ones, Value.oneCell', bv, setsL, cellsL, Value.cells])) ?_ | refine WL.effn (e_storeN 2 rfl rfl rfl i_214 rfl rfl (by simp) (by first | exact ones_bv _ | simp [Ones, Value.oneCell', bv, setsL, cellsL, Value.cells])) ?_
  rintro _ _ _ ⟨rfl, rfl, rfl⟩
  refine WL.q (q_nil rfl) rfl ?_
  refine WL.q (q_fieldAddr rfl fo_218_0) rfl ?_
  refine WL.q (q_fieldAddr rfl fo_216_5) rfl ?_
  first | refine WL.effn (e_storeN 0 rfl rfl rfl i_214 rfl rfl (by simp) (by first | exact ones_bv _ | simp [Ones, Value.oneCell', bv, setsL, cellsL, Value.cells])) ?_ | refine WL.effn (e_storeN 1 rfl rfl rfl i_214 rfl rfl (by simp) (by first | exact ones_bv _ | simp [Ones, Value.oneCell', bv, setsL, cellsL, Value.cells])) ?_ | refine WL.effn (e_storeN 2 rfl rfl rfl i_214 rfl rfl (by simp) (by first | exact ones_bv _ | simp [Ones, Value.oneCell', bv, setsL, cellsL, Value.cells])) ?_
  rintro _ _ _ ⟨rfl, rfl, rfl⟩
  refine WL.nil ?_
  refine AT.then_n ?_
  refine WC.seq ?_
  refine WC.region ?_
  refine WL.q (q_assign rfl) rfl ?_
  refine WL.nil ?_
  refine AT.then_n ?_
  refine WC.ret ?_
  exact AT.done rfl (RO.one rfl rfl) ⟨rfl, rfl, rfl⟩ (Imp.both (Imp.eq rfl) (Ent.refl _).left)


def fgetO : List (Int × Blk) → Int → Option Blk
  | [], _ => none
  | p :: F, a => if p.1 = a then some p.2 else fgetO F a
theorem fget_O (F : List (Int × Blk)) (a : Int) : fget F a = match fgetO F a with | some B => B.1 | none => List.replicate 64 0 := by
  induction F with
  | nil => rfl
  | cons p F ih => unfold fget fgetO; split <;> simp_all
theorem fgetO_set (F : List (Int × Blk)) (a : Int) (v : Blk) (c : Int) : fgetO (fset F a v) c = if a = c then some v else fgetO F c := by
  induction F with
  | nil => simp [fset, fgetO]
  | cons p F ih =>
    unfold fset
    by_cases h : p.1 = a
    · rw [if_pos h]; subst h; simp only [fgetO]; split <;> rfl
    · rw [if_neg h]; simp only [fgetO, ih]
      by_cases h2 : p.1 = c
      · rw [if_pos h2, if_pos h2]; subst h2; rw [if_neg (Ne.symm h)]
      · rw [if_neg h2, if_neg h2]
theorem fgetO_at : ∀ {F : List (Int × Blk)} {j : Nat} {p : Int × Blk}, (F.map (·.1)).Nodup → F[j]? = some p → fgetO F p.1 = some p.2
  | [], _, _, _, h => by simp at h
  | q :: F, 0, p, _, h => by simp at h; subst h; simp [fgetO]
  | q :: F, j + 1, p, hn, h => by
    simp only [List.map_cons, List.nodup_cons] at hn
    have h' : F[j]? = some p := by simpa using h
    have hne : q.1 ≠ p.1 := fun e => hn.1 (by rw [e]; exact List.mem_map.2 ⟨p, List.mem_of_getElem? h', rfl⟩)
    unfold fgetO; rw [if_neg hne]; exact fgetO_at hn.2 h'
theorem fgetO_mem : ∀ {F : List (Int × Blk)} {a : Int} {v : Blk}, fgetO F a = some v → ∃ j : Nat, F[j]? = some (a, v)
  | [], _, _, h => by cases h
  | q :: F, a, v, h => by
    unfold fgetO at h
    split at h
    · rename_i e; cases h; exact ⟨0, by rw [← e]; rfl⟩
    · obtain ⟨j, hj⟩ := fgetO_mem h; exact ⟨j + 1, by simpa using hj⟩
/-- How far a copy has come. -/
def CpI (F F' : List (Int × Blk)) (done : List Nat) : Prop := (∀ j ∈ done, ∀ p, F[j]? = some p → fgetO F' p.1 = some p.2) ∧ ∀ a v, fgetO F' a = some v → fgetO F a = some v
theorem CpI.step {F F' : List (Int × Blk)} {done : List Nat} {j : Nat} {p : Int × Blk} (hn : (F.map (·.1)).Nodup) (h : CpI F F' done) (hj : F[j]? = some p) : CpI F (fset F' p.1 p.2) (done ++ [j]) := by
  refine ⟨fun i hi q hq => ?_, fun a v hv => ?_⟩
  · rw [fgetO_set]
    split
    · rename_i e
      have h1 := fgetO_at hn hq
      have h2 := fgetO_at hn hj
      rw [e, h1] at h2; exact h2.symm
    · rename_i e
      rcases List.mem_append.1 hi with hi | hi
      · exact h.1 i hi q hq
      · simp at hi; subst hi; rw [hj] at hq; cases hq; exact absurd rfl e
  · rw [fgetO_set] at hv
    split at hv
    · rename_i e; cases hv; rw [← e]; exact fgetO_at hn hj
    · exact h.2 a v hv
theorem CpI.all {F F' : List (Int × Blk)} {done : List Nat} (h : CpI F F' done) (hd : ∀ j, j < F.length → j ∈ done) (a : Int) : fget F' a = fget F a := by
  rw [fget_O, fget_O]
  cases hf : fgetO F a with
  | some v =>
    obtain ⟨j, hj⟩ := fgetO_mem hf
    rw [h.1 j (hd j (List.getElem?_eq_some_iff.1 hj).1) _ hj]
  | none =>
    cases hf' : fgetO F' a with
    | none => rfl
    | some v => rw [h.2 a v hf'] at hf; cases hf
theorem fm_get {F : List (Int × Blk)} {j : Nat} {a : Int} {u : Value} (h : (fm F)[j]? = some (a, u)) : ∃ B : Blk, F[j]? = some (a, B) ∧ u = blkV B.1 := by
  unfold fm at h
  rw [List.getElem?_map] at h
  cases hF : F[j]? with
  | none => rw [hF] at h; cases h
  | some p => rw [hF] at h; cases h; exact ⟨p.2, rfl, rfl⟩
theorem fm_nodup {F : List (Int × Blk)} (h : ((fm F).map (·.1)).Nodup) : (F.map (·.1)).Nodup := by
  have : (fm F).map (·.1) = F.map (·.1) := by simp [fm]
  rwa [this] at h
/-- How many have not come. -/
def mleft (n : Nat) (done : List Nat) : Nat := ((List.range n).filter fun j => !done.contains j).length
theorem mleft_step {n j : Nat} {done : List Nat} (hj : j < n) (hd : j ∉ done) : mleft n (done ++ [j]) < mleft n done := by
  unfold mleft
  have h1 : ((List.range n).filter fun i => !(done ++ [j]).contains i) = ((List.range n).filter fun i => !done.contains i).filter fun i => !(i == j) := by
    rw [List.filter_filter]
    apply List.filter_congr
    intro i _
    simp only [List.contains_eq_mem, List.mem_append, List.mem_singleton]
    by_cases h : i = j <;> simp [h]
  rw [h1]
  have h2 := List.length_filter_le (fun i => !(i == j)) ((List.range n).filter fun i => !done.contains i)
  rcases Nat.lt_or_ge ((((List.range n).filter fun i => !done.contains i).filter fun i => !(i == j)).length) (((List.range n).filter fun i => !done.contains i).length) with h | h
  · exact h
  · exfalso
    have h3 := List.filter_eq_self.1 (List.Sublist.eq_of_length_le List.filter_sublist h) j (List.mem_filter.2 ⟨List.mem_range.2 hj, by simpa using hd⟩)
    simp at h3
section
variable {C : Cx} {e : Env} {own : List SP} {K : PH → Prop} {ty : TypeId} {α : Type}
theorem HS.mpNodup {g : Os × Array (Nat × ByteArray)} {w : World} {b : Nat} {key : α → Value} {l : List (α × Value)} (i : Nat) (hi : own[i]? = some (Mp b key l)) (h : HS g own K w) : (l.map (·.1)).Nodup := by
  obtain ⟨es, clock, h1, h2, _⟩ := (h.focus hi).mp
  exact ents_nodup h1 h2
theorem e_next2 (i : Nat) {key : α → Value} {x : Operand} {b r : Nat} {l : List (α × Value)} {done : List Nat} (hx : ev e x = some (.pointer (some (ad r 0)))) (hi : own[i]? = some (MpIt b r key l done)) :
    EO C (.next x false) ty e own K (fun v own' K' => K = K' ∧ ∃ t vs, v = .tuple (Value.bool t :: vs).toArray ∧ ((t = false ∧ own = own' ∧ ∀ j, j < l.length → j ∈ done) ∨
      (t = true ∧ ∃ j a u, l[j]? = some (a, u) ∧ j ∉ done ∧ vs = [key a, u] ∧ own' = own.set i (MpIt b r key l (done ++ [j]))))) :=
  (e_next (t := 0) i hx hi).weak fun v o k ⟨hk, h⟩ => by
    rcases h with ⟨rfl, rfl, h⟩ | ⟨j, a, u, h1, h2, rfl, h3⟩
    · exact ⟨_, _, Imp.refl _ _, hk, false, [], rfl, .inl ⟨rfl, rfl, h⟩⟩
    · exact ⟨_, _, Imp.refl _ _, hk, true, [key a, u], rfl, .inr ⟨rfl, j, a, u, h1, h2, rfl, h3⟩⟩
end
/-- A row of noughts; no word on what they look like. -/
theorem e_makeSliceZ {C : Cx} {e : Env} {own : List SP} {K : PH → Prop} {ty : TypeId} {t el : TypeId} {sz by_ : Nat} {z : Value} {x y : Operand} {n c : Nat} (hx : ev e x = some (.int .i64 n)) (hy : ev e y = some (.int .i64 c)) (hu : Und C.P t (.slice el)) (hi : Inf C.P el sz by_ z)
    (hz : z.cells.size = sz) (hsz : 0 < sz) (hn : n ≤ c) (hc : c * by_ ≤ 140737488355328 ∧ c ≤ 4611686018427387904) :
    EO C (.makeSlice t x y) ty e own K (fun v own' K' => ∃ A Z, v = .slice A n c ∧ own' = ORow A c el sz Z :: own ∧ K = K' ∧ Z.length = n * sz) :=
  (e_makeSlice hx hy hu hi hz hsz hn hc).weak fun v o k ⟨A, h1, h2, h3⟩ => ⟨o, k, Imp.refl _ _, A, _, h1, h2, h3, by simp [hz]⟩
theorem e_copyAll {C : Cx} {e : Env} {own : List SP} {K : PH → Prop} {ty : TypeId} (i : Nat) {t u el : TypeId} {x y : Operand} {v : Value} {A : Option Addr} {n cap sz by_ : Nat} {z : Value} {cs new : List Value} (hx : ev e x = some (.slice A n cap)) (hy : ev e y = some v)
    (hsrc : Src C.P own K sz v n new) (hi : own[i]? = some (ORow A cap el sz cs)) (hu : Und C.P t (.slice el)) (hinf : Inf C.P el sz by_ z) (hlen : cs.length = n * sz) (hnew : new.length = n * sz) (h1 : Ones new) :
    EO C (.call { callee := .builtin .copy, args := #[x, y], argTypes := #[t, u] }) ty e own K (Ret (.int .i64 n) (own.set i (ORow A cap el sz new)) K) := by
  have h := e_copy (C := C) (own := own) (K := K) (ty := ty) (u := u) i hx hy hsrc hi hu hinf hlen hnew (Nat.le_refl _) h1
  rwa [List.drop_eq_nil_of_le (by omega), List.append_nil] at h
theorem repflat_len (n : Nat) (z : List Value) : ((List.replicate n z).flatten).length = n * z.length := by simp

theorem c59 {K : PH → Prop} {g : Os × Array (Nat × ByteArray)} {b m cap : Nat} {A : Option Addr} {d : DkS} {R : List SP} (hd : d.Ok) : SpecAt g Try.prog 59 [.pointer (some (ad b 0))] (DkC b m cap A d :: DkL cap A d.L :: DkM m d.F :: R) (K)
    (fun v o k => ∃ b1 m1 A1 F', v = .pointer (some (ad b1 0)) ∧ K = k ∧ (∀ a, fget F' a = fget d.F a) ∧ o = DkC b1 m1 d.L.length A1 { d with F := F' } :: DkL d.L.length A1 d.L :: DkM m1 F' :: DkC b m cap A d :: DkL cap A d.L :: DkM m d.F :: R) := by
  refine SpecAt.of en_59 Try.func59 rfl rfl ?_
  refine WC.seq ?_
  refine WC.region ?_
  refine WL.q (q_assign rfl) rfl ?_
  refine WL.nil ?_
  refine AT.then_n ?_
  refine WC.seq ?_
  refine WC.seq ?_
  refine WC.region ?_
  refine WL.q (q_move rfl) rfl ?_
  refine WL.q (q_eqlP rfl rfl u_83) rfl ?_
  refine WL.nil ?_
  refine AT.then_n ?_
  refine WC.condHF rfl (rfl) ?_
  refine WC.skip ?_
  refine AT.then_n ?_
  refine WC.seq ?_
  refine WC.region ?_
  refine WL.q (q_move rfl) rfl ?_
  refine WL.q (q_nil rfl) rfl ?_
  refine WL.q (q_fieldAddr rfl fo_218_0) rfl ?_
  refine WL.q (q_loadA rfl a_216 i_216 (Cells.pt 0 rfl) rfl) rfl ?_
  refine WL.q (q_buildL rfl pl_218 i_218 rfl rfl) rfl ?_
  refine WL.eff (e_box rfl) rfl ?_; rintro _ _ _ ⟨b1, rfl, rfl, rfl⟩
  refine WL.imp (Imp.eq (own' := Pt b1 (.cells (dk d.n m A d.L.length cap d.out d.aon d.al d.fon d.fl d.ops).toArray 218 (0, 0)) :: DkC b m cap A d :: DkL cap A d.L :: DkM m d.F :: R) rfl) ?_
  refine WL.q (q_assign rfl) rfl ?_
  refine WL.nil ?_
  refine AT.then_n ?_
  refine WC.seq ?_
  refine WC.region ?_
  refine WL.q (q_move rfl) rfl ?_
  refine WL.eff (e_makeMap (key := ki)) rfl ?_; rintro _ _ _ ⟨b2, rfl, rfl, rfl⟩
  refine WL.q (q_nil rfl) rfl ?_
  refine WL.q (q_fieldAddr rfl fo_218_0) rfl ?_
  refine WL.q (q_fieldAddr rfl fo_216_1) rfl ?_
  first | refine WL.effn (e_store 0 rfl rfl rfl i_211 rfl (by simp)) ?_ | refine WL.effn (e_store 1 rfl rfl rfl i_211 rfl (by simp)) ?_ | refine WL.effn (e_store 2 rfl rfl rfl i_211 rfl (by simp)) ?_ | refine WL.effn (e_store 3 rfl rfl rfl i_211 rfl (by simp)) ?_ | refine WL.effn (e_store 4 rfl rfl rfl i_211 rfl (by simp)) ?_ | refine WL.effn (e_store 5 rfl rfl rfl i_211 rfl (by simp)) ?_
  rintro _ _ _ ⟨rfl, rfl, rfl⟩
  refine WL.nil ?_
  refine AT.then_n ?_
  refine WC.seq ?_
  refine WC.seq ?_
  refine WC.region ?_
  refine WL.q (q_move rfl) rfl ?_
  refine WL.q (q_nil rfl) rfl ?_
  refine WL.q (q_fieldAddr rfl fo_218_0) rfl ?_
  refine WL.q (q_fieldAddr rfl fo_216_1) rfl ?_
  refine WL.q (q_load rfl a_211 (by first | exact Cell.ptL 0 rfl rfl | exact Cell.ptL 1 rfl rfl | exact Cell.ptL 2 rfl rfl | exact Cell.ptL 3 rfl rfl | exact Cell.ptL 4 rfl rfl | exact Cell.ptL 5 rfl rfl)) rfl ?_
  refine WL.eff (e_range 4 (key := ki) rfl rfl u_211) rfl ?_; rintro _ _ _ ⟨r9, rfl, rfl, rfl⟩
  refine WL.pureOwn (p := (d.F.map (·.1)).Nodup) (fun g w hS => ?_) (fun hnd => ?_)
  · obtain ⟨es, clock, seen, q1, q2, _⟩ := (hS.focus (i := 4) rfl).mpIt
    exact fm_nodup (ents_nodup q1 q2)
  refine WL.nil ?_
  refine AT.then_n ?_
  refine WC.block ?_
  refine WC.loop (σ := List Nat × List (Int × Blk)) (fun ⟨done, F'⟩ => CpI d.F F' done) (fun _ => [(24, .pointer (some (ad r9 0))), (3, .pointer (some (ad b1 0))), (0, .pointer (some (ad b 0)))]) (fun ⟨done, F'⟩ => DkM b2 F' :: Pt b1 (.cells (dk d.n b2 A d.L.length cap d.out d.aon d.al d.fon d.fl d.ops).toArray 218 (0, 0)) :: DkC b m cap A d :: DkL cap A d.L :: MpIt m r9 ki (fm d.F) done :: R) (fun _ => K) (fun ⟨done, _⟩ => mleft d.F.length done) ([], []) ⟨by simp, by simp [fgetO]⟩ ⟨rfl, rfl, rfl, trivial⟩ (Imp.eq rfl) ?_
  rintro ⟨done, F'⟩ hI
  simp only at hI ⊢
  refine WC.seq ?_
  refine WC.region ?_
  refine WL.eff (e_next2 4 rfl rfl) rfl ?_; rintro _ o9 _ ⟨rfl, t9, vs9, rfl, hn9⟩
  refine WL.q (q_extract rfl rfl) rfl ?_
  refine WL.nil ?_
  refine AT.then_n ?_
  refine WC.seq ?_
  refine WC.cond rfl (fun h2 => ?_) (fun h2 => ?_)
  · -- if 2: yes
    try have p2 := of_decide_eq_true h2
    subst h2
    rcases hn9 with ⟨h, _⟩ | ⟨_, j9, a9, u9, hj9, hnd9, rfl, rfl⟩
    · cases h
    obtain ⟨B9, hF9, rfl⟩ := fm_get hj9
    refine WC.skip ?_
    refine AT.then_n ?_
    refine WC.block ?_
    refine WC.seq ?_
    refine WC.region ?_
    refine WL.q (q_entry 4 rfl rfl hj9) rfl ?_
    refine WL.q (q_extract rfl rfl) rfl ?_
    refine WL.q (q_extract rfl rfl) rfl ?_
    refine WL.eff (e_alloc i_88) rfl ?_; rintro _ _ _ ⟨b6, rfl, rfl, rfl⟩
    refine WL.q (q_assign rfl) rfl ?_
    refine WL.effn (e_storeAll 0 rfl rfl rfl i_88 rfl (by simp [B9.2]) (by simp) (ones_bv _)) ?_; rintro _ _ _ ⟨rfl, rfl, rfl⟩
    refine WL.nil ?_
    refine AT.then_n ?_
    refine WC.drawS [0, 1, 2, 3, 5] _ _ mixed (NoPan.blk (NoPan.then (NoPan.blk (NoPan.then NoPan.body)))) (Imp.refl _ _) rfl ?_
    refine WD.sched [(0, 0), (1, 0), (2, 0), (3, 0), (4, 0), (5, 0), (6, 0), (7, 1)] true (by decide +kernel) ?_
    refine WS.q 0 rfl (q_move rfl) rfl ?_
    refine WS.q 1 rfl (q_nil rfl) rfl ?_
    refine WS.q 2 rfl (q_fieldAddr rfl fo_218_0) rfl ?_
    refine WS.q 3 rfl (q_fieldAddr rfl fo_216_1) rfl ?_
    refine WS.q 4 rfl (q_load rfl a_211 (by first | exact Cell.ptL 0 rfl rfl | exact Cell.ptL 1 rfl rfl | exact Cell.ptL 2 rfl rfl | exact Cell.ptL 3 rfl rfl | exact Cell.ptL 4 rfl rfl | exact Cell.ptL 5 rfl rfl)) rfl ?_
    refine WS.q 5 rfl (q_move rfl) rfl ?_
    refine WS.q 6 rfl (q_loadA rfl a_88 i_88 (Cells.pt 0 rfl) (by simp [B9.2])) rfl ?_
    refine WS.effn 7 rfl (e_mapUpdate 1 (key := ki) (a := a9) rfl rfl rfl rfl (intKey .i64) u_211 u_3) ?_; rintro _ _ _ ⟨rfl, rfl, rfl⟩
    refine WS.done ?_
    refine AT.blk_n ?_
    refine AT.mid (done ++ [j9], fset F' a9 B9) ⟨hI.step hnd hF9, mleft_step (List.getElem?_eq_some_iff.1 hF9).1 hnd9⟩ ⟨rfl, rfl, rfl, trivial⟩ (Imp.drop (Imp.eq ?_))
    rw [show DkM b2 (fset F' a9 B9) = Mp b2 ki (aset (fm F') a9 (blkV B9.1)) from by rw [fm_set]]; rfl
  · -- if 2: no
    try have p2 := of_decide_eq_false h2
    subst h2
    rcases hn9 with ⟨_, rfl, hall⟩ | ⟨h, _⟩
    rotate_left
    · cases h
    have hsame := fun a => hI.all (fun j hj => hall j (by simpa [fm] using hj)) a
    refine WC.exit ?_
    refine AT.then_e ?_
    refine AT.then_e ?_
    refine AT.blk_e ?_
    refine AT.then_n ?_
    refine WC.seq ?_
    refine WC.region ?_
    refine WL.q (q_move rfl) rfl ?_
    refine WL.q (q_move rfl) rfl ?_
    refine WL.q (q_nil rfl) rfl ?_
    refine WL.q (q_fieldAddr rfl fo_218_0) rfl ?_
    refine WL.q (q_fieldAddr rfl fo_216_2) rfl ?_
    refine WL.q (q_load rfl a_212 (by first | exact Cell.ptL 0 rfl rfl | exact Cell.ptL 1 rfl rfl | exact Cell.ptL 2 rfl rfl | exact Cell.ptL 3 rfl rfl | exact Cell.ptL 4 rfl rfl | exact Cell.ptL 5 rfl rfl)) rfl ?_
    refine WL.q (q_len rfl u_212) rfl ?_
    refine WL.eff (e_makeSliceZ rfl rfl u_212 i_221 rfl (by decide) (by omega) (by have := hd.L; omega)) rfl ?_; rintro _ _ _ ⟨A9, Z9, rfl, rfl, rfl, hZ9⟩
    refine WL.q (q_nil rfl) rfl ?_
    refine WL.q (q_fieldAddr rfl fo_218_0) rfl ?_
    refine WL.q (q_fieldAddr rfl fo_216_2) rfl ?_
    first | refine WL.effn (e_store 0 rfl rfl rfl i_212 rfl (by simp)) ?_ | refine WL.effn (e_store 1 rfl rfl rfl i_212 rfl (by simp)) ?_ | refine WL.effn (e_store 2 rfl rfl rfl i_212 rfl (by simp)) ?_ | refine WL.effn (e_store 3 rfl rfl rfl i_212 rfl (by simp)) ?_ | refine WL.effn (e_store 4 rfl rfl rfl i_212 rfl (by simp)) ?_ | refine WL.effn (e_store 5 rfl rfl rfl i_212 rfl (by simp)) ?_
    rintro _ _ _ ⟨rfl, rfl, rfl⟩
    refine WL.nil ?_
    refine AT.then_n ?_
    refine WC.seq ?_
    refine WC.drawS [0, 1, 2, 3, 5, 6, 7, 8] _ _ mixed (NoPan.then NoPan.body) (Imp.refl _ _) rfl ?_
    refine WD.sched [(0, 0), (1, 0), (2, 0), (3, 0), (4, 0), (5, 0), (6, 0), (7, 0), (8, 0), (9, 0), (10, 1)] true (by decide +kernel) ?_
    refine WS.q 0 rfl (q_move rfl) rfl ?_
    refine WS.q 1 rfl (q_nil rfl) rfl ?_
    refine WS.q 2 rfl (q_fieldAddr rfl fo_218_0) rfl ?_
    refine WS.q 3 rfl (q_fieldAddr rfl fo_216_2) rfl ?_
    refine WS.q 4 rfl (q_load rfl a_212 (by first | exact Cell.ptL 0 rfl rfl | exact Cell.ptL 1 rfl rfl | exact Cell.ptL 2 rfl rfl | exact Cell.ptL 3 rfl rfl | exact Cell.ptL 4 rfl rfl | exact Cell.ptL 5 rfl rfl)) rfl ?_
    refine WS.q 5 rfl (q_move rfl) rfl ?_
    refine WS.q 6 rfl (q_nil rfl) rfl ?_
    refine WS.q 7 rfl (q_fieldAddr rfl fo_218_0) rfl ?_
    refine WS.q 8 rfl (q_fieldAddr rfl fo_216_2) rfl ?_
    refine WS.q 9 rfl (q_load rfl a_212 (by first | exact Cell.ptL 0 rfl rfl | exact Cell.ptL 1 rfl rfl | exact Cell.ptL 2 rfl rfl | exact Cell.ptL 3 rfl rfl | exact Cell.ptL 4 rfl rfl | exact Cell.ptL 5 rfl rfl)) rfl ?_
    refine WS.eff 10 rfl (e_copyAll 0 rfl rfl (Src.orow 4 rfl (by rw [flat_len wr 65 wr_len]) rfl) rfl u_212 i_221 hZ9 (by rw [flat_len wr 65 wr_len]) (fun v hv => by
        obtain ⟨p, hp, hv⟩ := List.mem_flatMap.1 hv
        exact ones_wr p v hv)) rfl ?_; rintro _ _ _ ⟨rfl, rfl, rfl⟩
    refine WS.done ?_
    refine AT.then_n ?_
    refine WC.seq ?_
    refine WC.region ?_
    refine WL.q (q_move rfl) rfl ?_
    refine WL.q (q_assign rfl) rfl ?_
    refine WL.nil ?_
    refine AT.then_n ?_
    refine WC.ret ?_
    refine AT.done rfl (RO.one rfl rfl) ⟨b1, b2, A9, F', rfl, rfl, hsame, rfl⟩ (Imp.trans (Imp.front 5 rfl) (Imp.trans Imp.mpOver (Imp.trans (Imp.front 5 rfl) (Imp.trans (Imp.front 5 rfl) (Imp.trans (Imp.front 4 rfl) (Imp.trans (Imp.front 4 rfl) (Imp.front 5 rfl)))))))

end Go.Proofs.Sl
