/- Layer 2, third part: a disk as one assertion, and what each call comes to. -/
import Derived.Test.YtimokikpnngikaaSlDisk2
namespace Go.Proofs.Sl
open Go
set_option linter.unusedVariables false
/-- A disk. -/
def Dsk (b : Nat) (d : DkS) : SP := ExS fun (x : Nat × Nat × Option Addr) => [DkC b x.1 x.2.1 x.2.2 d, DkL x.2.1 x.2.2 d.L, DkM x.1 d.F]
section
variable {g : Os × Array (Nat × ByteArray)} {P : Program} {f : FuncId} {args : List Value} {own own' R : List SP} {K : PH → Prop} {Φ : Value → List SP → (PH → Prop) → Prop} {b m cap : Nat} {A : Option Addr} {d : DkS}
theorem Imp.dsk : Imp (DkC b m cap A d :: DkL cap A d.L :: DkM m d.F :: own) K (Dsk b d :: own) K := Imp.exS (m, cap, A) (Imp.refl _ _)
theorem SpecAt.dsk (h : ∀ m cap A, SpecAt g P f args (DkC b m cap A d :: DkL cap A d.L :: DkM m d.F :: R) K Φ) : SpecAt g P f args (Dsk b d :: R) K Φ :=
  SpecAt.exS (0, 0, none) fun x => h x.1 x.2.1 x.2.2
/-- A contract that takes the first of one's own, at another place. -/
theorem SpecAt.at_ {A B : SP} (i : Nat) (hi : own[i]? = some A) {v : Value} (h : SpecAt g P f args (A :: own.eraseIdx i) K (Ret v (B :: own.eraseIdx i) K)) : SpecAt g P f args own K (Ret v (own.set i B) K) :=
  (h.pre (Imp.front i hi)).weak fun v' o k ⟨h1, h2, h3⟩ => ⟨_, _, by subst h2 h3; exact fun _ _ h => h.unfocus hi, h1, rfl, rfl⟩
theorem Spec.at_ {A B : SP} (i : Nat) (hi : own[i]? = some A) {v : Value} (h : Spec P f args (A :: own.eraseIdx i) K (Ret v (B :: own.eraseIdx i) K)) : Spec P f args own K (Ret v (own.set i B) K) :=
  Spec.all fun g => SpecAt.at_ i hi (h.at g)
theorem SpecAt.ret {v v' : Value} (hv : v = v') (h : SpecAt g P f args own K (Ret v own' K)) : SpecAt g P f args own K (Ret v' own' K) := hv ▸ h
end
section
variable {g : Os × Array (Nat × ByteArray)} {K : PH → Prop} {R : List SP} {b : Nat} {d : DkS} {a v : Int}
def DkS.wrote (d : DkS) (a : Int) (B : Blk) : DkS := if d.ask a true = 0 then { d.did a true with L := d.L ++ [(a, B)] } else d.asked a true
def DkS.read (d : DkS) (a : Int) : DkS := if d.ask a false = 0 then d.did a false else d.asked a false
def DkS.reads (d : DkS) (a : Int) : List UInt8 := if d.ask a false = 0 then holdsD d.F d.L a else List.replicate 64 0
def DkS.synced (d : DkS) : DkS := if d.ask 0 true = 0 then { d.did 0 true with F := settleD (fun _ => true) d.F d.L, L := [] } else d.asked 0 true
def DkS.armed (d : DkS) (v : Int) : DkS := if d.out = true then d else { d with aon := decide (v ≥ 0), al := v }
def DkS.failed (d : DkS) (v : Int) : DkS := if d.out = true then d else { d with fon := decide (v ≥ 0), fl := v }
def kpO (keep : List Bool) (i : Nat) : Bool := (keep[i]?).getD false
def DkS.crashed (d : DkS) (keep : List Bool) : DkS := { d with F := settleD (kpO keep) d.F d.L, L := [], out := false, aon := false, al := 0, fon := false, fl := 0 }
def DkS.new (n : Int) : DkS := ⟨n, [], [], false, false, 0, false, 0, 0⟩

theorem w47 {n : Int} (hn : 1 ≤ n ∧ n ≤ 2048) : SpecAt g Try.prog 47 [.int .i64 n] R K (fun v o k => ∃ b, v = .tuple #[.pointer (some (ad b 0)), .int .i64 0] ∧ o = Dsk b (DkS.new n) :: R ∧ K = k) :=
  ((c47_ok hn).at g).weak fun v o k ⟨b, m, h1, h2, h3⟩ => ⟨Dsk b (DkS.new n) :: R, k, by
    subst h2 h3
    exact (Imp.orowNil 221 65).trans ((Imp.front 1 rfl).trans (Imp.trans (Imp.front 1 rfl) (Imp.trans (Imp.front 1 rfl) (Imp.dsk (d := DkS.new n))))), b, h1, rfl, h3⟩
theorem w48 {B : Blk} (hd : d.Ok) : SpecAt g Try.prog 48 [.pointer (some (ad b 0)), .int .i64 a, blkV B.1] (Dsk b d :: R) K (Ret (.int .i64 (d.ask a true)) (Dsk b (d.wrote a B) :: R) K) := by
  unfold DkS.wrote
  split
  · rename_i he
    refine SpecAt.dsk fun m cap A => (c48_ok hd he).weak fun v o k ⟨A2, cap2, h1, h2, h3⟩ => ⟨_, K, ?_, by rw [he]; exact h1.symm, rfl, rfl⟩
    subst h2 h3; exact Imp.dsk
  · rename_i he
    refine SpecAt.dsk fun m cap A => (c48_bad (R := DkL cap A d.L :: DkM m d.F :: R) hd he).weak fun v o k ⟨h1, h2, h3⟩ => ⟨_, _, ?_, h1, rfl, rfl⟩
    subst h2 h3; exact Imp.dsk (d := d.asked a true)
theorem w50 (hd : d.Ok) : SpecAt g Try.prog 50 [.pointer (some (ad b 0)), .int .i64 a] (Dsk b d :: R) K (Ret (.tuple #[blkV (d.reads a), .int .i64 (d.ask a false)]) (Dsk b (d.read a) :: R) K) := by
  unfold DkS.read DkS.reads
  split
  · rename_i he
    refine SpecAt.dsk fun m cap A => (c50_ok hd he).weak fun v o k ⟨h1, h2, h3⟩ => ⟨_, _, ?_, by rw [he]; exact h1, rfl, rfl⟩
    subst h2 h3; exact Imp.dsk (d := d.did a false)
  · rename_i he
    refine SpecAt.dsk fun m cap A => (c50_bad (R := DkL cap A d.L :: DkM m d.F :: R) hd he).weak fun v o k ⟨h1, h2, h3⟩ => ⟨_, _, ?_, h1, rfl, rfl⟩
    subst h2 h3; exact Imp.dsk (d := d.asked a false)
theorem w55 (hd : d.Ok) : SpecAt g Try.prog 55 [.pointer (some (ad b 0))] (Dsk b d :: R) K (Ret (.int .i64 (d.ask 0 true)) (Dsk b d.synced :: R) K) := by
  unfold DkS.synced
  split
  · rename_i he
    refine SpecAt.dsk fun m cap A => (c55_ok hd he).weak fun v o k ⟨h1, h2, h3⟩ => ⟨_, _, ?_, by rw [he]; exact h1, rfl, rfl⟩
    subst h2 h3; exact Imp.dsk (d := { d.did 0 true with F := settleD (fun _ => true) d.F d.L, L := [] })
  · rename_i he
    refine SpecAt.dsk fun m cap A => (c55_bad (R := DkL cap A d.L :: DkM m d.F :: R) hd he).weak fun v o k ⟨h1, h2, h3⟩ => ⟨_, _, ?_, h1, rfl, rfl⟩
    subst h2 h3; exact Imp.dsk (d := d.asked 0 true)
theorem w51 (hd : d.Ok) : SpecAt g Try.prog 51 [.pointer (some (ad b 0))] (Dsk b d :: R) K (fun v o k => ∃ A2 cap2, v = .slice A2 d.L.length cap2 ∧ o = Dsk b d :: R ∧ Ent k K ∧ Ent k (Row A2 (d.L.map fun p => .int .i64 p.1))) :=
  SpecAt.dsk fun m cap A => ((c51 (own := DkM m d.F :: R) hd.L).at g).weak fun v o k ⟨A2, cap2, h1, h2, h3, h4⟩ => ⟨_, k, by subst h2; exact Imp.dsk, A2, cap2, h1, rfl, h3, h4⟩
theorem w52 {c1 : Nat} {A1 : Option Addr} {keep : List Bool} (hd : d.Ok) (hk : keep ≠ [] → Ent K (Row A1 (keep.map Value.bool))) : SpecAt g Try.prog 52 [.pointer (some (ad b 0)), .slice A1 keep.length c1] (Dsk b d :: R) K (Ret (.int .i64 0) (Dsk b (d.crashed keep) :: R) K) :=
  SpecAt.dsk fun m cap A => (c52 hd hk).weak fun v o k ⟨h1, h2, h3⟩ => ⟨_, _, by subst h2 h3; exact Imp.dsk (d := d.crashed keep), h1, rfl, rfl⟩
theorem w56 : SpecAt g Try.prog 56 [.pointer (some (ad b 0)), .int .i64 v] (Dsk b d :: R) K (Ret (.int .i64 (if d.out = true then 9 else 0)) (Dsk b (d.armed v) :: R) K) :=
  SpecAt.dsk fun m cap A => ((c56 (own := DkL cap A d.L :: DkM m d.F :: R)).at g).weak fun v' o k ⟨h1, h2, h3⟩ => ⟨_, _, by
    subst h2 h3; unfold DkS.armed; split
    · rename_i h; exact Imp.dsk (d := d)
    · rename_i h; exact Imp.dsk (d := { d with aon := decide (v ≥ 0), al := v }), h1, rfl, rfl⟩
theorem w57 : SpecAt g Try.prog 57 [.pointer (some (ad b 0)), .int .i64 v] (Dsk b d :: R) K (Ret (.int .i64 (if d.out = true then 9 else 0)) (Dsk b (d.failed v) :: R) K) :=
  SpecAt.dsk fun m cap A => ((c57 (own := DkL cap A d.L :: DkM m d.F :: R)).at g).weak fun v' o k ⟨h1, h2, h3⟩ => ⟨_, _, by
    subst h2 h3; unfold DkS.failed; split
    · rename_i h; exact Imp.dsk (d := d)
    · rename_i h; exact Imp.dsk (d := { d with fon := decide (v ≥ 0), fl := v }), h1, rfl, rfl⟩
theorem w60 : SpecAt g Try.prog 60 [.pointer (some (ad b 0))] (Dsk b d :: R) K (Ret (.int .i64 d.n) (Dsk b d :: R) K) :=
  SpecAt.dsk fun m cap A => ((c60 (own := DkL cap A d.L :: DkM m d.F :: R)).at g).weak fun v o k ⟨h1, h2, h3⟩ => ⟨_, _, by subst h2 h3; exact Imp.dsk, h1, rfl, rfl⟩
theorem w61 : SpecAt g Try.prog 61 [.pointer (some (ad b 0))] (Dsk b d :: R) K (Ret (.bool d.out) (Dsk b d :: R) K) :=
  SpecAt.dsk fun m cap A => ((c61 (own := DkL cap A d.L :: DkM m d.F :: R)).at g).weak fun v o k ⟨h1, h2, h3⟩ => ⟨_, _, by subst h2 h3; exact Imp.dsk, h1, rfl, rfl⟩
theorem w62 : SpecAt g Try.prog 62 [.pointer (some (ad b 0))] (Dsk b d :: R) K (Ret (.int .i64 d.ops) (Dsk b d :: R) K) :=
  SpecAt.dsk fun m cap A => ((c62 (own := DkL cap A d.L :: DkM m d.F :: R)).at g).weak fun v o k ⟨h1, h2, h3⟩ => ⟨_, _, by subst h2 h3; exact Imp.dsk, h1, rfl, rfl⟩
theorem w59 (hd : d.Ok) : SpecAt g Try.prog 59 [.pointer (some (ad b 0))] (Dsk b d :: R) K (fun v o k => ∃ b1 F', v = .pointer (some (ad b1 0)) ∧ K = k ∧ (∀ a, fget F' a = fget d.F a) ∧ o = Dsk b1 { d with F := F' } :: Dsk b d :: R) :=
  SpecAt.dsk fun m cap A => (c59 hd).weak fun v o k ⟨b1, m1, A1, F', h1, h2, h3, h4⟩ => ⟨Dsk b1 { d with F := F' } :: Dsk b d :: R, k, by
    subst h2 h4
    exact (Imp.dsk (d := { d with F := F' })).trans ((Imp.front 3 rfl).trans ((Imp.front 3 rfl).trans ((Imp.front 3 rfl).trans ((Imp.dsk (d := d)).trans Imp.swap)))), b1, F', h1, h2, h3, rfl⟩
end
end Go.Proofs.Sl
