/-
  No cell of these rows narrows 'for every input' (looked for: loops, veiled, ifaces, maps, wideKeys, modest, calm, conditions, laid).
  DERIVED. THE GIVEN ROWS OF THIS SEAT. 7 by the template 'for every input the law returns true; each argument reads behind the call as it read before'; 0 by the template 'total and deterministic' (their statements: YtimokikpnngikaaTotals.lean).
  GIVEN WITH THE SEED: the statements are not yours to turn. If you find one false, say at which input.
  Laid BY PROGRAM, IN A SANDBOX (cutbox-rows.mjs): the forced cells as the released guide's own fill.sh prints them over the translation db5704498749010e… (all of the seat's roots in one cut). By AI agents, Wed Nov 11 2026. No macro, syntax, notation, axiom, sorry.
-/
import Derived.Test.YtimokikpnngikaaChecked
import GoSem.Claim
import GoSem.ClaimJoined
import GoSem.ClaimMapViews
import Derived.JoinedTies
import Derived.KernelRfl
namespace Go.Proofs.Ytimokikpnngikaa
/- THE CELL 'sum', in the pinned program and in every row, IS THE sha256 OF THE DUMP (.gsa) THAT YtimokikpnngikaaProg.lean LOADS. Nothing in Lean hashes anything: it is a label: what it is worth is what the hold of that sum in a sandbox is worth. -/
noncomputable def Try.pinned : Pinned := { name := "ytimokikpnngikaa", sum := "db5704498749010e911ac295048507d061d56beee1c9c970361a3a6e618eda47", checked := Try.checked }
namespace Rows
def none {H : Type} : Left H := { results := [], args := [] }

/-- 'safehousetop.TopOctets': WHATEVER THE INPUT: true; the input reads as it did. -/
def topOctetsSpec : ChangeSpec := { name := "topOctets", fn := fun _ => fun
  | [d1, d2, d3] => { results := [.lit (.bool true)], args := [d1, d2, d3] }
  | _ => none }
def topOctetsRow : OpenClaim := { program := "ytimokikpnngikaa", sum := "db5704498749010e911ac295048507d061d56beee1c9c970361a3a6e618eda47", func := "safehouse/safehousetop.TopOctets", spec := "topOctets", unfollowed := true, recurses := true, apart := false }
def TopOctetsSaid : Prop := topOctetsRow.holds Try.pinned (OpenSpec.ofChange topOctetsSpec)

/-- ITS FALSE NEIGHBOUR: 'it returns false'. Refute it at one input. -/
def topOctetsWrong : ChangeSpec := { name := "topOctets", fn := fun _ => fun
  | [d1, d2, d3] => { results := [.lit (.bool false)], args := [d1, d2, d3] }
  | _ => none }
def TopOctetsWrongFalsely : Prop := topOctetsRow.holds Try.pinned (OpenSpec.ofChange topOctetsWrong)

/-- 'safehousetop.TopSectors': WHATEVER THE INPUT: true; the input reads as it did. -/
def topSectorsSpec : ChangeSpec := { name := "topSectors", fn := fun _ => fun
  | [d1, d2] => { results := [.lit (.bool true)], args := [d1, d2] }
  | _ => none }
def topSectorsRow : OpenClaim := { program := "ytimokikpnngikaa", sum := "db5704498749010e911ac295048507d061d56beee1c9c970361a3a6e618eda47", func := "safehouse/safehousetop.TopSectors", spec := "topSectors", unfollowed := true, recurses := true, apart := false }
def TopSectorsSaid : Prop := topSectorsRow.holds Try.pinned (OpenSpec.ofChange topSectorsSpec)

/-- ITS FALSE NEIGHBOUR: 'it returns false'. Refute it at one input. -/
def topSectorsWrong : ChangeSpec := { name := "topSectors", fn := fun _ => fun
  | [d1, d2] => { results := [.lit (.bool false)], args := [d1, d2] }
  | _ => none }
def TopSectorsWrongFalsely : Prop := topSectorsRow.holds Try.pinned (OpenSpec.ofChange topSectorsWrong)

/-- 'safehousetop.TopTermed': WHATEVER THE INPUT: true; the input reads as it did. -/
def topTermedSpec : ChangeSpec := { name := "topTermed", fn := fun _ => fun
  | [d1, d2, d3, d4, d5, d6] => { results := [.lit (.bool true)], args := [d1, d2, d3, d4, d5, d6] }
  | _ => none }
def topTermedRow : OpenClaim := { program := "ytimokikpnngikaa", sum := "db5704498749010e911ac295048507d061d56beee1c9c970361a3a6e618eda47", func := "safehouse/safehousetop.TopTermed", spec := "topTermed", inPlace := ["internal/bytealg.Compare"], unfollowed := true, recurses := true, apart := false }
def TopTermedSaid : Prop := topTermedRow.holds Try.pinned (OpenSpec.ofChange topTermedSpec)

/-- ITS FALSE NEIGHBOUR: 'it returns false'. Refute it at one input. -/
def topTermedWrong : ChangeSpec := { name := "topTermed", fn := fun _ => fun
  | [d1, d2, d3, d4, d5, d6] => { results := [.lit (.bool false)], args := [d1, d2, d3, d4, d5, d6] }
  | _ => none }
def TopTermedWrongFalsely : Prop := topTermedRow.holds Try.pinned (OpenSpec.ofChange topTermedWrong)

/-- 'safehousetop.TopChained': WHATEVER THE INPUT: true; the input reads as it did. -/
def topChainedSpec : ChangeSpec := { name := "topChained", fn := fun _ => fun
  | [d1, d2, d3, d4, d5, d6, d7, d8] => { results := [.lit (.bool true)], args := [d1, d2, d3, d4, d5, d6, d7, d8] }
  | _ => none }
def topChainedRow : OpenClaim := { program := "ytimokikpnngikaa", sum := "db5704498749010e911ac295048507d061d56beee1c9c970361a3a6e618eda47", func := "safehouse/safehousetop.TopChained", spec := "topChained", unfollowed := true, recurses := true, apart := false }
def TopChainedSaid : Prop := topChainedRow.holds Try.pinned (OpenSpec.ofChange topChainedSpec)

/-- ITS FALSE NEIGHBOUR: 'it returns false'. Refute it at one input. -/
def topChainedWrong : ChangeSpec := { name := "topChained", fn := fun _ => fun
  | [d1, d2, d3, d4, d5, d6, d7, d8] => { results := [.lit (.bool false)], args := [d1, d2, d3, d4, d5, d6, d7, d8] }
  | _ => none }
def TopChainedWrongFalsely : Prop := topChainedRow.holds Try.pinned (OpenSpec.ofChange topChainedWrong)

/-- 'safehousetop.TopPermitted': WHATEVER THE INPUT: true; the input reads as it did. -/
def topPermittedSpec : ChangeSpec := { name := "topPermitted", fn := fun _ => fun
  | [d1, d2, d3] => { results := [.lit (.bool true)], args := [d1, d2, d3] }
  | _ => none }
def topPermittedRow : OpenClaim := { program := "ytimokikpnngikaa", sum := "db5704498749010e911ac295048507d061d56beee1c9c970361a3a6e618eda47", func := "safehouse/safehousetop.TopPermitted", spec := "topPermitted", inPlace := ["slices.overlaps[int]"], unfollowed := true, recurses := true, apart := false }
def TopPermittedSaid : Prop := topPermittedRow.holds Try.pinned (OpenSpec.ofChange topPermittedSpec)

/-- ITS FALSE NEIGHBOUR: 'it returns false'. Refute it at one input. -/
def topPermittedWrong : ChangeSpec := { name := "topPermitted", fn := fun _ => fun
  | [d1, d2, d3] => { results := [.lit (.bool false)], args := [d1, d2, d3] }
  | _ => none }
def TopPermittedWrongFalsely : Prop := topPermittedRow.holds Try.pinned (OpenSpec.ofChange topPermittedWrong)

/-- 'safehousetop.TopBooks': WHATEVER THE INPUT: true; the input reads as it did. -/
def topBooksSpec : ChangeSpec := { name := "topBooks", fn := fun _ => fun
  | [d1, d2] => { results := [.lit (.bool true)], args := [d1, d2] }
  | _ => none }
def topBooksRow : OpenClaim := { program := "ytimokikpnngikaa", sum := "db5704498749010e911ac295048507d061d56beee1c9c970361a3a6e618eda47", func := "safehouse/safehousetop.TopBooks", spec := "topBooks", unfollowed := true, recurses := true, apart := false }
def TopBooksSaid : Prop := topBooksRow.holds Try.pinned (OpenSpec.ofChange topBooksSpec)

/-- ITS FALSE NEIGHBOUR: 'it returns false'. Refute it at one input. -/
def topBooksWrong : ChangeSpec := { name := "topBooks", fn := fun _ => fun
  | [d1, d2] => { results := [.lit (.bool false)], args := [d1, d2] }
  | _ => none }
def TopBooksWrongFalsely : Prop := topBooksRow.holds Try.pinned (OpenSpec.ofChange topBooksWrong)

/-- 'safehousetop.TopReckoned': WHATEVER THE INPUT: true; the input reads as it did. -/
def topReckonedSpec : ChangeSpec := { name := "topReckoned", fn := fun _ => fun
  | [d1, d2, d3] => { results := [.lit (.bool true)], args := [d1, d2, d3] }
  | _ => none }
def topReckonedRow : OpenClaim := { program := "ytimokikpnngikaa", sum := "db5704498749010e911ac295048507d061d56beee1c9c970361a3a6e618eda47", func := "safehouse/safehousetop.TopReckoned", spec := "topReckoned", unfollowed := true, recurses := true, apart := false }
def TopReckonedSaid : Prop := topReckonedRow.holds Try.pinned (OpenSpec.ofChange topReckonedSpec)

/-- ITS FALSE NEIGHBOUR: 'it returns false'. Refute it at one input. -/
def topReckonedWrong : ChangeSpec := { name := "topReckoned", fn := fun _ => fun
  | [d1, d2, d3] => { results := [.lit (.bool false)], args := [d1, d2, d3] }
  | _ => none }
def TopReckonedWrongFalsely : Prop := topReckonedRow.holds Try.pinned (OpenSpec.ofChange topReckonedWrong)

/- THE SECOND FORM. 'bulk': how many values and letters a reading holds, each counted each time it is reached (what is shared counts as often as it is met; a slice's spare places count too). A statement '..UptoSaid' is the law's where the arguments, and the package variables that the reading takes, are together of bulk at most 1048576: NARROWER than '..Said'. Prove '..Said' where nothing that the law and all that it calls make is longer than what came in: it says more and counts as full. Else prove '..UptoSaid'. A law counts once. -/
mutual
def uptoBulk {H : Type} : DataW H → Nat
  | .lit (.string bytes) => bytes.length + 1
  | .lit _ => 1
  | .nil => 1
  | .ptr d => uptoBulk d + 1
  | .slice elems spare => uptoBulkAll elems + uptoBulkAll spare + 1
  | .agg parts => uptoBulkAll parts + 1
  | .iface _ d => uptoBulk d + 1
  | .map entries => uptoBulkEntries entries + 1
  | .held _ => 1
def uptoBulkAll {H : Type} : List (DataW H) → Nat
  | [] => 0
  | d :: r => uptoBulk d + uptoBulkAll r
def uptoBulkEntries {H : Type} : List (Lit × DataW H) → Nat
  | [] => 0
  | x :: r => uptoBulkEntry x + uptoBulkEntries r
def uptoBulkEntry {H : Type} : Lit × DataW H → Nat
  | (.string bytes, d) => bytes.length + uptoBulk d + 1
  | (_, d) => uptoBulk d + 1
 end
def uptoSmall : (H : Type) → List (DataW H) → Bool := fun _ ds => decide (uptoBulkAll ds ≤ 1048576)
def OpenSpec.upto (s : _root_.Go.ChangeSpec) : _root_.Go.OpenSpec := { _root_.Go.OpenSpec.ofChange s with cond := some uptoSmall }

/-- 'safehousetop.TopOctets', WHERE WHAT IT READS IS OF BULK AT MOST 1048576: true; the input reads as it did. -/
def topOctetsUptoRow : OpenClaim := { program := "ytimokikpnngikaa", sum := "db5704498749010e911ac295048507d061d56beee1c9c970361a3a6e618eda47", func := "safehouse/safehousetop.TopOctets", spec := "topOctets", unfollowed := true, recurses := true, apart := false, narrowed := true }
def TopOctetsUptoSaid : Prop := topOctetsUptoRow.holds Try.pinned (OpenSpec.upto topOctetsSpec)

/-- 'safehousetop.TopSectors', WHERE WHAT IT READS IS OF BULK AT MOST 1048576: true; the input reads as it did. -/
def topSectorsUptoRow : OpenClaim := { program := "ytimokikpnngikaa", sum := "db5704498749010e911ac295048507d061d56beee1c9c970361a3a6e618eda47", func := "safehouse/safehousetop.TopSectors", spec := "topSectors", unfollowed := true, recurses := true, apart := false, narrowed := true }
def TopSectorsUptoSaid : Prop := topSectorsUptoRow.holds Try.pinned (OpenSpec.upto topSectorsSpec)

/-- 'safehousetop.TopTermed', WHERE WHAT IT READS IS OF BULK AT MOST 1048576: true; the input reads as it did. -/
def topTermedUptoRow : OpenClaim := { program := "ytimokikpnngikaa", sum := "db5704498749010e911ac295048507d061d56beee1c9c970361a3a6e618eda47", func := "safehouse/safehousetop.TopTermed", spec := "topTermed", inPlace := ["internal/bytealg.Compare"], unfollowed := true, recurses := true, apart := false, narrowed := true }
def TopTermedUptoSaid : Prop := topTermedUptoRow.holds Try.pinned (OpenSpec.upto topTermedSpec)

/-- 'safehousetop.TopChained', WHERE WHAT IT READS IS OF BULK AT MOST 1048576: true; the input reads as it did. -/
def topChainedUptoRow : OpenClaim := { program := "ytimokikpnngikaa", sum := "db5704498749010e911ac295048507d061d56beee1c9c970361a3a6e618eda47", func := "safehouse/safehousetop.TopChained", spec := "topChained", unfollowed := true, recurses := true, apart := false, narrowed := true }
def TopChainedUptoSaid : Prop := topChainedUptoRow.holds Try.pinned (OpenSpec.upto topChainedSpec)

/-- 'safehousetop.TopPermitted', WHERE WHAT IT READS IS OF BULK AT MOST 1048576: true; the input reads as it did. -/
def topPermittedUptoRow : OpenClaim := { program := "ytimokikpnngikaa", sum := "db5704498749010e911ac295048507d061d56beee1c9c970361a3a6e618eda47", func := "safehouse/safehousetop.TopPermitted", spec := "topPermitted", inPlace := ["slices.overlaps[int]"], unfollowed := true, recurses := true, apart := false, narrowed := true }
def TopPermittedUptoSaid : Prop := topPermittedUptoRow.holds Try.pinned (OpenSpec.upto topPermittedSpec)

/-- 'safehousetop.TopBooks', WHERE WHAT IT READS IS OF BULK AT MOST 1048576: true; the input reads as it did. -/
def topBooksUptoRow : OpenClaim := { program := "ytimokikpnngikaa", sum := "db5704498749010e911ac295048507d061d56beee1c9c970361a3a6e618eda47", func := "safehouse/safehousetop.TopBooks", spec := "topBooks", unfollowed := true, recurses := true, apart := false, narrowed := true }
def TopBooksUptoSaid : Prop := topBooksUptoRow.holds Try.pinned (OpenSpec.upto topBooksSpec)

/-- 'safehousetop.TopReckoned', WHERE WHAT IT READS IS OF BULK AT MOST 1048576: true; the input reads as it did. -/
def topReckonedUptoRow : OpenClaim := { program := "ytimokikpnngikaa", sum := "db5704498749010e911ac295048507d061d56beee1c9c970361a3a6e618eda47", func := "safehouse/safehousetop.TopReckoned", spec := "topReckoned", unfollowed := true, recurses := true, apart := false, narrowed := true }
def TopReckonedUptoSaid : Prop := topReckonedUptoRow.holds Try.pinned (OpenSpec.upto topReckonedSpec)

end Rows
end Go.Proofs.Ytimokikpnngikaa
