/-
  No cell of these rows narrows 'for every input' (looked for: loops, veiled, ifaces, maps, wideKeys, modest, calm, conditions, laid).
  DERIVED. THE GIVEN ROWS OF THIS SEAT. 5 by the template 'for every input the law returns true; each argument reads behind the call as it read before'; 0 by the template 'total and deterministic' (their statements: YtpdcllhmbjnooaaTotals.lean).
  GIVEN WITH THE SEED: the statements are not yours to turn. If you find one false, say at which input.
  Laid BY PROGRAM, IN A SANDBOX (cutbox-rows.mjs): the forced cells as the released guide's own fill.sh prints them over the translation 28f7c5464769a067… (all of the seat's roots in one cut). By AI agents, Wed Nov 11 2026. No macro, syntax, notation, axiom, sorry.
-/
import Derived.Test.YtpdcllhmbjnooaaChecked
import GoSem.Claim
import GoSem.ClaimJoined
import GoSem.ClaimMapViews
import Derived.JoinedTies
import Derived.KernelRfl
namespace Go.Proofs.Ytpdcllhmbjnooaa
/- THE CELL 'sum', in the pinned program and in every row, IS THE sha256 OF THE DUMP (.gsa) THAT YtpdcllhmbjnooaaProg.lean LOADS. Nothing in Lean hashes anything: it is a label: what it is worth is what the hold of that sum in a sandbox is worth. -/
noncomputable def Try.pinned : Pinned := { name := "ytpdcllhmbjnooaa", sum := "28f7c5464769a0671196004025f70f52ce846e107f092b88148ba001735ff6ec", checked := Try.checked }
namespace Rows
def none {H : Type} : Left H := { results := [], args := [] }

/-- 'lodestarlaw18.SessionAlone': WHATEVER THE INPUT: true; the input reads as it did. -/
def sessionAloneSpec : ChangeSpec := { name := "sessionAlone", fn := fun _ => fun
  | [d1, d2, d3] => { results := [.lit (.bool true)], args := [d1, d2, d3] }
  | _ => none }
def sessionAloneRow : OpenClaim := { program := "ytpdcllhmbjnooaa", sum := "28f7c5464769a0671196004025f70f52ce846e107f092b88148ba001735ff6ec", func := "lodestar/lodestarlaw18.SessionAlone", spec := "sessionAlone", inPlace := ["sync/atomic.StoreUint32", "sync/atomic.LoadUint32", "sync/atomic.CompareAndSwapUint32"], apart := false }
def SessionAloneSaid : Prop := sessionAloneRow.holds Try.pinned (OpenSpec.ofChange sessionAloneSpec)

/-- ITS FALSE NEIGHBOUR: 'it returns false'. Refute it at one input. -/
def sessionAloneWrong : ChangeSpec := { name := "sessionAlone", fn := fun _ => fun
  | [d1, d2, d3] => { results := [.lit (.bool false)], args := [d1, d2, d3] }
  | _ => none }
def SessionAloneWrongFalsely : Prop := sessionAloneRow.holds Try.pinned (OpenSpec.ofChange sessionAloneWrong)

/-- 'lodestarlaw03.TagsMore': WHATEVER THE INPUT: true; the input reads as it did. -/
def tagsMoreSpec : ChangeSpec := { name := "tagsMore", fn := fun _ => fun
  | [d1, d2, d3] => { results := [.lit (.bool true)], args := [d1, d2, d3] }
  | _ => none }
def tagsMoreRow : OpenClaim := { program := "ytpdcllhmbjnooaa", sum := "28f7c5464769a0671196004025f70f52ce846e107f092b88148ba001735ff6ec", func := "lodestar/lodestarlaw03.TagsMore", spec := "tagsMore", unfollowed := true, recurses := true, apart := false }
def TagsMoreSaid : Prop := tagsMoreRow.holds Try.pinned (OpenSpec.ofChange tagsMoreSpec)

/-- ITS FALSE NEIGHBOUR: 'it returns false'. Refute it at one input. -/
def tagsMoreWrong : ChangeSpec := { name := "tagsMore", fn := fun _ => fun
  | [d1, d2, d3] => { results := [.lit (.bool false)], args := [d1, d2, d3] }
  | _ => none }
def TagsMoreWrongFalsely : Prop := tagsMoreRow.holds Try.pinned (OpenSpec.ofChange tagsMoreWrong)

/-- 'lodestarlaw18.SessionAway': WHATEVER THE INPUT: true; the input reads as it did. -/
def sessionAwaySpec : ChangeSpec := { name := "sessionAway", fn := fun _ => fun
  | [d1, d2, d3] => { results := [.lit (.bool true)], args := [d1, d2, d3] }
  | _ => none }
def sessionAwayRow : OpenClaim := { program := "ytpdcllhmbjnooaa", sum := "28f7c5464769a0671196004025f70f52ce846e107f092b88148ba001735ff6ec", func := "lodestar/lodestarlaw18.SessionAway", spec := "sessionAway", inPlace := ["sync/atomic.StoreUint32", "sync/atomic.LoadUint32", "sync/atomic.CompareAndSwapUint32"], unfollowed := true, recurses := true, apart := false }
def SessionAwaySaid : Prop := sessionAwayRow.holds Try.pinned (OpenSpec.ofChange sessionAwaySpec)

/-- ITS FALSE NEIGHBOUR: 'it returns false'. Refute it at one input. -/
def sessionAwayWrong : ChangeSpec := { name := "sessionAway", fn := fun _ => fun
  | [d1, d2, d3] => { results := [.lit (.bool false)], args := [d1, d2, d3] }
  | _ => none }
def SessionAwayWrongFalsely : Prop := sessionAwayRow.holds Try.pinned (OpenSpec.ofChange sessionAwayWrong)

/-- 'lodestarlaw18.SessionPlays': WHATEVER THE INPUT: true; the input reads as it did. -/
def sessionPlaysSpec : ChangeSpec := { name := "sessionPlays", fn := fun _ => fun
  | [d1, d2, d3, d4] => { results := [.lit (.bool true)], args := [d1, d2, d3, d4] }
  | _ => none }
def sessionPlaysRow : OpenClaim := { program := "ytpdcllhmbjnooaa", sum := "28f7c5464769a0671196004025f70f52ce846e107f092b88148ba001735ff6ec", func := "lodestar/lodestarlaw18.SessionPlays", spec := "sessionPlays", inPlace := ["sync/atomic.StoreUint32", "sync/atomic.LoadUint32", "sync/atomic.CompareAndSwapUint32"], unfollowed := true, recurses := true, apart := false }
def SessionPlaysSaid : Prop := sessionPlaysRow.holds Try.pinned (OpenSpec.ofChange sessionPlaysSpec)

/-- ITS FALSE NEIGHBOUR: 'it returns false'. Refute it at one input. -/
def sessionPlaysWrong : ChangeSpec := { name := "sessionPlays", fn := fun _ => fun
  | [d1, d2, d3, d4] => { results := [.lit (.bool false)], args := [d1, d2, d3, d4] }
  | _ => none }
def SessionPlaysWrongFalsely : Prop := sessionPlaysRow.holds Try.pinned (OpenSpec.ofChange sessionPlaysWrong)

/-- 'lodestarlaw18.SessionRoom': WHATEVER THE INPUT: true; the input reads as it did. -/
def sessionRoomSpec : ChangeSpec := { name := "sessionRoom", fn := fun _ => fun
  | [d1, d2] => { results := [.lit (.bool true)], args := [d1, d2] }
  | _ => none }
def sessionRoomRow : OpenClaim := { program := "ytpdcllhmbjnooaa", sum := "28f7c5464769a0671196004025f70f52ce846e107f092b88148ba001735ff6ec", func := "lodestar/lodestarlaw18.SessionRoom", spec := "sessionRoom", inPlace := ["sync/atomic.StoreUint32", "sync/atomic.LoadUint32", "sync/atomic.CompareAndSwapUint32"], unfollowed := true, recurses := true, apart := false }
def SessionRoomSaid : Prop := sessionRoomRow.holds Try.pinned (OpenSpec.ofChange sessionRoomSpec)

/-- ITS FALSE NEIGHBOUR: 'it returns false'. Refute it at one input. -/
def sessionRoomWrong : ChangeSpec := { name := "sessionRoom", fn := fun _ => fun
  | [d1, d2] => { results := [.lit (.bool false)], args := [d1, d2] }
  | _ => none }
def SessionRoomWrongFalsely : Prop := sessionRoomRow.holds Try.pinned (OpenSpec.ofChange sessionRoomWrong)

/- THE SECOND FORM. 'bulk': how many values and letters a reading holds, each counted each time it is reached (what is shared counts as often as it is met; a slice's spare places count too). A statement '..UptoSaid' is the law's where the arguments, and the package variables that the reading takes, are together of bulk at most 1048576: NARROWER than '..Said'. Prove '..Said' where nothing that the law and all that it calls make is longer than what came in: it says more and counts as full. Else prove '..UptoSaid'. A law counts once. -/
mutual
def uptoBulk {H : Type} : DataW H → Nat
  | .lit (.string bytes) => bytes.length + 1
  | .lit _ => 1
  | .nil => 1
  | .ptr d => uptoBulk d + 1
  | .slice elems spare => uptoBulkAll elems + uptoBulkAll spare + 1
  | .agg parts => uptoBulkAll parts + 1
  | .iface _ d => uptoBulk d + 1
  | .map entries => uptoBulkEntries entries + 1
  | .held _ => 1
def uptoBulkAll {H : Type} : List (DataW H) → Nat
  | [] => 0
  | d :: r => uptoBulk d + uptoBulkAll r
def uptoBulkEntries {H : Type} : List (Lit × DataW H) → Nat
  | [] => 0
  | x :: r => uptoBulkEntry x + uptoBulkEntries r
def uptoBulkEntry {H : Type} : Lit × DataW H → Nat
  | (.string bytes, d) => bytes.length + uptoBulk d + 1
  | (_, d) => uptoBulk d + 1
 end
def uptoSmall : (H : Type) → List (DataW H) → Bool := fun _ ds => decide (uptoBulkAll ds ≤ 1048576)
def OpenSpec.upto (s : _root_.Go.ChangeSpec) : _root_.Go.OpenSpec := { _root_.Go.OpenSpec.ofChange s with cond := some uptoSmall }

/-- 'lodestarlaw18.SessionAlone', WHERE WHAT IT READS IS OF BULK AT MOST 1048576: true; the input reads as it did. -/
def sessionAloneUptoRow : OpenClaim := { program := "ytpdcllhmbjnooaa", sum := "28f7c5464769a0671196004025f70f52ce846e107f092b88148ba001735ff6ec", func := "lodestar/lodestarlaw18.SessionAlone", spec := "sessionAlone", inPlace := ["sync/atomic.StoreUint32", "sync/atomic.LoadUint32", "sync/atomic.CompareAndSwapUint32"], apart := false, narrowed := true }
def SessionAloneUptoSaid : Prop := sessionAloneUptoRow.holds Try.pinned (OpenSpec.upto sessionAloneSpec)

/-- 'lodestarlaw03.TagsMore', WHERE WHAT IT READS IS OF BULK AT MOST 1048576: true; the input reads as it did. -/
def tagsMoreUptoRow : OpenClaim := { program := "ytpdcllhmbjnooaa", sum := "28f7c5464769a0671196004025f70f52ce846e107f092b88148ba001735ff6ec", func := "lodestar/lodestarlaw03.TagsMore", spec := "tagsMore", unfollowed := true, recurses := true, apart := false, narrowed := true }
def TagsMoreUptoSaid : Prop := tagsMoreUptoRow.holds Try.pinned (OpenSpec.upto tagsMoreSpec)

/-- 'lodestarlaw18.SessionAway', WHERE WHAT IT READS IS OF BULK AT MOST 1048576: true; the input reads as it did. -/
def sessionAwayUptoRow : OpenClaim := { program := "ytpdcllhmbjnooaa", sum := "28f7c5464769a0671196004025f70f52ce846e107f092b88148ba001735ff6ec", func := "lodestar/lodestarlaw18.SessionAway", spec := "sessionAway", inPlace := ["sync/atomic.StoreUint32", "sync/atomic.LoadUint32", "sync/atomic.CompareAndSwapUint32"], unfollowed := true, recurses := true, apart := false, narrowed := true }
def SessionAwayUptoSaid : Prop := sessionAwayUptoRow.holds Try.pinned (OpenSpec.upto sessionAwaySpec)

/-- 'lodestarlaw18.SessionPlays', WHERE WHAT IT READS IS OF BULK AT MOST 1048576: true; the input reads as it did. -/
def sessionPlaysUptoRow : OpenClaim := { program := "ytpdcllhmbjnooaa", sum := "28f7c5464769a0671196004025f70f52ce846e107f092b88148ba001735ff6ec", func := "lodestar/lodestarlaw18.SessionPlays", spec := "sessionPlays", inPlace := ["sync/atomic.StoreUint32", "sync/atomic.LoadUint32", "sync/atomic.CompareAndSwapUint32"], unfollowed := true, recurses := true, apart := false, narrowed := true }
def SessionPlaysUptoSaid : Prop := sessionPlaysUptoRow.holds Try.pinned (OpenSpec.upto sessionPlaysSpec)

/-- 'lodestarlaw18.SessionRoom', WHERE WHAT IT READS IS OF BULK AT MOST 1048576: true; the input reads as it did. -/
def sessionRoomUptoRow : OpenClaim := { program := "ytpdcllhmbjnooaa", sum := "28f7c5464769a0671196004025f70f52ce846e107f092b88148ba001735ff6ec", func := "lodestar/lodestarlaw18.SessionRoom", spec := "sessionRoom", inPlace := ["sync/atomic.StoreUint32", "sync/atomic.LoadUint32", "sync/atomic.CompareAndSwapUint32"], unfollowed := true, recurses := true, apart := false, narrowed := true }
def SessionRoomUptoSaid : Prop := sessionRoomUptoRow.holds Try.pinned (OpenSpec.upto sessionRoomSpec)

end Rows
end Go.Proofs.Ytpdcllhmbjnooaa
