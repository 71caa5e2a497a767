/-
  No cell of these rows narrows 'for every input' (looked for: loops, veiled, ifaces, maps, wideKeys, modest, calm, conditions, laid).
  DERIVED. THE GIVEN ROWS OF THIS SEAT. 12 by the template 'for every input the law returns true; each argument reads behind the call as it read before'; 0 by the template 'total and deterministic' (their statements: YtokonpkecmnneaaTotals.lean).
  GIVEN WITH THE SEED: the statements are not yours to turn. If you find one false, say at which input.
  Laid BY PROGRAM, IN A SANDBOX (cutbox-rows.mjs): the forced cells as the released guide's own fill.sh prints them over the translation 7bd9e3832dc0e00c… (all of the seat's roots in one cut). By AI agents, Wed Nov 11 2026. No macro, syntax, notation, axiom, sorry.
-/
import Derived.Test.YtokonpkecmnneaaChecked
import GoSem.Claim
import GoSem.ClaimJoined
import GoSem.ClaimMapViews
import Derived.JoinedTies
import Derived.KernelRfl
namespace Go.Proofs.Ytokonpkecmnneaa
/- THE CELL 'sum', in the pinned program and in every row, IS THE sha256 OF THE DUMP (.gsa) THAT YtokonpkecmnneaaProg.lean LOADS. Nothing in Lean hashes anything: it is a label: what it is worth is what the hold of that sum in a sandbox is worth. -/
noncomputable def Try.pinned : Pinned := { name := "ytokonpkecmnneaa", sum := "7bd9e3832dc0e00c0ca2e0edc346729077cea03229950e16bf8fbc113f0f1d1f", checked := Try.checked }
namespace Rows
def none {H : Type} : Left H := { results := [], args := [] }

/-- 'laws.FnExactDropHidden': WHATEVER THE INPUT: true; the input reads as it did. -/
def fnExactDropHiddenSpec : ChangeSpec := { name := "fnExactDropHidden", fn := fun _ => fun
  | [d1, d2, d3] => { results := [.lit (.bool true)], args := [d1, d2, d3] }
  | _ => none }
def fnExactDropHiddenRow : OpenClaim := { program := "ytokonpkecmnneaa", sum := "7bd9e3832dc0e00c0ca2e0edc346729077cea03229950e16bf8fbc113f0f1d1f", func := "loop.example/g00905/laws.FnExactDropHidden", spec := "fnExactDropHidden", inPlace := ["internal/bytealg.abigen_runtime_cmpstring"], unfollowed := true, recurses := true, apart := false }
def FnExactDropHiddenSaid : Prop := fnExactDropHiddenRow.holds Try.pinned (OpenSpec.ofChange fnExactDropHiddenSpec)

/-- ITS FALSE NEIGHBOUR: 'it returns false'. Refute it at one input. -/
def fnExactDropHiddenWrong : ChangeSpec := { name := "fnExactDropHidden", fn := fun _ => fun
  | [d1, d2, d3] => { results := [.lit (.bool false)], args := [d1, d2, d3] }
  | _ => none }
def FnExactDropHiddenWrongFalsely : Prop := fnExactDropHiddenRow.holds Try.pinned (OpenSpec.ofChange fnExactDropHiddenWrong)

/-- 'laws.FnExactReadRaw': WHATEVER THE INPUT: true; the input reads as it did. -/
def fnExactReadRawSpec : ChangeSpec := { name := "fnExactReadRaw", fn := fun _ => fun
  | [d1, d2, d3] => { results := [.lit (.bool true)], args := [d1, d2, d3] }
  | _ => none }
def fnExactReadRawRow : OpenClaim := { program := "ytokonpkecmnneaa", sum := "7bd9e3832dc0e00c0ca2e0edc346729077cea03229950e16bf8fbc113f0f1d1f", func := "loop.example/g00905/laws.FnExactReadRaw", spec := "fnExactReadRaw", inPlace := ["internal/abi.NoEscape", "internal/bytealg.MakeNoZero"], unfollowed := true, recurses := true, apart := false }
def FnExactReadRawSaid : Prop := fnExactReadRawRow.holds Try.pinned (OpenSpec.ofChange fnExactReadRawSpec)

/-- ITS FALSE NEIGHBOUR: 'it returns false'. Refute it at one input. -/
def fnExactReadRawWrong : ChangeSpec := { name := "fnExactReadRaw", fn := fun _ => fun
  | [d1, d2, d3] => { results := [.lit (.bool false)], args := [d1, d2, d3] }
  | _ => none }
def FnExactReadRawWrongFalsely : Prop := fnExactReadRawRow.holds Try.pinned (OpenSpec.ofChange fnExactReadRawWrong)

/-- 'laws.FnExactEraseBlock': WHATEVER THE INPUT: true; the input reads as it did. -/
def fnExactEraseBlockSpec : ChangeSpec := { name := "fnExactEraseBlock", fn := fun _ => fun
  | [d1, d2] => { results := [.lit (.bool true)], args := [d1, d2] }
  | _ => none }
def fnExactEraseBlockRow : OpenClaim := { program := "ytokonpkecmnneaa", sum := "7bd9e3832dc0e00c0ca2e0edc346729077cea03229950e16bf8fbc113f0f1d1f", func := "loop.example/g00905/laws.FnExactEraseBlock", spec := "fnExactEraseBlock", unfollowed := true, recurses := true, apart := false }
def FnExactEraseBlockSaid : Prop := fnExactEraseBlockRow.holds Try.pinned (OpenSpec.ofChange fnExactEraseBlockSpec)

/-- ITS FALSE NEIGHBOUR: 'it returns false'. Refute it at one input. -/
def fnExactEraseBlockWrong : ChangeSpec := { name := "fnExactEraseBlock", fn := fun _ => fun
  | [d1, d2] => { results := [.lit (.bool false)], args := [d1, d2] }
  | _ => none }
def FnExactEraseBlockWrongFalsely : Prop := fnExactEraseBlockRow.holds Try.pinned (OpenSpec.ofChange fnExactEraseBlockWrong)

/-- 'laws.FnExactRecoverMap': WHATEVER THE INPUT: true; the input reads as it did. -/
def fnExactRecoverMapSpec : ChangeSpec := { name := "fnExactRecoverMap", fn := fun _ => fun
  | [d1, d2, d3, d4] => { results := [.lit (.bool true)], args := [d1, d2, d3, d4] }
  | _ => none }
def fnExactRecoverMapRow : OpenClaim := { program := "ytokonpkecmnneaa", sum := "7bd9e3832dc0e00c0ca2e0edc346729077cea03229950e16bf8fbc113f0f1d1f", func := "loop.example/g00905/laws.FnExactRecoverMap", spec := "fnExactRecoverMap", unfollowed := true, recurses := true, apart := false }
def FnExactRecoverMapSaid : Prop := fnExactRecoverMapRow.holds Try.pinned (OpenSpec.ofChange fnExactRecoverMapSpec)

/-- ITS FALSE NEIGHBOUR: 'it returns false'. Refute it at one input. -/
def fnExactRecoverMapWrong : ChangeSpec := { name := "fnExactRecoverMap", fn := fun _ => fun
  | [d1, d2, d3, d4] => { results := [.lit (.bool false)], args := [d1, d2, d3, d4] }
  | _ => none }
def FnExactRecoverMapWrongFalsely : Prop := fnExactRecoverMapRow.holds Try.pinned (OpenSpec.ofChange fnExactRecoverMapWrong)

/-- 'laws.FnExactLevelWear': WHATEVER THE INPUT: true; the input reads as it did. -/
def fnExactLevelWearSpec : ChangeSpec := { name := "fnExactLevelWear", fn := fun _ => fun
  | [d] => { results := [.lit (.bool true)], args := [d] }
  | _ => none }
def fnExactLevelWearRow : OpenClaim := { program := "ytokonpkecmnneaa", sum := "7bd9e3832dc0e00c0ca2e0edc346729077cea03229950e16bf8fbc113f0f1d1f", func := "loop.example/g00905/laws.FnExactLevelWear", spec := "fnExactLevelWear", unfollowed := true, recurses := true, apart := false }
def FnExactLevelWearSaid : Prop := fnExactLevelWearRow.holds Try.pinned (OpenSpec.ofChange fnExactLevelWearSpec)

/-- ITS FALSE NEIGHBOUR: 'it returns false'. Refute it at one input. -/
def fnExactLevelWearWrong : ChangeSpec := { name := "fnExactLevelWear", fn := fun _ => fun
  | [d] => { results := [.lit (.bool false)], args := [d] }
  | _ => none }
def FnExactLevelWearWrongFalsely : Prop := fnExactLevelWearRow.holds Try.pinned (OpenSpec.ofChange fnExactLevelWearWrong)

/-- 'laws.FnExactInsertMem': WHATEVER THE INPUT: true; the input reads as it did. -/
def fnExactInsertMemSpec : ChangeSpec := { name := "fnExactInsertMem", fn := fun _ => fun
  | [d1, d2] => { results := [.lit (.bool true)], args := [d1, d2] }
  | _ => none }
def fnExactInsertMemRow : OpenClaim := { program := "ytokonpkecmnneaa", sum := "7bd9e3832dc0e00c0ca2e0edc346729077cea03229950e16bf8fbc113f0f1d1f", func := "loop.example/g00905/laws.FnExactInsertMem", spec := "fnExactInsertMem", inPlace := ["internal/bytealg.abigen_runtime_cmpstring", "slices.overlaps[loop.example/g00905/impl.Record]"], unfollowed := true, recurses := true, apart := false }
def FnExactInsertMemSaid : Prop := fnExactInsertMemRow.holds Try.pinned (OpenSpec.ofChange fnExactInsertMemSpec)

/-- ITS FALSE NEIGHBOUR: 'it returns false'. Refute it at one input. -/
def fnExactInsertMemWrong : ChangeSpec := { name := "fnExactInsertMem", fn := fun _ => fun
  | [d1, d2] => { results := [.lit (.bool false)], args := [d1, d2] }
  | _ => none }
def FnExactInsertMemWrongFalsely : Prop := fnExactInsertMemRow.holds Try.pinned (OpenSpec.ofChange fnExactInsertMemWrong)

/-- 'laws.FnBadBlocks': WHATEVER THE INPUT: true; the input reads as it did. -/
def fnBadBlocksSpec : ChangeSpec := { name := "fnBadBlocks", fn := fun _ => fun
  | [d] => { results := [.lit (.bool true)], args := [d] }
  | _ => none }
def fnBadBlocksRow : OpenClaim := { program := "ytokonpkecmnneaa", sum := "7bd9e3832dc0e00c0ca2e0edc346729077cea03229950e16bf8fbc113f0f1d1f", func := "loop.example/g00905/laws.FnBadBlocks", spec := "fnBadBlocks", inPlace := ["slices.overlaps[int64]"], unfollowed := true, recurses := true, apart := false }
def FnBadBlocksSaid : Prop := fnBadBlocksRow.holds Try.pinned (OpenSpec.ofChange fnBadBlocksSpec)

/-- ITS FALSE NEIGHBOUR: 'it returns false'. Refute it at one input. -/
def fnBadBlocksWrong : ChangeSpec := { name := "fnBadBlocks", fn := fun _ => fun
  | [d] => { results := [.lit (.bool false)], args := [d] }
  | _ => none }
def FnBadBlocksWrongFalsely : Prop := fnBadBlocksRow.holds Try.pinned (OpenSpec.ofChange fnBadBlocksWrong)

/-- 'laws.FnExactRecoverFrom': WHATEVER THE INPUT: true; the input reads as it did. -/
def fnExactRecoverFromSpec : ChangeSpec := { name := "fnExactRecoverFrom", fn := fun _ => fun
  | [d1, d2] => { results := [.lit (.bool true)], args := [d1, d2] }
  | _ => none }
def fnExactRecoverFromRow : OpenClaim := { program := "ytokonpkecmnneaa", sum := "7bd9e3832dc0e00c0ca2e0edc346729077cea03229950e16bf8fbc113f0f1d1f", func := "loop.example/g00905/laws.FnExactRecoverFrom", spec := "fnExactRecoverFrom", unfollowed := true, recurses := true, apart := false }
def FnExactRecoverFromSaid : Prop := fnExactRecoverFromRow.holds Try.pinned (OpenSpec.ofChange fnExactRecoverFromSpec)

/-- ITS FALSE NEIGHBOUR: 'it returns false'. Refute it at one input. -/
def fnExactRecoverFromWrong : ChangeSpec := { name := "fnExactRecoverFrom", fn := fun _ => fun
  | [d1, d2] => { results := [.lit (.bool false)], args := [d1, d2] }
  | _ => none }
def FnExactRecoverFromWrongFalsely : Prop := fnExactRecoverFromRow.holds Try.pinned (OpenSpec.ofChange fnExactRecoverFromWrong)

/-- 'laws.FnExactRetireBlock': WHATEVER THE INPUT: true; the input reads as it did. -/
def fnExactRetireBlockSpec : ChangeSpec := { name := "fnExactRetireBlock", fn := fun _ => fun
  | [d1, d2] => { results := [.lit (.bool true)], args := [d1, d2] }
  | _ => none }
def fnExactRetireBlockRow : OpenClaim := { program := "ytokonpkecmnneaa", sum := "7bd9e3832dc0e00c0ca2e0edc346729077cea03229950e16bf8fbc113f0f1d1f", func := "loop.example/g00905/laws.FnExactRetireBlock", spec := "fnExactRetireBlock", inPlace := ["slices.overlaps[int64]"], unfollowed := true, recurses := true, apart := false }
def FnExactRetireBlockSaid : Prop := fnExactRetireBlockRow.holds Try.pinned (OpenSpec.ofChange fnExactRetireBlockSpec)

/-- ITS FALSE NEIGHBOUR: 'it returns false'. Refute it at one input. -/
def fnExactRetireBlockWrong : ChangeSpec := { name := "fnExactRetireBlock", fn := fun _ => fun
  | [d1, d2] => { results := [.lit (.bool false)], args := [d1, d2] }
  | _ => none }
def FnExactRetireBlockWrongFalsely : Prop := fnExactRetireBlockRow.holds Try.pinned (OpenSpec.ofChange fnExactRetireBlockWrong)

/-- 'laws.FnExactMarkBadBlocks': WHATEVER THE INPUT: true; the input reads as it did. -/
def fnExactMarkBadBlocksSpec : ChangeSpec := { name := "fnExactMarkBadBlocks", fn := fun _ => fun
  | [d1, d2] => { results := [.lit (.bool true)], args := [d1, d2] }
  | _ => none }
def fnExactMarkBadBlocksRow : OpenClaim := { program := "ytokonpkecmnneaa", sum := "7bd9e3832dc0e00c0ca2e0edc346729077cea03229950e16bf8fbc113f0f1d1f", func := "loop.example/g00905/laws.FnExactMarkBadBlocks", spec := "fnExactMarkBadBlocks", unfollowed := true, recurses := true, apart := false }
def FnExactMarkBadBlocksSaid : Prop := fnExactMarkBadBlocksRow.holds Try.pinned (OpenSpec.ofChange fnExactMarkBadBlocksSpec)

/-- ITS FALSE NEIGHBOUR: 'it returns false'. Refute it at one input. -/
def fnExactMarkBadBlocksWrong : ChangeSpec := { name := "fnExactMarkBadBlocks", fn := fun _ => fun
  | [d1, d2] => { results := [.lit (.bool false)], args := [d1, d2] }
  | _ => none }
def FnExactMarkBadBlocksWrongFalsely : Prop := fnExactMarkBadBlocksRow.holds Try.pinned (OpenSpec.ofChange fnExactMarkBadBlocksWrong)

/-- 'laws.FnExactRoomIn': WHATEVER THE INPUT: true; the input reads as it did. -/
def fnExactRoomInSpec : ChangeSpec := { name := "fnExactRoomIn", fn := fun _ => fun
  | [d1, d2] => { results := [.lit (.bool true)], args := [d1, d2] }
  | _ => none }
def fnExactRoomInRow : OpenClaim := { program := "ytokonpkecmnneaa", sum := "7bd9e3832dc0e00c0ca2e0edc346729077cea03229950e16bf8fbc113f0f1d1f", func := "loop.example/g00905/laws.FnExactRoomIn", spec := "fnExactRoomIn", unfollowed := true, recurses := true, apart := false }
def FnExactRoomInSaid : Prop := fnExactRoomInRow.holds Try.pinned (OpenSpec.ofChange fnExactRoomInSpec)

/-- ITS FALSE NEIGHBOUR: 'it returns false'. Refute it at one input. -/
def fnExactRoomInWrong : ChangeSpec := { name := "fnExactRoomIn", fn := fun _ => fun
  | [d1, d2] => { results := [.lit (.bool false)], args := [d1, d2] }
  | _ => none }
def FnExactRoomInWrongFalsely : Prop := fnExactRoomInRow.holds Try.pinned (OpenSpec.ofChange fnExactRoomInWrong)

/-- 'laws.FnExactWearOfZone': WHATEVER THE INPUT: true; the input reads as it did. -/
def fnExactWearOfZoneSpec : ChangeSpec := { name := "fnExactWearOfZone", fn := fun _ => fun
  | [d1, d2] => { results := [.lit (.bool true)], args := [d1, d2] }
  | _ => none }
def fnExactWearOfZoneRow : OpenClaim := { program := "ytokonpkecmnneaa", sum := "7bd9e3832dc0e00c0ca2e0edc346729077cea03229950e16bf8fbc113f0f1d1f", func := "loop.example/g00905/laws.FnExactWearOfZone", spec := "fnExactWearOfZone", unfollowed := true, recurses := true, apart := false }
def FnExactWearOfZoneSaid : Prop := fnExactWearOfZoneRow.holds Try.pinned (OpenSpec.ofChange fnExactWearOfZoneSpec)

/-- ITS FALSE NEIGHBOUR: 'it returns false'. Refute it at one input. -/
def fnExactWearOfZoneWrong : ChangeSpec := { name := "fnExactWearOfZone", fn := fun _ => fun
  | [d1, d2] => { results := [.lit (.bool false)], args := [d1, d2] }
  | _ => none }
def FnExactWearOfZoneWrongFalsely : Prop := fnExactWearOfZoneRow.holds Try.pinned (OpenSpec.ofChange fnExactWearOfZoneWrong)

/- THE SECOND FORM. 'bulk': how many values and letters a reading holds, each counted each time it is reached (what is shared counts as often as it is met; a slice's spare places count too). A statement '..UptoSaid' is the law's where the arguments, and the package variables that the reading takes, are together of bulk at most 1048576: NARROWER than '..Said'. Prove '..Said' where nothing that the law and all that it calls make is longer than what came in: it says more and counts as full. Else prove '..UptoSaid'. A law counts once. -/
mutual
def uptoBulk {H : Type} : DataW H → Nat
  | .lit (.string bytes) => bytes.length + 1
  | .lit _ => 1
  | .nil => 1
  | .ptr d => uptoBulk d + 1
  | .slice elems spare => uptoBulkAll elems + uptoBulkAll spare + 1
  | .agg parts => uptoBulkAll parts + 1
  | .iface _ d => uptoBulk d + 1
  | .map entries => uptoBulkEntries entries + 1
  | .held _ => 1
def uptoBulkAll {H : Type} : List (DataW H) → Nat
  | [] => 0
  | d :: r => uptoBulk d + uptoBulkAll r
def uptoBulkEntries {H : Type} : List (Lit × DataW H) → Nat
  | [] => 0
  | x :: r => uptoBulkEntry x + uptoBulkEntries r
def uptoBulkEntry {H : Type} : Lit × DataW H → Nat
  | (.string bytes, d) => bytes.length + uptoBulk d + 1
  | (_, d) => uptoBulk d + 1
 end
def uptoSmall : (H : Type) → List (DataW H) → Bool := fun _ ds => decide (uptoBulkAll ds ≤ 1048576)
def OpenSpec.upto (s : _root_.Go.ChangeSpec) : _root_.Go.OpenSpec := { _root_.Go.OpenSpec.ofChange s with cond := some uptoSmall }

/-- 'laws.FnExactDropHidden', WHERE WHAT IT READS IS OF BULK AT MOST 1048576: true; the input reads as it did. -/
def fnExactDropHiddenUptoRow : OpenClaim := { program := "ytokonpkecmnneaa", sum := "7bd9e3832dc0e00c0ca2e0edc346729077cea03229950e16bf8fbc113f0f1d1f", func := "loop.example/g00905/laws.FnExactDropHidden", spec := "fnExactDropHidden", inPlace := ["internal/bytealg.abigen_runtime_cmpstring"], unfollowed := true, recurses := true, apart := false, narrowed := true }
def FnExactDropHiddenUptoSaid : Prop := fnExactDropHiddenUptoRow.holds Try.pinned (OpenSpec.upto fnExactDropHiddenSpec)

/-- 'laws.FnExactReadRaw', WHERE WHAT IT READS IS OF BULK AT MOST 1048576: true; the input reads as it did. -/
def fnExactReadRawUptoRow : OpenClaim := { program := "ytokonpkecmnneaa", sum := "7bd9e3832dc0e00c0ca2e0edc346729077cea03229950e16bf8fbc113f0f1d1f", func := "loop.example/g00905/laws.FnExactReadRaw", spec := "fnExactReadRaw", inPlace := ["internal/abi.NoEscape", "internal/bytealg.MakeNoZero"], unfollowed := true, recurses := true, apart := false, narrowed := true }
def FnExactReadRawUptoSaid : Prop := fnExactReadRawUptoRow.holds Try.pinned (OpenSpec.upto fnExactReadRawSpec)

/-- 'laws.FnExactEraseBlock', WHERE WHAT IT READS IS OF BULK AT MOST 1048576: true; the input reads as it did. -/
def fnExactEraseBlockUptoRow : OpenClaim := { program := "ytokonpkecmnneaa", sum := "7bd9e3832dc0e00c0ca2e0edc346729077cea03229950e16bf8fbc113f0f1d1f", func := "loop.example/g00905/laws.FnExactEraseBlock", spec := "fnExactEraseBlock", unfollowed := true, recurses := true, apart := false, narrowed := true }
def FnExactEraseBlockUptoSaid : Prop := fnExactEraseBlockUptoRow.holds Try.pinned (OpenSpec.upto fnExactEraseBlockSpec)

/-- 'laws.FnExactRecoverMap', WHERE WHAT IT READS IS OF BULK AT MOST 1048576: true; the input reads as it did. -/
def fnExactRecoverMapUptoRow : OpenClaim := { program := "ytokonpkecmnneaa", sum := "7bd9e3832dc0e00c0ca2e0edc346729077cea03229950e16bf8fbc113f0f1d1f", func := "loop.example/g00905/laws.FnExactRecoverMap", spec := "fnExactRecoverMap", unfollowed := true, recurses := true, apart := false, narrowed := true }
def FnExactRecoverMapUptoSaid : Prop := fnExactRecoverMapUptoRow.holds Try.pinned (OpenSpec.upto fnExactRecoverMapSpec)

/-- 'laws.FnExactLevelWear', WHERE WHAT IT READS IS OF BULK AT MOST 1048576: true; the input reads as it did. -/
def fnExactLevelWearUptoRow : OpenClaim := { program := "ytokonpkecmnneaa", sum := "7bd9e3832dc0e00c0ca2e0edc346729077cea03229950e16bf8fbc113f0f1d1f", func := "loop.example/g00905/laws.FnExactLevelWear", spec := "fnExactLevelWear", unfollowed := true, recurses := true, apart := false, narrowed := true }
def FnExactLevelWearUptoSaid : Prop := fnExactLevelWearUptoRow.holds Try.pinned (OpenSpec.upto fnExactLevelWearSpec)

/-- 'laws.FnExactInsertMem', WHERE WHAT IT READS IS OF BULK AT MOST 1048576: true; the input reads as it did. -/
def fnExactInsertMemUptoRow : OpenClaim := { program := "ytokonpkecmnneaa", sum := "7bd9e3832dc0e00c0ca2e0edc346729077cea03229950e16bf8fbc113f0f1d1f", func := "loop.example/g00905/laws.FnExactInsertMem", spec := "fnExactInsertMem", inPlace := ["internal/bytealg.abigen_runtime_cmpstring", "slices.overlaps[loop.example/g00905/impl.Record]"], unfollowed := true, recurses := true, apart := false, narrowed := true }
def FnExactInsertMemUptoSaid : Prop := fnExactInsertMemUptoRow.holds Try.pinned (OpenSpec.upto fnExactInsertMemSpec)

/-- 'laws.FnBadBlocks', WHERE WHAT IT READS IS OF BULK AT MOST 1048576: true; the input reads as it did. -/
def fnBadBlocksUptoRow : OpenClaim := { program := "ytokonpkecmnneaa", sum := "7bd9e3832dc0e00c0ca2e0edc346729077cea03229950e16bf8fbc113f0f1d1f", func := "loop.example/g00905/laws.FnBadBlocks", spec := "fnBadBlocks", inPlace := ["slices.overlaps[int64]"], unfollowed := true, recurses := true, apart := false, narrowed := true }
def FnBadBlocksUptoSaid : Prop := fnBadBlocksUptoRow.holds Try.pinned (OpenSpec.upto fnBadBlocksSpec)

/-- 'laws.FnExactRecoverFrom', WHERE WHAT IT READS IS OF BULK AT MOST 1048576: true; the input reads as it did. -/
def fnExactRecoverFromUptoRow : OpenClaim := { program := "ytokonpkecmnneaa", sum := "7bd9e3832dc0e00c0ca2e0edc346729077cea03229950e16bf8fbc113f0f1d1f", func := "loop.example/g00905/laws.FnExactRecoverFrom", spec := "fnExactRecoverFrom", unfollowed := true, recurses := true, apart := false, narrowed := true }
def FnExactRecoverFromUptoSaid : Prop := fnExactRecoverFromUptoRow.holds Try.pinned (OpenSpec.upto fnExactRecoverFromSpec)

/-- 'laws.FnExactRetireBlock', WHERE WHAT IT READS IS OF BULK AT MOST 1048576: true; the input reads as it did. -/
def fnExactRetireBlockUptoRow : OpenClaim := { program := "ytokonpkecmnneaa", sum := "7bd9e3832dc0e00c0ca2e0edc346729077cea03229950e16bf8fbc113f0f1d1f", func := "loop.example/g00905/laws.FnExactRetireBlock", spec := "fnExactRetireBlock", inPlace := ["slices.overlaps[int64]"], unfollowed := true, recurses := true, apart := false, narrowed := true }
def FnExactRetireBlockUptoSaid : Prop := fnExactRetireBlockUptoRow.holds Try.pinned (OpenSpec.upto fnExactRetireBlockSpec)

/-- 'laws.FnExactMarkBadBlocks', WHERE WHAT IT READS IS OF BULK AT MOST 1048576: true; the input reads as it did. -/
def fnExactMarkBadBlocksUptoRow : OpenClaim := { program := "ytokonpkecmnneaa", sum := "7bd9e3832dc0e00c0ca2e0edc346729077cea03229950e16bf8fbc113f0f1d1f", func := "loop.example/g00905/laws.FnExactMarkBadBlocks", spec := "fnExactMarkBadBlocks", unfollowed := true, recurses := true, apart := false, narrowed := true }
def FnExactMarkBadBlocksUptoSaid : Prop := fnExactMarkBadBlocksUptoRow.holds Try.pinned (OpenSpec.upto fnExactMarkBadBlocksSpec)

/-- 'laws.FnExactRoomIn', WHERE WHAT IT READS IS OF BULK AT MOST 1048576: true; the input reads as it did. -/
def fnExactRoomInUptoRow : OpenClaim := { program := "ytokonpkecmnneaa", sum := "7bd9e3832dc0e00c0ca2e0edc346729077cea03229950e16bf8fbc113f0f1d1f", func := "loop.example/g00905/laws.FnExactRoomIn", spec := "fnExactRoomIn", unfollowed := true, recurses := true, apart := false, narrowed := true }
def FnExactRoomInUptoSaid : Prop := fnExactRoomInUptoRow.holds Try.pinned (OpenSpec.upto fnExactRoomInSpec)

/-- 'laws.FnExactWearOfZone', WHERE WHAT IT READS IS OF BULK AT MOST 1048576: true; the input reads as it did. -/
def fnExactWearOfZoneUptoRow : OpenClaim := { program := "ytokonpkecmnneaa", sum := "7bd9e3832dc0e00c0ca2e0edc346729077cea03229950e16bf8fbc113f0f1d1f", func := "loop.example/g00905/laws.FnExactWearOfZone", spec := "fnExactWearOfZone", unfollowed := true, recurses := true, apart := false, narrowed := true }
def FnExactWearOfZoneUptoSaid : Prop := fnExactWearOfZoneUptoRow.holds Try.pinned (OpenSpec.upto fnExactWearOfZoneSpec)

end Rows
end Go.Proofs.Ytokonpkecmnneaa
