/- The data of the seat's law, as trees. Conditions: none. -/
import Derived.Test.YtbdkjkedjldheaaKvR
import Derived.Test.YtbdkjkedjldheaaTvT
namespace Go.Proofs.YtbdkjkedjldheaaTv.Ytbdkjkedjldheaa
set_option linter.unusedVariables false
set_option linter.unusedSimpArgs false
open Go Go.Proofs.YtbdkjkedjldheaaTv Go.Proofs
structure Geometry where
  Dies : Int
  Blocks : Int
  Pages : Int
instance : Enc Geometry where
  dflt := { Dies := 0, Blocks := 0, Pages := 0 }
  sz := 3
  dep := 1
  enc := fun fr x => [TV.int .i64 x.Dies, TV.int .i64 x.Blocks, TV.int .i64 x.Pages]
  small := fun M x => True
  len := fun _ _ => rfl
  frz := fun L H d fr x h => by simp only [List.map_cons, List.map_nil, int_frz (d := d) (L := L) (H := H) (by omega), bool_frz (d := d) (L := L) (H := H) (by omega), str_frz (d := d) (L := L) (H := H) (by omega)]
  ret := fun H d x h => by simp only [List.map_cons, List.map_nil, int_ret (d := d) (H := H) (by omega), bool_ret (d := d) (H := H) (by omega), str_ret (d := d) (H := H) (by omega)]
instance : Arg Geometry := ofAgg (by decide)
instance : Arg (List Geometry) := ofLst (by decide)
structure Block where
  Erases : Int
  Next : Int
  Bad : Bool
  Pages : List ByteArray
instance : Enc Block where
  dflt := { Erases := 0, Next := 0, Bad := false, Pages := [] }
  sz := 4
  dep := 2
  enc := fun fr x => [TV.int .i64 x.Erases, TV.int .i64 x.Next, TV.bool x.Bad, lstT fr x.Pages]
  small := fun M x => smallL M x.Pages
  len := fun _ _ => rfl
  frz := fun L H d fr x h => by simp only [List.map_cons, List.map_nil, int_frz (d := d) (L := L) (H := H) (by omega), bool_frz (d := d) (L := L) (H := H) (by omega), str_frz (d := d) (L := L) (H := H) (by omega), (fun l : List ByteArray => lst_frz L H d fr l (Nat.le_trans (by decide) h))]
  ret := fun H d x h => by simp only [List.map_cons, List.map_nil, int_ret (d := d) (H := H) (by omega), bool_ret (d := d) (H := H) (by omega), str_ret (d := d) (H := H) (by omega), (fun l : List ByteArray => lst_ret H d l (Nat.le_trans (by decide) h))]
instance : Arg Block := ofAgg (by decide)
instance : Arg (List Block) := ofLst (by decide)
structure Flash where
  Geo : Geometry
  Blocks : List Block
  Fuse : Int
  Keep : Int
  Off : Bool
  Ops : Int
instance : Enc Flash where
  dflt := { Geo := (Enc.dflt : Geometry), Blocks := [], Fuse := 0, Keep := 0, Off := false, Ops := 0 }
  sz := 8
  dep := 3
  enc := fun fr x => [TV.int .i64 x.Geo.Dies, TV.int .i64 x.Geo.Blocks, TV.int .i64 x.Geo.Pages, lstT fr x.Blocks, TV.int .i64 x.Fuse, TV.int .i64 x.Keep, TV.bool x.Off, TV.int .i64 x.Ops]
  small := fun M x => smallL M x.Blocks
  len := fun _ _ => rfl
  frz := fun L H d fr x h => by simp only [List.map_cons, List.map_nil, int_frz (d := d) (L := L) (H := H) (by omega), bool_frz (d := d) (L := L) (H := H) (by omega), str_frz (d := d) (L := L) (H := H) (by omega), (fun l : List Block => lst_frz L H d fr l (Nat.le_trans (by decide) h))]
  ret := fun H d x h => by simp only [List.map_cons, List.map_nil, int_ret (d := d) (H := H) (by omega), bool_ret (d := d) (H := H) (by omega), str_ret (d := d) (H := H) (by omega), (fun l : List Block => lst_ret H d l (Nat.le_trans (by decide) h))]
instance : Arg Flash := ofAgg (by decide)
instance : Arg (List Flash) := ofLst (by decide)
structure Zone where
  State : Int
  Blocks : List Int
  Written : Int
  Synced : Int
  Rows : List Int
  Buffer : List ByteArray
instance : Enc Zone where
  dflt := { State := 0, Blocks := [], Written := 0, Synced := 0, Rows := [], Buffer := [] }
  sz := 6
  dep := 2
  enc := fun fr x => [TV.int .i64 x.State, lstT fr x.Blocks, TV.int .i64 x.Written, TV.int .i64 x.Synced, lstT fr x.Rows, lstT fr x.Buffer]
  small := fun M x => smallL M x.Blocks ∧ smallL M x.Rows ∧ smallL M x.Buffer
  len := fun _ _ => rfl
  frz := fun L H d fr x h => by simp only [List.map_cons, List.map_nil, int_frz (d := d) (L := L) (H := H) (by omega), bool_frz (d := d) (L := L) (H := H) (by omega), str_frz (d := d) (L := L) (H := H) (by omega), (fun l : List ByteArray => lst_frz L H d fr l (Nat.le_trans (by decide) h)), (fun l : List Int => lst_frz L H d fr l (Nat.le_trans (by decide) h))]
  ret := fun H d x h => by simp only [List.map_cons, List.map_nil, int_ret (d := d) (H := H) (by omega), bool_ret (d := d) (H := H) (by omega), str_ret (d := d) (H := H) (by omega), (fun l : List ByteArray => lst_ret H d l (Nat.le_trans (by decide) h)), (fun l : List Int => lst_ret H d l (Nat.le_trans (by decide) h))]
instance : Arg Zone := ofAgg (by decide)
instance : Arg (List Zone) := ofLst (by decide)
structure Device where
  Flash : Flash
  Zones : List Zone
instance : Enc Device where
  dflt := { Flash := (Enc.dflt : Flash), Zones := [] }
  sz := 9
  dep := 3
  enc := fun fr x => [TV.int .i64 x.Flash.Geo.Dies, TV.int .i64 x.Flash.Geo.Blocks, TV.int .i64 x.Flash.Geo.Pages, lstT fr x.Flash.Blocks, TV.int .i64 x.Flash.Fuse, TV.int .i64 x.Flash.Keep, TV.bool x.Flash.Off, TV.int .i64 x.Flash.Ops, lstT fr x.Zones]
  small := fun M x => Enc.small M x.Flash ∧ smallL M x.Zones
  len := fun _ _ => rfl
  frz := fun L H d fr x h => by simp only [List.map_cons, List.map_nil, int_frz (d := d) (L := L) (H := H) (by omega), bool_frz (d := d) (L := L) (H := H) (by omega), str_frz (d := d) (L := L) (H := H) (by omega), (fun l : List Block => lst_frz L H d fr l (Nat.le_trans (by decide) h)), (fun l : List Zone => lst_frz L H d fr l (Nat.le_trans (by decide) h))]
  ret := fun H d x h => by simp only [List.map_cons, List.map_nil, int_ret (d := d) (H := H) (by omega), bool_ret (d := d) (H := H) (by omega), str_ret (d := d) (H := H) (by omega), (fun l : List Block => lst_ret H d l (Nat.le_trans (by decide) h)), (fun l : List Zone => lst_ret H d l (Nat.le_trans (by decide) h))]
instance : Arg Device := ofAgg (by decide)
instance : Arg (List Device) := ofLst (by decide)
structure TableRef where
  Id : Int
  Level : Int
  Zone : Int
  Page : Int
  Pages : Int
  Low : ByteArray
  High : ByteArray
  First : Int
  Last : Int
  Records : Int
instance : Enc TableRef where
  dflt := { Id := 0, Level := 0, Zone := 0, Page := 0, Pages := 0, Low := ByteArray.empty, High := ByteArray.empty, First := 0, Last := 0, Records := 0 }
  sz := 10
  dep := 1
  enc := fun fr x => [TV.int .i64 x.Id, TV.int .i64 x.Level, TV.int .i64 x.Zone, TV.int .i64 x.Page, TV.int .i64 x.Pages, TV.str x.Low, TV.str x.High, TV.int .i64 x.First, TV.int .i64 x.Last, TV.int .i64 x.Records]
  small := fun M x => x.Low.size ≤ M ∧ x.High.size ≤ M
  len := fun _ _ => rfl
  frz := fun L H d fr x h => by simp only [List.map_cons, List.map_nil, int_frz (d := d) (L := L) (H := H) (by omega), bool_frz (d := d) (L := L) (H := H) (by omega), str_frz (d := d) (L := L) (H := H) (by omega)]
  ret := fun H d x h => by simp only [List.map_cons, List.map_nil, int_ret (d := d) (H := H) (by omega), bool_ret (d := d) (H := H) (by omega), str_ret (d := d) (H := H) (by omega)]
instance : Arg TableRef := ofAgg (by decide)
instance : Arg (List TableRef) := ofLst (by decide)
structure Version where
  NextId : Int
  LogZone : Int
  LogSeq : Int
  Tables : List TableRef
instance : Enc Version where
  dflt := { NextId := 0, LogZone := 0, LogSeq := 0, Tables := [] }
  sz := 4
  dep := 2
  enc := fun fr x => [TV.int .i64 x.NextId, TV.int .i64 x.LogZone, TV.int .i64 x.LogSeq, lstT fr x.Tables]
  small := fun M x => smallL M x.Tables
  len := fun _ _ => rfl
  frz := fun L H d fr x h => by simp only [List.map_cons, List.map_nil, int_frz (d := d) (L := L) (H := H) (by omega), bool_frz (d := d) (L := L) (H := H) (by omega), str_frz (d := d) (L := L) (H := H) (by omega), (fun l : List TableRef => lst_frz L H d fr l (Nat.le_trans (by decide) h))]
  ret := fun H d x h => by simp only [List.map_cons, List.map_nil, int_ret (d := d) (H := H) (by omega), bool_ret (d := d) (H := H) (by omega), str_ret (d := d) (H := H) (by omega), (fun l : List TableRef => lst_ret H d l (Nat.le_trans (by decide) h))]
instance : Arg Version := ofAgg (by decide)
instance : Arg (List Version) := ofLst (by decide)
structure Record where
  Key : ByteArray
  Seq : Int
  Kind : Int
  Value : ByteArray
  End : ByteArray
instance : Enc Record where
  dflt := { Key := ByteArray.empty, Seq := 0, Kind := 0, Value := ByteArray.empty, End := ByteArray.empty }
  sz := 5
  dep := 1
  enc := fun fr x => [TV.str x.Key, TV.int .i64 x.Seq, TV.int .i64 x.Kind, TV.str x.Value, TV.str x.End]
  small := fun M x => x.Key.size ≤ M ∧ x.Value.size ≤ M ∧ x.End.size ≤ M
  len := fun _ _ => rfl
  frz := fun L H d fr x h => by simp only [List.map_cons, List.map_nil, int_frz (d := d) (L := L) (H := H) (by omega), bool_frz (d := d) (L := L) (H := H) (by omega), str_frz (d := d) (L := L) (H := H) (by omega)]
  ret := fun H d x h => by simp only [List.map_cons, List.map_nil, int_ret (d := d) (H := H) (by omega), bool_ret (d := d) (H := H) (by omega), str_ret (d := d) (H := H) (by omega)]
instance : Arg Record := ofAgg (by decide)
instance : Arg (List Record) := ofLst (by decide)
structure DB where
  Device : Device
  Version : Version
  Gen : Int
  Active : Int
  Mem : List Record
  Seq : Int
  Synced : Int
  Snapshots : List Int
instance : Enc DB where
  dflt := { Device := (Enc.dflt : Device), Version := (Enc.dflt : Version), Gen := 0, Active := 0, Mem := [], Seq := 0, Synced := 0, Snapshots := [] }
  sz := 19
  dep := 3
  enc := fun fr x => [TV.int .i64 x.Device.Flash.Geo.Dies, TV.int .i64 x.Device.Flash.Geo.Blocks, TV.int .i64 x.Device.Flash.Geo.Pages, lstT fr x.Device.Flash.Blocks, TV.int .i64 x.Device.Flash.Fuse, TV.int .i64 x.Device.Flash.Keep, TV.bool x.Device.Flash.Off, TV.int .i64 x.Device.Flash.Ops, lstT fr x.Device.Zones, TV.int .i64 x.Version.NextId, TV.int .i64 x.Version.LogZone, TV.int .i64 x.Version.LogSeq, lstT fr x.Version.Tables, TV.int .i64 x.Gen, TV.int .i64 x.Active, lstT fr x.Mem, TV.int .i64 x.Seq, TV.int .i64 x.Synced, lstT fr x.Snapshots]
  small := fun M x => Enc.small M x.Device ∧ Enc.small M x.Version ∧ smallL M x.Mem ∧ smallL M x.Snapshots
  len := fun _ _ => rfl
  frz := fun L H d fr x h => by simp only [List.map_cons, List.map_nil, int_frz (d := d) (L := L) (H := H) (by omega), bool_frz (d := d) (L := L) (H := H) (by omega), str_frz (d := d) (L := L) (H := H) (by omega), (fun l : List Block => lst_frz L H d fr l (Nat.le_trans (by decide) h)), (fun l : List Int => lst_frz L H d fr l (Nat.le_trans (by decide) h)), (fun l : List Record => lst_frz L H d fr l (Nat.le_trans (by decide) h)), (fun l : List TableRef => lst_frz L H d fr l (Nat.le_trans (by decide) h)), (fun l : List Zone => lst_frz L H d fr l (Nat.le_trans (by decide) h))]
  ret := fun H d x h => by simp only [List.map_cons, List.map_nil, int_ret (d := d) (H := H) (by omega), bool_ret (d := d) (H := H) (by omega), str_ret (d := d) (H := H) (by omega), (fun l : List Block => lst_ret H d l (Nat.le_trans (by decide) h)), (fun l : List Int => lst_ret H d l (Nat.le_trans (by decide) h)), (fun l : List Record => lst_ret H d l (Nat.le_trans (by decide) h)), (fun l : List TableRef => lst_ret H d l (Nat.le_trans (by decide) h)), (fun l : List Zone => lst_ret H d l (Nat.le_trans (by decide) h))]
instance : Arg DB := ofAgg (by decide)
instance : Arg (List DB) := ofLst (by decide)
def deadT : List ((FuncId × Nat) × Nat) := [((11, 5), 134217676), ((13, 4), 9671406556917033397649347), ((14, 4), 4503599627370435), ((15, 4), 67108812), ((16, 4), 67108812), ((19, 3), 8388578), ((20, 3), 4194274), ((23, 4), 67096556), ((24, 4), 67096556), ((27, 4), 134217676), ((28, 4), 67108812), ((30, 5), 134217676), ((31, 5), 134217676), ((33, 4), 147573952589676412867), ((34, 4), 67108812), ((35, 4), 67108812), ((37, 3), 8388578), ((38, 3), 8388578), ((41, 4), 4294737849), ((43, 4), 67096556), ((45, 4), 134217676), ((46, 4), 134217676), ((48, 5), 134217676), ((51, 4), 4503599627370435), ((53, 3), 8388578), ((56, 4), 4294737849), ((58, 4), 67096556), ((60, 4), 134217676), ((64, 5), 268435404), ((66, 3), 4194274), ((68, 4), 67108812)]
def dead0 : List ((FuncId × Nat) × Nat) → FuncId → Nat → Nat
  | [], _, _ => 0
  | (x, m) :: l, f, i => match Nat.beq x.1 f && Nat.beq x.2 i with | true => m | false => dead0 l f i
noncomputable def E : Env := { fn := fnOf Try.prog, ti := tlook tis, mode := fun _ _ => false, prim := fun _ => none, esc := fun _ _ => false, dead := dead0 deadT }
theorem env_ok : EnvOk Try.prog E := envOk rfl rfl tis_ok mixed
theorem prim_ok : PrimOk Try.prog E := fun g p h => by cases h
end Go.Proofs.YtbdkjkedjldheaaTv.Ytbdkjkedjldheaa
