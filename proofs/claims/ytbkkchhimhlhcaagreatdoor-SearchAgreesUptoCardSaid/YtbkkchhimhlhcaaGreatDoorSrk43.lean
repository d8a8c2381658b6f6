/- Part 43 of the proof that identitylaw12.SearchChecks returns true for every data that it may be called with: proof: the package variables hold what the program lays; nothing else is asked. -/
import Derived.Test.YtbkkchhimhlhcaaGreatDoorSrk42
import Derived.Great.CaseRows
set_option linter.unusedVariables false
set_option linter.unusedSimpArgs false
set_option maxRecDepth 100000
set_option maxHeartbeats 16000000
/- SchemaChecks: a witness, the statement, the card. -/
namespace Go.Proofs.YtbkkchhimhlhcaaGreatDoor
open Go.RowKit Go.Sort Go.Shelf Go.ChangeShapes Go.WideShapes Go.ChangeAt
def aggCells:DataW Unit→Array Value
 |.agg l=>(l.map fun x=>match x with|.lit (.int k z)=>Value.int k z|_=>undef).toArray
 |_=>#[]
noncomputable def N0:Nat:=(World.settled Tryz.prog default).heap.size
noncomputable def laidWorld (os:Os):World:=
 let N:=(World.settled Tryz.prog os).heap.size
 let w0:=World.holding Tryz.prog os ⟨#[.cells #[.string ⟨#[118,97,108,117,101,32,111,117,116,32,111,102,32,114,97,110,103,101]⟩] 344,.cells #[.string ⟨#[105,110,118,97,108,105,100,32,115,121,110,116,97,120]⟩] 344,
  .cells Lib.caseCells5 (Tryz.lays203_ren.t 208)],#[],[]⟩
 let put (h:Array Obj) (g:Nat) (cs:Array Value):Array Obj:=h.modify g fun
  |.cells _ t frozen=>.cells cs t frozen
  |o=>o
 let h1:=put w0.heap 7 (aggCells Rows.laid_math_bits_deBruijn32tab)
 let h2:=put h1 8 (aggCells Rows.laid_math_bits_deBruijn64tab)
 let h3:=put h2 6 (Lib.pow10Tab.map fun z=>Value.int .u64 z).toArray
 let h4:=put h3 5 ((List.range 16).flatMap fun i=>[Value.int .u8 (Lib.accLo i),Value.int .u8 (Lib.accHi i)]).toArray
 let h5:=put h4 4 (Lib.firstTab.map fun z=>Value.int .u8 z).toArray
 let h6:=put h5 2 #[.iface 342 (.pointer (some ⟨N,0,none⟩))]
 let h7:=put h6 1 #[.iface 342 (.pointer (some ⟨N+1,0,none⟩))]
 let h8:=put h7 3 #[.slice (some ⟨N+2,0,none⟩) Lib.caseT.length Lib.caseT.length]
 { w0 with heap:=h8 }
theorem cty:Go.Great.CTypes Tryz.prog (Tryz.lays203_ren.t 162) (Tryz.lays203_ren.t 208) (Tryz.lays203_ren.t 206) (Tryz.lays203_ren.t 51) (Tryz.lays203_ren.t 21):=⟨by kernel_rfl,by kernel_rfl,by kernel_rfl,by kernel_rfl,by kernel_rfl,by kernel_rfl,by kernel_rfl,by kernel_rfl,by kernel_rfl⟩
theorem piece0 (os:Os) (args:Array Value):LaidIn Tryz.prog ((laidWorld os).forCall (fun _ _=>0) ⟨#[],args,[]⟩).memory (laidL.take 6) [7,8,6,5,2,1,N0,N0+1]:=
 LaidIn.of_run _ 8 (by kernel_rfl) (by kernel_rfl) (by kernel_rfl) (by kernel_rfl)
theorem piece2 (os : Os) (args : Array Value) : LaidIn Tryz.prog ((laidWorld os).forCall (fun _ _ => 0) ⟨#[], args, []⟩).memory [("unicode/utf8.first", Lib.firstData)] [4] :=
 LaidIn.of_run _ 8 (by kernel_rfl) (by kernel_rfl) (by kernel_rfl) (by kernel_rfl)
theorem piece1 (os : Os) (args : Array Value) : LaidIn Tryz.prog ((laidWorld os).forCall (fun _ _ => 0) ⟨#[], args, []⟩).memory [("unicode.CaseRanges", Lib.caseData)] [3, N0 + 2] :=
 Go.Great.laidIn_case cty (name := "unicode.CaseRanges") (g := 3) (B := N0 + 2) (tg := Tryz.lays203_ren.t 162) (tb := Tryz.lays203_ren.t 208) Lib.caseT (by kernel_rfl) (by kernel_rfl) (Nat.le_of_ble_eq_true (by kernel_rfl)) Lib.rowsWf (by kernel_rfl) (by kernel_rfl) (Nat.ne_of_beq_eq_false (by kernel_rfl))
theorem laid_metW (os:Os) (args:Array Value):laidMet Tryz.prog laidL ((laidWorld os).forCall (fun _ _=>0) ⟨#[],args,[]⟩).memory:=
 (((piece0 os args).append (piece1 os args) (by kernel_rfl)).append (piece2 os args) (by kernel_rfl)).met
end Go.Proofs.YtbkkchhimhlhcaaGreatDoor
